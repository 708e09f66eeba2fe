/- Lemmas that the law of this claim needs (Z2 ZF Ty Z4 Z3 Z6 Z7 ZL Up Z8). No condition. -/
import Derived.Test.YtjpodcmhcenjjaaGreatDoorOpa
import Derived.Deep.LoopGhost
import Derived.Orders
import Derived.Scope
import Derived.KernelRfl
import Derived.Test.YtjpodcmhcenjjaaGreatDoorProg
import Derived.ReadAgain
import Derived.ChangeSame
import Derived.OpenShut
import Derived.RowKit3
import Derived.Lib.ItoaNum
import Derived.Lib.LaidTab
import Derived.WalkSmall
import Derived.Deep.Draws
import Derived.Lib.Join
import Derived.Sort.Grow
import Derived.Shelf.Strings.Builder1
import Derived.Shelf.Strings.Builder2
import Derived.Shelf.Strings.OnBuilder
import Derived.Shelf.Strings.Trim
import Derived.Shelf.Small.Utf8
import Derived.Shelf.Small.Strs
import Derived.Shelf.Strings.BuilderF
import Derived.Shelf.Strings.BuilderK
import Derived.Shelf.Strings.Search1
import Derived.Shelf.Strings.Prefix
import Derived.Shelf.Strings.Runes
import Derived.Shelf.Strings.AsciiSet
import Derived.Shelf.Unicode.DecodeSlow
import Derived.Lib.ItoaLen
import Derived.Lib.MapLaws
import Derived.Test.YtjpodcmhcenjjaaGreatDoorRows
set_option linter.unusedVariables false
set_option linter.unusedSimpArgs false
set_option linter.unusedSectionVars false
set_option maxRecDepth 100000
set_option maxHeartbeats 64000000
section
namespace Go.VM
open Go Go.RowKit
section
variable {P:Program} {G:GT} {st:St} {out:Out}
variable {base:cS} {R R':Nat→Nat→Prop} {μ:Nat→Nat} {a:Act} {w w':World}
theorem c6X {o:Oper}{x y:Operand}{ts:Array TypeId}(ho:o.op= .call { callee:= .builtin .max,args:= #[x,y],argTypes:=ts })(h:c0u G x y st=some out):oS P G o st out:=by
 unfold c0u at h;split at h
 ·rename_i k a k' b hx hy;simp only [d7c] at h;subst h;refine bH fun base R μ a w hr=>⟨_,?_,.d _ _ (.int _ _),trivial⟩
  simp [execOp,ho,resolve,invoke,builtin,Builtin.max_,Builtin.max2,hr.sB hx,hr.sB hy]
 ·cases h
theorem c6Y {o:Oper}{x y:Operand}{ts:Array TypeId}(ho:o.op= .call { callee:= .builtin .min,args:= #[x,y],argTypes:=ts })(h:c0v G x y st=some out):oS P G o st out:=by
 unfold c0v at h;split at h
 ·rename_i k a k' b hx hy;simp only [d7c] at h;subst h;refine bH fun base R μ a w hr=>⟨_,?_,.d _ _ (.int _ _),trivial⟩
  simp [execOp,ho,resolve,invoke,builtin,Builtin.min_,Builtin.min2,hr.sB hx,hr.sB hy]
 ·cases h
theorem b4L {o:Oper}{b:Builtin}{args:Array Operand}{ts:Array TypeId}(ho:o.op= .call { callee:= .builtin b,args:=args,argTypes:=ts })(h:pO P G b args.toList ts.toList st=some out):oS P G o st out:=by
 obtain ⟨args⟩:=args;obtain ⟨ts⟩:=ts;simp only at h;unfold pO at h;split at h
 ·exact c6U ho h
 ·exact b7w ho h
 ·exact b7v ho rfl h
 ·exact c6X ho h
 ·exact c6Y ho h
 ·cases h
theorem b2O {o:Oper}{fn:Fn}{first captured:Array Operand}(ho:o.op= .makeFunc fn first captured)(h:a2e G fn first captured st=some out):oS P G o st out:=by
 unfold a2e at h;split at h
 ·rename_i f;split at h
  ·rename_i hf;simp only [d7c] at h;subst h;have hf':first= #[]:=by simpa using hf
   refine bH fun base R μ a w hr=>⟨.func (.func f) #[] (captured.map a.eval),by simp [execOp,ho,Instr.makeFunc,hf'],?_,trivial⟩
   split
   ·rename_i hc;have hc':captured= #[]:=by simpa using hc
    subst hc';rw [show Array.map a.eval #[]= #[] by simp];exact .fn f
   ·refine .yV f _ _ (by simp) fun i c hi=>?_
    rw [d7g] at hi;obtain ⟨x,hx,rfl⟩:=d6V.1 hi;have:(captured.map a.eval).getD i Go.undef=a.eval x:=by
     have hx':captured[i]? =some x:=by simpa using hx
     simp [d6Y,hx']
    rw [this];exact hr.eval x
  ·cases h
 ·cases h
theorem d1z {o:Oper}(h:jJ P G o st=some out):oS P G o st out:=by
 unfold jJ at h;split at h
 ·exact b4A (.inl ‹_›) h
 ·exact b4A (.inr ‹_›) h
 ·exact c2E ‹_› h
 ·exact b1t ‹_› h
 ·exact c6W ‹_› h
 ·exact b1s ‹_› h
 ·exact a8d ‹_› h
 ·exact b4B ‹_› h
 ·exact a2h ‹_› h
 ·exact b2L ‹_› h
 ·exact c2G ‹_› h
 ·exact d1y ‹_› h
 ·exact c2I ‹_› h
 ·exact b4H ‹_› h
 ·exact b2O ‹_› h
 ·exact b7r ‹_› h
 ·exact b0y ‹_› h
 ·exact b4C ‹_› h
 ·exact c0x ‹_› h
 ·exact c0y ‹_› h
 ·exact b0u ‹_› h
 ·exact b0v ‹_› h
 ·exact c0A ‹_› h
 ·exact c0C ‹_› h
 ·exact c2K ‹_› h
 ·exact b4L ‹_› h
 ·cases h
end
section
variable (P:Program) (G:GT)
def a1f:Option TypeId→OA
 |some e=> .fresh e
 |none=> .no
def Enters (f:FuncId):Prop:=∃fn,P.funcs[f]? =some fn∧fn.body.isNone=false∧(fn.name== "runtime.NumGoroutine")=false
def cT:Op→Bool
 | .move _| .assign _| .pick _ _ _| .build _ _| .buildSlice _ _ _| .load _ _| .nilCheck _| .binOp _ _ _ _ _| .unOp _ _ _| .convert _ _ _| .lookup _ _ _ _| .extract _ _| .field _ _ _| .index _ _ _| .indexAddr _ _ _| .fieldAddr _ _ _| .slice _ _ _ _ _=>true
 | .call { callee:= .value _, .. }=>true
 | .call { callee:= .builtin .len, .. }=>true
 | .call { callee:= .builtin .max, .. }=>true
 | .call { callee:= .builtin .min, .. }=>true
 |_=>false
def xK:List Oper→List Tmp
 |[]=>[]
 |o::r=>match o.op with
  | .call { callee:= .builtin .append,args, .. }=>match args.toList with
   | .tmp i::_=>i::xK r
   |_=>xK r
  |_=>xK r
def a7I:List Oper→List Tmp
 |[]=>[]
 |o::r=>match o.op,o.dst with
  | .call { callee:= .builtin .append, .. },some i=>i::a7I r
  |_,_=>a7I r
def qO (all:Array Oper)(o:Oper):Bool:=
 match o.guard,o.op,o.dst with
 |none,.move (.tmp j),some i=>j !=i&&(xK all.toList).contains i
 |none,.assign (.tmp j),some i=>j !=i&&(a7I all.toList).contains j
 |none,.load _ (.tmp _),some i=>(xK all.toList).contains i
 |none,.call { callee:= .value _, .. },some i=>(xK all.toList).contains i
 |none,.buildSlice _ _ _,some i=>(xK all.toList).contains i
 |_,_,_=>false
def a2G (all:Array Oper)(o:Oper)(act:OA):OA:=if qO all o then act else .no
def a4l (q:Bool)(all:Array Oper)(o:Oper)(_:DV)(act:OA):OA:=if q&&cT o.op then a2G all o act else act
def kR (f:FuncId)(d6U:List DV)(ls:List (Option Loc))(st:St)(dst:Option Tmp)(s':St):Prop:=
 ∀(base:cS) (R:Nat→Nat→Prop) (μ:Nat→Nat) (a:Act) (w:World) (args:Array Value),Rel P G base R μ st a w→args.size=d6U.length→(∀(i:Nat) (d:DV),d6U[i]? =some d→TV R μ w (args.getD i undef) d)→
  (∀(i:Nat) (l:Loc),ls[i]? =some (some l)→∀u,cB a w μ l=some u→u=args.getD i undef)→
  Calls P f args w fun e w'=>∃v R' μ',e= .returned v∧Rel P G base R' μ' s' (a.put dst v) w'∧Step base R w R' w'
def rowsOf:List Oper→Nat→List Nat→List Nat
 |[],_,rows=>rows
 |o::r,n,rows=>Nat.rec (rowsOf r (n+1) (0::rows)) (fun m _=>rowsOf r (n+1) (Nat.succ m::rows)) (o.after.toList.foldl (fun acc e=>if Region.binds .any e=true∧e.on<n then acc |||((1 <<<e.on) |||rows.getD (n-1-e.on) 0) else acc) 0)
def gD (ops:Array Oper)(_ j i:Nat):Bool:=decide (j<ops.size)&&((rowsOf ops.toList 0 []).getD (ops.size-1-j) 0).testBit i
def jU (all:Array Oper)(o:Oper):Bool:=(List.range all.size).all fun k=>match all[k]? with
 |some o'=>o'.dst !=o.dst||(List.range all.size).all fun j=>j==k||gD all all.size j k||gD all all.size k j
 |none=>true
def c2L (ks:List Nat):Loc→Bool
 | .c k _=> !ks.contains k
 | .t _=>true
def jL (ks:List Nat)(own:List (TypeId×List Loc)):Bool:=own.all fun c=>c.2.all (c2L ks)
def pA:DV→Bool
 | .ptr _ _=>false
 | .mp _=>false
 | .it _=>false
 | .yV _ _=>false
 | .ag _=>false
 |_=>true
def RO (f:FuncId)(d6U:List DV)(ks:List Nat)(H:List (Nat×aY))(d:DV):Prop:=
 ∀st:St,(∀k∈ks,getKey k st.H=getKey k H)→jL ks st.own=true→∀dst ls,kR P G f d6U ls st dst (finish st dst d .no)
def xL (ro:Bool)(f:FuncId)(d6U:List DV)(ls:List (Option Loc))(dst:Option Tmp)(st:St)(K:St→Prop):Prop:=
 if ro=true then ∃d ks,(Enters P f∧RO P G f d6U ks st.H d∧jL ks st.own=true∧(ks.all fun k=>(getKey k st.H).isSome)=true∧pA d=true)∧K (finish st dst d .no)
 else ∃s',(Enters P f∧kR P G f d6U ls st dst s')∧K s'
def eD (o:Oper):Bool:=match o.op,o.dst with
 | .alloc _,some _=>true
 |_,_=>false
def eH (ops:Array Oper):List Nat:=ops.toList.filterMap fun o=>if eD o then o.dst else none
def pB (q:Bool)(all:Array Oper)(o:Oper):Bool:=q&&(!jU all o|| !(eH all).isEmpty)
def kH (q:Bool)(all:Array Oper)(o:Oper)(K:St→Prop)(st:St):Prop:=
 match dU o all st.tmps with
 |some true=>
  match gG G o st with
  |some (f,ds)=>(∃r own,(Enters P f∧CS P G f ds r own)∧(q=true→pA r=true)∧K (finish st o.dst r (if q&& !qO all o then .no else a1f own)))∨
   (pB q all o=false∧∃s',(Enters P f∧kR P G f (ds.map .d) (jD o) st o.dst s')∧K s')
  |none=>
   match cX G o st with
   |some (f,d6U)=>xL P G (pB q all o) f d6U (jD o) o.dst st K
   |none=>
    match jJ P G o st with
    |some out=>K (finish out.st o.dst out.v (a4l q all o out.v out.act))
    |none=>False
 |some false=>K (finish st o.dst (.cM []) .no)
 |none=>False
def qQ (q:Bool)(all:Array Oper):List Oper→St→(St→Prop)→Prop
 |[],st,K=>K st
 |o::rest,st,K=>kH P G q all o (fun s=>qQ q all rest s K) st
def zX (o:Oper):Bool:=match o.op with
 | .call { callee:= .value _, .. }=>true
 |_=>false
def isApp (o:Oper):Bool:=match o.op with
 | .call { callee:= .builtin .append, .. }=>true
 |_=>false
def a7j (o:Oper):Bool:=match o.op,o.dst with
 | .store _ _ _,none=>true
 |_,_=>false
def a3x:Op→Bool
 | .move _| .assign _| .pick _ _ _| .nilCheck _| .binOp _ _ _ _ _| .unOp _ _ _| .convert _ _ _| .extract _ _| .field _ _ _| .index _ _ _| .indexAddr _ _ _| .fieldAddr _ _ _| .slice _ _ _ _ _=>true
 |_=>false
def mC (o:Oper):Bool:=isApp o||eD o||a7j o
def c0D (all:Array Oper)(o:Oper):Bool:=(cT o.op||isApp o||eD o||(match o.op with
 | .store _ _ _=>true
 | .mapUpdate _ _ _ _=>true
 |_=>false))
def oB (all:Array Oper)(x y:Oper):Bool:=(cT x.op&&cT y.op&& !(qO all x&&qO all y))||(cT x.op&&isApp y&& !qO all x)||(isApp x&&cT y.op&& !qO all y&& !zX y)||(cT x.op&&eD y)||(eD x&&cT y.op&& !zX y)||((isApp x||eD x)&&(isApp y||eD y)&&(eD x||eD y))||(a3x x.op&& !qO all x&&a7j y)||(a7j x&&a3x y.op&& !qO all y)
def qB (k:Nat):aY→Bool
 | .cells cs=>cs.all fun c=> !mentions k c
 |_=>true
def cC (k:Nat)(st:St):Bool:=(st.tmps.all fun v=> !mentions k v)&&(st.H.all fun p=>p.1 !=k&&qB k p.2)&&(st.own.all fun c=>c.2.all fun l=> !l.uA k)
def a5E (ops:Array Oper)(st:St):Bool:=(eH ops).all fun k=>cC k st
def lexFrom (ops:Array Oper):Nat→Nat→Array Bool→Bool
 |0,_,listed=>(Region.ready .any ops listed).isEmpty
 |fuel+1,k,listed=>(Region.ready .any ops listed).contains k&&
  (match ops[k]? with
  |none=>false
  |some oi=>
   (List.range ops.size).all fun j=>j==k||listed.getD j true||gD ops ops.size j k||(match ops[j]? with
    |some oj=>oi.apart ops oj&&oB ops oi oj
    |none=>true))&&
  lexFrom ops fuel (k+1) (listed.setIfInBounds k true)
def c2M (ops:Array Oper):Bool:=((eH ops).isEmpty||(ops.toList.all (c0D ops)&&decide ((eH ops).Nodup)))&&lexFrom ops ops.size 0 (Array.replicate ops.size false)
def VW:Code→St→(Exit→St→Prop)→Prop
 | .skip,st,Q=>Q .normal st
 | .region _ ops draw,st,Q=>(draw=true→P.follows .mixedOrders=true∧c2M ops=true∧a5E ops st=true)∧qQ P G draw ops ops.toList st fun s=>Q .normal s
 | .seq x y,st,Q=>VW x st fun e s=>match e with
  | .normal=>VW y s Q
  |e=>Q e s
 | .cond c x y,st,Q=>
  match st.eval G c with
  | .d (.bool t)=>if t then VW x st Q else VW y st Q
  | .mW=>VW x st Q∧VW y st Q
  |_=>False
 | .block id c,st,Q=>VW c st fun e s=>match e with
  | .exit id'=>if id'=id then Q .normal s else Q (.exit id') s
  |e=>Q e s
 | .loop c,st,Q=>SW P G (.loop c) st Q
 | .exit id,st,Q=>Q (.exit id) st
 | .ret,st,Q=>Q .ret st
 | .label _,st,Q=>Q .normal st
 | .scope c,st,Q=>VW c st fun e s=>match e with
  | .goto _=>False
  |e=>Q e s
 |_,_,_=>False
end
section
variable {P:Program} {G:GT} {st:St} {out:Out}
variable {base:cS} {R R':Nat→Nat→Prop} {μ:Nat→Nat} {a:Act} {w w':World}
theorem SW.mono {c:Code}{Q Q':Exit→St→Prop}(hq:∀e s,Q e s→Q' e s)(h:SW P G c st Q):SW P G c st Q':=fun base R μ a w hr=>wp_mono (h base R μ a w hr) fun _ _ _ ⟨st',R',μ',q,r,s⟩=>⟨st',R',μ',hq _ _ q,r,s⟩
theorem zA (hr:Rel P G base R μ st a w){o:Oper}{all:Array Oper}{b:Bool}(h:dU o all st.tmps=some b):Region.wanted o (yielded all a.tmps)=b:=by
 unfold dU at h;unfold Region.wanted;split at h
 ·rename_i hg;rw [hg];simpa using h
 ·rename_i j want hg;rw [hg];simp only;unfold qT at h;unfold yielded;cases hd:(all[j]?).bind (·.dst) with
  |none=>rw [hd] at h;simp at h;subst h;rfl
  |some t=>
   rw [hd] at h;simp only [Option.bind_some] at h ⊢;by_cases ht:t<a.tmps.size
   ·have h1:a.tmps[t]? =some a.tmps[t]:=d7o ht
    have ht':t<st.tmps.length:=by rw [← hr.size];exact ht
    have h2:st.tmps[t]? =some st.tmps[t]:=d7a ht'
    have hv:=hr.tmps t _ _ h1 h2;rw [h2] at h;simp only [Option.getD_some] at h;rw [h1];generalize a.tmps[t]=v at *;generalize st.tmps[t]=d at *;cases hv with
    |undef=>cases h
    |mW=>cases h
    |d v x hx=>
     cases hx with
     |bool b'=>simp at h;subst h;cases b'<;>cases want<;>rfl
     |_=>simp at h;subst h;rfl
    |_=>simp at h;subst h;rfl
   ·have h1:a.tmps[t]? =none:=Array.getElem?_eq_none (Nat.le_of_not_lt ht)
    have h2:st.tmps[t]? =none:=List.getElem?_eq_none (by rw [← hr.size];exact Nat.le_of_not_lt ht)
    rw [h2] at h;simp at h;subst h;rw [h1]
    rfl
theorem b1x (hr:Rel P G base R μ st a w):∀ {l:List Operand} {ds:List D},sU (l.map (st.eval G))=some ds→l.length=ds.length∧∀(i:Nat) (d:D),ds[i]? =some d→V R w ((l.map a.eval).getD i undef) d
 |[],ds,h=>by simp [sU] at h;subst h;simp
 |x::l,ds,h=>by
  simp only [List.map_cons] at h;cases hx:st.eval G x with
  |d y=>
   rw [hx] at h;simp only [sU] at h;split at h<;>simp at h;rename_i ds' hds;subst h;obtain ⟨h1,h2⟩:=b1x hr hds;refine ⟨by simp [h1],fun i d hi=>?_⟩;cases i with
   |zero=>simp at hi;subst hi;exact hr.jA hx
   |succ i=>simp at hi;simpa using h2 i d hi
  |_=>rw [hx] at h;simp [sU] at h
theorem b9s {o:Oper}{f:FuncId}{ds:List D}{r:DV}{own:Option TypeId}(hc:gG G o st=some (f,ds))(hcs:Enters P f∧CS P G f ds r own)(hr:Rel P G base R μ st a w){K:Act→World→Prop}{Q:Exit→Act→World→Prop}(h:∀v R' w',Rel P G base R' μ (finish st o.dst r (a1f own)) (a.put o.dst v) w'→Step base R w R' w'→K (a.put o.dst v) w'):o.wp P a w K Q:=by
 unfold gG at hc;split at hc
 ·rename_i x args ts hop;split at hc
  ·rename_i f' ds' hx hds;simp at hc;obtain ⟨rfl,rfl⟩:=hc;obtain ⟨⟨fn,hf1,hf2,hf3⟩,hcs⟩:=hcs;obtain ⟨hl,hv⟩:=b1x hr hds;have hexec:(execOp a.eval o).run P w= .ok (.enter f' (args.map a.eval)) w:=by
    have hf2': ¬fn.body=none:=fun he=>by simp [he] at hf2
    have hf3': ¬fn.name= "runtime.NumGoroutine" :=by simpa using hf3
    simp [execOp,hop,resolve,hr.a7W hx,Deferred.ofValue,invoke,callFunc,hf1,hf2',hf3']
   unfold Oper.wp;rw [hexec]
   show Calls P f' (args.map a.eval) w _
   refine (hcs w R (args.map a.eval) (hr.rX.up hr.base) hr.mY (by simpa using hl) (fun i d hi=>by have:=hv i d hi;simpa [d6Y,List.getD] using this)).mono fun e w' ⟨v,R',he,htv,hs,hr',ho⟩=>?_
   subst he;have hsb:Step base R w R' w':=⟨hs.below.mono hr.base,hs.mono,fun b o q1 q2=>hr.base b (hs.new b o q1 q2),hs.cells⟩;have hrel:=hr.step hsb hs.below.below.block hs.new hr';refine h v R' w' (hrel.put (htv μ) ?_) hsb;cases own with
   |none=>trivial
   |some e=>
    have jR:=ho e rfl;refine ⟨?_,fun k o' hk hsp=>?_,?_⟩
    ·rcases jR with q|⟨g,n,cap,cur,q1,q2,q3⟩
     ·exact .inl q
     ·exact .inr ⟨g,n,cap,cur,q1,hr.base _ q2,q3⟩
    ·obtain ⟨_,_,h3⟩:=hr.gL k o' hk;have h1:w.heap.size≤μ k:=jR.xJ hsp;have h2:=h3.lt;omega
    ·obtain ⟨vs,hvs⟩:=hr.own;refine ⟨vs,hvs.step hr hs.below.below.block (fun b o hb q=>by
      by_cases hR:R b o
      ·exact hR
      ·have:=hs.new b o q hR;omega),fun v' hv'=>⟨fun g hg hg'=>?_,fun g hg hg'=>?_⟩⟩
     ·have h1:w.heap.size≤g:=jR.xJ hg;have h2:=hvs.lt hv' hg';omega
     ·have h1:w.heap.size≤g:=jR.xJ hg';have h2:=hvs.lt hv' hg;omega
  ·cases hc
 ·cases hc
theorem CS.forget {f:FuncId}{ds:List D}{r:DV}{own:Option TypeId}(h:CS P G f ds r own):CS P G f ds r none:=fun w R args hg hR hl hv=>(h w R args hg hR hl hv).mono fun e w' ⟨v,R',h1,h2,h3,h4,_⟩=>⟨v,R',h1,h2,h3,h4,fun _ he=>by cases he⟩
theorem a8e {o:Oper}{f:FuncId}{d6U:List DV}{s':St}(hc:cX G o st=some (f,d6U))(hcs:Enters P f∧kR P G f d6U (jD o) st o.dst s')(hr:Rel P G base R μ st a w){K:Act→World→Prop}{Q:Exit→Act→World→Prop}(h:∀v R' μ' w',Rel P G base R' μ' s' (a.put o.dst v) w'→Step base R w R' w'→K (a.put o.dst v) w'):o.wp P a w K Q:=by
 obtain ⟨⟨fn,hf1,hf2,hf3⟩,hcs⟩:=hcs;have hf2': ¬fn.body=none:=fun he=>by simp [he] at hf2
 have hf3': ¬fn.name= "runtime.NumGoroutine" :=by simpa using hf3
 have main:∀args:Array Value,(execOp a.eval o).run P w= .ok (.enter f args) w→args.size=d6U.length→(∀(i:Nat) (d:DV),d6U[i]? =some d→TV R μ w (args.getD i undef) d)→
   (∀(i:Nat) (l:Loc),(jD o)[i]? =some (some l)→∀u,cB a w μ l=some u→u=args.getD i undef)→o.wp P a w K Q:=fun args hexec hl hv hloc=>by
  unfold Oper.wp;rw [hexec]
  show Calls P f args w _
  refine (hcs base R μ a w args hr hl hv hloc).mono fun e w' ⟨v,R',μ',he,hrel,hs⟩=>?_
  subst he;exact h v R' μ' w' hrel hs
 have each:∀(l:List Operand) (i:Nat) (d:DV),(l.map (st.eval G))[i]? =some d→TV R μ w ((l.map a.eval).getD i undef) d:=fun l i d hi=>by
  rw [d7g] at hi;obtain ⟨x,hx,rfl⟩:=d6V.1 hi;have:(l.map a.eval).getD i undef=a.eval x:=by simp [List.getD,hx]
  rw [this];exact hr.eval x
 have dR:∀(args:Array Operand) (vs:Array Value),jD o=args.toList.map a0Y→∀(i:Nat) (l:Loc),(jD o)[i]? =some (some l)→∀u,cB a w μ l=some u→u=(args.map a.eval++vs).getD i undef:=fun args vs rY i l hi u hu=>by
  rw [rY,d7g] at hi;obtain ⟨x,hx,hxl⟩:=d6V.1 hi;cases x with
  |tmp t=>
   simp only [a0Y,d7c] at hxl;subst hxl;simp only [cB] at hu;have hlt:i<args.size:=by have:=(d6X.1 hx).1;simpa using this
   have he:args[i]? =some (.tmp t):=by simpa using hx
   rw [d6Y,Array.getElem?_append_left (by simpa using hlt),Array.getElem?_map,he];simp [Act.eval,hu]
  |_=>cases hxl
 unfold cX at hc;split at hc
 ·rename_i x args ts hop;have rY:jD o=args.toList.map a0Y:=by simp [jD,hop]
  split at hc
  ·rename_i f' hx;simp at hc;obtain ⟨rfl,rfl⟩:=hc;refine main (args.map a.eval) ?_ (by simp) (fun i d hi=>?_) (by simpa using dR args #[] rY)
   ·simp [execOp,hop,resolve,hr.a7W hx,Deferred.ofValue,invoke,callFunc,hf1,hf2',hf3']
   ·have:=each args.toList i d hi;simpa [d6Y,List.getD] using this
  ·rename_i f' cs hx;simp at hc;obtain ⟨rfl,rfl⟩:=hc;obtain ⟨vs,he,hvs,hvc⟩:=(hr.kG hx).a4h;refine main (args.map a.eval++vs) ?_ (by simp [hvs]) (fun i d hi=>?_) (dR args vs rY)
   ·simp [execOp,hop,resolve,he,Deferred.ofValue,invoke,callFunc,hf1,hf2',hf3']
   ·by_cases hlt:i<args.size
    ·rw [d7h (by simpa using hlt)] at hi;have:=each args.toList i d hi;rw [d6Y,Array.getElem?_append_left (by simpa using hlt)];simpa [d6Y,List.getD] using this
    ·rw [d7e (by simp;omega)] at hi;simp only [List.length_map,Array.length_toList] at hi;have:=hvc _ d hi;rw [d6Y,Array.getElem?_append_right (by simp;omega)];simpa [d6Y] using this
  ·cases hc
 ·cases hc
theorem b7x {P:Program}{G:GT}{st:St}{q:Bool}{all:Array Oper}{o:Oper}{out:Out}(_:jJ P G o st=some out):a4l q all o out.v out.act= .no∨a4l q all o out.v out.act=out.act:=by
 unfold a4l a2G;split
 ·split
  ·exact .inr rfl
  ·exact .inl rfl
 ·exact .inr rfl
theorem b4M:∀ {l:List DV} {ds:List D},sU l=some ds→l=ds.map .d
 |[],ds,h=>by simp [sU] at h;subst h;rfl
 | .d x::l,ds,h=>by
  simp only [sU] at h;split at h
  ·rename_i ds' hd;simp at h;subst h;rw [b4M hd];rfl
  ·cases h
 | .undef::_,_,h=>by simp [sU] at h
 | .ptr _ _::_,_,h=>by simp [sU] at h
 | .ep _::_,_,h=>by simp [sU] at h
 | .mp _::_,_,h=>by simp [sU] at h
 | .it _::_,_,h=>by simp [sU] at h
 | .cM _::_,_,h=>by simp [sU] at h
 | .fn _::_,_,h=>by simp [sU] at h
 | .mW::_,_,h=>by simp [sU] at h
 | .tY _::_,_,h=>by simp [sU] at h
 | .yV _ _::_,_,h=>by simp [sU] at h
 | .ag _::_,_,h=>by simp [sU] at h
theorem b7y {o:Oper}{f:FuncId}{ds:List D}(h:gG G o st=some (f,ds)):cX G o st=some (f,ds.map .d):=by
 unfold gG at h;unfold cX;split at h
 ·rename_i x args ts hop;split at h
  ·rename_i f' ds' hx hds;simp at h;obtain ⟨rfl,rfl⟩:=h;simp only [hop,hx];rw [b4M hds]
  ·cases h
 ·cases h
theorem pC {q:Bool}{all:Array Oper}{o:Oper}{K:St→Prop}{Q:Exit→Act→World→Prop}{KK:Act→World→Prop}(h:kH P G q all o K st)(hr:Rel P G base R μ st a w)(hk:∀s v w' R' μ',K s→Rel P G base R' μ' s (a.put o.dst v) w'→Step base R w R' w'→KK (a.put o.dst v) w'):
  if Region.wanted o (yielded all a.tmps) then o.wp P a w KK Q∨(o.asks P a w∧LetsOut Q) else KK (a.put o.dst Go.undef) w:=by
 unfold kH at h;split at h
 ·rename_i hw;rw [zA hr hw,if_pos rfl];refine .inl ?_
  split at h
  ·rename_i f ds hc;rcases h with ⟨r,own,hcs,_,h⟩|⟨_,s',hcs,h⟩
   ·generalize (q&& !qO all o)=qn at h;cases qn with
    |true=>exact b9s hc ⟨hcs.1,hcs.2.forget⟩ hr fun v R1 w1 hrel hs=>hk _ v w1 R1 μ h hrel hs
    |false=>exact b9s hc hcs hr fun v R1 w1 hrel hs=>hk _ v w1 R1 μ h hrel hs
   ·exact a8e (b7y hc) hcs hr fun v R1 μ1 w1 hrel hs=>hk _ v w1 R1 μ1 h hrel hs
  ·split at h
   ·rename_i f d6U hch;unfold xL at h;split at h
    ·obtain ⟨d,ks,⟨h1,h2,h3,_⟩,h⟩:=h;exact a8e hch ⟨h1,h2 st (fun _ _=>rfl) h3 _ _⟩ hr fun v R1 μ1 w1 hrel hs=>hk _ v w1 R1 μ1 h hrel hs
    ·obtain ⟨s',hcs,h⟩:=h;exact a8e hch hcs hr fun v R1 μ1 w1 hrel hs=>hk _ v w1 R1 μ1 h hrel hs
   split at h
   ·rename_i out hv;obtain ⟨v,w1,R1,μ1,hrun,hrel,htv,hact,hs⟩:=d1z hv base R μ a w hr;have hact':a0Z P base R1 μ1 out.st a w1 v (a4l q all o out.v out.act):=by
     rcases b7x (q:=q) (all:=all) hv with he|he
     ·rw [he];trivial
     ·rw [he];exact hact
    have hgo:=hk _ v w1 R1 μ1 h (hrel.put (dst:=o.dst) htv hact') hs;unfold Oper.wp;rcases hrun with hrun|⟨hrun,rfl⟩
    ·rw [hrun];exact hgo
    ·rw [hrun];exact hgo
   ·cases h
 ·rename_i hw;rw [zA hr hw];simp only [Bool.false_eq_true,if_false];exact hk _ _ w R μ h (hr.put (dst:=o.dst) (v:=Go.undef) (.cM #[] [] rfl (by simp)) trivial) (.refl _ _ _)
 ·cases h
theorem b2P {q:Bool}(all:Array Oper)(Q:Exit→Act→World→Prop):∀(l:List Oper) (st:St) (K:St→Prop),qQ P G q all l st K→∀(base:cS) (R:Nat→Nat→Prop) (μ:Nat→Nat) (a:Act) (w:World),Rel P G base R μ st a w→
  (∀s a' w' R' μ',K s→Rel P G base R' μ' s a' w'→Step base R w R' w'→Q .normal a' w')→wpList P all Q l a w
 |[],st,K,h,base,R,μ,a,w,hr,hk=>hk st a w R μ h hr (.refl _ _ _)
 |o::rest,st,K,h,base,R,μ,a,w,hr,hk=>by unfold wpList;exact pC h hr fun s v w' R' μ' h' hr' hs'=>b2P all Q rest s K h' base R' μ' _ w' hr' fun s a' w2 R2 μ2 q1 q2 q3=>hk s a' w2 R2 μ2 q1 q2 (hs'.trans q3)
theorem eS {q:Bool}{all:Array Oper}{o:Oper}{K K':St→Prop}(hk:∀s,K s→K' s)(h:kH P G q all o K st):kH P G q all o K' st:=by
 unfold kH at *;split
 ·rename_i hw;rw [hw] at h;simp only at h ⊢;split
  ·rename_i f ds hc;rw [hc] at h;rcases h with ⟨r,own,h1,h3,h2⟩|⟨h0,s',h1,h2⟩
   ·exact .inl ⟨r,own,h1,h3,hk _ h2⟩
   ·exact .inr ⟨h0,s',h1,hk _ h2⟩
  ·rename_i hc;rw [hc] at h;simp only at h;split
   ·rename_i f d6U hch;rw [hch] at h;simp only [xL] at h ⊢;split
    ·rename_i hro;rw [if_pos hro] at h;obtain ⟨d,ks,h1,h2⟩:=h;exact ⟨d,ks,h1,hk _ h2⟩
    ·rename_i hro;rw [if_neg hro] at h;obtain ⟨s',h1,h2⟩:=h;exact ⟨s',h1,hk _ h2⟩
   rename_i hch;rw [hch] at h;simp only at h;split
   ·rename_i out ho;rw [ho] at h;exact hk _ h
   ·rename_i ho;rw [ho] at h;exact h
 ·rename_i hw;rw [hw] at h;exact hk _ h
 ·rename_i hw;rw [hw] at h;exact h
def QY (P:Program)(G:GT)(all:Array Oper)(o:Oper)(d:DV)(act:OA)(st:St):Prop:=
 (dU o all st.tmps=some true∧((∃f ds own,gG G o st=some (f,ds)∧Enters P f∧CS P G f ds d own∧pA d=true∧act=a1f own)∨(gG G o st=none∧cX G o st=none∧jJ P G o st=some ⟨d,act,st⟩)∨
  (gG G o st=none∧∃f d6U ks,cX G o st=some (f,d6U)∧Enters P f∧RO P G f d6U ks st.H d∧jL ks st.own=true∧(ks.all fun k=>(getKey k st.H).isSome)=true∧pA d=true∧act= .no)))∨(dU o all st.tmps=some false∧d= .cM []∧act= .no)
theorem b1y {o:Oper}(hq:cT o.op=true){st':St}(he:∀x∈o.op.operands,st'.eval G x=st.eval G x)(hH:∀x∈o.op.operands,∀k,mentions k (st.eval G x)=true→getKey k st'.H=getKey k st.H):jJ P G o st'=(jJ P G o st).map fun out=>⟨out.v,out.act,st'⟩:=by
 obtain ⟨dst,op,ty,pos,after,guard⟩:=o;have parts:∀ps:List (Nat×Operand),(∀x∈ps.map (·.2),st'.eval G x=st.eval G x)→yJ G st' ps=yJ G st ps:=by
  intro ps
  induction ps with
  |nil=>intro _;rfl
  |cons p ps ih=>intro hp;obtain ⟨i,x⟩:=p;unfold yJ;rw [hp x (by simp),ih fun y hy=>hp y (by simp at hy ⊢;exact .inr hy)]
 have partsv:∀ps:List (Nat×Operand),(∀x∈ps.map (·.2),st'.eval G x=st.eval G x)→uQ G st' ps=uQ G st ps:=by
  intro ps
  induction ps with
  |nil=>intro _;rfl
  |cons p ps ih=>intro hp;obtain ⟨i,x⟩:=p;unfold uQ;rw [hp x (by simp),ih fun y hy=>hp y (by simp at hy ⊢;exact .inr hy)]
 have bnd:∀(x:Option Operand) (d n:Nat),(∀y,x=some y→st'.eval G y=st.eval G y)→eU G st' x d n=eU G st x d n:=fun x d n hx=>by
  cases x with
  |none=>rfl
  |some y=>simp only [eU,hx y rfl]
 cases op<;>simp only [cT] at hq<;>try cases hq
 all_goals simp only [Op.operands] at he hH
 case move x=>simp [jJ,yX,he]
 case assign x=>simp [jJ,yX,he]
 case pick c a b=>simp only [jJ,a7S,he c (by simp),he a (by simp),he b (by simp)];split<;>rfl
 case build t ps=>
  simp only [jJ,a3o,parts ps.toList fun x hx=>he x (by simpa using hx)];split
  ·split
   ·simp [Option.map_map,Function.comp_def]
   ·simp only [a2f,partsv ps.toList fun x hx=>he x (by simpa using hx)];split
    ·simp [Option.map_map,Function.comp_def]
    ·rfl
  ·rfl
 case buildSlice t n ps=>
  simp only [jJ,pL,parts ps.toList fun x hx=>he x (by simpa using hx)];split
  ·split<;>rfl
  ·rfl
 case load t x=>
  simp only [jJ,a6o,he x (by simp)];split
  ·rename_i k off hx;rw [hH x (by simp) k (by rw [hx];simp [mentions])];split
   ·simp [Option.map_map,Function.comp_def]
   ·rfl
  ·simp [Option.map_map,Function.comp_def]
  ·rfl
 case nilCheck x=>simp only [jJ,rP,he x (by simp)];split<;>rfl
 case binOp op t x y u=>
  simp only [jJ,a7T,wE,b7m,he x (by simp),he y (by simp)];split
  ·split<;>rfl
  ·split
   ·simp [Option.map_map,Function.comp_def]
   ·rfl
 case unOp op t x=>
  simp only [jJ,vUn,he x (by simp)];split
  ·simp [Option.map_map,Function.comp_def]
  ·rfl
 case convert src dst x=>
  simp only [jJ,a7U,he x (by simp)];split
  ·simp [Option.map_map,Function.comp_def]
  ·rfl
 case lookup t m k ok=>
  simp only [jJ,a2g,he m (by simp),he k (by simp)];split
  ·rename_i hm _;rw [hH m (by simp) _ (by rw [hm];simp [mentions])];split
   ·simp [Option.map_map,Function.comp_def]
   ·rfl
  ·rfl
 case extract x i=>
  simp only [jJ,wG,he x (by simp)];split
  ·simp [Option.map_map,Function.comp_def]
  ·rfl
 case field t x i=>
  simp only [jJ,a3p,he x (by simp)];split
  ·simp [Option.map_map,Function.comp_def]
  ·rfl
 case index t x i=>
  simp only [jJ,a3q,he x (by simp),he i (by simp)];split
  ·simp [Option.map_bind,Option.map_map,Function.comp_def]
  ·simp [Option.map_bind,Option.map_map,Function.comp_def]
  ·rfl
 case indexAddr t x i=>
  simp only [jJ,pM,he x (by simp),he i (by simp)];split
  ·rw [Option.map_bind];congr 1;funext j;simp only [Function.comp];rw [Option.map_bind];congr 1;funext cs;simp only [Function.comp];split<;>rfl
  ·split
   ·rfl
   ·simp [Option.map_map,Function.comp_def]
  ·split
   ·rfl
   ·simp [Option.map_map,Function.comp_def]
  ·rfl
 case fieldAddr t x i=>
  simp only [jJ,pN,he x (by simp)];split
  ·split
   ·rfl
   ·split<;>rfl
  ·rfl
 case slice t x lo hi mx=>
  have rY:∀y,lo=some y→st'.eval G y=st.eval G y:=fun y hy=>he y (by simp [hy])
  have hhi:∀y,hi=some y→st'.eval G y=st.eval G y:=fun y hy=>he y (by simp [hy])
  have hmx:∀y,mx=some y→st'.eval G y=st.eval G y:=fun y hy=>he y (by simp [hy])
  simp only [jJ,a3r,he x (by simp),bnd lo _ _ rY,bnd hi _ _ hhi];split
  ·simp [Option.map_bind,Option.map_map,Function.comp_def]
  ·split
   ·simp [Option.map_bind,Option.map_map,Function.comp_def]
   ·rfl
  ·split
   ·simp [Option.map_bind,Option.map_map,Function.comp_def]
   ·rfl
  ·rw [bnd (some _) _ _ fun y hy=>hmx y hy];split<;>rfl
  ·rw [bnd (some _) _ _ fun y hy=>hmx y hy];split<;>rfl
  ·rfl
 case call c=>
  obtain ⟨callee,args,ts⟩:=c;cases callee with
  |value f=>simp [jJ]
  |invoke r m=>simp at hq
  |builtin b=>
   have mem:∀ {x:Operand} {l:List Operand},args.toList=l→x∈l→st'.eval G x=st.eval G x:=fun hl hx=>he _ (by simp only [Op.operands,Call.operands];rw [← Array.mem_toList_iff];simp [hl,hx])
   cases b<;>simp only [] at hq<;>try cases hq
   ·simp only [jJ,pO];split
    ·rename_i x t _ heq _;have hx:st'.eval G x=st.eval G x:=mem heq (by simp);have hxm:x∈args:=by rw [← Array.mem_toList_iff];simp [heq]
     simp only [c0t,hx];split
     ·rfl
     ·rfl
     ·rfl
     ·rename_i hx2;rw [hH x (by simpa [Call.operands] using hxm) _ (by rw [hx2];simp [mentions])];split<;>rfl
     ·rfl
    ·rename_i h1 _ _;cases h1
    ·rename_i h1 _ _;cases h1
    ·rename_i h1 _;cases h1
    ·rename_i h1 _;cases h1
    ·rfl
   ·simp only [jJ,pO];split
    ·rename_i h1 _ _;cases h1
    ·rename_i h1 _ _;cases h1
    ·rename_i h1 _ _;cases h1
    ·rename_i x y _ heq;have hx:st'.eval G x=st.eval G x:=mem heq (by simp);have hy:st'.eval G y=st.eval G y:=mem heq (by simp);simp only [c0u,hx,hy];split<;>rfl
    ·rename_i h1 _;cases h1
    ·rfl
   ·simp only [jJ,pO];split
    ·rename_i h1 _ _;cases h1
    ·rename_i h1 _ _;cases h1
    ·rename_i h1 _ _;cases h1
    ·rename_i h1 _;cases h1
    ·rename_i x y _ heq;have hx:st'.eval G x=st.eval G x:=mem heq (by simp);have hy:st'.eval G y=st.eval G y:=mem heq (by simp);simp only [c0v,hx,hy];split<;>rfl
    ·rfl
theorem b4N {o:Oper}(hq:cT o.op=true)(h:jJ P G o st=some out):out.st=st:=by have:=b1y (P:=P) (G:=G) (st:=st) (st':=st) hq (fun _ _=>rfl) (fun _ _ _ _=>rfl);rw [h] at this;simp at this;have h2:=congrArg Out.st this;simpa using h2
theorem a1g (st:St)(dst:Option Tmp)(d:DV)(act:OA):(finish st dst d act).H=st.H:=by cases dst<;>rfl
theorem b4O {dst:Option Tmp}{d:DV}{act:OA}{x:Operand}(h:∀t,dst=some t→x≠ .tmp t):(finish st dst d act).eval G x=st.eval G x:=by
 cases dst with
 |none=>rfl
 |some t=>
  cases x with
  |tmp j=>
   have hne:t≠j:=fun e=>h t rfl (e▸rfl)
   simp [finish,St.eval,List.getElem?_set_ne hne]
  |_=>rfl
theorem a3z {all:Array Oper}{o:Oper}{dst:Option Tmp}{d:DV}{act:OA}(h:∀t,dst=some t→t ∉ o.looksAt all):∀x∈o.op.operands,(finish st dst d act).eval G x=st.eval G x:=fun x hx=>b4O fun t ht hxt=>h t ht (by subst hxt;exact List.mem_append_left _ (List.mem_filterMap.2 ⟨.tmp t,by simpa using hx,rfl⟩))
theorem aZ {all:Array Oper}{o:Oper}{dst:Option Tmp}{d:DV}{act:OA}(h:∀t,dst=some t→t ∉ o.looksAt all):dU o all (finish st dst d act).tmps=dU o all st.tmps:=by
 cases dst with
 |none=>rfl
 |some t=>
  unfold dU;cases hg:o.guard with
  |none=>rfl
  |some gw=>
   obtain ⟨g,want⟩:=gw;have hy:qT all (finish st (some t) d act).tmps g=qT all st.tmps g:=by
    unfold qT;cases ht:(all[g]?).bind (·.dst) with
    |none=>rfl
    |some j=>
     have hne:t≠j:=fun e=>h t rfl (by subst e;simp [Oper.looksAt,hg,ht])
     simp [finish,List.getElem?_set_ne hne]
   simp only [hy]
theorem b2Q {o:Oper}{st':St}(h:∀x∈o.op.operands,st'.eval G x=st.eval G x):gG G o st'=gG G o st:=by
 unfold gG;split
 ·rename_i x args ts hop;rw [hop] at h;have hx:=h x (by simp [Op.operands,Call.operands]);have ha:args.toList.map (st'.eval G)=args.toList.map (st.eval G):=List.map_congr_left fun y hy=>h y (by simp [Op.operands,Call.operands];exact .inr (by simpa using hy))
  rw [hx,ha]
 ·rfl
theorem b0z {o:Oper}{st':St}(h:∀x∈o.op.operands,st'.eval G x=st.eval G x):cX G o st'=cX G o st:=by
 unfold cX;split
 ·rename_i x args ts hop;rw [hop] at h;have hx:=h x (by simp [Op.operands,Call.operands]);have ha:args.toList.map (st'.eval G)=args.toList.map (st.eval G):=List.map_congr_left fun y hy=>h y (by simp [Op.operands,Call.operands];exact .inr (by simpa using hy))
  rw [hx,ha]
 ·rfl
theorem a3A (ks:List Nat)(t:Tmp)(own:List (TypeId×List Loc)):jL ks (cH (.t t) own)=jL ks own:=by
 unfold jL cH;rw [List.all_map];congr 1;funext c;simp only [Function.comp]
 induction c.2 with
 |nil=>rfl
 |cons l r ih=>
  by_cases hl:l= .t t
  ·subst hl;rw [List.filter_cons_of_neg (by simp),ih]
   rfl
  ·rw [List.filter_cons_of_pos (by simp [hl]),List.all_cons,List.all_cons,ih]
theorem b4P (ks:List Nat)(s:Loc)(t:Tmp)(own:List (TypeId×List Loc)):jL ks (addAlias s (.t t) own)=jL ks own:=by
 unfold jL addAlias;rw [List.all_map];congr 1;funext c;simp only [Function.comp];split
 ·rw [List.all_cons];rfl
 ·rfl
theorem a4m (ks:List Nat)(dst:Option Tmp)(d:DV)(act:OA):jL ks (VM.finish st dst d act).own=jL ks st.own:=by
 cases dst with
 |none=>rfl
 |some t=>
  simp only [VM.finish];cases act with
  |no=>exact a3A ks t _
  |al l=>
   simp only [dY];split
   ·rfl
   ·rw [b4P,a3A]
  |fresh e=>
   simp only [dY];have:=a3A ks t st.own;unfold jL at this ⊢;rw [List.all_cons,this]
   rfl
theorem c2N {o:Oper}{x:FuncId×List DV}(h:cX G o st=some x):zX o=true:=by
 unfold cX at h;unfold zX;split at h
 ·rename_i hop;rw [hop]
 ·cases h
theorem QY.to {all:Array Oper}{o:Oper}{d:DV}{ac:OA}{st':St}(h:QY P G all o d ac st)(hq:cT o.op=true)(hw:dU o all st'.tmps=dU o all st.tmps)(he:∀x∈o.op.operands,st'.eval G x=st.eval G x)(hH:∀x∈o.op.operands,∀k,mentions k (st.eval G x)=true→getKey k st'.H=getKey k st.H)(hk:zX o=true→∀k o,getKey k st.H=some o→getKey k st'.H=some o)(hn:zX o=true→∀ks,(ks.all fun k=>(getKey k st.H).isSome)=true→jL ks st.own=true→jL ks st'.own=true):QY P G all o d ac st':=by
 unfold QY at h ⊢;rw [hw,b2Q he,b0z he,b1y hq he hH];rcases h with ⟨h0,h|⟨h1,h2,h3⟩|⟨h1,f,d6U,ks,h2,h3,h4,h5,h6,h7,h8⟩⟩|h
 ·exact .inl ⟨h0,.inl h⟩
 ·exact .inl ⟨h0,.inr (.inl ⟨h1,h2,by rw [h3];rfl⟩)⟩
 ·have hv:=c2N h2;have hks:∀k∈ks,getKey k st'.H=getKey k st.H:=fun k hkk=>by obtain ⟨ob,hob⟩:=Option.isSome_iff_exists.1 (d6Z.1 h6 k hkk);rw [hob];exact hk hv k ob hob
  refine .inl ⟨h0,.inr (.inr ⟨h1,f,d6U,ks,h2,h3,fun s hs hno=>h4 s (fun k hkk=>(hs k hkk).trans (hks k hkk)) hno,hn hv ks h6 h5,d6Z.2 fun k hkk=>?_,h7,h8⟩)⟩;rw [hks k hkk];exact d6Z.1 h6 k hkk
 ·exact .inr h
theorem QY.finish {all:Array Oper}{o:Oper}{d x:DV}{ac:OA}{dst:Option Tmp}{act:OA}(hq:cT o.op=true)(h:∀t,dst=some t→t ∉ o.looksAt all):QY P G all o d ac (VM.finish st dst x act)↔QY P G all o d ac st:=by
 have he:=a3z (G:=G) (st:=st) (d:=x) (act:=act) h;refine ⟨fun hy=>QY.to hy hq (aZ h).symm (fun y hy=>(he y hy).symm) (fun _ _ _ _=>by rw [a1g]) (fun _ k ob hk=>by rw [a1g] at hk;exact hk) (fun _ ks _ hn=>by rw [a4m] at hn;exact hn),
  fun hy=>QY.to hy hq (aZ h) he (fun _ _ _ _=>by rw [a1g]) (fun _ k ob hk=>by rw [a1g];exact hk) (fun _ ks _ hn=>by rw [a4m];exact hn)⟩
theorem b7z {all:Array Oper}{o:Oper}{K:St→Prop}(hq:cT o.op=true)(hal:jU all o=false):kH P G true all o K st↔∃d act,QY P G all o d act st∧K (finish st o.dst d (a2G all o act)):=by
 have hact:∀d act,a4l true all o d act=a2G all o act:=fun d act=>by simp [a4l,hq]
 have hno:a2G all o .no= .no:=by unfold a2G;split<;>rfl
 have hqn:∀a,a2G all o a=if true&& !qO all o then .no else a:=fun a=>by unfold a2G;cases qO all o<;>rfl
 unfold kH QY;constructor
 ·intro h;split at h
  ·rename_i hw;rw [hw];split at h
   ·rename_i f ds hc;rcases h with ⟨r,own,⟨h1,h2⟩,h4,h3⟩|⟨h0,_⟩
    ·exact ⟨r,a1f own,.inl ⟨rfl,.inl ⟨f,ds,own,hc,h1,h2,h4 rfl,rfl⟩⟩,by rw [hqn];exact h3⟩
    ·simp [pB,hal] at h0
   ·rename_i hc;split at h
    ·rename_i f d6U hch;simp only [xL,pB,hal,Bool.not_false,Bool.true_or,Bool.and_self,if_true] at h;obtain ⟨d,ks,⟨h1,h2,h3,h5,h6⟩,h4⟩:=h;exact ⟨d,.no,.inl ⟨rfl,.inr (.inr ⟨hc,f,d6U,ks,hch,h1,h2,h3,h5,h6,rfl⟩)⟩,by rw [hno];exact h4⟩
    ·rename_i hch;split at h
     ·rename_i out ho;rw [hact] at h;have hs:=b4N hq ho;obtain ⟨v,act,s2⟩:=out;simp only at hs;subst hs;exact ⟨v,act,.inl ⟨rfl,.inr (.inl ⟨hc,hch,ho⟩)⟩,h⟩
     ·cases h
  ·rename_i hw;exact ⟨.cM [],.no,.inr ⟨hw,rfl,rfl⟩,by rw [hno];exact h⟩
  ·cases h
 ·rintro ⟨d,act,(⟨hw,⟨f,ds,own,hc,h1,h2,h4,rfl⟩|⟨hc,hch,ho⟩|⟨hc,f,d6U,ks,hch,h1,h2,h3,h5,h6,rfl⟩⟩|⟨hw,rfl,rfl⟩),hk⟩
  ·rw [hqn] at hk;rw [hw];simp only;rw [hc];exact .inl ⟨d,own,⟨h1,h2⟩,fun _=>h4,hk⟩
  ·rw [hw];simp only;rw [hc];simp only;rw [hch];simp only;rw [ho];simp only;rw [hact];exact hk
  ·rw [hno] at hk;rw [hw];simp only;rw [hc];simp only;rw [hch];simp only [xL,pB,hal,Bool.not_false,Bool.true_or,Bool.and_self,if_true];exact ⟨d,ks,⟨h1,h2,h3,h5,h6⟩,hk⟩
  ·rw [hno] at hk;rw [hw];exact hk
def b2R (all:Array Oper)(o:Oper)(a:OA):Prop:=a= .no∨(qO all o=true∧∃e,a= .fresh e)∨∃l i,o.dst=some i∧qO all o=true∧l≠ .t i∧(∀u,u ∉ o.looksAt all→l≠ .t u)∧a= .al l
theorem xM (v:DV)(a:OA):pK v a= .no∨pK v a=a:=by
 unfold pK;split
 ·exact .inr rfl
 ·exact .inl rfl
theorem QY.act {all:Array Oper}{o:Oper}{d:DV}{act:OA}(h:QY P G all o d act st):b2R all o (a2G all o act):=by
 unfold a2G;split
 ·rename_i hn;rcases h with ⟨hw,⟨f,ds,own,hc,h1,h2,_,rfl⟩|⟨hc,hch,ho⟩|⟨hc,f,d6U,ks,hch,h1,h2,h3,_,_,rfl⟩⟩|⟨hw,rfl,rfl⟩
  ·cases own with
   |none=>exact .inl rfl
   |some e=>exact .inr (.inl ⟨hn,e,rfl⟩)
  ·obtain ⟨dst,op,ty,pos,after,guard⟩:=o;have hn':=hn;unfold qO at hn;split at hn
   ·rename_i j i hg hop hd;simp only at hg hop hd;subst hg hop hd;simp only [d6W,bne_iff_ne] at hn;have:act=pK (st.eval G (.tmp j)) (.al (.t j)):=by simp only [jJ,yX,d7c,Out.mk.injEq] at ho;exact ho.2.1.symm
    rcases xM (st.eval G (.tmp j)) (.al (.t j)) with h1|h1
    ·exact .inl (this.trans h1)
    ·exact .inr (.inr ⟨.t j,i,rfl,hn',fun e=>hn.1 (by cases e;rfl),fun u hu e=>hu (by cases e;simp [Oper.looksAt,Op.operands]),this.trans h1⟩)
   ·rename_i j i hg hop hd;simp only at hg hop hd;subst hg hop hd;simp only [d6W,bne_iff_ne] at hn;have:act=pK (st.eval G (.tmp j)) (.al (.t j)):=by simp only [jJ,yX,d7c,Out.mk.injEq] at ho;exact ho.2.1.symm
    rcases xM (st.eval G (.tmp j)) (.al (.t j)) with h1|h1
    ·exact .inl (this.trans h1)
    ·exact .inr (.inr ⟨.t j,i,rfl,hn',fun e=>hn.1 (by cases e;rfl),fun u hu e=>hu (by cases e;simp [Oper.looksAt,Op.operands]),this.trans h1⟩)
   ·rename_i ty' j i hg hop hd;simp only at hg hop hd;subst hg hop hd;simp only [jJ,a6o] at ho;split at ho
    ·rename_i k off _;split at ho
     ·rename_i cs hk;obtain ⟨y,_,he⟩:=d6V.1 ho;simp only [Out.mk.injEq] at he;have:act=pK y (.al (.c k off)):=he.2.1.symm;rcases xM y (.al (.c k off)) with h1|h1
      ·exact .inl (this.trans h1)
      ·exact .inr (.inr ⟨.c k off,i,rfl,hn',(by simp),(fun u _=>by simp),this.trans h1⟩)
     ·cases ho
    ·obtain ⟨y,_,he⟩:=d6V.1 ho;simp only [Out.mk.injEq] at he;exact .inl he.2.1.symm
    ·cases ho
   ·rename_i cl x i hg hop hd;simp only at hg hop hd;subst hg hop hd;simp [jJ] at ho
   ·rename_i t n ps i hg hop hd;simp only at hg hop hd;subst hg hop hd;simp only [jJ,pL] at ho;split at ho
    ·split at ho
     ·simp only [d7c,Out.mk.injEq] at ho;exact .inr (.inl ⟨hn',_,ho.2.1.symm⟩)
     ·cases ho
    ·cases ho
   ·cases hn
  ·exact .inl rfl
  ·exact .inl rfl
 ·exact .inl rfl
theorem oC (x y:Loc)(own:List (TypeId×List Loc)):cH x (cH y own)=cH y (cH x own):=by
 simp only [cH,List.map_map];refine List.map_congr_left fun c _=>?_
 simp only [Function.comp,List.filter_filter];congr 1;refine List.filter_congr fun l _=>?_
 rw [Bool.and_comm]
theorem a2S {x l:Loc}(h:l≠x)(c:List Loc):(c.filter fun y=>decide (y≠x)).contains l=c.contains l:=by rw [Bool.eq_iff_iff];simp only [List.contains_iff_mem,List.mem_filter,decide_eq_true_eq];exact ⟨fun h=>h.1,fun h'=>⟨h',h⟩⟩
theorem a8f {s t x:Loc}(h1:s≠x)(h2:t≠x)(own:List (TypeId×List Loc)):addAlias s t (cH x own)=cH x (addAlias s t own):=by
 simp only [addAlias,cH,List.map_map];refine List.map_congr_left fun c _=>?_
 simp only [Function.comp,a2S h1];split
 ·simp [h2]
 ·rfl
theorem b4Q {l:Loc}{t u:Tmp}(h1:t≠u)(h2:l≠ .t u)(h3:l≠ .t t)(own:List (TypeId×List Loc)):dY (.t u) .no (dY (.t t) (.al l) own)=dY (.t t) (.al l) (dY (.t u) .no own):=by
 have ht:(.t t:Loc)≠ .t u:=fun e=>h1 (by cases e;rfl)
 simp only [dY];rw [if_neg h3,if_neg h3, ← a8f h2 ht,oC]
theorem a3B {e:TypeId}{t u:Tmp}(h1:t≠u)(own:List (TypeId×List Loc)):dY (.t u) .no (dY (.t t) (.fresh e) own)=dY (.t t) (.fresh e) (dY (.t u) .no own):=by
 have ht:(.t t:Loc)≠ .t u:=fun e=>h1 (by cases e;rfl)
 simp only [dY];rw [oC (.t t)];simp [cH,ht]
theorem uE {all:Array Oper}{x y:Oper}{d e:DV}{ax ay:OA}(h:∀t,x.dst=some t→y.dst≠some t)(hx:∀t,x.dst=some t→t ∉ y.looksAt all)(hy:∀t,y.dst=some t→t ∉ x.looksAt all)(hn:(qO all x&&qO all y)=false)(sx:b2R all x ax)(sy:b2R all y ay):
  finish (finish st x.dst d ax) y.dst e ay=finish (finish st y.dst e ay) x.dst d ax:=by
 cases hxd:x.dst with
 |none=>cases y.dst<;>rfl
 |some t=>
  cases hyd:y.dst with
  |none=>rfl
  |some u=>
   have hne:t≠u:=fun he=>h t hxd (he▸hyd)
   simp only [finish];rw [List.set_comm _ _ hne];congr 1;rcases sx with rfl|⟨q2,e,rfl⟩|⟨l,i,q1,q2,q3,q4,rfl⟩
   ·rcases sy with rfl|⟨q2,e,rfl⟩|⟨l,i,q1,q2,q3,q4,rfl⟩
    ·exact oC _ _ _
    ·exact (a3B (Ne.symm hne) _).symm
    ·rw [hyd] at q1;cases q1;exact (b4Q (Ne.symm hne) (q4 t (hx t hxd)) q3 _).symm
   ·rcases sy with rfl|⟨p2,e',rfl⟩|⟨l',i',p1,p2,p3,p4,rfl⟩
    ·exact a3B hne _
    ·rw [q2,p2] at hn;cases hn
    ·rw [q2,p2] at hn;cases hn
   ·rw [hxd] at q1;cases q1;rcases sy with rfl|⟨p2,e',rfl⟩|⟨l',i',p1,p2,p3,p4,rfl⟩
    ·exact b4Q hne (q4 u (hy u hyd)) q3 _
    ·rw [q2,p2] at hn;cases hn
    ·rw [q2,p2] at hn;cases hn
def a8g (P:Program)(G:GT)(ops:Array Oper)(Q:St→Prop):Nat→Array Bool→St→Prop
 |0,listed,st=>Region.ready .any ops listed=[]∧Q st
 |fuel+1,listed,st=>(Region.ready .any ops listed=[]→Q st)∧∀i∈Region.ready .any ops listed,match ops[i]? with
  |none=>a8g P G ops Q fuel (listed.setIfInBounds i true) st
  |some o=>kH P G true ops o (a8g P G ops Q fuel (listed.setIfInBounds i true)) st
theorem a7J {ops:Array Oper}{Q:St→Prop}{QQ:Exit→Act→World→Prop}:∀(fuel:Nat) (listed:Array Bool) (st:St),a8g P G ops Q fuel listed st→∀(base:cS) (R:Nat→Nat→Prop) (μ:Nat→Nat) (a:Act) (w:World),Rel P G base R μ st a w→
  (∀s a' w' R' μ',Q s→Rel P G base R' μ' s a' w'→Step base R w R' w'→QQ .normal a' w')→wpAny P .any ops QQ fuel listed a w
 |0,_,st,h,base,R,μ,a,w,hr,hk=>⟨h.1,hk st a w R μ h.2 hr (.refl _ _ _)⟩
 |fuel+1,listed,st,h,base,R,μ,a,w,hr,hk=>by
  refine ⟨fun h0=>hk st a w R μ (h.1 h0) hr (.refl _ _ _),fun i hi=>?_⟩;have h1:=h.2 i hi;unfold wpOp;split
  ·rename_i ho;rw [ho] at h1;exact a7J fuel _ st h1 base R μ a w hr hk
  ·rename_i o ho;rw [ho] at h1;exact pC h1 hr fun s v w' R' μ' h' hr' hs'=>a7J fuel _ s h' base R' μ' _ w' hr' fun s a' w2 R2 μ2 q1 q2 q3=>hk s a' w2 R2 μ2 q1 q2 (hs'.trans q3)
def eI (ops:Array Oper)(listed:Array Bool):Prop:=∀k,listed.getD k false=true→∀o,ops[k]? =some o→∀e∈o.after,Region.binds .any e=true→listed.getD e.on false=true
theorem c6Z {listed:Array Bool}{i:Nat}(h0:listed.getD i true=false)(h1:listed.getD i false=true):False:=by
 rcases Nat.lt_or_ge i listed.size with h'|h'
 ·simp [h'] at h0 h1;rw [h0] at h1;cases h1
 ·simp [Array.getElem?_eq_none h'] at h1
theorem c2O {es:List Edge}{n i:Nat}{rows:List Nat}:∀(acc:Nat),(es.foldl (fun acc e=>if Region.binds .any e=true∧e.on<n then acc |||((1 <<<e.on) |||rows.getD (n-1-e.on) 0) else acc) acc).testBit i=true→
  acc.testBit i=true∨∃e∈es,Region.binds .any e=true∧e.on<n∧(e.on=i∨(rows.getD (n-1-e.on) 0).testBit i=true):=by
 induction es with
 |nil=>intro acc h;exact .inl h
 |cons e es ih=>
  intro acc h;simp only [List.foldl_cons] at h;rcases ih _ h with h|⟨e',h1,h2⟩
  ·split at h
   ·rename_i hb;rw [Nat.testBit_or,d7i,Nat.testBit_or,d7i] at h;rcases h with h|h|h
    ·exact .inl h
    ·rw [Nat.testBit_shiftLeft] at h;simp only [d6W,decide_eq_true_eq] at h;have:i-e.on=0:=by
      have h2:=h.2;cases hx:i-e.on with
      |zero=>rfl
      |succ m=>rw [hx,Nat.testBit_succ] at h2;simp at h2
     exact .inr ⟨e,.head _,hb.1,hb.2,.inl (by omega)⟩
    ·exact .inr ⟨e,.head _,hb.1,hb.2,.inr h⟩
   ·exact .inl h
  ·exact .inr ⟨e',.tail _ h1,h2⟩
theorem c0E (o:Oper)(r:List Oper)(n:Nat)(rows:List Nat):rowsOf (o::r) n rows=rowsOf r (n+1) ((o.after.toList.foldl (fun acc e=>if Region.binds .any e=true∧e.on<n then acc |||((1 <<<e.on) |||rows.getD (n-1-e.on) 0) else acc) 0)::rows):=by rw [rowsOf];generalize (o.after.toList.foldl (fun acc e=>if Region.binds .any e=true∧e.on<n then acc |||((1 <<<e.on) |||rows.getD (n-1-e.on) 0) else acc) 0)=m;cases m<;>rfl
theorem a8h {ops:Array Oper}{i:Nat}:∀(l:List Oper) (n:Nat) (rows:List Nat),rows.length=n→(∀j,l[j]? =ops[n+j]?)→
  (∀k,k<n→(rows.getD (n-1-k) 0).testBit i=true→∃o,ops[k]? =some o∧∃e∈o.after,Region.binds .any e=true∧(e.on=i∨(e.on<k∧(rows.getD (n-1-e.on) 0).testBit i=true)))→
  ∀k,k<n+l.length→((rowsOf l n rows).getD (n+l.length-1-k) 0).testBit i=true→∃o,ops[k]? =some o∧∃e∈o.after,Region.binds .any e=true∧(e.on=i∨(e.on<k∧((rowsOf l n rows).getD (n+l.length-1-e.on) 0).testBit i=true))
 |[],n,rows,_,_,h=>h
 |o::r,n,rows,hlen,hl,h=>by
  rw [c0E];generalize hrow:(o.after.toList.foldl (fun acc e=>if Region.binds .any e=true∧e.on<n then acc |||((1 <<<e.on) |||rows.getD (n-1-e.on) 0) else acc) 0)=row;have hlc:n+(o::r).length=(n+1)+r.length:=by simp;omega
  rw [hlc];have old:∀m,m<n→(row::rows).getD (n+1-1-m) 0=rows.getD (n-1-m) 0:=fun m hm=>by
   have:n+1-1-m=(n-1-m)+1:=by omega
   rw [this];rfl
  refine a8h r (n+1) (row::rows) (by simp [hlen]) (fun j=>by have:=hl (j+1);simpa [Nat.add_assoc,Nat.add_comm 1 j] using this) fun k hk hb=>?_
  by_cases hkn:k<n
  ·rw [old k hkn] at hb;obtain ⟨o1,h1,e,h2,h3,h4⟩:=h k hkn hb;refine ⟨o1,h1,e,h2,h3,?_⟩;rcases h4 with h4|⟨h4,h5⟩
   ·exact .inl h4
   ·exact .inr ⟨h4,by rw [old e.on (by omega)];exact h5⟩
  ·have:k=n:=by omega
   subst this;have h0:k+1-1-k=0:=by omega
   rw [h0] at hb;simp only [List.getD_cons_zero] at hb;rw [← hrow] at hb;rcases c2O 0 hb with hz|⟨e,h1,h2,h3,h4⟩
   ·simp at hz
   ·refine ⟨o,by simpa using (hl 0).symm,e,by simpa using h1,h2,?_⟩;rcases h4 with h4|h4
    ·exact .inl h4
    ·exact .inr ⟨h3,by rw [old e.on h3];exact h4⟩
theorem cY {ops:Array Oper}{listed:Array Bool}{i:Nat}(hc:eI ops listed)(hi:listed.getD i true=false)(n:Nat):∀(k:Nat),(∀o,ops[k]? =some o→∀e∈o.after,Region.binds .any e=true→listed.getD e.on false=true)→gD ops n k i=false:=by
 intro k
 induction k using Nat.strongRecOn with
 |_ k ih=>
  intro hk;cases hb:gD ops n k i with
  |false=>rfl
  |true=>
   unfold gD at hb;rw [d6W,decide_eq_true_eq] at hb;obtain ⟨hlt,hb⟩:=hb;have hsz:0+ops.toList.length=ops.size:=by simp
   obtain ⟨o,ho,e,he,hbd,h⟩:=a8h (ops:=ops) ops.toList 0 [] rfl (by simp) (fun k hk=>absurd hk (Nat.not_lt_zero _)) k (by omega) (by rw [hsz];exact hb);have h1:=hk o ho e he hbd;rcases h with h|⟨h2,h3⟩
   ·exact (c6Z hi (h▸h1)).elim
   ·have:=ih e.on h2 fun o' ho'=>hc e.on h1 o' ho'
    unfold gD at this;rw [hsz] at h3;rw [h3,Bool.and_true,decide_eq_false_iff_not] at this;exact absurd (Nat.lt_trans h2 hlt) this
theorem eI.set {ops:Array Oper}{listed:Array Bool}{j:Nat}(hc:eI ops listed)(hj:j∈Region.ready .any ops listed):eI ops (listed.setIfInBounds j true):=by
 intro k hk o ho e he hb;by_cases hjk:j=k
 ·subst hjk;obtain ⟨_,o',ho',hall⟩:=mem_ready.1 hj;rw [ho] at ho';cases ho';exact getD_set_true (hall e he hb)
 ·rw [getD_set_ne false hjk] at hk;exact getD_set_true (hc k hk o ho e he hb)
theorem rI {ops:Array Oper}{o:Oper}{k j:Nat}(h:jU ops o=true)(hk:ops[k]? =some o)(hj:j<ops.size)(hne:j≠k):gD ops ops.size j k=true∨gD ops ops.size k j=true:=by have h1:=d6Z.1 h k (List.mem_range.2 (d7f.1 hk).1);simp only [hk,bne_self_eq_false,Bool.false_or] at h1;have h2:=d6Z.1 h1 j (List.mem_range.2 hj);simpa [hne,or_assoc] using h2
theorem vJ {k:Nat}{d:DV}(h:pA d=true):mentions k d=false:=by cases d<;>first|rfl|cases h
theorem b2S (k:Nat)(v:Value):mentions k (ofConst v)=false:=by
 unfold ofConst;split
 ·split<;>rfl
 ·split<;>rfl
theorem jV {k:Nat}(h:cC k st=true):(∀v∈st.tmps,mentions k v=false)∧(∀p∈st.H,p.1≠k∧qB k p.2=true)∧(∀c∈st.own,∀l∈c.2,l.uA k=false):=by unfold cC at h;simp only [d6W,d6Z,bne_iff_ne,ne_eq,Bool.not_eq_true'] at h;exact ⟨h.1.1,h.1.2,h.2⟩
theorem wM {k:Nat}(h1:∀v∈st.tmps,mentions k v=false)(h2:∀p∈st.H,p.1≠k∧qB k p.2=true)(h3:∀c∈st.own,∀l∈c.2,l.uA k=false):cC k st=true:=by unfold cC;simp only [d6W,d6Z,bne_iff_ne,ne_eq,Bool.not_eq_true'];exact ⟨⟨h1,h2⟩,h3⟩
theorem qC {k:Nat}(h:cC k st=true)(x:Operand):mentions k (st.eval G x)=false:=by
 cases x with
 |tmp t=>
  simp only [St.eval,List.getD];cases ht:st.tmps[t]? with
  |none=>rfl
  |some v=>exact (jV h).1 v (d7b ht)
 |const v=>exact b2S k v
 |global g=>simp only [St.eval];split<;>rfl
 |func f=>rfl
theorem a1h {k:Nat}{o:aY}:∀ {H:List (Nat×aY)},getKey k H=some o→(k,o)∈H
 |[],h=>by simp [getKey] at h
 |(k',o')::r,h=>by
  unfold getKey at h;split at h
  ·rename_i he;cases h;subst he;exact .head _
  ·exact .tail _ (a1h h)
theorem vK {k:Nat}(h:cC k st=true):getKey k st.H=none:=by
 cases hk:getKey k st.H with
 |none=>rfl
 |some o=>exact absurd rfl ((jV h).2.1 _ (a1h hk)).1
theorem b4R {k k':Nat}{cs:List DV}(h:cC k st=true)(hk:getKey k' st.H=some (.cells cs)):∀c∈cs,mentions k c=false:=fun c hc=>by have:=((jV h).2.1 _ (a1h hk)).2;simp only [qB,d6Z,Bool.not_eq_true'] at this;exact this c hc
theorem b7A {k:Nat}{t:TypeId}{cs:List DV}{y:DV}(hc:∀c∈cs,mentions k c=false)(h:a6n P t cs=some y):mentions k y=false:=by
 unfold a6n at h;split at h
 ·split at h
  ·split at h
   ·rcases a6q h with ⟨ds,_,rfl⟩|⟨_,rfl⟩
    ·rfl
    ·exact a0G fun c hc'=>hc c (List.mem_of_mem_take hc')
   ·cases h
  ·exact hc y (List.mem_of_head? h)
 ·cases h
where
 a0G {k:Nat}:∀ {cs:List DV},(∀c∈cs,mentions k c=false)→jZ k cs=false
  |[],_=>rfl
  |c::r,h=>by simp only [jZ,h c (.head _),a0G fun x hx=>h x (.tail _ hx),Bool.or_false]
theorem a1i {k:Nat}:∀ {cs:List DV},(∀c∈cs,mentions k c=false)→jZ k cs=false
 |[],_=>rfl
 |c::r,h=>by simp only [jZ,h c (.head _),a1i fun x hx=>h x (.tail _ hx),Bool.or_false]
theorem a6v {k:Nat}{d:DV}{cs:List DV}(h:mentions k d=false)(hc:rE d=some cs):∀c∈cs,mentions k c=false:=by
 cases d with
 |d y=>cases hc;intro c hc;obtain ⟨z,_,rfl⟩:=List.mem_map.1 hc;rfl
 |ag cs'=>obtain ⟨_,rfl⟩:=a5B hc;intro c hc;obtain ⟨i,hi⟩:=d7n hc;exact oZ (by simpa [mentions] using h) i c hi
 |undef=>cases hc
 |it _=>cases hc
 |cM _=>cases hc
 |tY _=>cases hc
 |_=>cases hc;intro c hc;simp only [d7d] at hc;subst hc;exact h
theorem a6w {k:Nat}(h:cC k st=true):∀ {l:List (Nat×Operand)} {ps:List (Nat×List DV)},uQ G st l=some ps→∀p∈ps,∀c∈p.2,mentions k c=false
 |[],ps,hp=>by simp [uQ] at hp;subst hp;simp
 |(i,x)::l,ps,hp=>by
  simp only [uQ] at hp;split at hp
  ·rename_i y ds hy hds;simp at hp;subst hp;intro p hpm;rcases List.mem_cons.1 hpm with rfl|hpm
   ·exact a6v (qC h x) hy
   ·exact a6w h hds p hpm
  ·cases hp
theorem b1z {k:Nat}{cs ys:List DV}{off:Nat}(h1:∀c∈cs,mentions k c=false)(h2:∀c∈ys,mentions k c=false):∀c∈overwrite cs off ys,mentions k c=false:=fun c hc=>by
 unfold overwrite at hc;simp only [List.mem_append] at hc;rcases hc with (hc|hc)|hc
 ·exact h1 c (List.mem_of_mem_take hc)
 ·exact h2 c hc
 ·exact h1 c (List.mem_of_mem_drop hc)
theorem a8i {k:Nat}{t:TypeId}:∀ {ps:List (Nat×List DV)} {z r:List DV},(∀c∈z,mentions k c=false)→(∀p∈ps,∀c∈p.2,mentions k c=false)→a4c P t z ps=some r→∀c∈r,mentions k c=false
 |[],z,r,hz,_,h=>by simp [a4c] at h;subst h;exact hz
 |(i,v)::ps,z,r,hz,hp,h=>by
  simp only [a4c] at h;split at h
  ·cases h
  ·split at h
   ·exact a8i (b1z hz (hp _ (.head _))) (fun p hpm=>hp p (.tail _ hpm)) h
   ·cases h
theorem b4S (k:Nat)(v:Value):mentions k (cellOf v)=false:=by unfold cellOf;split<;>rfl
theorem b7B (t:TypeId)(k:Nat)(v:Value):mentions k (xI t v)=false:=by
 unfold xI;split
 ·rfl
 ·split<;>rfl
theorem b7C {k:Nat}{t:TypeId}{z:List DV}(h:b4w P t=some z):∀c∈z,mentions k c=false:=by
 unfold b4w at h;obtain ⟨v,_,h2⟩:=d7k.1 h;split at h2
 ·cases h2;intro c hc;obtain ⟨y,_,rfl⟩:=List.mem_map.1 hc;exact b4S k y
 ·cases h2
theorem b7D {k:Nat}{t:TypeId}{z:List DV}(h:b4v P t=some z):∀c∈z,mentions k c=false:=by unfold b4v at h;obtain ⟨v,_,rfl⟩:=d6V.1 h;intro c hc;obtain ⟨y,_,rfl⟩:=List.mem_map.1 hc;exact b7B _ k y
theorem b4T {o:Oper}(hq:cT o.op=true){k:Nat}(hf:cC k st=true)(h:jJ P G o st=some out):mentions k out.v=false:=by
 obtain ⟨dst,op,ty,pos,after,guard⟩:=o;have he:∀x:Operand,mentions k (st.eval G x)=false:=qC hf;cases op<;>simp only [cT] at hq<;>try cases hq
 case move x=>simp only [jJ,yX,d7c] at h;subst h;exact he x
 case assign x=>simp only [jJ,yX,d7c] at h;subst h;exact he x
 case pick c a b=>
  simp only [jJ,a7S] at h;split at h
  ·simp only [d7c] at h;subst h;simp only;split
   ·exact he a
   ·exact he b
  ·cases h
 case build t ps=>
  simp only [jJ,a3o] at h;split at h
  ·split at h
   ·obtain ⟨c,_,rfl⟩:=d6V.1 h;rfl
   ·unfold a2f at h;split at h
    ·rename_i z qs hz hps;obtain ⟨cs,hcs,rfl⟩:=d6V.1 h;exact a1i (a8i (b7C hz) (a6w hf hps) hcs)
    ·cases h
  ·cases h
 case buildSlice t n ps=>
  simp only [jJ,pL] at h;split at h
  ·split at h
   ·simp only [d7c] at h;subst h;rfl
   ·cases h
  ·cases h
 case load t x=>
  simp only [jJ,a6o] at h;split at h
  ·split at h
   ·rename_i cs hk;obtain ⟨y,hy,rfl⟩:=d6V.1 h;exact b7A (fun c hc=>b4R hf hk c (List.mem_of_mem_drop hc)) hy
   ·cases h
  ·obtain ⟨y,_,rfl⟩:=d6V.1 h;rfl
  ·cases h
 case nilCheck x=>have:=he x;simp only [jJ,rP] at h;split at h<;>first|(cases h;done)|(rename_i hx;rw [hx] at this;simp only [d7c] at h;subst h;exact this)
 case binOp op t x y u=>
  simp only [jJ,a7T,wE,b7m] at h;split at h
  ·split at h<;>first|(cases h;done)|(simp only [d7c] at h;subst h;simp only;first|rfl|(split<;>rfl))
  ·split at h
   ·obtain ⟨c,_,rfl⟩:=d6V.1 h;rfl
   ·cases h
 case unOp op t x=>
  simp only [jJ,vUn] at h;split at h
  ·obtain ⟨c,_,rfl⟩:=d6V.1 h;rfl
  ·cases h
 case convert src dst x=>
  simp only [jJ,a7U] at h;split at h
  ·obtain ⟨c,_,rfl⟩:=d6V.1 h;rfl
  ·cases h
 case lookup t m k ok=>
  simp only [jJ,a2g] at h;split at h
  ·split at h
   ·obtain ⟨c,_,rfl⟩:=d6V.1 h;simp only;split<;>rfl
   ·cases h
  ·cases h
 case extract x i=>
  simp only [jJ,wG] at h;split at h
  ·obtain ⟨c,_,rfl⟩:=d6V.1 h;rfl
  ·cases h
 case field t x i=>
  simp only [jJ,a3p] at h;split at h
  ·obtain ⟨c,_,rfl⟩:=d6V.1 h;rfl
  ·cases h
 case index t x i=>
  simp only [jJ,a3q] at h;split at h
  ·obtain ⟨j,_,h⟩:=d7k.1 h;obtain ⟨c,_,rfl⟩:=d6V.1 h;rfl
  ·obtain ⟨j,_,h⟩:=d7k.1 h;obtain ⟨c,_,rfl⟩:=d6V.1 h;rfl
  ·cases h
 case indexAddr t x i=>
  have hx:=he x;simp only [jJ,pM] at h;split at h
  ·obtain ⟨j,_,h⟩:=d7k.1 h;obtain ⟨c,_,h⟩:=d7k.1 h;split at h
   ·simp only [d7c] at h;subst h;rfl
   ·cases h
  ·rename_i hxe _;split at h
   ·cases h
   ·obtain ⟨j,_,rfl⟩:=d6V.1 h;rw [hxe] at hx;exact hx
  ·split at h
   ·cases h
   ·obtain ⟨j,_,rfl⟩:=d6V.1 h;rfl
  ·cases h
 case fieldAddr t x i=>
  have hx:=he x;simp only [jJ,pN] at h;split at h
  ·split at h
   ·cases h
   ·split at h
    ·rename_i hxe;simp only [d7c] at h;subst h;rw [hxe] at hx;exact hx
    ·simp only [d7c] at h;subst h;rfl
    ·cases h
  ·cases h
 case slice t x lo hi mx=>
  simp only [jJ,a3r] at h;split at h
  ·obtain ⟨j,_,h⟩:=d7k.1 h;obtain ⟨c,_,rfl⟩:=d6V.1 h;rfl
  ·split at h
   ·obtain ⟨j,_,h⟩:=d7k.1 h;obtain ⟨c,_,rfl⟩:=d6V.1 h;rfl
   ·cases h
  ·split at h
   ·obtain ⟨j,_,h⟩:=d7k.1 h;obtain ⟨c,_,rfl⟩:=d6V.1 h;rfl
   ·cases h
  ·split at h
   ·simp only [d7c] at h;subst h;rfl
   ·cases h
  ·split at h
   ·simp only [d7c] at h;subst h;rfl
   ·cases h
  ·cases h
 case call c=>
  obtain ⟨callee,args,ts⟩:=c;cases callee with
  |value f=>simp [jJ] at h
  |invoke r m=>simp at hq
  |builtin b=>
   simp only [jJ,pO] at h;split at h
   ·simp only [c0t] at h;split at h
    ·simp only [d7c] at h;subst h;rfl
    ·simp only [d7c] at h;subst h;rfl
    ·simp only [d7c] at h;subst h;rfl
    ·split at h
     ·simp only [d7c] at h;subst h;rfl
     ·cases h
    ·cases h
   ·simp at hq
   ·simp at hq
   ·simp only [c0u] at h;split at h
    ·simp only [d7c] at h;subst h;rfl
    ·cases h
   ·simp only [c0v] at h;split at h
    ·simp only [d7c] at h;subst h;rfl
    ·cases h
   ·cases h
theorem bX {k:Nat}{dst:Option Tmp}{v:DV}{act:OA}(h:cC k st=true)(hv:mentions k v=false):cC k (finish st dst v act)=true:=by
 obtain ⟨h1,h2,h3⟩:=jV h;cases dst with
 |none=>exact h
 |some d=>
  refine wM (fun u hu=>?_) h2 (fun c hc l hl=>?_)
  ·rcases List.mem_or_eq_of_mem_set hu with hu|rfl
   ·exact h1 u hu
   ·exact hv
  ·have drop:∀c∈cH (.t d) st.own,∀l∈c.2,l.uA k=false:=fun c hc l hl=>by obtain ⟨c0,hc0,rfl⟩:=List.mem_map.1 hc;exact h3 c0 hc0 l (List.mem_filter.1 hl).1
   simp only [finish] at hc;cases act with
   |no=>exact drop c hc l hl
   |al l0=>
    simp only [dY] at hc;split at hc
    ·exact h3 c hc l hl
    ·unfold addAlias at hc;obtain ⟨c0,hc0,rfl⟩:=List.mem_map.1 hc;split at hl
     ·rcases List.mem_cons.1 hl with rfl|hl
      ·rfl
      ·exact drop c0 hc0 l hl
     ·exact drop c0 hc0 l hl
   |fresh e=>
    simp only [dY] at hc;rcases List.mem_cons.1 hc with rfl|hc
    ·simp only [d7d] at hl;subst hl;rfl
    ·exact drop c hc l hl
theorem QY.free {all:Array Oper}{o:Oper}{d:DV}{act:OA}{k:Nat}(hq:cT o.op=true)(h:QY P G all o d act st)(hf:cC k st=true):mentions k d=false:=by
 rcases h with ⟨_,⟨f,ds,own,_,_,_,hk,_⟩|⟨_,_,ho⟩|⟨_,f,d6U,ks,_,_,_,_,_,hk,_⟩⟩|⟨_,rfl,_⟩
 ·exact vJ hk
 ·exact b4T hq hf ho
 ·exact vJ hk
 ·rfl
theorem eJ {o:Oper}(h:(isApp o||eD o)=true):mC o=true:=by unfold mC;rw [h];rfl
theorem gE {o:Oper}(h:mC o=true):gG G o st=none∧cX G o st=none∧cT o.op=false∧zX o=false:=by
 obtain ⟨dst,op,ty,pos,after,guard⟩:=o;cases op with
 |call c=>
  obtain ⟨callee,args,ts⟩:=c;cases callee with
  |builtin b=>cases b<;>first|exact ⟨rfl,rfl,rfl,rfl⟩|(simp [mC,isApp,eD,a7j] at h)
  |_=>simp [mC,isApp,eD,a7j] at h
 |alloc e=>exact ⟨rfl,rfl,rfl,rfl⟩
 |store _ _ _=>exact ⟨rfl,rfl,rfl,rfl⟩
 |_=>simp [mC,isApp,eD,a7j] at h
def Eff (P:Program)(G:GT)(all:Array Oper)(o:Oper)(st s:St):Prop:=
 (cT o.op=true∧∃d act,QY P G all o d act st∧s=finish st o.dst d (a2G all o act))∨
 (mC o=true∧((dU o all st.tmps=some true∧∃out,jJ P G o st=some out∧s=finish out.st o.dst out.v out.act)∨(dU o all st.tmps=some false∧s=finish st o.dst (.cM []) .no)))
theorem dP {all:Array Oper}{o:Oper}{K:St→Prop}(h:(cT o.op=true∧jU all o=false)∨mC o=true):kH P G true all o K st↔∃s,Eff P G all o st s∧K s:=by
 rcases h with ⟨hq,hal⟩|hs
 ·rw [b7z hq hal];constructor
  ·rintro ⟨d,act,h1,h2⟩;exact ⟨_,.inl ⟨hq,d,act,h1,rfl⟩,h2⟩
  ·rintro ⟨s,⟨_,d,act,h1,rfl⟩|⟨hs,_⟩,h2⟩
   ·exact ⟨d,act,h1,h2⟩
   ·rw [(gE (G:=G) (st:=st) hs).2.2.1] at hq;cases hq
 ·obtain ⟨h1,h2,h3,_⟩:=gE (G:=G) (st:=st) hs;have hact:∀d act,a4l true all o d act=act:=fun d act=>by simp [a4l,h3]
  unfold kH;rw [h1,h2];simp only;constructor
  ·intro h;split at h
   ·rename_i hw;split at h
    ·rename_i out ho;rw [hact] at h;exact ⟨_,.inr ⟨hs,.inl ⟨hw,out,ho,rfl⟩⟩,h⟩
    ·cases h
   ·rename_i hw;exact ⟨_,.inr ⟨hs,.inr ⟨hw,rfl⟩⟩,h⟩
   ·cases h
  ·rintro ⟨s,⟨hq,_⟩|⟨_,⟨hw,out,ho,rfl⟩|⟨hw,rfl⟩⟩,hk⟩
   ·rw [h3] at hq;cases hq
   ·rw [hw];simp only;rw [ho];simp only;rw [hact];exact hk
   ·rw [hw];exact hk
theorem eB {x y:Option Tmp}{d e:DV}{a:OA}(h:∀t,x=some t→y≠some t)(ha:a= .no∨∃k,a= .fresh k):finish (finish st x d .no) y e a=finish (finish st y e a) x d .no:=by
 cases x with
 |none=>cases y<;>rfl
 |some t=>
  cases y with
  |none=>rfl
  |some u=>
   have hne:t≠u:=fun he=>h t rfl (he▸rfl)
   simp only [finish];rw [List.set_comm _ _ hne];congr 1;rcases ha with rfl|⟨k,rfl⟩
   ·exact oC _ _ _
   ·exact (a3B (Ne.symm hne) _).symm
theorem a4n {l x:Loc}(h:l≠x):∀own:List (TypeId×List Loc),eZ l (cH x own)=(eZ l own).map fun p=>(p.1,cH x p.2)
 |[]=>rfl
 |c::r=>by
  have hc:=a2S h c.2;have ih:=a4n h r;unfold cH at ih ⊢;simp only [List.map_cons,eZ,hc];split
  ·rfl
  ·rw [ih];cases eZ l r<;>rfl
theorem a6x {l:Loc}:∀ {own:List (TypeId×List Loc)} {e:TypeId} {dZ:List (TypeId×List Loc)},eZ l own=some (e,dZ)→∀c∈dZ,c∈own
 |c::r,e,dZ,h,x,hx=>by
  unfold eZ at h;split at h
  ·cases h;exact .tail _ hx
  ·obtain ⟨p,hp,he⟩:=d6V.1 h;cases he;rcases List.mem_cons.1 hx with rfl|hx
   ·exact .head _
   ·exact .tail _ (a6x hp x hx)
theorem uF {o:Oper}(h:isApp o=true)(ho:jJ P G o st=some out):(∃e,out.act= .fresh e)∧(∃es,out.v= .d (.sl es))∧∃dZ,out.st={ st with own:=dZ }∧∀c∈dZ,c∈st.own:=by
 obtain ⟨dst,op,ty,pos,after,guard⟩:=o;cases op with
 |call c=>
  obtain ⟨callee,args,ts⟩:=c;cases callee with
  |builtin b=>
   cases b<;>simp [isApp] at h;simp only [jJ,pO] at ho;split at ho
   ·rename_i h1 _ _;cases h1
   ·unfold zP at ho;split at ho
    ·split at ho
     ·split at ho
      ·split at ho
       ·simp only [d7c] at ho;subst ho;exact ⟨⟨_,rfl⟩,⟨_,rfl⟩,st.own,rfl,fun _ h=>h⟩
       ·cases ho
      ·split at ho
       ·rename_i e' dZ ht;split at ho
        ·simp only [d7c] at ho;subst ho;exact ⟨⟨_,rfl⟩,⟨_,rfl⟩,dZ,rfl,a6x ht⟩
        ·cases ho
       ·cases ho
      ·cases ho
     ·cases ho
    ·cases ho
   ·rename_i h1 _ _;cases h1
   ·rename_i h1 _;cases h1
   ·rename_i h1 _;cases h1
   ·cases ho
  |_=>simp [isApp] at h
 |_=>simp [isApp] at h
theorem sY {all:Array Oper}{o:Oper}(h:isApp o=true){dst:Option Tmp}{d:DV}(hl:∀t,dst=some t→t ∉ o.looksAt all):jJ P G o (finish st dst d .no)=(jJ P G o st).map fun out=>⟨out.v,out.act,finish out.st dst d .no⟩:=by
 have he:=a3z (G:=G) (st:=st) (d:=d) (act:= .no) hl;obtain ⟨dst0,op,ty,pos,after,guard⟩:=o;cases op with
 |call c=>
  obtain ⟨callee,args,ts⟩:=c;cases callee with
  |builtin b=>
   cases b<;>simp [isApp] at h;have mem:∀ {x:Operand} {l:List Operand},args.toList=l→x∈l→(finish st dst d .no).eval G x=st.eval G x:=fun hl hx=>he _ (by simp only [Op.operands,Call.operands];rw [← Array.mem_toList_iff];simp [hl,hx])
   simp only [jJ,pO];split
   ·rename_i h1 _ _;cases h1
   ·rename_i s x t' t'' _ heq _;have hs:=mem heq (x:=s) (by simp);have hx:=mem heq (x:=x) (by simp);simp only [zP,hs,hx];split
    ·split
     ·split
      ·split
       ·rfl
       ·rfl
      ·rename_i xs i _;cases dst with
       |none=>
        simp only [finish];split
        ·split
         ·rfl
         ·rfl
        ·rfl
       |some u=>
        have hne:(Loc.t i)≠ .t u:=fun e=>hl u rfl (by cases e;exact List.mem_append_left _ (List.mem_filterMap.2 ⟨.tmp i,by simp [Op.operands,Call.operands,heq],rfl⟩))
        simp only [finish,dY,a4n hne];cases eZ (.t i) st.own with
        |none=>rfl
        |some p=>
         obtain ⟨e',dZ⟩:=p;simp only [Option.map_some];split
         ·rfl
         ·rfl
      ·rfl
     ·rfl
    ·rfl
   ·rename_i h1 _ _;cases h1
   ·rename_i h1 _;cases h1
   ·rename_i h1 _;cases h1
   ·rfl
  |_=>simp [isApp] at h
 |_=>simp [isApp] at h
theorem b4U {o:Oper}(h:isApp o=true){H:List (Nat×aY)}:jJ P G o { st with H:=H }=(jJ P G o st).map fun out=>⟨out.v,out.act,{ out.st with H:=H }⟩:=by
 obtain ⟨dst0,op,ty,pos,after,guard⟩:=o;have he:∀x:Operand,({ st with H:=H }:St).eval G x=st.eval G x:=fun x=>by cases x<;>rfl
 cases op with
 |call c=>
  obtain ⟨callee,args,ts⟩:=c;cases callee with
  |builtin b=>
   cases b<;>simp [isApp] at h;simp only [jJ,pO];split
   ·rename_i h1 _ _;cases h1
   ·simp only [zP,he];split
    ·split
     ·split
      ·split<;>rfl
      ·cases eZ _ st.own with
       |none=>rfl
       |some p=>obtain ⟨e',dZ⟩:=p;simp only;split<;>rfl
      ·rfl
     ·rfl
    ·rfl
   ·rename_i h1 _ _;cases h1
   ·rename_i h1 _;cases h1
   ·rename_i h1 _;cases h1
   ·rfl
  |_=>simp [isApp] at h
 |_=>simp [isApp] at h
theorem c0G {k:Nat}{cs:List DV}(h:∀c∈cs,mentions k c=false):qB k (a7R cs)=true:=by
 unfold a7R;split
 ·rfl
 ·simp only [qB,d6Z,Bool.not_eq_true'];exact h
theorem pR {o:Oper}(h:eD o=true):∃d,o.dst=some d∧((∃cs:aY,(∀k,qB k cs=true)∧∀st:St,jJ P G o st=some ⟨.ptr d 0,.no,eM st d cs⟩)∨∀st:St,jJ P G o st=none):=by
 obtain ⟨dst,op,ty,pos,after,guard⟩:=o;cases op with
 |alloc e=>
  cases dst with
  |none=>simp [eD] at h
  |some d=>
   refine ⟨d,rfl,?_⟩;simp only [jJ,a5z];cases hz:gY P e with
   |some cs=>
    simp only;by_cases hd:d<100000
    ·simp only [hd,if_true];exact .inl ⟨.cells (cs.map .d),fun k=>by simp only [qB,d6Z,Bool.not_eq_true'];intro c hc;obtain ⟨y,_,rfl⟩:=List.mem_map.1 hc;rfl,fun _=>rfl⟩
    ·simp only [hd,if_false];exact .inr fun _=>trivial
   |none=>
    simp only;cases hc:b4v P e with
    |some cs=>
     simp only;by_cases hd:d<100000
     ·simp only [hd,if_true];exact .inl ⟨a7R cs,fun k=>c0G (b7D hc),fun _=>rfl⟩
     ·simp only [hd,if_false];exact .inr fun _=>trivial
    |none=>exact .inr fun _=>rfl
 |_=>simp [eD] at h
theorem a1j {α:Type}{f:α→α}:∀ {l:List α},(∀x∈l,f x=x)→l.map f=l
 |[],_=>rfl
 |x::r,h=>by rw [List.map_cons,h x (.head _),a1j fun y hy=>h y (.tail _ hy)]
theorem bK {k:Nat}{o:aY}(h:cC k st=true):eM st k o={ st with H:=cE k o st.H }:=by
 obtain ⟨h1,h2,h3⟩:=jV h;unfold eM;have e1:st.tmps.map (jK k)=st.tmps:=a1j fun v hv=>by unfold jK;rw [h1 v hv,if_neg (by simp)]
 have e2:(st.H.map fun p=>(p.1,xH k p.2))=st.H:=a1j fun p hp=>by
  obtain ⟨a,b⟩:=p;have:=(h2 _ hp).2;cases b with
  |cells cs=>simp only [qB,d6Z,Bool.not_eq_true'] at this;simp only [xH];rw [a1j fun v hv=>by unfold jK;rw [this v hv,if_neg (by simp)]]
  |_=>rfl
 have e3:dropKey k st.own=st.own:=a1j fun c hc=>by obtain ⟨a,b⟩:=c;simp only;rw [List.filter_eq_self.2 fun l hl=>by simp [h3 _ hc l hl]]
 rw [e1,e2,e3]
theorem a6y {k:Nat}{o:aY}:∀ {H:List (Nat×aY)} {p:Nat×aY},p∈wC k o H→p=(k,o)∨p∈H
 |(k',o')::r,p,h=>by
  unfold wC at h;split at h
  ·rcases List.mem_cons.1 h with h|h
   ·exact .inl h
   ·exact .inr (.tail _ h)
  ·rcases List.mem_cons.1 h with h|h
   ·exact .inr (h▸ .head _)
   ·rcases a6y h with h|h
    ·exact .inl h
    ·exact .inr (.tail _ h)
theorem a6z {k:Nat}{o:aY}:∀ {H:List (Nat×aY)} {p:Nat×aY},p∈jO k o H→p=(k,o)∨p∈H
 |[],p,h=>by simp [jO] at h;exact .inl h
 |(k',o')::r,p,h=>by
  unfold jO at h;split at h
  ·rcases List.mem_cons.1 h with h|h
   ·exact .inl h
   ·exact .inr h
  ·rcases List.mem_cons.1 h with h|h
   ·exact .inr (h▸ .head _)
   ·rcases a6z h with h|h
    ·exact .inl h
    ·exact .inr (.tail _ h)
theorem a1k {k:Nat}{o:aY}{H:List (Nat×aY)}{p:Nat×aY}(h:p∈cE k o H):p=(k,o)∨p∈H:=by
 unfold cE at h;split at h
 ·exact a6y h
 ·exact a6z h
theorem a1l {k d:Nat}{cs:aY}(hd:d≠k)(hc:qB k cs=true)(h:cC k st=true):cC k (eM st d cs)=true:=by
 obtain ⟨h1,h2,h3⟩:=jV h;have kill:∀v:DV,mentions k v=false→mentions k (jK d v)=false:=fun v hv=>by
  unfold jK;split
  ·rfl
  ·exact hv
 refine wM (fun v hv=>?_) (fun p hp=>?_) fun c hcc l hl=>?_
 ·obtain ⟨u,hu,rfl⟩:=List.mem_map.1 hv;exact kill u (h1 u hu)
 ·rcases a1k hp with rfl|hp
  ·exact ⟨hd,hc⟩
  ·obtain ⟨q,hq,rfl⟩:=List.mem_map.1 hp;obtain ⟨q1,q2⟩:=h2 q hq;refine ⟨q1,?_⟩;cases hq2:q.2 with
   |cells c0=>rw [hq2] at q2;simp only [qB,xH,d6Z,Bool.not_eq_true'] at q2 ⊢;intro v hv;obtain ⟨u,hu,rfl⟩:=List.mem_map.1 hv;exact kill u (q2 u hu)
   |_=>rfl
 ·obtain ⟨c0,hc0,rfl⟩:=List.mem_map.1 hcc;exact h3 c0 hc0 l (List.mem_filter.1 hl).1
theorem b2T (k:Nat)(x:Loc)(own:List (TypeId×List Loc)):dropKey k (cH x own)=cH x (dropKey k own):=by
 simp only [dropKey,cH,List.map_map];refine List.map_congr_left fun c _=>?_
 simp only [Function.comp,List.filter_filter,Bool.and_comm]
theorem a4o {o:Oper}(h:a7j o=true):o.dst=none∧∃t a x,o.op= .store t a x:=by
 obtain ⟨dst,op,ty,pos,after,guard⟩:=o;cases op with
 |store t a x=>
  cases dst with
  |none=>exact ⟨rfl,t,a,x,rfl⟩
  |some d=>simp [a7j] at h
 |_=>simp [a7j] at h
theorem c2P {o:Oper}(h:a7j o=true)(ho:jJ P G o st=some out):out.v= .cM []∧out.act= .no∧out.st.tmps=st.tmps:=by
 obtain ⟨_,t,a,x,hop⟩:=a4o h;simp only [jJ,hop,oR] at ho;split at ho
 ·split at ho
  ·split at ho
   ·simp only [d7c] at ho;subst ho;exact ⟨rfl,rfl,rfl⟩
   ·cases ho
  ·cases ho
 ·cases ho
theorem b1A {all:Array Oper}{o:Oper}(h:a7j o=true){dst:Option Tmp}{d:DV}(hl:∀t,dst=some t→t ∉ o.looksAt all):jJ P G o (finish st dst d .no)=(jJ P G o st).map fun out=>⟨out.v,out.act,finish out.st dst d .no⟩:=by
 have he:=a3z (G:=G) (st:=st) (d:=d) (act:= .no) hl;obtain ⟨_,t,a,x,hop⟩:=a4o h;have ha:=he a (by simp [hop,Op.operands]);have hx:=he x (by simp [hop,Op.operands]);have hxl:∀u s,dst=some u→rF x= .al (.t s)→s≠u:=fun u s hu hs e=>by
  cases x with
  |tmp j=>simp only [rF,OA.al.injEq,Loc.t.injEq] at hs;exact hl u hu (by rw [← e, ← hs];exact List.mem_append_left _ (List.mem_filterMap.2 ⟨.tmp j,by simp [hop,Op.operands],rfl⟩))
  |_=>cases hs
 simp only [jJ,hop,oR,ha,hx,a1g];split
 ·rename_i k off ys _ _;split
  ·split
   ·simp only [Option.map_some,d7c,Out.mk.injEq,true_and];cases dst with
    |none=>rfl
    |some u=>
     simp only [finish,St.mk.injEq,true_and];split
     ·rcases xM (st.eval G x) (rF x) with h1|h1
      ·rw [h1];exact (oC _ _ _)
      ·rw [h1];cases hx':rF x with
       |no=>exact (oC _ _ _)
       |al l=>
        cases x with
        |tmp j=>
         simp only [rF,OA.al.injEq] at hx';subst hx';have hju:(Loc.t j)≠ .t u:=fun e=>hxl u j rfl rfl (by cases e;rfl)
         simp only [dY];rw [if_neg (by simp),if_neg (by simp),oC,a8f hju (by simp)]
        |_=>cases hx'
       |fresh e=>cases x<;>cases hx'
     ·exact b2T _ _ _
   ·rfl
  ·rfl
 ·rfl
theorem c2Q {o:Oper}(hq:a3x o.op=true){st':St}(he:∀x∈o.op.operands,st'.eval G x=st.eval G x):jJ P G o st'=(jJ P G o st).map fun out=>⟨out.v,out.act,st'⟩:=by
 obtain ⟨dst,op,ty,pos,after,guard⟩:=o;have bnd:∀(x:Option Operand) (d n:Nat),(∀y,x=some y→st'.eval G y=st.eval G y)→eU G st' x d n=eU G st x d n:=fun x d n hx=>by
  cases x with
  |none=>rfl
  |some y=>simp only [eU,hx y rfl]
 cases op<;>simp only [a3x] at hq<;>try cases hq
 all_goals simp only [Op.operands] at he
 case move x=>simp [jJ,yX,he]
 case assign x=>simp [jJ,yX,he]
 case pick c a b=>simp only [jJ,a7S,he c (by simp),he a (by simp),he b (by simp)];split<;>rfl
 case nilCheck x=>simp only [jJ,rP,he x (by simp)];split<;>rfl
 case binOp op t x y u=>
  simp only [jJ,a7T,wE,b7m,he x (by simp),he y (by simp)];split
  ·split<;>rfl
  ·split
   ·simp [Option.map_map,Function.comp_def]
   ·rfl
 case unOp op t x=>
  simp only [jJ,vUn,he x (by simp)];split
  ·simp [Option.map_map,Function.comp_def]
  ·rfl
 case convert src dst x=>
  simp only [jJ,a7U,he x (by simp)];split
  ·simp [Option.map_map,Function.comp_def]
  ·rfl
 case extract x i=>
  simp only [jJ,wG,he x (by simp)];split
  ·simp [Option.map_map,Function.comp_def]
  ·rfl
 case field t x i=>
  simp only [jJ,a3p,he x (by simp)];split
  ·simp [Option.map_map,Function.comp_def]
  ·rfl
 case index t x i=>
  simp only [jJ,a3q,he x (by simp),he i (by simp)];split
  ·simp [Option.map_bind,Option.map_map,Function.comp_def]
  ·simp [Option.map_bind,Option.map_map,Function.comp_def]
  ·rfl
 case indexAddr t x i=>
  simp only [jJ,pM,he x (by simp),he i (by simp)];split
  ·rw [Option.map_bind];congr 1;funext j;simp only [Function.comp];rw [Option.map_bind];congr 1;funext cs;simp only [Function.comp];split<;>rfl
  ·split
   ·rfl
   ·simp [Option.map_map,Function.comp_def]
  ·split
   ·rfl
   ·simp [Option.map_map,Function.comp_def]
  ·rfl
 case fieldAddr t x i=>
  simp only [jJ,pN,he x (by simp)];split
  ·split
   ·rfl
   ·split<;>rfl
  ·rfl
 case slice t x lo hi mx=>
  have rY:∀y,lo=some y→st'.eval G y=st.eval G y:=fun y hy=>he y (by simp [hy])
  have hhi:∀y,hi=some y→st'.eval G y=st.eval G y:=fun y hy=>he y (by simp [hy])
  have hmx:∀y,mx=some y→st'.eval G y=st.eval G y:=fun y hy=>he y (by simp [hy])
  simp only [jJ,a3r,he x (by simp),bnd lo _ _ rY,bnd hi _ _ hhi];split
  ·simp [Option.map_bind,Option.map_map,Function.comp_def]
  ·split
   ·simp [Option.map_bind,Option.map_map,Function.comp_def]
   ·rfl
  ·split
   ·simp [Option.map_bind,Option.map_map,Function.comp_def]
   ·rfl
  ·rw [bnd (some _) _ _ fun y hy=>hmx y hy];split<;>rfl
  ·rw [bnd (some _) _ _ fun y hy=>hmx y hy];split<;>rfl
  ·rfl
theorem kI {o:Oper}(h:a3x o.op=true):cT o.op=true∧cX G o st=none∧gG G o st=none:=by obtain ⟨dst,op,ty,pos,after,guard⟩:=o;cases op<;>simp only [a3x] at h<;>first|exact ⟨rfl,rfl,rfl⟩|cases h
theorem QY.pure {all:Array Oper}{o:Oper}{d:DV}{ac:OA}{st':St}(h:QY P G all o d ac st)(hq:a3x o.op=true)(ht:st'.tmps=st.tmps):QY P G all o d ac st':=by
 have he:∀x:Operand,st'.eval G x=st.eval G x:=fun x=>by cases x<;>simp [St.eval,ht]
 obtain ⟨_,h1,h2⟩:=kI (G:=G) (st:=st) hq;obtain ⟨_,h1',h2'⟩:=kI (G:=G) (st:=st') hq;rcases h with ⟨hw,⟨f,ds,own,hc,_⟩|⟨hc,hch,ho⟩|⟨hc,f,d6U,ks,hch,_⟩⟩|⟨hw,h3⟩
 ·rw [h2] at hc;cases hc
 ·exact .inl ⟨by rw [ht];exact hw,.inr (.inl ⟨h2',h1',by rw [c2Q hq (fun x _=>he x),ho];rfl⟩)⟩
 ·rw [h1] at hch;cases hch
 ·exact .inr ⟨by rw [ht];exact hw,h3⟩
theorem a8j {o:Oper}{k:Nat}{t:TypeId}{ad x:Operand}(ho:o.op= .store t ad x)(hf:cC k st=true)(h:jJ P G o st=some out):cC k out.st=true∧mentions k out.v=false:=by
 obtain ⟨h1,h2,h3⟩:=jV hf;simp only [jJ,ho,oR] at h;split at h
 ·rename_i key off ys ha hx;have hne:key≠k:=fun e=>by have:=qC (G:=G) hf ad;rw [ha] at this;simp only [mentions,beq_eq_false_iff_ne,ne_eq] at this;exact this e
  split at h
  ·rename_i cs hk;split at h
   ·simp only [d7c] at h;subst h;refine ⟨wM h1 (fun p hp=>?_) fun c hc l hl=>?_,rfl⟩
    ·rcases a1k hp with rfl|hp
     ·refine ⟨hne,?_⟩;simp only [qB,d6Z,Bool.not_eq_true'];exact b1z (fun c hc=>b4R hf hk c hc) (a6v (qC hf x) hx)
     ·exact h2 p hp
    ·simp only at hc;have drop:∀c∈cH (.c key off) st.own,∀l∈c.2,l.uA k=false:=fun c hc l hl=>by obtain ⟨c0,hc0,rfl⟩:=List.mem_map.1 hc;exact h3 c0 hc0 l (List.mem_filter.1 hl).1
     have hkk:(Loc.c key off).uA k=false:=by simp [Loc.uA,hne]
     split at hc
     ·generalize pK (st.eval G x) (rF x)=act at hc;cases act with
      |no=>exact drop c hc l hl
      |al l0=>
       simp only [dY] at hc;split at hc
       ·exact h3 c hc l hl
       ·unfold addAlias at hc;obtain ⟨c0,hc0,rfl⟩:=List.mem_map.1 hc;split at hl
        ·rcases List.mem_cons.1 hl with rfl|hl
         ·exact hkk
         ·exact drop c0 hc0 l hl
        ·exact drop c0 hc0 l hl
      |fresh e=>
       simp only [dY] at hc;rcases List.mem_cons.1 hc with rfl|hc
       ·simp only [d7d] at hl;subst hl;exact hkk
       ·exact drop c hc l hl
     ·obtain ⟨c0,hc0,rfl⟩:=List.mem_map.1 hc;exact h3 c0 hc0 l (List.mem_filter.1 hl).1
   ·cases h
  ·cases h
 ·cases h
theorem qV {all:Array Oper}{o:Oper}{s:St}{k:Nat}(h:Eff P G all o st s)(hf:cC k st=true)(hn:eD o=true→o.dst≠some k):cC k s=true:=by
 rcases h with ⟨hq,d,act,hy,rfl⟩|⟨hs,⟨hw,out,ho,rfl⟩|⟨hw,rfl⟩⟩
 ·exact bX hf (hy.free hq hf)
 ·cases ha:isApp o with
  |true=>
   obtain ⟨_,⟨es,hv⟩,dZ,hst,hsub⟩:=uF ha ho;obtain ⟨h1,h2,h3⟩:=jV hf;refine bX ?_ (by rw [hv];rfl)
   rw [hst];exact wM h1 h2 fun c hc=>h3 c (hsub c hc)
  |false=>
   cases hs2:eD o with
   |true=>
    obtain ⟨d,hd,⟨cs,hcs,hv⟩|hv⟩:=pR (P:=P) (G:=G) hs2
    ·rw [hv] at ho;cases ho;have hdk:d≠k:=fun e=>hn hs2 (e▸hd)
     exact bX (a1l hdk (hcs k) hf) (by simp [mentions,hdk])
    ·rw [hv] at ho;cases ho
   |false=>
    have hst:a7j o=true:=by simpa [mC,ha,hs2] using hs
    obtain ⟨_,t,a,x,hop⟩:=a4o hst;obtain ⟨h1,h2⟩:=a8j hop hf ho;exact bX h1 h2
 ·exact bX hf rfl
theorem vY {H:List (Nat×aY)}(x:Operand):({ st with H:=H }:St).eval G x=st.eval G x:=by cases x<;>rfl
theorem a6A {own:List (TypeId×List Loc)}(x:Operand):({ st with own:=own }:St).eval G x=st.eval G x:=by cases x<;>rfl
theorem b1B {ops:Array Oper}{o:Oper}(h:eD o=true):qO ops o=false:=by
 obtain ⟨dst,op,ty,pos,after,guard⟩:=o;cases op with
 |alloc e=>cases guard<;>cases dst<;>rfl
 |_=>simp [eD] at h
theorem a4p {ops:Array Oper}{x y:Oper}{s1 s12:St}(hap:x.apart ops y=true)(hp:oB ops x y=true)(fx:eD x=true→∀d,x.dst=some d→cC d st=true)(fy:eD y=true→∀d,y.dst=some d→cC d st=true)(h1:Eff P G ops x st s1)(h2:Eff P G ops y s1 s12):∃s2,Eff P G ops y st s2∧Eff P G ops x s2 s12:=by
 obtain ⟨a1,a2,a3⟩:=Oper.apart_spec hap;have a2':∀t,y.dst=some t→x.dst≠some t:=fun t ht he=>a2 t he ht
 unfold oB at hp;simp only [d7i,d6W,Bool.not_eq_true'] at hp;have noq:∀ {o:Oper} {a:OA},qO ops o=false→a2G ops o a= .no:=fun hn=>by unfold a2G;rw [hn];rfl
 rcases hp with ((((((⟨⟨hqx,hqy⟩,hnn⟩|⟨⟨hqx,hsy⟩,hnx⟩)|⟨⟨⟨hsx,hqy⟩,hny⟩,hcy⟩)|⟨hqx,hnewy⟩)|⟨⟨hnewx,hqy⟩,hcy⟩)|⟨⟨hsx,hsy⟩,hnn⟩)|⟨⟨hpx,hnx⟩,hsy⟩)|⟨⟨hsx,hpy⟩,hny⟩
 ·
  rcases h1 with ⟨_,d,ax,hx,rfl⟩|⟨hs,_⟩
  ·rcases h2 with ⟨_,e,ay,hy,rfl⟩|⟨hs,_⟩
   ·have hy':=(QY.finish hqy a1).1 hy;refine ⟨_,.inl ⟨hqy,e,ay,hy',rfl⟩,.inl ⟨hqx,d,ax,(QY.finish hqx a3).2 hx,?_⟩⟩;exact uE a2 a1 a3 hnn hx.act hy'.act
   ·rw [(gE (G:=G) (st:=st) hs).2.2.1] at hqy;cases hqy
  ·rw [(gE (G:=G) (st:=st) hs).2.2.1] at hqx;cases hqx
 ·
  have hsy':(isApp y||eD y)=true:=by simp [hsy]
  rcases h1 with ⟨_,d,ax,hx,rfl⟩|⟨hs,_⟩
  ·rw [noq hnx] at h2;rcases h2 with ⟨hq,_⟩|⟨_,⟨hw,out,ho,rfl⟩|⟨hw,rfl⟩⟩
   ·rw [(gE (G:=G) (st:=st) (eJ hsy')).2.2.1] at hq;cases hq
   ·rw [aZ a1] at hw;cases ha:isApp y with
    |true=>
     rw [sY ha a1] at ho;obtain ⟨out0,ho0,rfl⟩:=d6V.1 ho;obtain ⟨⟨e,hact⟩,_,dZ,hst,hsub⟩:=uF ha ho0;refine ⟨_,.inr ⟨eJ hsy',.inl ⟨hw,out0,ho0,rfl⟩⟩,.inl ⟨hqx,d,ax,?_,?_⟩⟩
     ·refine (QY.finish hqx a3).2 ?_
      rw [hst];refine QY.to hx hqx rfl (fun z _=>a6A z) (fun _ _ _ _=>rfl) (fun _ _ _ h=>h) (fun _ ks _ hno=>?_);exact d6Z.2 fun c hc=>d6Z.1 hno c (hsub c hc)
     ·simp only;rw [noq hnx,hact,eB a2 (.inr ⟨e,rfl⟩)]
    |false=>
     have hny:eD y=true:=by simpa [ha] using hsy'
     obtain ⟨k,hk,⟨cs,hcs,hv⟩|hv⟩:=pR (P:=P) (G:=G) hny
     ·have hf:=fy hny k hk;have hfd:=hx.free hqx hf;have hf1:cC k (finish st x.dst d .no)=true:=bX hf hfd;rw [hv] at ho;cases ho;rw [bK hf1];refine ⟨_,.inr ⟨eJ hsy',.inl ⟨hw,_,hv st,rfl⟩⟩,.inl ⟨hqx,d,ax,?_,?_⟩⟩
      ·refine (QY.finish hqx a3).2 ?_
       simp only;rw [bK hf];refine QY.to hx hqx rfl (fun z _=>vY z) (fun z _ k' hm=>?_) (fun _ k' ob hkk=>?_) (fun _ ks _ hno=>hno)
       ·have:k≠k':=fun e=>by subst e;rw [qC hf z] at hm;cases hm
        exact hZ _ this _
       ·have:k≠k':=fun e=>by subst e;rw [vK hf] at hkk;cases hkk
        rw [hZ _ this];exact hkk
      ·simp only;rw [noq hnx,bK hf, ← eB a2 (.inl rfl)];congr 1;cases x.dst<;>rfl
     ·rw [hv] at ho;cases ho
   ·rw [aZ a1] at hw;refine ⟨_,.inr ⟨eJ hsy',.inr ⟨hw,rfl⟩⟩,.inl ⟨hqx,d,ax,(QY.finish hqx a3).2 hx,?_⟩⟩;rw [noq hnx,eB a2 (.inl rfl)]
  ·rw [(gE (G:=G) (st:=st) hs).2.2.1] at hqx;cases hqx
 ·
  have hsx':(isApp x||eD x)=true:=by simp [hsx]
  rcases h2 with ⟨_,e,ay,hy,rfl⟩|⟨hs,_⟩
  ·rcases h1 with ⟨hq,_⟩|⟨_,⟨hw,out,ho,rfl⟩|⟨hw,rfl⟩⟩
   ·rw [(gE (G:=G) (st:=st) (eJ hsx')).2.2.1] at hq;cases hq
   ·cases ha:isApp x with
    |true=>
     obtain ⟨⟨k,hact⟩,_,dZ,hst,hsub⟩:=uF ha ho;have hy':QY P G ops y e ay st:=by have h3:=(QY.finish hqy a1).1 hy;rw [hst] at h3;exact h3.to hqy rfl (fun z _=>(a6A z).symm) (fun _ _ _ _=>rfl) (fun _ _ _ h=>h) fun hc=>by rw [hcy] at hc;cases hc
     refine ⟨_,.inl ⟨hqy,e,ay,hy',rfl⟩,.inr ⟨eJ hsx',.inl ⟨by rw [aZ a3];exact hw,⟨out.v,out.act,finish out.st y.dst e .no⟩,?_,?_⟩⟩⟩
     ·rw [noq hny,sY ha a3,ho];rfl
     ·simp only;rw [noq hny,hact,eB a2' (.inr ⟨k,rfl⟩)]
    |false=>
     have hnx:eD x=true:=by simpa [ha] using hsx'
     obtain ⟨k,hk,⟨cs,hcs,hv⟩|hv⟩:=pR (P:=P) (G:=G) hnx
     ·have hf:=fx hnx k hk;rw [hv] at ho;cases ho;have hy':QY P G ops y e ay st:=by
       have h3:=(QY.finish hqy a1).1 hy;simp only at h3;rw [bK hf] at h3;refine h3.to hqy rfl (fun z _=>(vY z).symm) (fun z _ k' hm=>?_) (fun hc=>by rw [hcy] at hc;cases hc) fun hc=>by rw [hcy] at hc;cases hc
       rw [vY] at hm;have:k≠k':=fun e=>by subst e;rw [qC hf z] at hm;cases hm
       exact (hZ _ this _).symm
      have hf2:cC k (finish st y.dst e .no)=true:=bX hf (hy'.free hqy hf);refine ⟨_,.inl ⟨hqy,e,ay,hy',rfl⟩,.inr ⟨eJ hsx',.inl ⟨by rw [aZ a3];exact hw,_,hv _,?_⟩⟩⟩;simp only;rw [noq hny,bK hf,bK hf2,eB a2 (.inl rfl)];cases y.dst<;>rfl
     ·rw [hv] at ho;cases ho
   ·have hy':=(QY.finish hqy a1).1 hy;refine ⟨_,.inl ⟨hqy,e,ay,hy',rfl⟩,.inr ⟨eJ hsx',.inr ⟨by rw [aZ a3];exact hw,?_⟩⟩⟩;rw [noq hny,eB a2' (.inl rfl)]
  ·rw [(gE (G:=G) (st:=st) hs).2.2.1] at hqy;cases hqy
 ·
  have hss:mC y=true:=eJ (by simp [hnewy]);have hnoy:qO ops y=false:=b1B hnewy;rcases h1 with ⟨_,d,ax,hx,rfl⟩|⟨hs,_⟩
  ·rcases h2 with ⟨hq,_⟩|⟨_,⟨hw,out,ho,rfl⟩|⟨hw,rfl⟩⟩
   ·rw [(gE (G:=G) (st:=st) hss).2.2.1] at hq;cases hq
   ·rw [aZ a1] at hw;obtain ⟨k,hk,⟨cs,hcs,hv⟩|hv⟩:=pR (P:=P) (G:=G) hnewy
    ·have hf:=fy hnewy k hk;have hfd:=hx.free hqx hf;have hf1:cC k (finish st x.dst d (a2G ops x ax))=true:=bX hf hfd;rw [hv] at ho;cases ho;rw [bK hf1];refine ⟨_,.inr ⟨hss,.inl ⟨hw,_,hv st,rfl⟩⟩,.inl ⟨hqx,d,ax,?_,?_⟩⟩
     ·refine (QY.finish hqx a3).2 ?_
      simp only;rw [bK hf];refine QY.to hx hqx rfl (fun z _=>vY z) (fun z _ k' hm=>?_) (fun _ k' ob hkk=>?_) (fun _ ks _ hno=>hno)
      ·have:k≠k':=fun e=>by subst e;rw [qC hf z] at hm;cases hm
       exact hZ _ this _
      ·have:k≠k':=fun e=>by subst e;rw [vK hf] at hkk;cases hkk
       rw [hZ _ this];exact hkk
     ·simp only;rw [bK hf, ← uE a2 a1 a3 (by rw [hnoy,Bool.and_false]) hx.act (.inl rfl)];congr 1;cases x.dst<;>rfl
    ·rw [hv] at ho;cases ho
   ·rw [aZ a1] at hw;refine ⟨_,.inr ⟨hss,.inr ⟨hw,rfl⟩⟩,.inl ⟨hqx,d,ax,(QY.finish hqx a3).2 hx,?_⟩⟩;exact uE a2 a1 a3 (by rw [hnoy,Bool.and_false]) hx.act (.inl rfl)
  ·rw [(gE (G:=G) (st:=st) hs).2.2.1] at hqx;cases hqx
 ·
  have hss:mC x=true:=eJ (by simp [hnewx]);have hnox:qO ops x=false:=b1B hnewx;rcases h2 with ⟨_,e,ay,hy,rfl⟩|⟨hs,_⟩
  ·rcases h1 with ⟨hq,_⟩|⟨_,⟨hw,out,ho,rfl⟩|⟨hw,rfl⟩⟩
   ·rw [(gE (G:=G) (st:=st) hss).2.2.1] at hq;cases hq
   ·obtain ⟨k,hk,⟨cs,hcs,hv⟩|hv⟩:=pR (P:=P) (G:=G) hnewx
    ·have hf:=fx hnewx k hk;rw [hv] at ho;cases ho;have hy':QY P G ops y e ay st:=by
      have h3:=(QY.finish hqy a1).1 hy;simp only at h3;rw [bK hf] at h3;refine QY.to h3 hqy rfl (fun z _=>(vY z).symm) (fun z _ k' hm=>?_) (fun hc=>by rw [hcy] at hc;cases hc) (fun hc=>by rw [hcy] at hc;cases hc);rw [vY] at hm;have:k≠k':=fun e=>by subst e;rw [qC hf z] at hm;cases hm
      exact (hZ _ this _).symm
     have hf2:cC k (finish st y.dst e (a2G ops y ay))=true:=bX hf (hy'.free hqy hf);refine ⟨_,.inl ⟨hqy,e,ay,hy',rfl⟩,.inr ⟨hss,.inl ⟨by rw [aZ a3];exact hw,_,hv _,?_⟩⟩⟩;simp only;rw [bK hf,bK hf2,uE a2 a1 a3 (by rw [hnox,Bool.false_and]) (.inl rfl) hy'.act];cases y.dst<;>rfl
    ·rw [hv] at ho;cases ho
   ·have hy':=(QY.finish hqy a1).1 hy;refine ⟨_,.inl ⟨hqy,e,ay,hy',rfl⟩,.inr ⟨hss,.inr ⟨by rw [aZ a3];exact hw,?_⟩⟩⟩;exact uE a2 a1 a3 (by rw [hnox,Bool.false_and]) (.inl rfl) hy'.act
  ·rw [(gE (G:=G) (st:=st) hs).2.2.1] at hqy;cases hqy
 ·
  have hsx':(isApp x||eD x)=true:=by simpa using hsx
  have hsy':(isApp y||eD y)=true:=by simpa using hsy
  have nq:∀ {o:Oper},(isApp o||eD o)=true→ ¬cT o.op=true:=fun h=>by rw [(gE (G:=G) (st:=st) (eJ h)).2.2.1];simp
  have na:∀ {o:Oper},eD o=true→isApp o=false:=fun {o} h=>by obtain ⟨dst,op,ty,pos,after,guard⟩:=o;cases op<;>first|rfl|(simp [eD] at h)
  rcases h1 with ⟨hq,_⟩|⟨_,⟨hwx,out,ho,rfl⟩|⟨hwx,rfl⟩⟩
  ·exact absurd hq (nq hsx')
  ·
   rcases h2 with ⟨hq,_⟩|⟨_,⟨hw,out2,ho2,rfl⟩|⟨hw,rfl⟩⟩
   ·exact absurd hq (nq hsy')
   ·cases hx:eD x with
    |true=>
     obtain ⟨k,hk,⟨cs,hcs,hv⟩|hv⟩:=pR (P:=P) (G:=G) hx
     ·have hf:=fx hx k hk;rw [hv] at ho;cases ho;rw [bK hf] at hw ho2;rw [aZ a1] at hw;cases hy:eD y with
      |true=>
       obtain ⟨k2,hk2,⟨cs2,hcs2,hv2⟩|hv2⟩:=pR (P:=P) (G:=G) hy
       ·have hf2:=fy hy k2 hk2;have hne:k≠k2:=fun e=>a2 k hk (e▸hk2)
        have hm:mentions k2 (.ptr k 0)=false:=by simp [mentions,hne]
        have hm2:mentions k (.ptr k2 0)=false:=by simp [mentions,Ne.symm hne]
        have g1:cC k2 (finish { st with H:=cE k cs st.H } x.dst (.ptr k 0) .no)=true:=bX (by have:=a1l hne (hcs k2) hf2;rwa [bK hf] at this) hm;have g2:cC k (finish { st with H:=cE k2 cs2 st.H } y.dst (.ptr k2 0) .no)=true:=bX (by have:=a1l (Ne.symm hne) (hcs2 k) hf;rwa [bK hf2] at this) hm2;rw [hv2] at ho2;cases ho2;refine ⟨_,.inr ⟨eJ hsy',.inl ⟨hw,_,hv2 st,rfl⟩⟩,.inr ⟨eJ hsx',.inl ⟨by simp only;rw [aZ a3,bK hf2];exact hwx,_,hv _,?_⟩⟩⟩;simp only;rw [bK hf2,bK g1,bK g2];have e1:({ finish { st with H:=cE k cs st.H } x.dst (.ptr k 0) .no with H:=cE k2 cs2 (finish { st with H:=cE k cs st.H } x.dst (.ptr k 0) .no).H }:St)=finish { st with H:=cE k2 cs2 (cE k cs st.H) } x.dst (.ptr k 0) .no:=by cases x.dst<;>rfl
        have e2:({ finish { st with H:=cE k2 cs2 st.H } y.dst (.ptr k2 0) .no with H:=cE k cs (finish { st with H:=cE k2 cs2 st.H } y.dst (.ptr k2 0) .no).H }:St)=finish { st with H:=cE k cs (cE k2 cs2 st.H) } y.dst (.ptr k2 0) .no:=by cases y.dst<;>rfl
        rw [e1,e2,b4z hne _ _ (vK hf) (vK hf2)];exact eB a2 (.inl rfl)
       ·rw [hv2] at ho2;cases ho2
      |false=>
       have hay:isApp y=true:=by simpa [hy] using hsy'
       rw [sY hay a1,b4U hay] at ho2;obtain ⟨o1,ho1,rfl⟩:=d6V.1 ho2;obtain ⟨o0,ho0,rfl⟩:=d6V.1 ho1;obtain ⟨⟨e,hact⟩,_,dZ,hst,hsub⟩:=uF hay ho0;have heff:Eff P G ops y st (finish o0.st y.dst o0.v o0.act):= .inr ⟨eJ hsy',.inl ⟨hw,o0,ho0,rfl⟩⟩;have g2:cC k (finish o0.st y.dst o0.v o0.act)=true:=qV heff hf fun h=>by rw [hy] at h;cases h
       refine ⟨_,.inr ⟨eJ hsy',.inl ⟨hw,o0,ho0,rfl⟩⟩,.inr ⟨eJ hsx',.inl ⟨by rw [aZ a3,hst];exact hwx,_,hv _,?_⟩⟩⟩;simp only;rw [bK g2,hact,eB a2 (.inr ⟨e,rfl⟩),hst];cases y.dst<;>rfl
     ·rw [hv] at ho;cases ho
    |false=>
     have hax:isApp x=true:=by simpa [hx] using hsx'
     have hy:eD y=true:=by simpa [hx] using hnn
     obtain ⟨⟨e,hact⟩,⟨es,hvv⟩,dZ,hst,hsub⟩:=uF hax ho;obtain ⟨k2,hk2,⟨cs2,hcs2,hv2⟩|hv2⟩:=pR (P:=P) (G:=G) hy
     ·have hf2:=fy hy k2 hk2;have heff:Eff P G ops x st (finish out.st x.dst out.v out.act):= .inr ⟨eJ hsx',.inl ⟨hwx,out,ho,rfl⟩⟩;have g1:cC k2 (finish out.st x.dst out.v out.act)=true:=qV heff hf2 fun h=>by rw [hx] at h;cases h
      rw [aZ a1,hst] at hw;rw [hv2] at ho2;cases ho2;refine ⟨_,.inr ⟨eJ hsy',.inl ⟨hw,_,hv2 st,rfl⟩⟩,.inr ⟨eJ hsx',.inl ⟨by simp only;rw [aZ a3,bK hf2];exact hwx,⟨out.v,out.act,finish { out.st with H:=cE k2 cs2 out.st.H } y.dst (.ptr k2 0) .no⟩,?_,?_⟩⟩⟩
      ·simp only;rw [bK hf2,sY hax a3,b4U hax,ho];simp only [Option.map_some,hst]
      ·simp only;rw [bK g1,hact,eB a2' (.inr ⟨e,rfl⟩),hst];congr 1;cases x.dst<;>rfl
     ·rw [hv2] at ho2;cases ho2
   ·
    have hst:out.st.tmps.length=out.st.tmps.length:=rfl;have hwy:dU y ops st.tmps=some false:=by
     rw [aZ a1] at hw;cases hx:eD x with
     |true=>
      obtain ⟨k,hk,⟨cs,hcs,hv⟩|hv⟩:=pR (P:=P) (G:=G) hx
      ·rw [hv] at ho;cases ho;rw [bK (fx hx k hk)] at hw;exact hw
      ·rw [hv] at ho;cases ho
     |false=>obtain ⟨_,_,dZ,hst,_⟩:=uF (by simpa [hx] using hsx') ho;rw [hst] at hw;exact hw
    refine ⟨_,.inr ⟨eJ hsy',.inr ⟨hwy,rfl⟩⟩,.inr ⟨eJ hsx',.inl ⟨by rw [aZ a3];exact hwx,?_⟩⟩⟩;cases hx:eD x with
    |true=>
     obtain ⟨k,hk,⟨cs,hcs,hv⟩|hv⟩:=pR (P:=P) (G:=G) hx
     ·have hf:=fx hx k hk;have g2:cC k (finish st y.dst (.cM []) .no)=true:=bX hf rfl;rw [hv] at ho;cases ho;refine ⟨_,hv _,?_⟩;simp only;rw [bK hf,bK g2,eB a2 (.inl rfl)];cases y.dst<;>rfl
     ·rw [hv] at ho;cases ho
    |false=>
     have hax:isApp x=true:=by simpa [hx] using hsx'
     obtain ⟨⟨e,hact⟩,_,dZ,hst,hsub⟩:=uF hax ho;refine ⟨⟨out.v,out.act,finish out.st y.dst (.cM []) .no⟩,by rw [sY hax a3,ho];rfl,?_⟩;simp only;rw [hact,eB a2' (.inr ⟨e,rfl⟩)]
  ·
   rcases h2 with ⟨hq,_⟩|⟨_,⟨hw,out2,ho2,rfl⟩|⟨hw,rfl⟩⟩
   ·exact absurd hq (nq hsy')
   ·rw [aZ a1] at hw;cases hy:eD y with
    |true=>
     obtain ⟨k2,hk2,⟨cs2,hcs2,hv2⟩|hv2⟩:=pR (P:=P) (G:=G) hy
     ·have hf2:=fy hy k2 hk2;have g1:cC k2 (finish st x.dst (.cM []) .no)=true:=bX hf2 rfl;rw [hv2] at ho2;cases ho2;refine ⟨_,.inr ⟨eJ hsy',.inl ⟨hw,_,hv2 st,rfl⟩⟩,.inr ⟨eJ hsx',.inr ⟨by simp only;rw [aZ a3,bK hf2];exact hwx,?_⟩⟩⟩;simp only;rw [bK hf2,bK g1, ← eB a2 (.inl rfl)];congr 1;cases x.dst<;>rfl
     ·rw [hv2] at ho2;cases ho2
    |false=>
     have hay:isApp y=true:=by simpa [hy] using hsy'
     rw [sY hay a1] at ho2;obtain ⟨o0,ho0,rfl⟩:=d6V.1 ho2;obtain ⟨⟨e,hact⟩,_,dZ,hst,hsub⟩:=uF hay ho0;refine ⟨_,.inr ⟨eJ hsy',.inl ⟨hw,o0,ho0,rfl⟩⟩,.inr ⟨eJ hsx',.inr ⟨by rw [aZ a3,hst];exact hwx,?_⟩⟩⟩;simp only;rw [hact,eB a2 (.inr ⟨e,rfl⟩)]
   ·rw [aZ a1] at hw;refine ⟨_,.inr ⟨eJ hsy',.inr ⟨hw,rfl⟩⟩,.inr ⟨eJ hsx',.inr ⟨by rw [aZ a3];exact hwx,?_⟩⟩⟩;exact eB a2 (.inl rfl)
 ·
  obtain ⟨hqx,_,_⟩:=kI (G:=G) (st:=st) hpx;obtain ⟨hyd,_⟩:=a4o hsy;have hss:mC y=true:=by simp [mC,hsy]
  rcases h1 with ⟨_,d,ax,hx,rfl⟩|⟨hs,_⟩
  ·rw [noq hnx] at h2;rcases h2 with ⟨hq,_⟩|⟨_,⟨hw,out,ho,rfl⟩|⟨hw,rfl⟩⟩
   ·rw [(gE (G:=G) (st:=st) hss).2.2.1] at hq;cases hq
   ·rw [aZ a1] at hw;rw [b1A hsy a1] at ho;obtain ⟨o0,ho0,rfl⟩:=d6V.1 ho;obtain ⟨_,_,htm⟩:=c2P hsy ho0;refine ⟨_,.inr ⟨hss,.inl ⟨hw,o0,ho0,rfl⟩⟩,.inl ⟨hqx,d,ax,?_,?_⟩⟩
    ·rw [hyd];exact hx.pure hpx htm
    ·rw [hyd,noq hnx];rfl
   ·rw [aZ a1] at hw;refine ⟨_,.inr ⟨hss,.inr ⟨hw,rfl⟩⟩,.inl ⟨hqx,d,ax,?_,?_⟩⟩
    ·rw [hyd];exact hx
    ·rw [hyd,noq hnx];rfl
  ·rw [(gE (G:=G) (st:=st) hs).2.2.1] at hqx;cases hqx
 ·
  obtain ⟨hqy,_,_⟩:=kI (G:=G) (st:=st) hpy;obtain ⟨hxd,_⟩:=a4o hsx;have hss:mC x=true:=by simp [mC,hsx]
  rcases h2 with ⟨_,e,ay,hy,rfl⟩|⟨hs,_⟩
  ·rcases h1 with ⟨hq,_⟩|⟨_,⟨hw,out,ho,rfl⟩|⟨hw,rfl⟩⟩
   ·rw [(gE (G:=G) (st:=st) hss).2.2.1] at hq;cases hq
   ·obtain ⟨_,_,htm⟩:=c2P hsx ho;rw [hxd] at hy;have hy':QY P G ops y e ay st:=QY.pure (st:=out.st) hy hpy htm.symm;refine ⟨_,.inl ⟨hqy,e,ay,hy',rfl⟩,.inr ⟨hss,.inl ⟨by rw [aZ a3];exact hw,⟨out.v,out.act,finish out.st y.dst e .no⟩,?_,?_⟩⟩⟩
    ·rw [noq hny,b1A hsx a3,ho];rfl
    ·rw [hxd,noq hny];rfl
   ·rw [hxd] at hy;refine ⟨_,.inl ⟨hqy,e,ay,hy,rfl⟩,.inr ⟨hss,.inr ⟨by rw [aZ a3];exact hw,?_⟩⟩⟩;rw [hxd];rfl
  ·rw [(gE (G:=G) (st:=st) hs).2.2.1] at hqy;cases hqy
def oD (ops:Array Oper)(listed:Array Bool)(st:St):Prop:=∀(j:Nat) (oj:Oper) (d:Tmp),ops[j]? =some oj→eD oj=true→listed.getD j true=false→oj.dst=some d→cC d st=true
def mI (ops:Array Oper):Prop:=∀(i j:Nat) (oi oj:Oper) (d:Tmp),ops[i]? =some oi→ops[j]? =some oj→eD oi=true→eD oj=true→oi.dst=some d→oj.dst=some d→i=j
theorem qD {listed:Array Bool}{i j:Nat}(h:(listed.setIfInBounds i true).getD j true=false):i≠j∧listed.getD j true=false:=by
 by_cases hij:i=j
 ·subst hij;exfalso;rw [d6Y] at h;by_cases hl:i<listed.size
  ·simp [hl] at h
  ·rw [Array.getElem?_eq_none (by simpa using hl)] at h;cases h
 ·exact ⟨hij,by rwa [getD_set_ne true hij] at h⟩
theorem oD.step {ops:Array Oper}{listed:Array Bool}{s:St}{i:Nat}{oi:Oper}(hA:mI ops)(hi:ops[i]? =some oi)(hI:oD ops listed st)(hk:∀k,cC k st=true→(eD oi=true→oi.dst≠some k)→cC k s=true):oD ops (listed.setIfInBounds i true) s:=by intro j oj d hj hn hun hd;obtain ⟨hij,hun'⟩:=qD hun;exact hk d (hI j oj d hj hn hun' hd) fun hni he=>hij (hA i j oi oj d hi hj hni hn he hd)
theorem b7E {ops:Array Oper}{Q:St→Prop}{i:Nat}{oi:Oper}(hA:mI ops)(hi:ops[i]? =some oi)(hsi:(cT oi.op=true∧jU ops oi=false)∨mC oi=true):
  ∀(fuel:Nat) (listed:Array Bool) (st s:St),eI ops listed→
   (∀j oj,ops[j]? =some oj→j≠i→listed.getD j true=false→gD ops ops.size j i=false→oi.apart ops oj=true∧oB ops oi oj=true)→
   i∈Region.ready .any ops listed→oD ops listed st→Eff P G ops oi st s→
   a8g P G ops Q fuel (listed.setIfInBounds i true) s→a8g P G ops Q (fuel+1) listed st:=by
 intro fuel
 induction fuel with
 |zero=>
  intro listed st s _ _ hr _ hy H;refine ⟨fun h=>(by rw [h] at hr;cases hr),fun j hj=>?_⟩;by_cases hji:j=i
  ·subst hji;rw [hi];exact (dP hsi).2 ⟨s,hy,H⟩
  ·have:=ready_mono hj hji;rw [H.1] at this;cases this
 |succ fuel ih=>
  intro listed st s hcl hfree hr hI hy H;refine ⟨fun h=>(by rw [h] at hr;cases hr),fun j hj=>?_⟩;by_cases hji:j=i
  ·subst hji;rw [hi];exact (dP hsi).2 ⟨s,hy,H⟩
  ·have h1:=H.2 j (ready_mono hj hji);obtain ⟨hjun,oj,hoj,hall⟩:=mem_ready.1 hj;rw [hoj] at h1 ⊢;simp only at h1 ⊢;obtain ⟨hiun,oi',hoi',halli⟩:=mem_ready.1 hr;have hnot:gD ops ops.size j i=false:=cY hcl hiun _ _ fun o ho=>by rw [hoj] at ho;cases ho;exact hall
   obtain ⟨hap,hpo⟩:=hfree j oj hoj hji hjun hnot;have hsj:(cT oj.op=true∧jU ops oj=false)∨mC oj=true:=by
    by_cases hs:mC oj=true
    ·exact .inr hs
    ·refine .inl ⟨?_,?_⟩
     ·unfold oB at hpo;simp only [mC,d7i,d6W,Bool.not_eq_true'] at hpo hs;rcases hpo with ((((((h|h)|h)|h)|h)|h)|h)|h
      ·exact h.1.2
      ·exact absurd (.inl (.inl h.1.2)) hs
      ·exact h.1.1.2
      ·exact absurd (.inl (.inr h.2)) hs
      ·exact h.1.2
      ·exact absurd (.inl h.1.2) hs
      ·exact absurd (.inr h.2) hs
      ·exact (kI (G:=G) (st:=st) h.1.2).1
     ·cases hx:jU ops oj with
      |false=>rfl
      |true=>
       have hlt:i<ops.size:=(d7f.1 hi).1;rcases rI hx hoj hlt (fun e=>hji e.symm) with h'|h'
       ·have:=cY hcl hjun ops.size i fun o ho=>by rw [hoi'] at ho;cases ho;exact halli
        rw [h'] at this;cases this
       ·rw [hnot] at h';cases h'
   obtain ⟨s12,hu,hk⟩:=(dP hsj).1 h1;obtain ⟨s2,e1,e2⟩:=a4p hap hpo (fun hn d hd=>hI i oi d hi hn hiun hd) (fun hn d hd=>hI j oj d hoj hn hjun hd) hy hu;refine (dP hsj).2 ⟨s2,e1,?_⟩;refine ih (listed.setIfInBounds j true) s2 s12 (hcl.set hj) (fun k ok hk' hki hun hno=>?_) (ready_mono hr (Ne.symm hji)) (hI.step hA hoj fun k hf hn=>qV e1 hf hn) e2 ?_
   ·exact hfree k ok hk' hki (qD hun).2 hno
   ·rw [Array.setIfInBounds_comm _ _ hji];exact hk
theorem a8k {o:Oper}{k:Nat}{t:TypeId}{m kk v:Operand}(ho:o.op= .mapUpdate t m kk v)(hf:cC k st=true)(h:jJ P G o st=some out):cC k out.st=true∧mentions k out.v=false:=by
 obtain ⟨h1,h2,h3⟩:=jV hf;simp only [jJ,ho,wF] at h;split at h
 ·rename_i key _ _ hm _ _;split at h
  ·obtain ⟨es,_,rfl⟩:=d6V.1 h;refine ⟨wM h1 (fun p hp=>?_) h3,rfl⟩;rcases a1k hp with rfl|hp
   ·exact ⟨fun e=>by have:=qC (G:=G) hf m;rw [hm] at this;simp only [mentions,beq_eq_false_iff_ne,ne_eq] at this;exact this e,rfl⟩
   ·exact h2 p hp
  ·cases h
 ·cases h
theorem b1C {all:Array Oper}{o:Oper}{K:St→Prop}(hne:eH all≠[])(ht:c0D all o=true)(h:kH P G true all o K st):kH P G true all o (fun s=>K s∧∀k,cC k st=true→(eD o=true→o.dst≠some k)→cC k s=true) st:=by
 unfold c0D at ht;have hsq:pB true all o=true:=by
  cases hk:eH all with
  |nil=>exact absurd hk hne
  |cons k r=>simp [pB,hk]
 by_cases hs:mC o=true
 ·obtain ⟨s,h1,h2⟩:=(dP (.inr hs)).1 h;exact (dP (.inr hs)).2 ⟨s,h1,h2,fun k hf hn=>qV h1 hf hn⟩
 ·unfold kH at h ⊢;split
  ·rename_i hw;rw [hw] at h;simp only at h;split
   ·rename_i f ds hc;rw [hc] at h;rcases h with ⟨r,own,h1,h3,h2⟩|⟨h0,s',h1,h2⟩
    ·exact .inl ⟨r,own,h1,fun _=>h3 (by trivial),h2,fun k hf _=>bX hf (vJ (h3 (by trivial)))⟩
    ·rw [hsq] at h0;cases h0
   ·rename_i hc;rw [hc] at h;simp only at h;split
    ·rename_i f d6U hch;rw [hch] at h;simp only [xL] at h ⊢;rw [hsq] at h ⊢;simp only [if_true] at h ⊢;obtain ⟨d,ks,h1,h2⟩:=h;exact ⟨d,ks,h1,h2,fun k hf _=>bX hf (vJ h1.2.2.2.2)⟩
    ·rename_i hch;rw [hch] at h;simp only at h;split
     ·rename_i out ho;rw [ho] at h;refine ⟨h,fun k hf _=>?_⟩;have hkeep:cC k out.st=true∧mentions k out.v=false:=by
       simp only [mC,d7i] at ht hs;rcases ht with ((hq|ha)|hn)|hst
       ·rw [b4N hq ho];exact ⟨hf,b4T hq hf ho⟩
       ·exact absurd (.inl (.inl ha)) hs
       ·exact absurd (.inl (.inr hn)) hs
       ·split at hst
        ·rename_i hop;exact a8j hop hf ho
        ·rename_i hop;exact a8k hop hf ho
        ·cases hst
      exact bX hkeep.1 hkeep.2
     ·rename_i ho;rw [ho] at h;exact h
  ·rename_i hw;rw [hw] at h;exact ⟨h,fun k hf _=>bX hf rfl⟩
  ·rename_i hw;rw [hw] at h;exact h
theorem b4V {ops:Array Oper}{Q:St→Prop}(hA:mI ops)(hT:eH ops=[]∨∀o∈ops.toList,c0D ops o=true):∀(l:List Oper) (k:Nat) (listed:Array Bool) (st:St),(∀j,l[j]? =ops[k+j]?)→eI ops listed→oD ops listed st→
  lexFrom ops l.length k listed=true→qQ P G true ops l st Q→a8g P G ops Q l.length listed st
 |[],_,_,_,_,_,_,hB,h=>⟨by simpa [lexFrom] using hB,h⟩
 |o::l,k,listed,st,hl,hcl,hI,hB,h=>by
  have h0:ops[k]? =some o:=by simpa using (hl 0).symm
  simp only [List.length_cons,lexFrom,d6W,h0] at hB;obtain ⟨⟨hr,hf⟩,hB'⟩:=hB;have hrk:k∈Region.ready .any ops listed:=by simpa using hr
  have hnext:∀s,oD ops (listed.setIfInBounds k true) s→qQ P G true ops l s Q→a8g P G ops Q l.length (listed.setIfInBounds k true) s:=fun s hs h=>b4V hA hT l (k+1) _ s (fun j=>by have:=hl (j+1);simpa [Nat.add_assoc,Nat.add_comm 1 j] using this) (hcl.set hrk) hs hB' h
  have hspec:∀j oj,ops[j]? =some oj→j≠k→listed.getD j true=false→gD ops ops.size j k=false→o.apart ops oj=true∧oB ops o oj=true:=by intro j oj hj hne hun hno;rw [d6Z] at hf;have h1:=hf j (List.mem_range.2 (d7f.1 hj).1);simp only [hj,d7i,beq_iff_eq,hne,false_or,hun,Bool.false_eq_true,hno,d6W] at h1;exact h1
  have only:(∀j oj,ops[j]? =some oj→j≠k→listed.getD j true=false→gD ops ops.size j k=false→False)→a8g P G ops Q (l.length+1) listed st:=fun hno=>by
   refine ⟨fun h'=>(by rw [h'] at hrk;cases hrk),fun j hj=>?_⟩;by_cases hjk:j=k
   ·subst hjk;rw [h0];have hkeep:kH P G true ops o (fun s=>qQ P G true ops l s Q∧oD ops (listed.setIfInBounds j true) s) st:=by
     by_cases hT0:eH ops=[]
     ·refine eS (fun s hs=>⟨hs,fun i oi d hi hn _ hd=>?_⟩) h;have:d∈eH ops:=List.mem_filterMap.2 ⟨oi,by rw [Array.mem_toList_iff];exact Array.mem_of_getElem? hi,by rw [if_pos hn];exact hd⟩;rw [hT0] at this;cases this
     ·have hT:=hT.resolve_left hT0;refine eS (fun s hs=>⟨hs.1,hI.step hA h0 hs.2⟩) (b1C hT0 (hT o (by rw [Array.mem_toList_iff];exact Array.mem_of_getElem? h0)) h)
    exact eS (fun s hs=>hnext s hs.2 hs.1) hkeep
   ·obtain ⟨hjun,oj,hoj,hall⟩:=mem_ready.1 hj;have hnot:gD ops ops.size j k=false:=cY hcl (mem_ready.1 hrk).1 _ _ fun o' ho'=>by rw [hoj] at ho';cases ho';exact hall
    exact (hno j oj hoj hjk hjun hnot).elim
  by_cases hs:(cT o.op=true∧jU ops o=false)∨mC o=true
  ·obtain ⟨s,hd,hk⟩:=(dP hs).1 h;exact b7E hA h0 hs l.length listed st s hcl (fun j oj hj hne hun hno=>hspec j oj hj hne hun hno) hrk hI hd (hnext _ (hI.step hA h0 fun k hf hn=>qV hd hf hn) hk)
  ·refine only fun j oj hj hne hun hno=>?_
   obtain ⟨_,hpo⟩:=hspec j oj hj hne hun hno;cases hal:jU ops o with
   |true=>
    obtain ⟨_,ok,hok,hallk⟩:=mem_ready.1 hrk;have hnot2:gD ops ops.size k j=false:=cY hcl hun _ _ fun o' ho'=>by rw [hok] at ho';cases ho';exact hallk
    rcases rI hal h0 (d7f.1 hj).1 hne with h'|h'
    ·rw [hno] at h';cases h'
    ·rw [hnot2] at h';cases h'
   |false=>
    unfold oB at hpo;simp only [mC,d7i,d6W,Bool.not_eq_true'] at hpo hs;rcases hpo with ((((((h'|h')|h')|h')|h')|h')|h')|h'
    ·exact hs (.inl ⟨h'.1.1,hal⟩)
    ·exact hs (.inl ⟨h'.1.1,hal⟩)
    ·exact hs (.inr (.inl (.inl h'.1.1.1)))
    ·exact hs (.inl ⟨h'.1,hal⟩)
    ·exact hs (.inr (.inl (.inr h'.1.1)))
    ·exact hs (.inr (.inl h'.1.1))
    ·exact hs (.inl ⟨(kI (G:=G) (st:=st) h'.1.1).1,hal⟩)
    ·exact hs (.inr (.inr h'.1.1))
theorem Rel.drew (hr:Rel P G base R μ st a w):Rel P G base R μ st a w.drew∧Step base R w R w.drew:=
 have hs:Step base R w R w.drew:=⟨(wI.refl _ _).drew,fun _ _ h=>h,fun _ _ h h'=>absurd h h',fun _ _ _=>rfl⟩
 ⟨hr.step hs (fun _ _=>rfl) (fun _ _ h h'=>absurd h h') hr.mY,hs⟩
theorem a8l {α β:Type}{f:α→Option β}:∀ {l:List α},(l.filterMap f).Nodup→∀(i j:Nat) {x y:α} {d:β},l[i]? =some x→l[j]? =some y→f x=some d→f y=some d→i=j
 |z::r,hn,i,j,x,y,d,hi,hj,hx,hy=>by
  have tl:(r.filterMap f).Nodup:=by
   rw [List.filterMap_cons] at hn;split at hn
   ·exact hn
   ·exact (List.nodup_cons.1 hn).2
  have no:∀ {k:Nat} {w:α},f z=some d→r[k]? =some w→f w=some d→False:=fun hz hk hw=>by rw [List.filterMap_cons,hz] at hn;exact (List.nodup_cons.1 hn).1 (List.mem_filterMap.2 ⟨_,d7b hk,hw⟩)
  cases i with
  |zero=>
   simp at hi;subst hi;cases j with
   |zero=>rfl
   |succ j=>exact (no hx (by simpa using hj) hy).elim
  |succ i=>
   cases j with
   |zero=>simp at hj;subst hj;exact (no hy (by simpa using hi) hx).elim
   |succ j=>rw [a8l tl i j (by simpa using hi) (by simpa using hj) hx hy]
theorem b0A {id:Nat}{ops:Array Oper}{Q:Exit→St→Prop}(hm:P.follows .mixedOrders=true)(hB:c2M ops=true)(hF:a5E ops st=true)(h:qQ P G true ops ops.toList st fun s=>Q .normal s):SW P G (.region id ops true) st Q:=by
 intro base R μ a w hr;obtain ⟨hr',hs'⟩:=hr.drew;unfold c2M at hB;rw [d6W] at hB;obtain ⟨hN,hB⟩:=hB;rw [d7i,List.isEmpty_iff,d6W,d6Z,decide_eq_true_eq] at hN;have mem:∀ {i oi d},ops[i]? =some oi→eD oi=true→oi.dst=some d→d∈eH ops:=fun hi hn hd=>List.mem_filterMap.2 ⟨_,by rw [Array.mem_toList_iff];exact Array.mem_of_getElem? hi,by rw [if_pos hn];exact hd⟩
 have hA:mI ops:=fun i j oi oj d hi hj hni hnj hdi hdj=>by
  rcases hN with hN|⟨_,hN⟩
  ·have:=mem hi hni hdi;rw [hN] at this;cases this
  ·exact a8l (l:=ops.toList) (f:=fun o=>if eD o then o.dst else none) hN i j (by simpa using hi) (by simpa using hj) (by rw [if_pos hni];exact hdi) (by rw [if_pos hnj];exact hdj)
 have hI:oD ops (Array.replicate ops.size false) st:=fun j oj d hj hn _ hd=>d6Z.1 hF d (mem hj hn hd)
 have h1:=b4V hA (hN.imp (fun h=>h) (fun h=>h.1)) ops.toList 0 (Array.replicate ops.size false) st (by simp) (fun k hk=>by
  rcases Nat.lt_or_ge k ops.size with h'|h'
  ·simp [h'] at hk
  ·simp [Nat.not_lt.2 h'] at hk) hI (by simpa using hB) h
 rw [show ops.toList.length=ops.size by simp] at h1;exact wp_region_any hm (a7J ops.size _ st h1 base R μ a w.drew hr' fun s a' w' R' μ' q1 q2 q3=>⟨s,R',μ',q1,q2,hs'.trans q3⟩)
theorem a0H:∀(c:Code) (st:St) (Q:Exit→St→Prop),VW P G c st Q→SW P G c st Q
 | .skip,st,Q,h=>fun base R μ a w hr=>wp_skip ⟨st,R,μ,h,hr,.refl _ _ _⟩
 | .region id ops draw,st,Q,h=>by
  unfold VW at h;cases draw with
  |true=>exact b0A (h.1 rfl).1 (h.1 rfl).2.1 (h.1 rfl).2.2 h.2
  |false=>
   replace h:=h.2
   exact fun base R μ a w hr=>wp_region_list (b2P ops _ ops.toList st _ h base R μ a w hr fun s a' w' R' μ' q1 q2 q3=>⟨s,R',μ',q1,q2,q3⟩)
 | .seq x y,st,Q,h=>fun base R μ a w hr=>wp_seq (wp_mono (a0H x st _ h base R μ a w hr) fun e a1 w1 ⟨s,R1,μ1,q1,q2,q3⟩=>by
   cases e with
   |normal=>exact wp_mono (a0H y s Q q1 base R1 μ1 a1 w1 q2) fun e2 a2 w2 ⟨s2,R2,μ2,p1,p2,p3⟩=>⟨s2,R2,μ2,p1,p2,q3.trans p3⟩
   |_=>exact ⟨s,R1,μ1,q1,q2,q3⟩)
 | .cond c x y,st,Q,h=>fun base R μ a w hr=>by
  unfold VW at h;split at h
  ·rename_i t hc;refine wp_cond (hr.yZ hc) ?_
   cases t
   ·exact a0H y st Q h base R μ a w hr
   ·exact a0H x st Q h base R μ a w hr
  ·rename_i hc;obtain ⟨t,ht⟩:=hr.b9o hc;refine wp_cond ht ?_
   cases t
   ·exact a0H y st Q h.2 base R μ a w hr
   ·exact a0H x st Q h.1 base R μ a w hr
  ·cases h
 | .block id c,st,Q,h=>fun base R μ a w hr=>wp_block (wp_mono (a0H c st _ h base R μ a w hr) fun e a1 w1 ⟨s,R1,μ1,q1,q2,q3⟩=>by
   cases e with
   |exit id'=>
    simp only [Exit.inBlock];simp only at q1;by_cases hid:id'=id
    ·rw [if_pos hid] at q1 ⊢;exact ⟨s,R1,μ1,q1,q2,q3⟩
    ·rw [if_neg hid] at q1 ⊢;exact ⟨s,R1,μ1,q1,q2,q3⟩
   |_=>exact ⟨s,R1,μ1,q1,q2,q3⟩)
 | .loop c,st,Q,h=>h
 | .exit id,st,Q,h=>fun base R μ a w hr=>wp_exit ⟨st,R,μ,h,hr,.refl _ _ _⟩
 | .ret,st,Q,h=>fun base R μ a w hr=>wp_ret ⟨st,R,μ,h,hr,.refl _ _ _⟩
 | .rangeFunc ..,_,_,h=>by simp [VW] at h
 | .scope c,st,Q,h=>fun base R μ a w hr=>wp_scope_straight (wp_mono (a0H c st _ h base R μ a w hr) fun e a1 w1 ⟨s,R1,μ1,q1,q2,q3⟩=>by
   cases e with
   |goto l=>exact q1.elim
   |_=>exact ⟨s,R1,μ1,q1,q2,q3⟩)
 | .label l,st,Q,h=>fun base R μ a w hr=>wp_label ⟨st,R,μ,h,hr,.refl _ _ _⟩
 | .goto ..,_,_,h=>by simp [VW] at h
end
end Go.VM
end
section
namespace Go.VM
open Go Go.RowKit
def WkT:List DV→List DV→Prop
 |[],[]=>True
 |d::ds,d'::ds'=>(d'= .undef∨d'=d∨(d= .d .aM∧d'= .d (.sl [])))∧WkT ds ds'
 |_,_=>False
def WkO:aY→aY→Prop
 | .cells cs,.cells cs'=>WkT cs cs'
 |o,o'=>o'=o
def WkH (H:List (Nat×aY)):List (Nat×aY)→Prop
 |[]=>True
 |(k,o')::r=>(∃o,getKey k H=some o∧WkO o o')∧WkH H r
def isNil (s:St):Loc→Bool
 | .t i=>match s.tmps[i]? with
  |some (.d .aM)=>true
  |_=>false
 | .c k off=>match getKey k s.H with
  |some (.cells cs)=>(match cs[off]? with
   |some (.d .aM)=>true
   |_=>false)
  |some (.bld _ u _)=> !u&&off==1
  |_=>false
def vL (c:TypeId×List Loc):List (TypeId×List Loc)→Option (List (TypeId×List Loc))
 |[]=>none
 |c0::r=>if c0.1=c.1∧(c.2.all fun l=>c0.2.contains l)=true then some r else (vL c r).map (c0:: ·)
def a8m (s:St)(c:TypeId×List Loc):Bool:=
 match c.2 with
 |[]=>true
 |[l]=>isNil s l
 |_=>false
def a4q (s:St):List (TypeId×List Loc)→List (TypeId×List Loc)→Bool
 |_,[]=>true
 |own,c::r=>if a8m s c then a4q s own r else match vL c own with
  |some own1=>a4q s own1 r
  |none=>false
def bA (H:List (Nat×aY))(own:List (TypeId×List Loc)):Bool:=own.all fun c=>c.2.all fun l=>match l with
 | .c k _=>(getKey k H).isSome
 |_=>true
structure vM (s s':St):Prop where
 tmps:WkT s.tmps s'.tmps
 H:WkH s.H s'.H
 own:a4q s s.own s'.own=true
 keys:bA s'.H s'.own=true
section
variable {P:Program} {G:GT} {st st':St}
variable {base:cS} {R:Nat→Nat→Prop} {μ:Nat→Nat} {a:Act} {w:World}
theorem wN:∀ {l l':List DV},WkT l l'→l'.length=l.length∧∀(i:Nat) (d':DV),l'[i]? =some d'→∃d,l[i]? =some d∧(d'= .undef∨d'=d∨(d= .d .aM∧d'= .d (.sl [])))
 |[],[],_=>by simp
 |[],_::_,h=>by simp [WkT] at h
 |_::_,[],h=>by simp [WkT] at h
 |d::l,d'::l',h=>by
  obtain ⟨h1,h2⟩:=h;obtain ⟨q1,q2⟩:=wN h2;refine ⟨by simp [q1],fun i x hx=>?_⟩;cases i with
  |zero=>simp at hx;subst hx;exact ⟨d,rfl,h1⟩
  |succ i=>simp at hx;simpa using q2 i x hx
theorem b4W {H:List (Nat×aY)}:∀ {H':List (Nat×aY)},WkH H H'→∀(k:Nat) (o':aY),getKey k H'=some o'→∃o,getKey k H=some o∧WkO o o'
 |[],_,k,o',h=>by simp [getKey] at h
 |(k1,o1)::r,hw,k,o',h=>by
  obtain ⟨⟨o,h1,h2⟩,h3⟩:=hw;unfold getKey at h;split at h
  ·rename_i he;simp at h;subst he h;exact ⟨o,h1,h2⟩
  ·exact b4W h3 k o' h
theorem a7K {b:Nat}{o o':aY}(h:WkO o o')(hr:gH R μ w b o):gH R μ w b o':=by
 cases o with
 |cells cs=>
  cases o' with
  |cells cs'=>
   obtain ⟨q1,q2⟩:=wN h;obtain ⟨vs,T,h1,h2,h3,h4⟩:=hr;refine ⟨vs,T,h1,by rw [h2,q1],fun i d' hd'=>?_,fun T' hm=>?_⟩
   ·obtain ⟨d,hd,hc⟩:=q2 i d' hd';obtain ⟨p1,p2⟩:=h3 i d hd;rcases hc with rfl|rfl|⟨rfl,rfl⟩
    ·exact ⟨rfl,.undef _⟩
    ·exact ⟨p1,p2⟩
    ·obtain ⟨ao,he⟩:=p2.a4f.jE;rw [he];exact ⟨rfl,.d _ _ (.emp _ _)⟩
   ·obtain ⟨i,hi⟩:=d7n hm;obtain ⟨d,hd,hc⟩:=q2 i _ hi;rcases hc with hc|rfl|⟨_,hc⟩
    ·cases hc
    ·exact h4 T' (d7b hd)
    ·cases hc
  |map es=>cases h
  |iter s p=>cases h
  |bld T u es=>cases h
 |map es=>cases o'<;>cases h;exact hr
 |iter s p=>cases o'<;>cases h;exact hr
 |bld T u es=>cases o'<;>cases h;exact hr
theorem zY {c:TypeId×List Loc}:∀ {own own1:List (TypeId×List Loc)},vL c own=some own1→∃pre c0 post,own=pre++c0::post∧own1=pre++post∧c0.1=c.1∧∀l∈c.2,l∈c0.2
 |[],own1,h=>by simp [vL] at h
 |c0::r,own1,h=>by
  simp only [vL] at h;split at h
  ·rename_i hc;simp at h;exact ⟨[],c0,r,rfl,h.symm,hc.1,fun l hl=>by have:=d6Z.1 hc.2 l hl;simpa using this⟩
  ·simp only [d6V] at h;obtain ⟨r',hr,rfl⟩:=h;obtain ⟨pre,c',post,h1,h2,h3,h4⟩:=zY hr;exact ⟨c0::pre,c',post,by simp [h1],by simp [h2],h3,h4⟩
structure b7F (P:Program) (base:cS) (R:Nat→Nat→Prop) (μ:Nat→Nat) (st:St) (a:Act) (w:World) (own:List (TypeId×List Loc)) (vs:List Value):Prop where
 len:vs.length=own.length
 one:∀(i:Nat) (c:TypeId×List Loc) (v:Value),own[i]? =some c→vs[i]? =some v→zR P base R μ st a w c v
 apart:vs.Pairwise a0A
theorem a0A.symm {v v':Value}(h:a0A v v'):a0A v' v:=fun g hg hg'=>h g hg' hg
theorem b7F.take {own own1:List (TypeId×List Loc)}{vs:List Value}{c:TypeId×List Loc}(h:b7F P base R μ st a w own vs)(ht:vL c own=some own1):
  ∃v vs1,zR P base R μ st a w c v∧b7F P base R μ st a w own1 vs1∧(∀x∈vs1,x∈vs)∧v∈vs∧∀x∈vs1,a0A v x:=by
 obtain ⟨pre,c0,post,rfl,rfl,h3,h4⟩:=zY ht;have hpl:pre.length<vs.length:=by rw [h.len];simp
 have hsplit:vs=vs.take pre.length++vs[pre.length]::vs.drop (pre.length+1):=by rw [← d7j hpl,List.take_append_drop]
 have hc:=h.one pre.length c0 vs[pre.length] (by simp) (d7a hpl);have hap:=h.apart;rw [hsplit,List.pairwise_append,List.pairwise_cons] at hap;refine ⟨vs[pre.length],vs.take pre.length++vs.drop (pre.length+1),⟨fun l hl=>hc.dR l (h4 l hl),by rw [← h3];exact hc.own,hc.keys⟩,⟨?_,fun i c' v hc' hv=>?_,?_⟩,fun x hx=>?_,List.getElem_mem hpl,fun x hx=>?_⟩
 ·have:=h.len;simp at this ⊢;omega
 ·by_cases hi:i<pre.length
  ·refine h.one i c' v ?_ ?_
   ·rw [d7h hi];simpa [d7h hi] using hc'
   ·rw [d7h (by simp;omega),List.getElem?_take] at hv;rw [if_pos hi] at hv;exact hv
  ·refine h.one (i+1) c' v ?_ ?_
   ·rw [d7e (by omega),show i+1-pre.length=(i-pre.length)+1 by omega,List.getElem?_cons_succ];simpa [d7e (Nat.le_of_not_lt hi)] using hc'
   ·have hmin:min pre.length vs.length=pre.length:=by omega
    rw [d7e (by simp;omega),d7p] at hv;simp only [List.length_take,hmin] at hv
    rwa [show pre.length+1+(i-pre.length)=i+1 by omega] at hv
 ·rw [List.pairwise_append];exact ⟨hap.1,hap.2.1.2,fun x hx y hy=>hap.2.2 x hx y (.tail _ hy)⟩
 ·simp only [List.mem_append] at hx;rcases hx with hx|hx
  ·exact List.mem_of_mem_take hx
  ·exact List.mem_of_mem_drop hx
 ·simp only [List.mem_append] at hx;rcases hx with hx|hx
  ·exact (hap.2.2 x hx vs[pre.length] (.head _)).symm
  ·exact hap.2.1.1 x hx
theorem b1D (hr:Rel P G base R μ st a w){l:Loc}(h:isNil st l=true){u:Value}(hu:cB a w μ l=some u):∃ao,u= .slice ao 0 0:=by
 cases l with
 |t i=>
  simp only [isNil] at h;split at h
  ·rename_i hd;exact (hr.tmps i u _ hu hd).a4f.jE
  ·cases h
 |c k off=>
  simp only [isNil] at h;split at h
  ·rename_i cs hk;split at h
   ·rename_i hd;obtain ⟨_,_,hob⟩:=hr.gL k _ hk;obtain ⟨_,v,h1,h2⟩:=a5A.a1b hob off (.d .aM) hd;simp only [cB] at hu;rw [Nat.zero_add,hu] at h1;cases h1;exact h2.a4f.jE
   ·cases h
  ·rename_i T u es hk;simp only [d6W,Bool.not_eq_true',beq_iff_eq] at h;obtain ⟨rfl,rfl⟩:=h;obtain ⟨_,_,v0,v1,T',q1,q2,_⟩:=hr.gL k _ hk;simp only [cB] at hu;rw [cell_of_row w _ _ _ T' (0,0) q1] at hu;have:=(q2 rfl).2;subst this;simp at hu;exact ⟨none,hu.symm⟩
  ·cases h
theorem a1m (hr:Rel P G base R μ st a w):∀(dZ own:List (TypeId×List Loc)) (vs:List Value),b7F P base R μ st a w own vs→a4q st own dZ=true→
  ∃vs',b7F P base R μ st a w dZ vs'∧∀v∈vs',bD v=none∨v∈vs
 |[],own,vs,_,_=>⟨[],⟨rfl,by simp,.nil⟩,by simp⟩
 |c::r,own,vs,h,hw=>by
  unfold a4q at hw;split at hw
  ·rename_i hn;obtain ⟨vs',h1,h2⟩:=a1m hr r own vs h hw;have hex:∃v,zR P base R μ st a w c v∧bD v=none:=by
    by_cases hx:∃l∈c.2,∃u,cB a w μ l=some u
    ·obtain ⟨l,hl,u,hu⟩:=hx;unfold a8m at hn;split at hn
     ·rename_i he;rw [he] at hl;cases hl
     ·rename_i l' he;rw [he] at hl;simp at hl;subst hl;obtain ⟨ao,rfl⟩:=b1D hr hn hu;have hs:bD (.slice ao 0 0)=none:=by cases ao<;>rfl
      exact ⟨.slice ao 0 0,⟨fun l2 hl2 u2 hu2=>by rw [he] at hl2;simp at hl2;subst hl2;rw [hu] at hu2;exact (Option.some.inj hu2).symm,.inl ⟨ao,rfl⟩,fun k o _=>by rw [hs];simp⟩,hs⟩
     ·cases hn
    ·exact ⟨.slice none 0 0,⟨fun l hl u hu=>absurd ⟨l,hl,u,hu⟩ hx,.inl ⟨none,rfl⟩,fun k o _=>by simp [bD]⟩,rfl⟩
   obtain ⟨v,hv1,hv2⟩:=hex;refine ⟨v::vs',⟨by simp [h1.len],fun i c' u hc hu=>?_,List.pairwise_cons.2 ⟨fun x _ g hg=>(by rw [hv2] at hg;cases hg),h1.apart⟩⟩,fun x hx=>?_⟩
   ·cases i with
    |zero=>simp at hc hu;subst hc hu;exact hv1
    |succ i=>simp at hc hu;exact h1.one i c' u hc hu
   ·simp at hx;rcases hx with rfl|hx
    ·exact .inl hv2
    ·exact h2 x hx
  ·split at hw
   ·rename_i own1 ht;obtain ⟨v,vs1,q1,q2,q3,q4,q5⟩:=h.take ht;obtain ⟨vs',h1,h2⟩:=a1m hr r own1 vs1 q2 hw;refine ⟨v::vs',⟨by simp [h1.len],fun i c' u hc hu=>?_,List.pairwise_cons.2 ⟨fun x hx=>?_,h1.apart⟩⟩,fun x hx=>?_⟩
    ·cases i with
     |zero=>simp at hc hu;subst hc hu;exact q1
     |succ i=>simp at hc hu;exact h1.one i c' u hc hu
    ·rcases h2 x hx with hs|hx'
     ·exact fun g _ hg'=>by rw [hs] at hg';cases hg'
     ·exact q5 x hx'
    ·simp at hx;rcases hx with rfl|hx
     ·exact .inr q4
     ·rcases h2 x hx with hs|hx'
      ·exact .inl hs
      ·exact .inr (q3 x hx')
   ·cases hw
theorem Rel.yK (hr:Rel P G base R μ st a w)(h:vM st st'):Rel P G base R μ st' a w:=by
 obtain ⟨h1,h2⟩:=wN h.tmps;have h3:=b4W h.H;refine ⟨hr.defers,by rw [hr.size,h1],fun i v d' hv hd'=>?_,fun k o' hk=>?_,fun k k' o o' hk hk' he=>?_,fun c hc k off hl=>?_,?_,hr.rX,hr.mY,hr.base,hr.pass⟩
 ·obtain ⟨d,hd,hc⟩:=h2 i d' hd';have:=hr.tmps i v d hv hd;rcases hc with rfl|rfl|⟨rfl,rfl⟩
  ·exact .undef _
  ·exact this
  ·obtain ⟨ao,rfl⟩:=this.a4f.jE;exact .d _ _ (.emp _ _)
 ·obtain ⟨o,ho,hw⟩:=h3 k o' hk;obtain ⟨q1,q2,q3⟩:=hr.gL k o ho;exact ⟨q1,q2,a7K hw q3⟩
 ·obtain ⟨o1,ho1,_⟩:=h3 k o hk;obtain ⟨o2,ho2,_⟩:=h3 k' o' hk';exact hr.inj k k' o1 o2 ho1 ho2 he
 ·have:=d6Z.1 h.keys c hc;have:=d6Z.1 this _ hl;exact Option.isSome_iff_exists.1 this
 ·obtain ⟨vs,hvs⟩:=hr.own;obtain ⟨vs',hv',_⟩:=a1m hr st'.own st.own vs ⟨hvs.len,hvs.one,hvs.apart⟩ h.own;refine ⟨vs',hv'.len,fun i c v hc hv=>?_,hv'.apart⟩;have ho:=hv'.one i c v hc hv;exact ⟨ho.dR,ho.own,fun k o hk=>by obtain ⟨o1,ho1,_⟩:=h3 k o hk;exact ho.keys k o1 ho1⟩
theorem SW.yK {c:Code}{Q:Exit→St→Prop}(h:vM st st')(hw:SW P G c st' Q):SW P G c st Q:=fun base R μ a w hr=>hw base R μ a w (hr.yK h)
theorem SW.loop {ι:Type}{c:Code}{Q:Exit→St→Prop}(I:ι→St)(m:ι→Nat)(x0:ι)(h0:vM st (I x0))(round:∀x,VW P G c (I x) fun e s=>match e with
   | .normal=>∃y,vM s (I y)∧m y<m x
   |e=>Q e s):SW P G (.loop c) st Q:=by
 intro base R μ a w hr;refine wp_loop_ghost (fun n a1 w1=>∃x R1 μ1,m x=n∧Rel P G base R1 μ1 (I x) a1 w1∧Step base R w R1 w1) (m x0) ⟨x0,R,μ,rfl,hr.yK h0,.refl _ _ _⟩ ?_
 rintro n a1 w1 ⟨x,R1,μ1,rfl,hr1,hs1⟩;refine wp_mono (a0H c (I x) _ (round x) base R1 μ1 a1 w1 hr1) fun e a2 w2 ⟨s,R2,μ2,q,hr2,hs2⟩=>?_
 cases e with
 |normal=>obtain ⟨y,hy,hlt⟩:=q;exact ⟨m y,hlt,y,R2,μ2,rfl,hr2.yK hy,hs1.trans hs2⟩
 |_=>exact ⟨s,R2,μ2,q,hr2,hs1.trans hs2⟩
inductive WkD:D→D→Prop
 |refl (d:D):WkD d d
 |aM:WkD .aM (.sl [])
 |agg (cs cs':List D):cs.length=cs'.length→(∀(i:Nat) (d d':D),cs[i]? =some d→cs'[i]? =some d'→WkD d d')→WkD (.agg cs) (.agg cs')
 |sl (es es':List (List D)):es.length=es'.length→(∀(i:Nat) (e e':List D),es[i]? =some e→es'[i]? =some e'→e.length=e'.length)→
   (∀(i j:Nat) (e e':List D) (d d':D),es[i]? =some e→es'[i]? =some e'→e[j]? =some d→e'[j]? =some d'→WkD d d')→WkD (.sl es) (.sl es')
def WkL (l l':List D):Prop:=l.length=l'.length∧∀(i:Nat) (d d':D),l[i]? =some d→l'[i]? =some d'→WkD d d'
def c7b (l l':List (List D)):Prop:=l.length=l'.length∧∀(i:Nat) (d d':List D),l[i]? =some d→l'[i]? =some d'→WkL d d'
theorem c2R (a b:D)(l l':List D):WkL (a::l) (b::l')=(WkD a b∧WkL l l'):=by
 apply propext;constructor
 ·rintro ⟨h1,h2⟩;exact ⟨h2 0 a b rfl rfl,by simpa using h1,fun i d d' q q'=>h2 (i+1) d d' q q'⟩
 ·rintro ⟨h0,h1,h2⟩;refine ⟨by simp [h1],fun i d d' q q'=>?_⟩;cases i with
  |zero=>simp at q q';subst q q';exact h0
  |succ i=>exact h2 i d d' q q'
theorem a8o (l:List D):WkL l l=True:=by simp only [WkL,eq_iff_iff,iff_true];exact ⟨trivial,fun i d d' h h'=>by rw [h] at h';cases h';exact .refl _⟩
theorem b1E (l:List (List D)):c7b l l=True:=by simp only [c7b,eq_iff_iff,iff_true];exact ⟨trivial,fun i d d' h h'=>by rw [h] at h';cases h';rw [a8o];trivial⟩
theorem c2S (d:D):WkD d d=True:=by simp [WkD.refl]
theorem c2T:WkD .aM (.sl [])=True:=by simp [WkD.aM]
theorem c7c (cs cs':List D):WkD (.agg cs) (.agg cs')=WkL cs cs':=by
 apply propext;constructor
 ·intro h;cases h with
  |refl=>rw [a8o];trivial
  |agg _ _ h1 h2=>exact ⟨h1,h2⟩
 ·rintro ⟨h1,h2⟩;exact .agg _ _ h1 h2
theorem d1A (cs cs':List (List D)):WkD (.sl cs) (.sl cs')=c7b cs cs':=by
 apply propext;constructor
 ·intro h;cases h with
  |refl=>rw [b1E];trivial
  |sl _ _ h1 h2 h3=>exact ⟨h1,fun i e e' q q'=>⟨h2 i e e' q q',fun j d d' p p'=>h3 i j e e' d d' q q' p p'⟩⟩
 ·rintro ⟨h1,h2⟩;exact .sl _ _ h1 (fun i e e' q q'=>(h2 i e e' q q').1) (fun i j e e' d d' q q' p p'=>(h2 i e e' q q').2 j d d' p p')
theorem c7d (k k':IntKind)(n n':Int):WkD (.int k n) (.int k' n')=(k=k'∧n=n'):=by
 apply propext;constructor
 ·intro h;cases h;exact ⟨rfl,rfl⟩
 ·rintro ⟨rfl,rfl⟩;exact .refl _
theorem c2U (a b:Bool):WkD (.bool a) (.bool b)=(a=b):=by
 apply propext;constructor
 ·intro h;cases h;rfl
 ·rintro rfl;exact .refl _
theorem WkD.one {d d':D}(h:WkD d d'):d'.one=d.one:=by cases h<;>rfl
theorem V.wk {R:Nat→Nat→Prop}{w:World}{v:Value}{d:D}(h:V R w v d):∀ {d':D},WkD d d'→V R w v d':=by
 induction h with
 |int k n=>intro d' hd;cases hd;exact .int k n
 |bool b=>intro d' hd;cases hd;exact .bool b
 |str s=>intro d' hd;cases hd;exact .str s
 |aM ao=>
  intro d' hd;cases hd with
  |refl=>exact .aM ao
  |aM=>exact .emp ao 0
 |emp ao cap=>
  intro d' hd;cases hd with
  |refl=>exact .emp ao cap
  |sl _ es' h1 _ _=>have:es'=[]:=List.eq_nil_of_length_eq_zero (by simpa using h1.symm);subst this;exact .emp ao cap
 |sl b o n cap size es f h1 h2 h3 h4 h5 h6 h7 ih=>
  intro d' hd;cases hd with
  |refl=>exact .sl b o n cap size es f h1 h2 h3 h4 h5 h6 h7
  |sl _ es' q1 q2 q3=>
   have pre:∀(i:Nat) (e':List D),es'[i]? =some e'→∃e,es[i]? =some e:=fun i e' he'=>by have hi:i<es'.length:=(d6X.1 he').1;exact ⟨es[i]'(by omega),d7a (by omega)⟩
   have pre2:∀(i j:Nat) (e':List D) (d':D),es'[i]? =some e'→e'[j]? =some d'→∃e d,es[i]? =some e∧e[j]? =some d∧WkD d d':=fun i j e' d' he' hd'=>by
    obtain ⟨e,he⟩:=pre i e' he';have hl:=q2 i e e' he he';have hj:j<e'.length:=(d6X.1 hd').1;have hjd:e[j]? =some (e[j]'(by omega)):=d7a (by omega)
    exact ⟨e,_,he,hjd,q3 i j e e' _ d' he he' hjd hd'⟩
   refine .sl b o n cap size es' f (by omega) h2 h3 (fun e' he'=>?_) h5 (fun i j e' d' he' hd'=>?_) (fun i j e' d' he' hd'=>?_)
   ·obtain ⟨i,hi⟩:=d7n he';obtain ⟨e,he⟩:=pre i e' hi;rw [← q2 i e e' he hi];exact h4 e (d7b he)
   ·obtain ⟨e,d,he,hd,hw⟩:=pre2 i j e' d' he' hd';rw [hw.one];exact h6 i j e d he hd
   ·obtain ⟨e,d,he,hd,hw⟩:=pre2 i j e' d' he' hd';exact ih i j e d he hd hw
 |agg cs ds h1 h2 h3 ih=>
  intro d' hd;cases hd with
  |refl=>exact .agg cs ds h1 h2 h3
  |agg _ ds' q1 q2=>
   have pre:∀(i:Nat) (d':D),ds'[i]? =some d'→∃d,ds[i]? =some d∧WkD d d':=fun i d' he'=>by have hi:i<ds'.length:=(d6X.1 he').1;have h:=d7a (l:=ds) (i:=i) (by omega);exact ⟨_,h,q2 i _ d' h he'⟩
   refine .agg cs ds' (by omega) (fun i d' hd'=>?_) (fun i d' hd'=>?_)
   ·obtain ⟨d,hd,hw⟩:=pre i d' hd';rw [hw.one];exact h2 i d hd
   ·obtain ⟨d,hd,hw⟩:=pre i d' hd';exact ih i d hd hw
def a5F:DV→DV→Prop
 | .d x,.d y=>WkD x y
 | .cM l,.cM l'=>WkL l l'
 |a,b=>a=b
theorem TV.wk {R:Nat→Nat→Prop}{μ:Nat→Nat}{w:World}{v:Value}{r r':DV}(h:TV R μ w v r)(hw:a5F r r'):TV R μ w v r':=by
 cases r<;>cases r'<;>simp only [a5F] at hw<;>try (cases hw;done)
 case d.d x y=>cases h with|d _ _ hv=>exact .d _ _ (hv.wk hw)
 case cM.cM l l'=>
  cases h with
  |cM vs _ h1 h2=>
   refine .cM vs l' (by rw [h1,hw.1]) fun i d' hd'=>?_
   have hi:i<l'.length:=(d6X.1 hd').1;have hg:=d7a (l:=l) (i:=i) (by rw [hw.1];exact hi);exact (h2 i _ hg).wk (hw.2 i _ d' hg hd')
 all_goals (cases hw;exact h)
theorem CS.args {f:FuncId}{ds ds':List D}{r:DV}{own:Option TypeId}(h:CS P G f ds' r own)(hd:WkL ds ds'):CS P G f ds r own:=fun w R args hg hR hl hv=>h w R args hg hR (by rw [hl,hd.1]) fun i d' hd'=>by have hi:i<ds'.length:=(d6X.1 hd').1;have hgt:=d7a (l:=ds) (i:=i) (by rw [hd.1];exact hi);exact (hv i _ hgt).wk (hd.2 i _ d' hgt hd')
theorem CS.res {f:FuncId}{ds:List D}{r r':DV}{own:Option TypeId}(h:CS P G f ds r' own)(hd:a5F r' r):CS P G f ds r own:=fun w R args hg hR hl hv=>(h w R args hg hR hl hv).mono fun _ _ ⟨v,R',h1,h2,h3⟩=>⟨v,R',h1,fun μ=>(h2 μ).wk hd,h3⟩
def wO (ds:List D)(n:Nat):St:=⟨ds.map .d++List.replicate (n-ds.length) (.cM []),[],[]⟩
def c2V (P:Program)(s:St):ResultVar→Option D
 | .tmp i=>isD (s.tmps.getD i (.cM []))
 | .cell p ty=>match s.tmps.getD p (.cM []) with
  | .ptr k off=>(match getKey k s.H with
   |some (.cells cs)=>(a6n P ty (cs.drop off)).bind isD
   |_=>none)
  |_=>none
def a1n (P:Program)(s:St):List ResultVar→Option (List D)
 |[]=>some []
 |r::l=>match c2V P s r,a1n P s l with
  |some x,some ds=>some (x::ds)
  |_,_=>none
def c0I (P:Program)(s:St)(rs:List ResultVar):Option DV:=
 match a1n P s rs with
 |some [x]=>some (.d x)
 |some ds=>some (.cM ds)
 |none=>none
def c7e (s:St)(rs:List ResultVar):Option TypeId:=
 match rs with
 |[.tmp i]=>(match s.tmps.getD i (.cM []) with
  | .d (.sl _)=>(eZ (.t i) s.own).map (·.1)
  |_=>none)
 |_=>none
def a5G (tmps:Array Value):ResultVar→Sem Value
 | .tmp t=>pure (tmps.getD t undef)
 | .cell p t=>do loadVar t (← asAddr (tmps.getD p undef))
theorem a3D (fn:Func)(tmps:Array Value):results fn tmps=(do let vs ← fn.results.mapM (a5G tmps);pure (if h:vs.size=1 then vs[0] else .tuple vs)):=by unfold results;congr 1
theorem c7f (hr:Rel P G base R μ st a w){r:ResultVar}{x:D}(h:c2V P st r=some x):∃v,(a5G a.tmps r).run P w= .ok v w∧V R w v x:=by
 cases r with
 |tmp i=>simp only [c2V] at h;have he:=hr.eval (.tmp i);simp only [St.eval,Act.eval] at he;unfold isD at h;split at h<;>simp at h;rename_i y hy;subst h;rw [hy] at he;exact ⟨_,rfl,he.a4f⟩
 |cell p ty=>
  simp only [c2V] at h;have he:=hr.eval (.tmp p);simp only [St.eval,Act.eval] at he;split at h
  ·rename_i k off hp;split at h
   ·rename_i cs hk;rw [hp] at he;obtain ⟨_,_,hob⟩:=hr.gL k _ hk;have hrun:=(a5A.a1b hob).drop off;rw [Nat.zero_add] at hrun;obtain ⟨y,hy,hx⟩:=d7k.1 h;obtain ⟨v,h1,h2,_⟩:=sX (P:=P) hrun hy;have hyd:y= .d x:=by
     unfold isD at hx;split at hx
     ·cases hx;rfl
     ·cases hx
    subst hyd;refine ⟨v,?_,h2.a4f⟩;unfold a5G;simp only;rw [he.b2K];simp only [asAddr,Sem.run_bind,Sem.run_pure,Result.andThen_ok,h1]
   ·cases h
  ·cases h
theorem a8p (hr:Rel P G base R μ st a w):∀ {l:List ResultVar} {ds:List D},a1n P st l=some ds→
  ∃vs,(l.mapM (a5G a.tmps)).run P w= .ok vs w∧vs.length=ds.length∧∀(i:Nat) (d:D),ds[i]? =some d→V R w (vs.getD i undef) d
 |[],ds,h=>by simp [a1n] at h;subst h;exact ⟨[],by simp,rfl,by simp⟩
 |r::l,ds,h=>by
  simp only [a1n] at h;split at h<;>simp at h;rename_i x ds' hx hds;subst h;obtain ⟨v,h1,h2⟩:=c7f hr hx;obtain ⟨vs,q1,q2,q3⟩:=a8p hr hds;refine ⟨v::vs,?_,by simp [q2],fun i d hi=>?_⟩
  ·simp only [List.mapM_cons,Sem.run_bind,h1,Result.andThen_ok,q1,Sem.run_pure]
  ·cases i with
   |zero=>simp at hi;subst hi;exact h2
   |succ i=>simp at hi;simpa using q3 i d hi
theorem b9t (hr:Rel P G base R μ st a w){fn:Func}{r:DV}(h:c0I P st fn.results.toList=some r):∃v,(results fn a.tmps).run P w= .ok v w∧(∀μ',TV R μ' w v r):=by
 unfold c0I at h;cases hds:a1n P st fn.results.toList with
 |none=>simp [hds] at h
 |some ds=>
  obtain ⟨vs,h1,h2,h3⟩:=a8p hr hds;have hrun:(results fn a.tmps).run P w= .ok (if h:vs.toArray.size=1 then vs.toArray[0] else .tuple vs.toArray) w:=by rw [a3D,Array.mapM_eq_mapM_toList];simp only [Sem.run_bind,Sem.run_map,h1,Result.andThen_ok,Sem.run_pure]
  refine ⟨_,hrun,fun μ'=>?_⟩;have cM:∀(ds:List D),vs.length=ds.length→(∀(i:Nat) (d:D),ds[i]? =some d→V R w (vs.getD i undef) d)→TV R μ' w (.tuple vs.toArray) (.cM ds):=fun ds hl hv=> .cM _ _ (by simpa using hl) (fun i d hi=>by have:=hv i d hi;simpa [d6Y,List.getD] using this)
  rw [hds] at h
  match ds,h2,h3,h with
  |[],h2,h3,h=>simp at h;subst h;rw [dif_neg (by simp at h2;simp [h2])];exact cM [] h2 h3
  |[x],h2,h3,h=>
   simp at h;subst h
   match vs,h2,h3 with
   |[v],_,h3=>exact .d _ _ (by simpa using h3 0 x rfl)
  |x::y::l,h2,h3,h=>simp at h;subst h;rw [dif_neg (by simp at h2;simp [h2])];exact cM _ h2 h3
theorem c7g (hr:Rel P G base R μ st a w){fn:Func}{e:TypeId}(h:c7e st fn.results.toList=some e){v:Value}(hv:(results fn a.tmps).run P w= .ok v w):mG P base R w e v:=by
 unfold c7e at h;split at h
 ·rename_i i hrs;split at h
  ·rename_i es hd;simp only [d6V] at h;obtain ⟨⟨e',dZ⟩,ht,rfl⟩:=h;obtain ⟨_,v0,_,hv0,jR,_⟩:=hr.eZ ht;have hs:i<a.tmps.size:=by
    rw [hr.size];by_cases hlt:i<st.tmps.length
    ·exact hlt
    ·simp [List.getD,List.getElem?_eq_none (Nat.le_of_not_lt hlt)] at hd
   have hv1:v=a.tmps.getD i undef:=by
    have hrs':fn.results= #[.tmp i]:=by apply Array.ext';simpa using hrs
    rw [results_tmp hrs' a.tmps P w] at hv;exact (by cases hv;rfl)
   rw [hv1,hv0 (a.tmps.getD i undef) (by simp [cB,hs])];exact jR
  ·cases h
 ·cases h
def b4X (x:Option DV)(r:DV):Prop:=match x with
 |some r0=>a5F r0 r
 |none=>False
theorem a8q {x:Option DV}{r:DV}(h:b4X x r):∃r0,x=some r0∧a5F r0 r:=by
 cases x with
 |none=>cases h
 |some r0=>exact ⟨r0,rfl,h⟩
def b4Y (s:St)(rs:List ResultVar):Option TypeId→Prop
 |none=>True
 |some e=>c7e s rs=some e∨(match rs with
  |[.tmp i]=>(match s.tmps.getD i (.cM []) with
   | .d .aM=>True
   |_=>False)
  |_=>False)
theorem b4Z (hr:Rel P G base R μ st a w){fn:Func}{e:TypeId}(h:b4Y st fn.results.toList (some e)){v:Value}(hv:(results fn a.tmps).run P w= .ok v w):mG P base R w e v:=by
 rcases h with h|h
 ·exact c7g hr h hv
 ·split at h
  ·rename_i i hrs;split at h
   ·rename_i hd;have hrs':fn.results= #[.tmp i]:=by apply Array.ext';simpa using hrs
    rw [results_tmp hrs' a.tmps P w] at hv;cases hv;have he:=hr.eval (.tmp i);simp only [St.eval,Act.eval,hd] at he;obtain ⟨ao,h0⟩:=he.a4f.jE;exact .inl ⟨ao,h0⟩
   ·cases h
  ·cases h
theorem Rel.init (fn:Func){ds:List D}{w:World}{R:Nat→Nat→Prop}{args:Array Value}(hg:a2F G (uR w.heap.size) R w)(hR:∀b o,R b o→b<w.heap.size)(hl:args.size=ds.length)(hv:∀(i:Nat) (d:D),ds[i]? =some d→V R w (args.getD i undef) d):
  Rel P G (uR w.heap.size) R (fun _=>0) (wO ds fn.ntmps) { tmps:=args++Array.replicate (fn.ntmps-args.size) undef,defers:=[] } w:=by
 refine ⟨rfl,by simp [wO,hl],fun i v d hiv hid=>?_,fun k o hk=>by simp [wO,getKey] at hk,fun k k' o o' hk=>by simp [wO,getKey] at hk,fun c hc=>by simp [wO] at hc,⟨[],rfl,fun i c v hc=>by simp [wO] at hc,.nil⟩,hg,hR,fun _ h=>h,fun _ _=>rfl⟩;simp only [wO] at hid;by_cases hi:i<ds.length
 ·rw [d7h (by simpa using hi),d7g,d7a hi] at hid;simp at hid;subst hid;have:=hv i ds[i] (d7a hi);rw [Array.getElem?_append_left (by omega)] at hiv;have hg:args.getD i undef=v:=by simp [d6Y,hiv]
  rw [hg] at this;exact .d _ _ this
 ·rw [d7e (by simp;omega),List.getElem?_replicate] at hid;split at hid<;>simp at hid;subst hid;rw [Array.getElem?_append_right (by omega),Array.getElem?_replicate] at hiv;split at hiv<;>simp at hiv;subst hiv;exact .cM #[] [] rfl (by simp)
theorem CS.d4A {f:FuncId}{fn:Func}{c:Code}{n:Nat}{ds:List D}{r:DV}{own:Option TypeId}(hf:P.funcs[f]? =some fn)(hb:fn.body=some c)(hn:fn.ntmps=n)(h:VW P G c (wO ds n) fun e s=>(e= .normal∨e= .ret)∧b4X (c0I P s fn.results.toList) r∧b4Y s fn.results.toList own):CS P G f ds r own:=by
 intro w R args hg hR hl hv;refine calls_of_wp hf hb ?_
 have hrel:=Rel.init (P:=P) (G:=G) fn hg hR hl hv;rw [← hn] at h;refine wp_mono (a0H c _ _ h (uR w.heap.size) R _ _ w hrel) fun e a' w' ⟨s,R',μ',⟨he,hres,jR⟩,hr',hs⟩=>?_
 obtain ⟨r0,hres,hwk⟩:=a8q hres;obtain ⟨v,hv1,hv2⟩:=b9t hr' hres;have hpost:a'.defers=[]∧∃v,(results fn a'.tmps).run P w'= .ok v w'∧∃v' R',Ending.returned v= .returned v'∧(∀μ,TV R' μ w' v' r)∧Step (uR w.heap.size) R w R' w'∧(∀b o,R' b o→b<w'.heap.size)∧(∀e,own=some e→mG P (uR w.heap.size) R' w' e v'):=
  ⟨hr'.defers,v,hv1,v,R',rfl,fun μ=>(hv2 μ).wk hwk,hs,hr'.mY,fun e he'=>by subst he';exact b4Z hr' jR hv1⟩
 rcases he with rfl|rfl
 ·exact hpost
 ·exact hpost
theorem Enters.mk {f:FuncId}{fn:Func}(hf:P.funcs[f]? =some fn)(h:(fn.body.isNone==false&&(fn.name== "runtime.NumGoroutine")==false)=true):Enters P f:=by
 simp only [d6W,beq_iff_eq] at h;exact ⟨fn,hf,h.1,h.2⟩
end
inductive KI where
 |code (c:Code)
 |blk (id:Nat)
 |ops (q:Bool) (all:Array Oper) (rest:List Oper)
 |scp
def VK (P:Program)(G:GT):List KI→Exit→St→(Exit→St→Prop)→Prop
 |[],e,st,Q=>Q e st
 | .code c::k,.normal,st,Q=>VW P G c st fun e s=>VK P G k e s Q
 | .code _::k,e,st,Q=>VK P G k e st Q
 | .blk id::k,.exit id',st,Q=>if id'=id then VK P G k .normal st Q else VK P G k (.exit id') st Q
 | .blk _::k,e,st,Q=>VK P G k e st Q
 | .ops q all rest::k,.normal,st,Q=>qQ P G q all rest st fun s=>VK P G k .normal s Q
 | .ops _ _ _::k,e,st,Q=>VK P G k e st Q
 | .scp::_,.goto _,_,_=>False
 | .scp::k,e,st,Q=>VK P G k e st Q
def b5a (P:Program)(G:GT)(v:DV)(x y:Code)(k:List KI)(st:St)(Q:Exit→St→Prop):Prop:=
 match v with
 | .d (.bool t)=>if t then VK P G (.code x::k) .normal st Q else VK P G (.code y::k) .normal st Q
 | .mW=>VK P G (.code x::k) .normal st Q∧VK P G (.code y::k) .normal st Q
 |_=>False
section
variable {P:Program} {G:GT} {k:List KI} {st:St} {Q:Exit→St→Prop}
theorem d1B (e:Exit):VK P G [] e st Q=Q e st:=rfl
theorem c7h:VK P G (.code .skip::k) .normal st Q=VK P G k .normal st Q:=rfl
theorem d1C (x y:Code):VK P G (.code (.seq x y)::k) .normal st Q=VK P G (.code x:: .code y::k) .normal st Q:=by simp only [VK,VW];congr 1;funext e s;cases e<;>rfl
theorem c7i (c:Operand)(x y:Code):VK P G (.code (.cond c x y)::k) .normal st Q=b5a P G (st.eval G c) x y k st Q:=rfl
theorem c2W (id:Nat)(c:Code):VK P G (.code (.block id c)::k) .normal st Q=VK P G (.code c:: .blk id::k) .normal st Q:=by simp only [VK,VW];congr 1;funext e s;cases e<;>rfl
theorem c2X (l:Nat):VK P G (.code (.label l)::k) .normal st Q=VK P G k .normal st Q:=rfl
theorem b0B:VK P G (.scp::k) .normal st Q=VK P G k .normal st Q:=rfl
theorem b7G:VK P G (.scp::k) .ret st Q=VK P G k .ret st Q:=rfl
theorem b5b (id:Nat):VK P G (.scp::k) (.exit id) st Q=VK P G k (.exit id) st Q:=rfl
theorem c0J (id:Nat)(ops:Array Oper):VK P G (.code (.region id ops false)::k) .normal st Q=VK P G (.ops false ops ops.toList::k) .normal st Q:=by simp only [VK,VW];simp
def mA (P:Program)(ops:Array Oper):Prop:=P.follows .mixedOrders=true∧c2M ops=true
theorem mA.mk {ops:Array Oper}(h:(P.follows .mixedOrders&&c2M ops)=true):mA P ops:=by simpa [mA] using h
theorem c2Y (id:Nat)(ops:Array Oper):VK P G (.code (.region id ops true)::k) .normal st Q=(mA P ops∧a5E ops st=true∧VK P G (.ops true ops ops.toList::k) .normal st Q):=by simp only [VK,VW,mA];simp [and_assoc]
theorem c7j (id:Nat):VK P G (.code (.exit id)::k) .normal st Q=VK P G k (.exit id) st Q:=rfl
theorem d1D:VK P G (.code .ret::k) .normal st Q=VK P G k .ret st Q:=rfl
theorem c7k (c:Code):VK P G (.code (.loop c)::k) .normal st Q=SW P G (.loop c) st (fun e s=>VK P G k e s Q):=rfl
theorem b5c (c:Code):VK P G (.code c::k) .ret st Q=VK P G k .ret st Q:=rfl
theorem b2U (c:Code)(id:Nat):VK P G (.code c::k) (.exit id) st Q=VK P G k (.exit id) st Q:=rfl
theorem b0C (id:Nat):VK P G (.blk id::k) .normal st Q=VK P G k .normal st Q:=rfl
theorem b7H (id:Nat):VK P G (.blk id::k) .ret st Q=VK P G k .ret st Q:=rfl
theorem b5d (id id':Nat):VK P G (.blk id::k) (.exit id') st Q=if id'=id then VK P G k .normal st Q else VK P G k (.exit id') st Q:=rfl
theorem b7I (q:Bool)(all:Array Oper):VK P G (.ops q all []::k) .normal st Q=VK P G k .normal st Q:=rfl
def aH (P:Program)(G:GT)(q ro qn:Bool)(f:FuncId)(ds:List D)(ls:List (Option Loc))(dst:Option Tmp)(all:Array Oper)(rest:List Oper)(k:List KI)(st:St)(Q:Exit→St→Prop):Prop:=
 (∃r own,(Enters P f∧CS P G f ds r own)∧(q=true→pA r=true)∧VK P G (.ops q all rest::k) .normal (finish st dst r (if qn then .no else a1f own)) Q)∨
 (ro=false∧∃s',(Enters P f∧kR P G f (ds.map .d) ls st dst s')∧VK P G (.ops q all rest::k) .normal s' Q)
theorem aH.mk {q ro qn:Bool}{ls:List (Option Loc)}{f:FuncId}{ds:List D}{r:DV}{own:Option TypeId}{dst:Option Tmp}{all:Array Oper}{rest:List Oper}(he:Enters P f)(hc:CS P G f ds r own)(h:VK P G (.ops q all rest::k) .normal (finish st dst r (if qn then .no else a1f own)) Q)(hkl:pA r=true:=by rfl):aH P G q ro qn f ds ls dst all rest k st Q:= .inl ⟨r,own,⟨he,hc⟩,fun _=>hkl,h⟩
def a6B (P:Program)(G:GT)(q:Bool)(x:Option Out)(dst:Option Tmp)(all:Array Oper)(rest:List Oper)(k:List KI)(Q:Exit→St→Prop):Prop:=
 match x with
 |some out=>VK P G (.ops q all rest::k) .normal (finish out.st dst out.v out.act) Q
 |none=>False
theorem b7J {q:Bool}{st':St}{v:DV}{act:OA}{dst:Option Tmp}{all:Array Oper}{rest:List Oper}:a6B P G q (some ⟨v,act,st'⟩) dst all rest k Q=VK P G (.ops q all rest::k) .normal (finish st' dst v act) Q:=rfl
theorem b7K (x y:Code):b5a P G (.d (.bool true)) x y k st Q=VK P G (.code x::k) .normal st Q:=rfl
theorem c0K (x y:Code):b5a P G .mW x y k st Q=(VK P G (.code x::k) .normal st Q∧VK P G (.code y::k) .normal st Q):=rfl
theorem b5e (x y:Code):b5a P G (.d (.bool false)) x y k st Q=VK P G (.code y::k) .normal st Q:=rfl
def eW (P:Program)(G:GT)(q ro:Bool)(f:FuncId)(d6U:List DV)(ls:List (Option Loc))(dst:Option Tmp)(all:Array Oper)(rest:List Oper)(k:List KI)(st:St)(Q:Exit→St→Prop):Prop:=
 xL P G ro f d6U ls dst st fun s=>VK P G (.ops q all rest::k) .normal s Q
def a6C (P:Program)(G:GT)(q:Bool)(o:Oper)(all:Array Oper)(rest:List Oper)(k:List KI)(st:St)(Q:Exit→St→Prop):Prop:=
 match gG G o st with
 |some (f,ds)=>aH P G q (pB q all o) (q&& !qO all o) f ds (jD o) o.dst all rest k st Q
 |none=>
  match cX G o st with
  |some (f,d6U)=>eW P G q (pB q all o) f d6U (jD o) o.dst all rest k st Q
  |none=>a6B P G q ((jJ P G o st).map fun out=>⟨out.v,a4l q all o out.v out.act,out.st⟩) o.dst all rest k Q
def zZ (P:Program)(G:GT)(q:Bool)(y:DV)(want:Bool)(o:Oper)(all:Array Oper)(rest:List Oper)(k:List KI)(st:St)(Q:Exit→St→Prop):Prop:=
 match y with
 | .undef=>False
 | .mW=>False
 | .d (.bool b)=>if b=want then a6C P G q o all rest k st Q else VK P G (.ops q all rest::k) .normal (finish st o.dst (.cM []) .no) Q
 |_=>VK P G (.ops q all rest::k) .normal (finish st o.dst (.cM []) .no) Q
theorem xN (q:Bool)(b want:Bool)(o:Oper)(all:Array Oper)(rest:List Oper):zZ P G q (.d (.bool b)) want o all rest k st Q=if b=want then a6C P G q o all rest k st Q else VK P G (.ops q all rest::k) .normal (finish st o.dst (.cM []) .no) Q:=rfl
theorem b7L (q:Bool)(ds:List D)(want:Bool)(o:Oper)(all:Array Oper)(rest:List Oper):zZ P G q (.cM ds) want o all rest k st Q=VK P G (.ops q all rest::k) .normal (finish st o.dst (.cM []) .no) Q:=rfl
theorem a6D (q:Bool)(all:Array Oper)(o:Oper)(rest:List Oper):VK P G (.ops q all (o::rest)::k) .normal st Q=match dU o all st.tmps with
  |some true=>a6C P G q o all rest k st Q
  |some false=>VK P G (.ops q all rest::k) .normal (finish st o.dst (.cM []) .no) Q
  |none=>False:=by
 simp only [VK,qQ,kH,a6C,aH,eW,a6B];split<;>rename_i hw<;>(try simp only [hw]);split<;>rename_i hc<;>(try simp only [hc]);generalize cX G o st=x;cases x with
 |some p=>rfl
 |none=>cases jJ P G o st<;>rfl
theorem b5f (q:Bool)(all:Array Oper)(dst:Option Tmp)(op:Op)(ty:TypeId)(pos:String)(after:Array Edge)(rest:List Oper):
  VK P G (.ops q all (⟨dst,op,ty,pos,after,none⟩::rest)::k) .normal st Q=a6C P G q ⟨dst,op,ty,pos,after,none⟩ all rest k st Q:=by
 rw [a6D]
 rfl
theorem b2V (q:Bool)(all:Array Oper)(dst:Option Tmp)(op:Op)(ty:TypeId)(pos:String)(after:Array Edge)(j:Nat)(want:Bool)(rest:List Oper):
  VK P G (.ops q all (⟨dst,op,ty,pos,after,some (j,want)⟩::rest)::k) .normal st Q=zZ P G q (qT all st.tmps j) want ⟨dst,op,ty,pos,after,some (j,want)⟩ all rest k st Q:=by
 rw [a6D];simp only [dU,zZ];generalize qT all st.tmps j=y;cases y with
 |d x=>
  cases x with
  |bool b=>cases b<;>cases want<;>rfl
  |_=>rfl
 |_=>rfl
theorem CS.bI {f:FuncId}{fn:Func}{c:Code}{n:Nat}{ds:List D}{r:DV}{own:Option TypeId}(hf:P.funcs[f]? =some fn)(hb:fn.body=some c)(hn:fn.ntmps=n){rs:List ResultVar}(hrs:fn.results.toList=rs)(h:VK P G [.code c] .normal (wO ds n) fun e s=>(e= .normal∨e= .ret)∧b4X (c0I P s rs) r∧b4Y s rs own):CS P G f ds r own:=by subst hrs;exact CS.d4A hf hb hn h
theorem eW.mk' {q ro:Bool}{ls:List (Option Loc)}{f:FuncId}{d6U:List DV}{dst:Option Tmp}{all:Array Oper}{rest:List Oper}(h:∃s',(Enters P f∧kR P G f d6U ls st dst s')∧VK P G (.ops q all rest::k) .normal s' Q)(hro:ro=false):eW P G q ro f d6U ls dst all rest k st Q:=by subst hro;exact h
theorem aH.dZ {q ro qn:Bool}{ls:List (Option Loc)}{f:FuncId}{ds:List D}{dst:Option Tmp}{all:Array Oper}{rest:List Oper}(h:∃s',(Enters P f∧kR P G f (ds.map .d) ls st dst s')∧VK P G (.ops q all rest::k) .normal s' Q)(hro:ro=false):aH P G q ro qn f ds ls dst all rest k st Q:= .inr ⟨hro,h⟩
theorem eW.ro' {q ro:Bool}{ls:List (Option Loc)}{f:FuncId}{d6U:List DV}{dst:Option Tmp}{all:Array Oper}{rest:List Oper}{d:DV}{ks:List Nat}(he:Enters P f)(hr:RO P G f d6U ks st.H d)(hn:jL ks st.own=true)(hks:(ks.all fun k=>(getKey k st.H).isSome)=true)(hkl:pA d=true)(h:VK P G (.ops q all rest::k) .normal (finish st dst d .no) Q):eW P G q ro f d6U ls dst all rest k st Q:=by
 cases ro
 ·exact ⟨_,⟨he,hr st (fun _ _=>rfl) hn dst ls⟩,h⟩
 ·exact ⟨d,ks,⟨he,hr,hn,hks,hkl⟩,h⟩
theorem b5g {c:Code}(h:VK P G [.code c] .normal st Q):VW P G c st Q:=h
theorem SW.d4B {ι:Type}{c:Code}(I:ι→St)(m:ι→Nat)(x0:ι)(h0:vM st (I x0))(round:∀x,VK P G [.code c] .normal (I x) fun e s=>match e with
   | .normal=>∃y,vM s (I y)∧m y<m x
   |e=>Q e s):SW P G (.loop c) st Q:=SW.loop I m x0 h0 round
end
attribute [irreducible] VK aH eW a6B b5a zZ
end Go.VM
namespace Go.VM
open Go Go.RowKit
attribute [simp] b1q takeA c2X b0B b7G b5b d1B c7h d1C c7i c2W c0J c2Y a4l a2G qO xK a7I cT c7j d1D c7k b5c b2U b0C b7H b5d b7I b5f b2V a6C b7J b7K b5e c0K b7L qT gG cX a2e rE DV.cell a6n b1p a7R cellOf xI b2E b2H mentions jZ xH a5E eH eD cC qB Loc.uA pA jD a0Y a2f uQ a4c jJ c0u c0v yX a7S a5z c6P a3o pL a6o oR rP b7m a7T b2F wE vUn a7U a4d a2g wF wG a3p a3q pM pN a3r b2G b9l c0t zP a7F pO St.eval ofConst tZ sT finish dY eM getKey cE wC jO jK cH dropKey addAlias Loc.uA pK rF takeD kW c2B c6O b7l wD vI oY uB pZ overwrite b1o isD sU yJ idx bound eU findKeyD a2c a2d eZ c6Q b9k c0s sV D.one D.cells a1f wO c2V a1n c0I c7e
def b2W:Code→List Nat
 | .region _ ops _=>ops.toList.filterMap (·.dst)
 | .seq a b=>b2W a++b2W b
 | .cond _ a b=>b2W a++b2W b
 | .block _ c=>b2W c
 | .scope c=>b2W c
 | .loop c=>b2W c
 |_=>[]
def a8r:List Nat→List DV→List DV
 |[],l=>l
 |i::r,l=>a8r r (l.set i .undef)
def b7M:List (Nat×DV)→List DV→List DV
 |[],l=>l
 |(i,v)::r,l=>b7M r (l.set i v)
def mE (c:Code)(st:St)(ws:List (Nat×DV))(H:List (Nat×aY))(own:List (TypeId×List Loc)):St:=⟨b7M ws (a8r (b2W c) st.tmps),H,own⟩
theorem c2Z (s s':St):vM s s'↔WkT s.tmps s'.tmps∧WkH s.H s'.H∧a4q s s.own s'.own=true∧bA s'.H s'.own=true:=⟨fun h=>⟨h.tmps,h.H,h.own,h.keys⟩,fun h=>⟨h.1,h.2.1,h.2.2.1,h.2.2.2⟩⟩
def bQ {ι:Type}(F:ι→St)(m:ι→Nat)(x:ι)(s:St):Prop:=∃y,vM s (F y)∧m y<m x
theorem bQ.mk {ι:Type}{F:ι→St}{m:ι→Nat}{x:ι}{s:St}(y:ι)(h:vM s (F y))(hm:m y<m x):bQ F m x s:=⟨y,h,hm⟩
theorem SW.kJ {P:Program}{G:GT}{st:St}{Q:Exit→St→Prop}{c:Code}{ι:Type}(ws:ι→List (Nat×DV))(H:ι→List (Nat×aY))(own:ι→List (TypeId×List Loc))(m:ι→Nat)(x0:ι)(h0:vM st (mE c st (ws x0) (H x0) (own x0)))(round:∀x,VK P G [.code c] .normal (mE c st (ws x) (H x) (own x)) fun e s=>match e with
   | .normal=>bQ (fun y=>mE c st (ws y) (H y) (own y)) m x s
   |e=>Q e s):SW P G (.loop c) st Q:=SW.d4B (fun x=>mE c st (ws x) (H x) (own x)) m x0 h0 round
attribute [irreducible] bQ
attribute [simp] b2W a8r b7M mE c2Z WkT WkO WkH a4q a8m isNil vL bA
theorem c0L {P:Program}{G:GT}{k:List KI}{st:St}{Q:Exit→St→Prop}{q:Bool}(o:Oper)(all:Array Oper)(rest:List Oper):zZ P G q (.d (.bool true)) true o all rest k st Q=a6C P G q o all rest k st Q:=by rw [xN,if_pos rfl]
theorem c0M {P:Program}{G:GT}{k:List KI}{st:St}{Q:Exit→St→Prop}{q:Bool}(o:Oper)(all:Array Oper)(rest:List Oper):zZ P G q (.d (.bool false)) false o all rest k st Q=a6C P G q o all rest k st Q:=by rw [xN,if_pos rfl]
theorem c0N {P:Program}{G:GT}{k:List KI}{st:St}{Q:Exit→St→Prop}{q:Bool}(o:Oper)(all:Array Oper)(rest:List Oper):zZ P G q (.d (.bool true)) false o all rest k st Q=VK P G (.ops q all rest::k) .normal (finish st o.dst (.cM []) .no) Q:=by rw [xN,if_neg (by decide)]
theorem c0O {P:Program}{G:GT}{k:List KI}{st:St}{Q:Exit→St→Prop}{q:Bool}(o:Oper)(all:Array Oper)(rest:List Oper):zZ P G q (.d (.bool false)) true o all rest k st Q=VK P G (.ops q all rest::k) .normal (finish st o.dst (.cM []) .no) Q:=by rw [xN,if_neg (by decide)]
attribute [simp] c0L c0M c0N c0O
attribute [simp] c2R a8o b1E c2S c2T c7c d1A c7d c2U a5F b4X b4Y
theorem c7l (a b:Int):(a==b)=decide (a=b):=rfl
theorem c7m (a b:Int):(a !=b)= !decide (a=b):=rfl
theorem d1E (a b:List UInt8):(a==b)=decide (a=b):=by by_cases h:a=b<;>simp [h]
attribute [simp] c7l c7m d1E
theorem b5h (n m:Nat):((no_index (OfNat.ofNat n):Int)≤(m:Int))=((OfNat.ofNat n:Nat)≤m):=propext Int.ofNat_le
theorem b5i (n m:Nat):((m:Int)≤(no_index (OfNat.ofNat n):Int))=(m≤(OfNat.ofNat n:Nat)):=propext Int.ofNat_le
theorem b5j (n m:Nat):((no_index (OfNat.ofNat n):Int)<(m:Int))=((OfNat.ofNat n:Nat)<m):=propext Int.ofNat_lt
theorem b5k (n m:Nat):((m:Int)<(no_index (OfNat.ofNat n):Int))=(m<(OfNat.ofNat n:Nat)):=propext Int.ofNat_lt
theorem b5l (n m:Nat):((m:Int)=(no_index (OfNat.ofNat n):Int))=(m=(OfNat.ofNat n:Nat)):=propext Int.ofNat_inj
theorem b2X (n m:Nat):(((n:Int)+1)≤(m:Int))=(n+1≤m):=by apply propext;omega
theorem b2Y (n m:Nat):(((n:Int)+1)<(m:Int))=(n+1<m):=by apply propext;omega
theorem b5m (n:Nat):(0≤(n:Int)+1)=True:=by apply propext;simp;omega
attribute [simp] b2X b2Y b5m
attribute [simp] b5h b5i b5j b5k b5l
end Go.VM
end
namespace Go.Proofs.YtjpodcmhcenjjaaGreatDoor
section
open Go Go.VM
@[simp] theorem d3T:Tryz.prog.cellsOf 3=1:=by kernel_rfl
@[simp] theorem d3U:gY Tryz.prog 3=some [.int .i64 0]:=by kernel_rfl
@[simp] theorem d3V:Tryz.prog.cellsOf 4=1:=by kernel_rfl
@[simp] theorem d3W:Tryz.prog.cellsOf 9=1:=by kernel_rfl
@[simp] theorem d3X:Tryz.prog.bytesOf 9=16:=by kernel_rfl
@[simp] theorem d1F:Tryz.prog.cellsOf 24=1:=by kernel_rfl
@[simp] theorem d1G:Tryz.prog.cellsOf 25=1:=by kernel_rfl
@[simp] theorem d1H:gY Tryz.prog 25=some [.aM]:=by kernel_rfl
@[simp] theorem d3Y:eP Tryz.prog 25=some 30:=by kernel_rfl
@[simp] theorem d1I:Tryz.prog.cellsOf 26=1:=by kernel_rfl
@[simp] theorem d3Z:eP Tryz.prog 26=some 135:=by kernel_rfl
@[simp] theorem d1J:Tryz.prog.cellsOf 27=1:=by kernel_rfl
@[simp] theorem d4a:eP Tryz.prog 27=some 91:=by kernel_rfl
@[simp] theorem d1K:Tryz.prog.cellsOf 28=1:=by kernel_rfl
@[simp] theorem d1L:gY Tryz.prog 28=some [.aM]:=by kernel_rfl
@[simp] theorem d4b:eP Tryz.prog 28=some 45:=by kernel_rfl
@[simp] theorem d1M:Tryz.prog.cellsOf 30=7:=by kernel_rfl
@[simp] theorem d1N:Tryz.prog.bytesOf 30=128:=by kernel_rfl
@[simp] theorem d1O:gY Tryz.prog 30=some [.int .i64 0,.str [],.int .i64 0,.aM,.aM,.aM,.aM]:=by kernel_rfl
@[simp] theorem c5L:dD Tryz.prog 30=true:=by kernel_rfl
@[simp] theorem c7o:aK Tryz.prog 30 0=some (0,24):=by kernel_rfl
@[simp] theorem c7p:aK Tryz.prog 30 1=some (1,9):=by kernel_rfl
@[simp] theorem c7q:aK Tryz.prog 30 2=some (2,3):=by kernel_rfl
@[simp] theorem c7r:aK Tryz.prog 30 3=some (3,25):=by kernel_rfl
@[simp] theorem c7s:aK Tryz.prog 30 4=some (4,26):=by kernel_rfl
@[simp] theorem c7t:aK Tryz.prog 30 5=some (5,27):=by kernel_rfl
@[simp] theorem c7u:aK Tryz.prog 30 6=some (6,28):=by kernel_rfl
@[simp] theorem d1P:Tryz.prog.cellsOf 31=1:=by kernel_rfl
@[simp] theorem d1Q:gY Tryz.prog 31=some [.int .i64 0]:=by kernel_rfl
@[simp] theorem d1R:Tryz.prog.cellsOf 38=1:=by kernel_rfl
@[simp] theorem d1S:Tryz.prog.cellsOf 39=1:=by kernel_rfl
@[simp] theorem d1T:gY Tryz.prog 39=some [.aM]:=by kernel_rfl
@[simp] theorem d4c:eP Tryz.prog 39=some 9:=by kernel_rfl
@[simp] theorem d1U:Tryz.prog.cellsOf 40=1:=by kernel_rfl
@[simp] theorem d1V:Tryz.prog.cellsOf 41=1:=by kernel_rfl
@[simp] theorem d4d:eP Tryz.prog 41=some 43:=by kernel_rfl
@[simp] theorem d1W:Tryz.prog.cellsOf 43=4:=by kernel_rfl
@[simp] theorem d1X:Tryz.prog.bytesOf 43=56:=by kernel_rfl
@[simp] theorem d1Y:gY Tryz.prog 43=some [.int .i64 0,.str [],.int .i64 0,.aM]:=by kernel_rfl
@[simp] theorem c5M:dD Tryz.prog 43=true:=by kernel_rfl
@[simp] theorem c7v:aK Tryz.prog 43 0=some (0,40):=by kernel_rfl
@[simp] theorem c7w:aK Tryz.prog 43 1=some (1,9):=by kernel_rfl
@[simp] theorem c7x:aK Tryz.prog 43 2=some (2,3):=by kernel_rfl
@[simp] theorem c7y:aK Tryz.prog 43 3=some (3,41):=by kernel_rfl
@[simp] theorem d1Z:Tryz.prog.cellsOf 45=9:=by kernel_rfl
@[simp] theorem d2a:Tryz.prog.bytesOf 45=152:=by kernel_rfl
@[simp] theorem d2b:gY Tryz.prog 45=some [.int .i64 0,.str [],.aM,.aM,.int .i64 0,.str [],.int .i64 0,.aM,.aM]:=by kernel_rfl
@[simp] theorem c5N:dD Tryz.prog 45=true:=by kernel_rfl
@[simp] theorem c7z:aK Tryz.prog 45 0=some (0,38):=by kernel_rfl
@[simp] theorem c7A:aK Tryz.prog 45 1=some (1,9):=by kernel_rfl
@[simp] theorem c7B:aK Tryz.prog 45 2=some (2,28):=by kernel_rfl
@[simp] theorem c7C:aK Tryz.prog 45 3=some (3,39):=by kernel_rfl
@[simp] theorem c7D:aK Tryz.prog 45 4=some (4,43):=by kernel_rfl
@[simp] theorem c7E:aK Tryz.prog 45 5=some (8,41):=by kernel_rfl
@[simp] theorem d2c:Tryz.prog.cellsOf 51=1:=by kernel_rfl
@[simp] theorem d4e:eP Tryz.prog 51=some 78:=by kernel_rfl
@[simp] theorem d2d:Tryz.prog.cellsOf 52=1:=by kernel_rfl
@[simp] theorem d4f:eP Tryz.prog 52=some 111:=by kernel_rfl
@[simp] theorem d2e:Tryz.prog.cellsOf 53=1:=by kernel_rfl
@[simp] theorem d4g:eP Tryz.prog 53=some 114:=by kernel_rfl
@[simp] theorem d2f:Tryz.prog.cellsOf 54=1:=by kernel_rfl
@[simp] theorem d4h:eP Tryz.prog 54=some 82:=by kernel_rfl
@[simp] theorem d2g:Tryz.prog.cellsOf 55=1:=by kernel_rfl
@[simp] theorem d4i:eP Tryz.prog 55=some 118:=by kernel_rfl
@[simp] theorem d2h:Tryz.prog.cellsOf 56=1:=by kernel_rfl
@[simp] theorem d4j:eP Tryz.prog 56=some 70:=by kernel_rfl
@[simp] theorem d2i:Tryz.prog.cellsOf 58=6:=by kernel_rfl
@[simp] theorem d2j:gY Tryz.prog 58=some [.aM,.aM,.aM,.aM,.aM,.aM]:=by kernel_rfl
@[simp] theorem c5O:dD Tryz.prog 58=true:=by kernel_rfl
@[simp] theorem c7F:aK Tryz.prog 58 0=some (0,51):=by kernel_rfl
@[simp] theorem c7G:aK Tryz.prog 58 1=some (1,52):=by kernel_rfl
@[simp] theorem c7H:aK Tryz.prog 58 2=some (2,53):=by kernel_rfl
@[simp] theorem c7I:aK Tryz.prog 58 3=some (3,54):=by kernel_rfl
@[simp] theorem c7J:aK Tryz.prog 58 4=some (4,55):=by kernel_rfl
@[simp] theorem c7K:aK Tryz.prog 58 5=some (5,56):=by kernel_rfl
@[simp] theorem d2k:Tryz.prog.cellsOf 63=1:=by kernel_rfl
@[simp] theorem d2l:Tryz.prog.cellsOf 64=1:=by kernel_rfl
@[simp] theorem d2m:gY Tryz.prog 64=some [.aM]:=by kernel_rfl
@[simp] theorem d4k:eP Tryz.prog 64=some 181:=by kernel_rfl
@[simp] theorem d2n:Tryz.prog.cellsOf 65=1:=by kernel_rfl
@[simp] theorem d4l:eP Tryz.prog 65=some 161:=by kernel_rfl
@[simp] theorem d2o:Tryz.prog.cellsOf 66=1:=by kernel_rfl
@[simp] theorem d4m:eP Tryz.prog 66=some 163:=by kernel_rfl
@[simp] theorem d2p:Tryz.prog.cellsOf 68=14:=by kernel_rfl
@[simp] theorem d2q:gY Tryz.prog 68=some [.aM,.aM,.aM,.aM,.int .i64 0,.str [],.aM,.aM,.int .i64 0,.str [],.int .i64 0,.aM,.aM,.aM]:=by kernel_rfl
@[simp] theorem c7L:aK Tryz.prog 68 0=some (0,39):=by kernel_rfl
@[simp] theorem c7M:aK Tryz.prog 68 1=some (1,64):=by kernel_rfl
@[simp] theorem c7N:aK Tryz.prog 68 2=some (2,65):=by kernel_rfl
@[simp] theorem c7O:aK Tryz.prog 68 3=some (3,66):=by kernel_rfl
@[simp] theorem c7P:aK Tryz.prog 68 4=some (4,45):=by kernel_rfl
@[simp] theorem c7Q:aK Tryz.prog 68 5=some (13,41):=by kernel_rfl
@[simp] theorem d2r:Tryz.prog.cellsOf 70=25:=by kernel_rfl
@[simp] theorem d2s:Tryz.prog.bytesOf 70=456:=by kernel_rfl
@[simp] theorem d2t:gY Tryz.prog 70=some [.str [],.aM,.int .i64 0,.str [],.int .i64 0,.aM,.aM,.aM,.aM,.int .i64 0,.bool false,.aM,.aM,.aM,.aM,.int .i64 0,.str [],.aM,.aM,.int .i64 0,.str [],.int .i64 0,.aM,.aM,.aM]:=by kernel_rfl
@[simp] theorem c5P:dD Tryz.prog 70=true:=by kernel_rfl
@[simp] theorem c7R:aK Tryz.prog 70 0=some (0,9):=by kernel_rfl
@[simp] theorem c7S:aK Tryz.prog 70 1=some (1,39):=by kernel_rfl
@[simp] theorem c7T:aK Tryz.prog 70 2=some (2,30):=by kernel_rfl
@[simp] theorem c7U:aK Tryz.prog 70 3=some (9,63):=by kernel_rfl
@[simp] theorem c7V:aK Tryz.prog 70 4=some (10,4):=by kernel_rfl
@[simp] theorem c7W:aK Tryz.prog 70 5=some (11,68):=by kernel_rfl
@[simp] theorem d2u:Tryz.prog.cellsOf 75=1:=by kernel_rfl
@[simp] theorem d2v:gY Tryz.prog 75=some [.aM]:=by kernel_rfl
@[simp] theorem d4n:eP Tryz.prog 75=some 179:=by kernel_rfl
@[simp] theorem d2w:Tryz.prog.cellsOf 76=1:=by kernel_rfl
@[simp] theorem d4o:eP Tryz.prog 76=some 147:=by kernel_rfl
@[simp] theorem d2x:Tryz.prog.cellsOf 78=4:=by kernel_rfl
@[simp] theorem d2y:Tryz.prog.bytesOf 78=88:=by kernel_rfl
@[simp] theorem d2z:gY Tryz.prog 78=some [.str [],.aM,.aM,.aM]:=by kernel_rfl
@[simp] theorem c5Q:dD Tryz.prog 78=true:=by kernel_rfl
@[simp] theorem c7X:aK Tryz.prog 78 0=some (0,9):=by kernel_rfl
@[simp] theorem c7Y:aK Tryz.prog 78 1=some (1,39):=by kernel_rfl
@[simp] theorem c7Z:aK Tryz.prog 78 2=some (2,75):=by kernel_rfl
@[simp] theorem c8a:aK Tryz.prog 78 3=some (3,76):=by kernel_rfl
@[simp] theorem d2A:Tryz.prog.cellsOf 79=1:=by kernel_rfl
@[simp] theorem d2B:Tryz.prog.cellsOf 80=1:=by kernel_rfl
@[simp] theorem d4p:eP Tryz.prog 80=some 151:=by kernel_rfl
@[simp] theorem d2C:Tryz.prog.cellsOf 82=8:=by kernel_rfl
@[simp] theorem d2D:Tryz.prog.bytesOf 82=128:=by kernel_rfl
@[simp] theorem d2E:gY Tryz.prog 82=some [.str [],.str [],.str [],.aM,.int .i64 0,.str [],.int .i64 0,.aM]:=by kernel_rfl
@[simp] theorem c5R:dD Tryz.prog 82=true:=by kernel_rfl
@[simp] theorem c8b:aK Tryz.prog 82 0=some (0,9):=by kernel_rfl
@[simp] theorem c8c:aK Tryz.prog 82 1=some (1,9):=by kernel_rfl
@[simp] theorem c8d:aK Tryz.prog 82 2=some (2,79):=by kernel_rfl
@[simp] theorem c8e:aK Tryz.prog 82 3=some (3,80):=by kernel_rfl
@[simp] theorem c8f:aK Tryz.prog 82 4=some (4,43):=by kernel_rfl
@[simp] theorem d2F:Tryz.prog.cellsOf 91=9:=by kernel_rfl
@[simp] theorem d2G:Tryz.prog.bytesOf 91=168:=by kernel_rfl
@[simp] theorem d2H:gY Tryz.prog 91=some [.str [],.aM,.int .i64 0,.str [],.int .i64 0,.aM,.aM,.aM,.aM]:=by kernel_rfl
@[simp] theorem c5S:dD Tryz.prog 91=true:=by kernel_rfl
@[simp] theorem c8g:aK Tryz.prog 91 0=some (0,9):=by kernel_rfl
@[simp] theorem c8h:aK Tryz.prog 91 1=some (1,39):=by kernel_rfl
@[simp] theorem c8i:aK Tryz.prog 91 2=some (2,30):=by kernel_rfl
@[simp] theorem d2I:Tryz.prog.cellsOf 94=1:=by kernel_rfl
@[simp] theorem d2J:Tryz.prog.cellsOf 96=4:=by kernel_rfl
@[simp] theorem d2K:Tryz.prog.bytesOf 96=40:=by kernel_rfl
@[simp] theorem d2L:gY Tryz.prog 96=some [.int .i64 0,.str [],.int .i64 0,.int .i64 0]:=by kernel_rfl
@[simp] theorem c5T:dD Tryz.prog 96=true:=by kernel_rfl
@[simp] theorem c8j:aK Tryz.prog 96 0=some (0,94):=by kernel_rfl
@[simp] theorem c8k:aK Tryz.prog 96 1=some (1,9):=by kernel_rfl
@[simp] theorem c8l:aK Tryz.prog 96 2=some (2,3):=by kernel_rfl
@[simp] theorem c8m:aK Tryz.prog 96 3=some (3,3):=by kernel_rfl
@[simp] theorem c9T:Tryz.prog.cellsOf 103=1:=by kernel_rfl
@[simp] theorem d2M:eP Tryz.prog 103=some 96:=by kernel_rfl
@[simp] theorem c9U:Tryz.prog.cellsOf 109=1:=by kernel_rfl
@[simp] theorem d2N:eP Tryz.prog 109=some 148:=by kernel_rfl
@[simp] theorem c9V:Tryz.prog.cellsOf 111=3:=by kernel_rfl
@[simp] theorem c9W:Tryz.prog.bytesOf 111=56:=by kernel_rfl
@[simp] theorem c9X:gY Tryz.prog 111=some [.str [],.str [],.aM]:=by kernel_rfl
@[simp] theorem c3a:dD Tryz.prog 111=true:=by kernel_rfl
@[simp] theorem c5U:aK Tryz.prog 111 0=some (0,9):=by kernel_rfl
@[simp] theorem c5V:aK Tryz.prog 111 1=some (1,9):=by kernel_rfl
@[simp] theorem c5W:aK Tryz.prog 111 2=some (2,109):=by kernel_rfl
@[simp] theorem c9Y:Tryz.prog.cellsOf 114=12:=by kernel_rfl
@[simp] theorem c9Z:Tryz.prog.bytesOf 114=216:=by kernel_rfl
@[simp] theorem d0a:gY Tryz.prog 114=some [.str [],.int .i64 0,.str [],.aM,.aM,.int .i64 0,.str [],.int .i64 0,.aM,.aM,.aM,.aM]:=by kernel_rfl
@[simp] theorem c3b:dD Tryz.prog 114=true:=by kernel_rfl
@[simp] theorem c5X:aK Tryz.prog 114 0=some (0,9):=by kernel_rfl
@[simp] theorem c5Y:aK Tryz.prog 114 1=some (1,45):=by kernel_rfl
@[simp] theorem c5Z:aK Tryz.prog 114 2=some (10,64):=by kernel_rfl
@[simp] theorem c6a:aK Tryz.prog 114 3=some (11,56):=by kernel_rfl
@[simp] theorem d0b:Tryz.prog.cellsOf 118=6:=by kernel_rfl
@[simp] theorem d0c:Tryz.prog.bytesOf 118=96:=by kernel_rfl
@[simp] theorem d0d:gY Tryz.prog 118=some [.str [],.aM,.int .i64 0,.str [],.int .i64 0,.aM]:=by kernel_rfl
@[simp] theorem c3c:dD Tryz.prog 118=true:=by kernel_rfl
@[simp] theorem c6b:aK Tryz.prog 118 0=some (0,9):=by kernel_rfl
@[simp] theorem c6c:aK Tryz.prog 118 1=some (1,75):=by kernel_rfl
@[simp] theorem c6d:aK Tryz.prog 118 2=some (2,43):=by kernel_rfl
@[simp] theorem d0e:Tryz.prog.cellsOf 127=2:=by kernel_rfl
@[simp] theorem d0f:gY Tryz.prog 127=some [.int .i64 0,.int .i64 0]:=by kernel_rfl
@[simp] theorem c3d:dD Tryz.prog 127=true:=by kernel_rfl
@[simp] theorem c6e:aK Tryz.prog 127 0=some (0,3):=by kernel_rfl
@[simp] theorem c6f:aK Tryz.prog 127 1=some (1,31):=by kernel_rfl
@[simp] theorem d0g:gY Tryz.prog 130=some [.aM,.int .i64 0]:=by kernel_rfl
@[simp] theorem c3e:dD Tryz.prog 130=true:=by kernel_rfl
@[simp] theorem c6g:aK Tryz.prog 130 0=some (0,103):=by kernel_rfl
@[simp] theorem c6h:aK Tryz.prog 130 1=some (1,3):=by kernel_rfl
@[simp] theorem d0h:Tryz.prog.cellsOf 135=10:=by kernel_rfl
@[simp] theorem d0i:gY Tryz.prog 135=some [.str [],.int .i64 0,.str [],.aM,.aM,.int .i64 0,.str [],.int .i64 0,.aM,.aM]:=by kernel_rfl
@[simp] theorem c3f:dD Tryz.prog 135=true:=by kernel_rfl
@[simp] theorem c6i:aK Tryz.prog 135 0=some (0,9):=by kernel_rfl
@[simp] theorem c6j:aK Tryz.prog 135 1=some (1,45):=by kernel_rfl
@[simp] theorem d0j:Tryz.prog.cellsOf 147=3:=by kernel_rfl
@[simp] theorem d0k:Tryz.prog.bytesOf 147=64:=by kernel_rfl
@[simp] theorem d0l:gY Tryz.prog 147=some [.str [],.aM,.aM]:=by kernel_rfl
@[simp] theorem c3g:dD Tryz.prog 147=true:=by kernel_rfl
@[simp] theorem c6k:aK Tryz.prog 147 0=some (0,9):=by kernel_rfl
@[simp] theorem c6l:aK Tryz.prog 147 1=some (1,39):=by kernel_rfl
@[simp] theorem c6m:aK Tryz.prog 147 2=some (2,28):=by kernel_rfl
@[simp] theorem d0m:Tryz.prog.cellsOf 148=10:=by kernel_rfl
@[simp] theorem d0n:gY Tryz.prog 148=some [.str [],.int .i64 0,.str [],.aM,.aM,.int .i64 0,.str [],.int .i64 0,.aM,.aM]:=by kernel_rfl
@[simp] theorem c3h:dD Tryz.prog 148=true:=by kernel_rfl
@[simp] theorem c6n:aK Tryz.prog 148 0=some (0,9):=by kernel_rfl
@[simp] theorem c6o:aK Tryz.prog 148 1=some (1,45):=by kernel_rfl
@[simp] theorem d0o:Tryz.prog.cellsOf 151=6:=by kernel_rfl
@[simp] theorem d0p:Tryz.prog.bytesOf 151=96:=by kernel_rfl
@[simp] theorem d0q:gY Tryz.prog 151=some [.str [],.aM,.int .i64 0,.str [],.int .i64 0,.aM]:=by kernel_rfl
@[simp] theorem c3i:dD Tryz.prog 151=true:=by kernel_rfl
@[simp] theorem c6p:aK Tryz.prog 151 0=some (0,9):=by kernel_rfl
@[simp] theorem c6q:aK Tryz.prog 151 1=some (1,39):=by kernel_rfl
@[simp] theorem c6r:aK Tryz.prog 151 2=some (2,43):=by kernel_rfl
@[simp] theorem d0r:Tryz.prog.cellsOf 161=2:=by kernel_rfl
@[simp] theorem d0s:Tryz.prog.bytesOf 161=32:=by kernel_rfl
@[simp] theorem d0t:gY Tryz.prog 161=some [.str [],.str []]:=by kernel_rfl
@[simp] theorem c3j:dD Tryz.prog 161=true:=by kernel_rfl
@[simp] theorem c6s:aK Tryz.prog 161 0=some (0,9):=by kernel_rfl
@[simp] theorem c6t:aK Tryz.prog 161 1=some (1,79):=by kernel_rfl
@[simp] theorem d0u:Tryz.prog.cellsOf 163=10:=by kernel_rfl
@[simp] theorem d0v:Tryz.prog.bytesOf 163=152:=by kernel_rfl
@[simp] theorem d0w:gY Tryz.prog 163=some [.str [],.aM,.int .i64 0,.str [],.int .i64 0,.aM,.int .i64 0,.str [],.int .i64 0,.aM]:=by kernel_rfl
@[simp] theorem c3k:dD Tryz.prog 163=true:=by kernel_rfl
@[simp] theorem c6u:aK Tryz.prog 163 0=some (0,9):=by kernel_rfl
@[simp] theorem c6v:aK Tryz.prog 163 1=some (1,75):=by kernel_rfl
@[simp] theorem c6w:aK Tryz.prog 163 2=some (2,43):=by kernel_rfl
@[simp] theorem c6x:aK Tryz.prog 163 3=some (6,43):=by kernel_rfl
@[simp] theorem d0x:Tryz.prog.cellsOf 179=2:=by kernel_rfl
@[simp] theorem d0y:Tryz.prog.bytesOf 179=32:=by kernel_rfl
@[simp] theorem d0z:gY Tryz.prog 179=some [.str [],.str []]:=by kernel_rfl
@[simp] theorem c3l:dD Tryz.prog 179=true:=by kernel_rfl
@[simp] theorem c6y:aK Tryz.prog 179 0=some (0,9):=by kernel_rfl
@[simp] theorem c6z:aK Tryz.prog 179 1=some (1,79):=by kernel_rfl
@[simp] theorem d0A:Tryz.prog.cellsOf 181=2:=by kernel_rfl
@[simp] theorem d0B:Tryz.prog.bytesOf 181=32:=by kernel_rfl
@[simp] theorem d0C:gY Tryz.prog 181=some [.str [],.str []]:=by kernel_rfl
@[simp] theorem c3m:dD Tryz.prog 181=true:=by kernel_rfl
@[simp] theorem c6A:aK Tryz.prog 181 0=some (0,9):=by kernel_rfl
@[simp] theorem c6B:aK Tryz.prog 181 1=some (1,9):=by kernel_rfl
@[simp] theorem d0D:Tryz.prog.cellsOf 199=42:=by kernel_rfl
@[simp] theorem d0E:Tryz.prog.cellsOf 204=1:=by kernel_rfl
@[simp] theorem d0F:gY Tryz.prog 204=some [.aM]:=by kernel_rfl
@[simp] theorem c3n:dD Tryz.prog 204=true:=by kernel_rfl
@[simp] theorem c6C:aK Tryz.prog 204 0=some (0,103):=by kernel_rfl
@[simp] theorem d2O:eP Tryz.prog 236=some 40:=by kernel_rfl
@[simp] theorem d0G:Tryz.prog.cellsOf 239=4:=by kernel_rfl
@[simp] theorem d0H:gY Tryz.prog 239=some [.int .i64 0,.int .i64 0,.int .i64 0,.str []]:=by kernel_rfl
@[simp] theorem c3o:dD Tryz.prog 239=true:=by kernel_rfl
@[simp] theorem c6D:aK Tryz.prog 239 0=some (0,3):=by kernel_rfl
@[simp] theorem c6E:aK Tryz.prog 239 1=some (1,3):=by kernel_rfl
@[simp] theorem c6F:aK Tryz.prog 239 2=some (2,3):=by kernel_rfl
@[simp] theorem c6G:aK Tryz.prog 239 3=some (3,9):=by kernel_rfl
@[simp] theorem d2P:gC Tryz.prog 9=true:=by kernel_rfl
@[simp] theorem d0I:gC Tryz.prog 30=true:=by kernel_rfl
@[simp] theorem d0J:gC Tryz.prog 40=true:=by kernel_rfl
@[simp] theorem d0K:gC Tryz.prog 43=true:=by kernel_rfl
@[simp] theorem d0L:gC Tryz.prog 45=true:=by kernel_rfl
@[simp] theorem d0M:gC Tryz.prog 70=true:=by kernel_rfl
@[simp] theorem d0N:gC Tryz.prog 78=true:=by kernel_rfl
@[simp] theorem d0O:gC Tryz.prog 82=true:=by kernel_rfl
@[simp] theorem d0P:gC Tryz.prog 91=true:=by kernel_rfl
@[simp] theorem d0Q:gC Tryz.prog 96=true:=by kernel_rfl
@[simp] theorem c8n:gC Tryz.prog 111=true:=by kernel_rfl
@[simp] theorem c8o:gC Tryz.prog 114=true:=by kernel_rfl
@[simp] theorem c8p:gC Tryz.prog 118=true:=by kernel_rfl
@[simp] theorem c8q:gC Tryz.prog 135=true:=by kernel_rfl
@[simp] theorem c8r:gC Tryz.prog 147=true:=by kernel_rfl
@[simp] theorem c8s:gC Tryz.prog 148=true:=by kernel_rfl
@[simp] theorem c8t:gC Tryz.prog 151=true:=by kernel_rfl
@[simp] theorem c8u:gC Tryz.prog 161=true:=by kernel_rfl
@[simp] theorem c8v:gC Tryz.prog 163=true:=by kernel_rfl
@[simp] theorem c8w:gC Tryz.prog 179=true:=by kernel_rfl
@[simp] theorem c8x:gC Tryz.prog 181=true:=by kernel_rfl
end
section
open Go Go.VM
variable {G:GT}
theorem wrap64 {n:Int}(h: -9223372036854775808≤n∧n≤9223372036854775807):IntKind.i64.wrap n=n:=by unfold IntKind.wrap;simp [IntKind.bits,IntKind.signed];omega
theorem bO {i:Nat}(h:i<9223372036854775807):IntKind.i64.wrap ((i:Int)+1)=((i+1:Nat):Int):=by rw [wrap64 (by omega)];simp
def wP (c:Int):Bool:=decide (97≤c)&&decide (c≤122)
def c0P (c:Int):Bool:=decide (65≤c)&&decide (c≤90)
def b7N (c:Int):Bool:=decide (48≤c)&&decide (c≤57)
def anB (c:Int):Bool:=wP c||c0P c||b7N c
def wdB (c:Int):Bool:=wP c||b7N c||c==95
def sizedB (s:List UInt8):Bool:=decide (1≤s.length)&&decide (s.length≤24)
def uG (p:Int→Bool)(s:List UInt8):Bool:=s.all fun c=>p c.toNat
theorem qE {p:Int→Bool}{s:List UInt8}{i:Nat}{b:Bool}(he:b=uG p (s.drop i))(hlt:i<s.length)(hp:p s[i].toNat=true):b=uG p (s.drop (i+1)):=by unfold uG at he;rw [he,d7j hlt];simp only [List.all_cons,hp,Bool.true_and,uG]
theorem a2i {p:Int→Bool}{s:List UInt8}{i:Nat}{b:Bool}(he:b=uG p (s.drop i))(hlt:i<s.length)(hp:p s[i].toNat=false):b=false:=by unfold uG at he;rw [he,d7j hlt];simp only [List.all_cons,hp,Bool.false_and]
theorem a8t {p:Int→Bool}{s:List UInt8}{i:Nat}{b:Bool}(he:b=uG p (s.drop i))(hlt: ¬i<s.length):b=true:=by
 rw [he,List.drop_of_length_le (by omega)]
 rfl
theorem c3q {α:Type}{f:α→Bool}{l:List α}{i:Nat}{b:Bool}(he:b=(l.drop i).any f)(hlt:i<l.length)(hp:f l[i]=false):b=(l.drop (i+1)).any f:=by rw [he,d7j hlt];simp only [List.any_cons,hp,Bool.false_or]
theorem c3r {α:Type}{f:α→Bool}{l:List α}{i:Nat}{b:Bool}(he:b=(l.drop i).any f)(hlt:i<l.length)(hp:f l[i]=true):b=true:=by rw [he,d7j hlt];simp only [List.any_cons,hp,Bool.true_or]
theorem c8y {α:Type}{f:α→Bool}{l:List α}{i:Nat}{b:Bool}(he:b=(l.drop i).any f)(hlt: ¬i<l.length):b=false:=by
 rw [he,List.drop_of_length_le (by omega)]
 rfl
theorem xO:VM.Enters Tryz.prog 266:=VM.Enters.mk Tryz.func266 rfl
theorem a1o:VM.Enters Tryz.prog 267:=VM.Enters.mk Tryz.func267 rfl
theorem a2T:VM.Enters Tryz.prog 268:=VM.Enters.mk Tryz.func268 rfl
theorem a1p:VM.Enters Tryz.prog 252:=VM.Enters.mk Tryz.func252 rfl
theorem wQ:VM.Enters Tryz.prog 253:=VM.Enters.mk Tryz.func253 rfl
theorem b7O:VM.Enters Tryz.prog 254:=VM.Enters.mk Tryz.func254 rfl
theorem a0a (c:Int):CS Tryz.prog G 266 [.int .u8 c] (.d (.bool (wP c))) none:=by
 refine CS.bI Tryz.func266 rfl Tryz.ntmps266 rfl ?_
 by_cases h:97≤c<;>simp [wP,h]
theorem a3E (c:Int):CS Tryz.prog G 267 [.int .u8 c] (.d (.bool (b7N c))) none:=by
 refine CS.bI Tryz.func267 rfl Tryz.ntmps267 rfl ?_
 by_cases h:48≤c<;>simp [b7N,h]
theorem a4r (c:Int):CS Tryz.prog G 268 [.int .u8 c] (.d (.bool (c0P c))) none:=by
 refine CS.bI Tryz.func268 rfl Tryz.ntmps268 rfl ?_
 by_cases h:65≤c<;>simp [c0P,h]
theorem a3F (s:List UInt8):CS Tryz.prog G 252 [.str s] (.d (.bool (sizedB s))) none:=by
 refine CS.bI Tryz.func252 rfl Tryz.ntmps252 rfl ?_
 by_cases h:1≤s.length<;>simp [sizedB,h]
theorem xP (s:List UInt8)(hs:s.length≤1000000):CS Tryz.prog G 253 [.str s] (.d (.bool (uG anB s))) none:=by
 refine CS.bI Tryz.func253 rfl Tryz.ntmps253 rfl ?_
 simp;refine SW.kJ (ι:={ i:Nat // i≤s.length∧uG anB s=uG anB (s.drop i) }) (fun i=>[(3,.d (.int .i64 i.1))]) (fun _=>[]) (fun _=>[]) (fun i=>s.length-i.1) ⟨0,by simp⟩ (by simp) ?_
 rintro ⟨i,hi,he⟩;by_cases hlt:i<s.length
 ·simp [hlt];refine aH.mk xO (a0a _) ?_
  have hw:=bO (show i<9223372036854775807 by omega);cases h1:wP s[i].toNat
  ·simp [hlt];refine aH.mk a2T (a4r _) ?_
   cases h2:c0P s[i].toNat
   ·simp [hlt];refine aH.mk a1o (a3E _) ?_
    cases h3:b7N s[i].toNat
    ·simp [hlt];exact a2i he hlt (by simp [anB,h1,h2,h3])
    ·simp [hlt];exact bQ.mk ⟨i+1,hlt,qE he hlt (by simp [anB,h3])⟩ (by simp [hw]) (by simp;omega)
   ·simp [hlt];exact bQ.mk ⟨i+1,hlt,qE he hlt (by simp [anB,h2])⟩ (by simp [hw]) (by simp;omega)
  ·simp [hlt];exact bQ.mk ⟨i+1,hlt,qE he hlt (by simp [anB,h1])⟩ (by simp [hw]) (by simp;omega)
 ·simp [hlt];exact a8t he hlt
def a4s (s:List UInt8):Bool:=uG wdB s&&(match s with|[]=>true|c::_=>wP c.toNat)
theorem c0Q (s:List UInt8)(hs:s.length≤1000000):CS Tryz.prog G 254 [.str s] (.d (.bool (a4s s))) none:=by
 refine CS.bI Tryz.func254 rfl Tryz.ntmps254 rfl ?_
 simp;refine SW.kJ (ι:={ i:Nat // i≤s.length∧(0<i→uG wdB s=uG wdB (s.drop i)∧a4s s=uG wdB s) }) (fun i=>[(3,.d (.int .i64 i.1))]) (fun _=>[]) (fun _=>[]) (fun i=>s.length-i.1) ⟨0,by simp⟩ (by simp) ?_
 rintro ⟨i,hi,he⟩;by_cases hlt:i<s.length
 ·have hnx:wdB s[i].toNat=true→(i=0→wP s[i].toNat=true)→(0<i+1→uG wdB s=uG wdB (s.drop (i+1))∧a4s s=uG wdB s):=fun hp h0 _=>by
    rcases Nat.eq_zero_or_pos i with hz|hz
    ·subst hz;refine ⟨qE (i:=0) rfl hlt hp,?_⟩;cases s with
     |nil=>rfl
     |cons c s=>have:=h0 rfl;simp at this;simp [a4s,this]
    ·exact ⟨qE (he hz).1 hlt hp,(he hz).2⟩
  have hw:=bO (show i<9223372036854775807 by omega);have hst:wdB s[i].toNat=false→a4s s=false:=fun hp=>by
   rcases Nat.eq_zero_or_pos i with hz|hz
   ·subst hz;have:=a2i (b:=uG wdB s) (i:=0) rfl hlt hp;simp [a4s,this]
   ·rw [(he hz).2];exact a2i (he hz).1 hlt hp
  simp [hlt];refine aH.mk xO (a0a _) ?_
  cases h1:wP s[i].toNat
  ·rcases Nat.eq_zero_or_pos i with hz|hz
   ·subst hz;simp [hlt];cases s with
    |nil=>simp at hlt
    |cons c s=>simp at h1;simp [a4s,h1]
   ·have hz': ¬i=0:=by omega
    simp [hlt,hz'];refine aH.mk a1o (a3E _) ?_
    cases h3:b7N s[i].toNat
    ·by_cases h4:s[i].toNat=95
     ·simp [hlt,h4];exact bQ.mk ⟨i+1,hlt,hnx (by simp [wdB,h4]) (fun h=>absurd h hz')⟩ (by simp [hw]) (by simp;omega)
     ·have h5: ¬((s[i].toNat:Int)=95):=by omega
      simp [hlt,h4,h5];exact hst (by simp [wdB,h1,h3,h5])
    ·simp [hlt];exact bQ.mk ⟨i+1,hlt,hnx (by simp [wdB,h3]) (fun h=>absurd h hz')⟩ (by simp [hw]) (by simp;omega)
  ·simp [hlt];exact bQ.mk ⟨i+1,hlt,hnx (by simp [wdB,h1]) (fun _=>h1)⟩ (by simp [hw]) (by simp;omega)
 ·simp [hlt];rcases Nat.eq_zero_or_pos i with hz|hz
  ·subst hz;have:s=[]:=by simpa using hlt
   subst this
   rfl
  ·rw [(he hz).2];exact a8t (he hz).1 hlt
open Go Go.VM
variable {G:GT}
def kwL:List (List UInt8):=[[97,110,100],[97,115,115,117,109,101],[98,111,111,108],[98,111,117,110,100],[99,97,115,101],[99,101,108,108],[99,108,97,115,115],[100,97,116,97],[100,101,102],[100,105,118],[101,108,115,101],[101,110,100],[102,97,108,115,101],[102,111,114,97,108,108],[102,117,110],[103,101,116],[105,102],[105,110],[105,110,115,116],[105,110,116],[105,110,118,97,114,105,97,110,116],[108,101,116],[109,97,116,99,104],[109,101,97,115,117,114,101],[109,101,116,114,105,99],[109,111,100],[109,117],[110,101,119],[110,111,116],[111,102],[111,114],[113,117,97,108],[114,101,102,108,101,99,116],[115,101,116],[116,104,101,110],[116,114,117,101],[117,115,101],[118],[118,97,108],[116,97,103],[119,104,101,114,101],[119,105,116,104]]
def aX (s:List UInt8):Bool:=kwL.any fun k=>decide (k=s)
def dV:List D:=kwL.map D.str
theorem tQ:VM.Enters Tryz.prog 167:=VM.Enters.mk Tryz.func167 rfl
theorem vN (hG:G 1=some dV)(s:List UInt8):CS Tryz.prog G 167 [.str s] (.d (.bool (aX s))) none:=by
 refine CS.bI Tryz.func167 rfl Tryz.ntmps167 rfl ?_
 have hlen:dV.length=42:=rfl;have htake:List.take 42 dV=dV:=by rw [← hlen,List.take_length]
 simp [hG,hlen,htake];refine SW.kJ (ι:={ i:Nat // i≤42∧aX s=(kwL.drop i).any fun k=>decide (k=s) }) (fun i=>[(6,.d (.int .i64 i.1))]) (fun _=>[]) (fun _=>[]) (fun i=>42-i.1) ⟨0,by simp [aX]⟩ (by simp) ?_
 rintro ⟨i,hi,he⟩;by_cases hlt:i<42
 ·have hl:i<kwL.length:=hlt;have hget:dV[i]? =some (.str kwL[i]):=by simp [dV,hl]
  have hget2:dV[i]'(by rw [hlen];exact hlt)= .str kwL[i]:=by simp [dV]
  by_cases hk:kwL[i]=s
  ·simp [hlt,hlen,hget,hget2,hk];exact c3r he hl (by simp [hk])
  ·simp [hlt,hlen,hget,hget2,hk];exact bQ.mk ⟨i+1,hlt,c3q he hl (by simp [hk])⟩ (by simp [bO (show i<9223372036854775807 by omega)]) (by simp;omega)
 ·simp [hlt];exact c8y he hlt
def c3s (p:Int→Bool)(s:List UInt8):Bool:=match s with
 |[]=>false
 |c::_=>p c.toNat
theorem a2j {p:Int→Bool}{s:List UInt8}(h:0<s.length):c3s p s=p s[0].toNat:=by
 cases s with
 |nil=>simp at h
 |cons c s=>rfl
def a1q (s:List UInt8):Bool:=sizedB s&&c3s wP s&& !aX s&&uG wdB s
theorem b7P:VM.Enters Tryz.prog 250:=VM.Enters.mk Tryz.func250 rfl
theorem c0R (hG:G 1=some dV)(s:List UInt8):CS Tryz.prog G 250 [.str s] (.d (.bool (a1q s))) none:=by
 refine CS.bI Tryz.func250 rfl Tryz.ntmps250 rfl ?_
 simp;refine aH.mk a1p (a3F _) ?_
 cases hz:sizedB s
 ·simp [a1q,hz]
 ·have hl:1≤s.length∧s.length≤24:=by simpa [sizedB] using hz
  have h0:0<s.length:=by omega
  simp [h0];refine aH.mk xO (a0a _) ?_
  cases h1:wP s[0].toNat
  ·simp [a1q,a2j h0,h1]
  ·simp;refine aH.mk tQ (vN hG _) ?_
   cases h2:aX s
   ·simp;have hb:a1q s=uG wdB s:=by simp [a1q,hz,a2j h0,h1,h2]
    refine SW.kJ (ι:={ i:Nat // 1≤i∧i≤s.length∧uG wdB s=uG wdB (s.drop i) }) (fun i=>[(3,.d (.int .i64 i.1))]) (fun _=>[]) (fun _=>[]) (fun i=>s.length-i.1) ⟨1,d7m _,hl.1,qE (i:=0) rfl h0 (by simp [wdB,h1])⟩ (by simp) ?_
    rintro ⟨i,hi1,hi,he⟩;by_cases hlt:i<s.length
    ·have hw:=bO (show i<9223372036854775807 by omega);simp [hlt];refine aH.mk xO (a0a _) ?_
     cases h1:wP s[i].toNat
     ·simp [hlt];refine aH.mk a1o (a3E _) ?_
      cases h3:b7N s[i].toNat
      ·by_cases h4:s[i].toNat=95
       ·simp [hlt,h4];exact bQ.mk ⟨i+1,by omega,hlt,qE he hlt (by simp [wdB,h4])⟩ (by simp [hw]) (by simp;omega)
       ·simp [hlt,h4];rw [hb];exact a2i he hlt (by simp [wdB,h1,h3];omega)
      ·simp [hlt];exact bQ.mk ⟨i+1,by omega,hlt,qE he hlt (by simp [wdB,h3])⟩ (by simp [hw]) (by simp;omega)
     ·simp [hlt];exact bQ.mk ⟨i+1,by omega,hlt,qE he hlt (by simp [wdB,h1])⟩ (by simp [hw]) (by simp;omega)
    ·simp [hlt];rw [hb];exact a8t he hlt
   ·simp [a1q,h2]
theorem b5n:VM.Enters Tryz.prog 251:=VM.Enters.mk Tryz.func251 rfl
def sZ (s:List UInt8):Bool:=sizedB s&&c3s c0P s&&uG anB s&& !decide (s=[73,110,116])&& !decide (s=[66,111,111,108])&& !decide (s=[67,101,108,108])&& !decide (s=[70,117,110])
theorem b7Q (s:List UInt8):CS Tryz.prog G 251 [.str s] (.d (.bool (sZ s))) none:=by
 refine CS.bI Tryz.func251 rfl Tryz.ntmps251 rfl ?_
 simp;refine aH.mk a1p (a3F _) ?_
 cases hz:sizedB s
 ·simp [sZ,hz]
 ·have hl:1≤s.length∧s.length≤24:=by simpa [sizedB] using hz
  have h0:0<s.length:=by omega
  simp [h0];refine aH.mk a2T (a4r _) ?_
  cases h1:c0P s[0].toNat
  ·simp [sZ,a2j h0,h1]
  ·simp;refine aH.mk wQ (xP _ (by omega)) ?_
   cases h2:uG anB s
   ·simp [sZ,h2]
   ·by_cases e1:s=[73,110,116]
    ·simp [sZ,e1]
    by_cases e2:s=[66,111,111,108]
    ·simp [sZ,e2]
    by_cases e3:s=[67,101,108,108]
    ·simp [sZ,e3]
    simp [sZ,hz,a2j h0,h1,h2,e1,e2,e3]
def eK:List UInt8→List UInt8×List UInt8×Bool
 |[]=>([],[],false)
 |c::r=>if c.toNat=46 then ([],r,true) else (c::(eK r).1,(eK r).2)
theorem b1F:VM.Enters Tryz.prog 249:=VM.Enters.mk Tryz.func249 rfl
theorem b9v:∀(s:List UInt8) (i:Nat),(∀j (h:j<s.length),j<i→s[j].toNat≠46)→i≤s.length→eK s=(s.take i++(eK (s.drop i)).1,(eK (s.drop i)).2)
 |s,0,_,_=>by simp
 |[],i+1,_,h=>by simp at h
 |c::r,i+1,hj,h=>by have h0:=hj 0 (by simp) (by omega);simp at h0 h;have ih:=b9v r i (fun j h hji=>by have:=hj (j+1) (by simp;omega) (by omega);simpa using this) h;simp [eK,h0,ih]
theorem b5o (s:List UInt8)(hs:s.length≤1000000):CS Tryz.prog G 249 [.str s] (.cM [.str (eK s).1,.str (eK s).2.1,.bool (eK s).2.2]) none:=by
 refine CS.bI Tryz.func249 rfl Tryz.ntmps249 rfl ?_
 simp;refine SW.kJ (ι:={ i:Nat // i≤s.length∧∀j (h:j<s.length),j<i→s[j].toNat≠46 }) (fun i=>[(5,.d (.int .i64 i.1))]) (fun _=>[]) (fun _=>[]) (fun i=>s.length-i.1) ⟨0,by simp⟩ (by simp) ?_
 rintro ⟨i,hi,he⟩;have hcut:=b9v s i he hi;by_cases hlt:i<s.length
 ·by_cases h4:s[i].toNat=46
  ·have hw:IntKind.i64.wrap ((i:Int)+1)=((i+1:Nat):Int):=bO (by omega);rw [d7j hlt] at hcut;simp only [eK,h4,if_true] at hcut;have h1:i+1≤s.length:=hlt;simp [hlt,h4,hcut,hw,hi,h1];exact mA.mk (by kernel_rfl)
  ·simp [hlt,h4];refine bQ.mk ⟨i+1,hlt,fun j h hj=>?_⟩ (by simp [bO (show i<9223372036854775807 by omega)]) (by simp;omega);by_cases hji:j=i
   ·subst hji;exact h4
   ·exact he j h (by omega)
 ·have:i=s.length:=by omega
  subst this;rw [List.drop_length] at hcut;simp [eK] at hcut;simp [hlt,hcut]
open Go Go.VM
variable {G:GT}
def tA:List UInt8→List (List UInt8)
 |[]=>[[]]
 |c::r=>if c.toNat=46 then []::tA r else match tA r with
  |p::ps=>(c::p)::ps
  |[]=>[[c]]
theorem a0b:∀s,tA s=(eK s).1::(if (eK s).2.2=true then tA (eK s).2.1 else [])
 |[]=>rfl
 |c::r=>by
  by_cases hc:c.toNat=46
  ·simp [tA,eK,hc]
  ·simp only [tA,eK,hc,if_false];rw [a0b r]
theorem b9w:∀s,(eK s).2.2=true→(eK s).2.1.length<s.length
 |[],h=>by simp [eK] at h
 |c::r,h=>by
  unfold eK at h ⊢;split
  ·simp
  ·rename_i hc;simp [hc] at h;have:=b9w r h;simp;omega
theorem b5p:∀s,(eK s).1.length≤s.length
 |[]=>by simp [eK]
 |c::r=>by
  unfold eK;split
  ·simp
  ·simp;exact b5p r
theorem a5H:∀s,(eK s).2.1.length≤s.length
 |[]=>by simp [eK]
 |c::r=>by
  unfold eK;split
  ·simp
  ·simp;have:=a5H r;omega
def zB (p:List UInt8):Bool:=sizedB p&&(uG anB p||a4s p)
def zC (s:List UInt8):Bool:=decide (s.length≤120)&&(match tA s with
 |[]=>false
 |p::ps=>(a1q p||sZ p||(decide (p=[118])&& !ps.isEmpty))&&ps.all zB)
def a7L (b:Bool):Int:=if b then 0 else 3
theorem c0S (s:List UInt8):zC s=(decide (s.length≤120)&&((a1q (eK s).1||sZ (eK s).1||(decide ((eK s).1=[118])&&(eK s).2.2))&&(if (eK s).2.2=true then (tA (eK s).2.1).all zB else true))):=by
 unfold zC;rw [a0b s];cases hm:(eK s).2.2
 ·simp
 ·have:(tA (eK s).2.1).isEmpty=false:=by rw [a0b];rfl
  simp [this]
theorem b7R:VM.Enters Tryz.prog 241:=VM.Enters.mk Tryz.func241 rfl
theorem c0T (hG:G 1=some dV)(s:List UInt8):CS Tryz.prog G 241 [.str s] (.d (.int .i64 (a7L (zC s)))) none:=by
 refine CS.bI Tryz.func241 rfl Tryz.ntmps241 rfl ?_
 by_cases hl:120<s.length
 ·have: ¬s.length≤120:=by omega
  simp [hl,zC,this,a7L]
 ·have hl':s.length≤120:=by omega
  simp [hl];refine aH.mk b1F (b5o _ (by omega)) ?_
  simp;refine aH.mk b7P (c0R hG _) ?_
  have hcore:=c0S s;simp only [hl',decide_true,Bool.true_and] at hcore;have hfail:(a1q (eK s).1||sZ (eK s).1||(decide ((eK s).1=[118])&&(eK s).2.2))=false→zC s=false:=fun h=>by rw [hcore,h];rfl
  have hgo:(a1q (eK s).1||sZ (eK s).1||(decide ((eK s).1=[118])&&(eK s).2.2))=true→zC s=if (eK s).2.2=true then (tA (eK s).2.1).all zB else true:=fun h=>by rw [hcore,h];rfl
  cases h1:a1q (eK s).1;rotate_left;simp
  replace hgo:=hgo (by simp [h1])
  rotate_left;simp;refine aH.mk b5n (b7Q _) ?_
  cases h2:sZ (eK s).1;rotate_left;simp
  replace hgo:=hgo (by simp [h1,h2])
  rotate_left 2;by_cases h3:(eK s).1=[118];rotate_left
  ·simp [h3];rw [hfail (by rw [h1,h2];simp [h3])]
   rfl
  rotate_left 2;cases h4:(eK s).2.2
  ·simp [h3,h4];rw [hfail (by rw [h1,h2];simp [h3,h4])]
   rfl
  simp [h3,h4]
  replace hgo:=hgo (by rw [h1,h2];simp [h3,h4])
  all_goals
   refine SW.kJ (ι:={ x:List UInt8×Bool // x.1.length≤120∧zC s=if x.2=true then (tA x.1).all zB else true }) (fun x=>[(4,.d (.str x.1.1)),(5,.d (.bool x.1.2))]) (fun _=>[]) (fun _=>[]) (fun x=>if x.1.2=true then x.1.1.length+1 else 0) ⟨((eK s).2.1,(eK s).2.2),by have:=a5H s;simp;omega,hgo⟩ (by simp [*]) ?_
   rintro ⟨⟨r,m⟩,hr,he⟩;cases m
   ·simp;rw [he]
    rfl
   ·simp at hr he;simp;refine aH.mk b1F (b5o _ (by omega)) ?_
    have hlen:=b5p r;simp;refine aH.mk a1p (a3F _) ?_
    have hall:zC s=(zB (eK r).1&&(if (eK r).2.2=true then (tA (eK r).2.1).all zB else true)):=by rw [he,a0b r];cases (eK r).2.2<;>simp
    have hnx:zB (eK r).1=true→zC s=(if (eK r).2.2=true then (tA (eK r).2.1).all zB else true):=fun hp=>by rw [hall,hp];rfl
    have hm:(if (eK r).2.2=true then (eK r).2.1.length+1 else 0)<r.length+1:=by
     cases hm:(eK r).2.2
     ·simp
     ·have:=b9w r hm;simp;exact this
    have hr':(eK r).2.1.length≤120:=by have:=a5H r;omega
    have hno:zB (eK r).1=false→zC s=false:=fun hp=>by rw [hall,hp];rfl
    cases g1:sizedB (eK r).1
    ·simp;rw [hno (by simp [zB,g1])]
     rfl
    ·simp;refine aH.mk wQ (xP _ (by omega)) ?_
     cases g2:uG anB (eK r).1
     ·simp;refine aH.mk b7O (c0Q _ (by omega)) ?_
      cases g3:a4s (eK r).1
      ·simp;rw [hno (by simp [zB,g1,g2,g3])]
       rfl
      ·simp;exact bQ.mk ⟨((eK r).2.1,(eK r).2.2),hr',hnx (by simp [zB,g1,g3])⟩ (by simp) (by simpa using hm)
     ·simp;exact bQ.mk ⟨((eK r).2.1,(eK r).2.2),hr',hnx (by simp [zB,g1,g2])⟩ (by simp) (by simpa using hm)
open Go Go.VM
variable {G:GT}
def strs (l:List (List UInt8)):List (List D):=l.map fun s=>[.str s]
theorem b5q (l:List (List UInt8)):(strs l).length=l.length:=by simp [strs]
theorem c0U {l:List (List UInt8)}{i:Nat}(h:i<(strs l).length):(strs l)[i]=[.str (l[i]'(by rw [← b5q l];exact h))]:=by simp [strs]
theorem c3t (l:List (List UInt8)):(∀x,x∈strs l→x.length=1)=True:=by simp [strs]
theorem c3u (l:List (List UInt8))(s:List UInt8):strs (l++[s])=strs l++[[.str s]]:=by simp [strs]
attribute [simp] b5q c0U c3t c3u
theorem b5r {l:List (List UInt8)}{i:Nat}(h:i<l.length):(strs l)[i]? =some [.str l[i]]:=by simp [strs,h]
def c3v (s:List UInt8):List (List UInt8)→Nat→Int
 |[],_=> -1
 |k::r,i=>if k=s then i else c3v s r (i+1)
end
end Go.Proofs.YtjpodcmhcenjjaaGreatDoor
section
namespace Go.VM
open Go Go.RowKit Go.ChangeShapes Go.WideShapes
mutual
def flat {H:Type}:DataW H→List D
 | .lit (.int k n)=>[.int k n]
 | .lit (.bool b)=>[.bool b]
 | .lit (.string s)=>[.str s]
 | .nil=>[.sl []]
 | .slice es _=>[.sl (uH es)]
 | .agg ps=>sE ps
 |_=>[]
def uH {H:Type}:List (DataW H)→List (List D)
 |[]=>[]
 |d::r=>flat d::uH r
def sE {H:Type}:List (DataW H)→List D
 |[]=>[]
 |d::r=>flat d++sE r
end
theorem a6E {H:Type}:∀l:List (DataW H),uH l=l.map flat
 |[]=>by simp [uH]
 |d::r=>by simp [uH,a6E r]
theorem a8u {H:Type}:∀l:List (DataW H),sE l=(l.map flat).flatten
 |[]=>by simp [sE]
 |d::r=>by simp [sE,a8u r]
inductive xQ (P:Program):TypeId→List D→Prop
 |bool {t:TypeId} {b:Bool}:P.underlying t=some .bool→xQ P t [.bool b]
 |int {t:TypeId} {k:IntKind} {n:Int}:P.underlying t=some (.int k)→(Lit.int k n).wf=true→xQ P t [.int k n]
 |str {t:TypeId} {s:List UInt8}:P.underlying t=some .string→s.length≤maxLen→xQ P t [.str s]
 |sl {t e:TypeId} {es:List (List D)}:P.underlying t=some (.slice e)→es.length≤maxLen→(∀x∈es,xQ P e x)→xQ P t [.sl es]
 |struct {t:TypeId} {fs:Array Field} {ds:List D}:P.underlying t=some (.struct fs)→ds.length=P.cellsOf t→(∀f∈fs.toList,xQ P f.type ((ds.drop f.offset).take (P.cellsOf f.type)))→xQ P t ds
 |array {t e:TypeId} {n:Nat} {ds:List D}:P.underlying t=some (.array n e)→ds.length=P.cellsOf t→(∀i,i<n→xQ P e ((ds.drop (i*P.cellsOf e)).take (P.cellsOf e)))→xQ P t ds
def xR (P:Program)(L:List TypeId):Bool:=L.all fun t=>decide (t<P.types.size)&&match P.underlying t with
 |some .bool|some (.int _)|some .string=>true
 |some (.slice e)=>L.contains e&&decide (0<P.cellsOf e)
 |some (.struct fs)=>fs.toList.all fun f=>L.contains f.type
 |some (.array _ e)=>L.contains e
 |_=>false
theorem b5s {w:World}{a:Addr}{m:Nat}{v:Value}(h:w.cell? (a.add m)=some v):w.cell? ⟨a.block,a.off+m,none⟩=some v:=by
 obtain ⟨b,o,sp⟩:=a;by_cases hm:m=0
 ·subst hm;simp only [Addr.add,if_true] at h;unfold World.cell? at h ⊢;simp only at h ⊢;cases hb:w.heap[b]? with
  |none=>rw [hb] at h;cases h
  |some o'=>
   rw [hb] at h;cases o' with
   |cells c _ _=>
    simp only at h ⊢;split at h
    ·cases h
    ·simpa using h
   |_=>cases h
 ·simpa [Addr.add,hm] using h
theorem c0V {w:World}{a:Addr}{v:Value}(h:w.cell? a=some v):a.spot=none:=by
 unfold World.cell? at h;split at h
 ·split at h
  ·cases h
  ·rename_i hs;simpa using hs
 ·cases h
theorem b9x {w:World}{a:Addr}{v:Value}(h:w.cell? a=some v):a.block<w.heap.size:=by
 unfold World.cell? at h;split at h
 ·rename_i hb;exact (d7f.1 hb).1
 ·cases h
theorem qF {α β:Type}{f:α→Option β}:∀ {l:List α} {r:List β},l.mapM f=some r→∀(i:Nat) (a:α),l[i]? =some a→∃b,r[i]? =some b∧f a=some b
 |[],_,_,i,a,ha=>by simp at ha
 |x::l,r,h,i,a,ha=>by
  rw [List.mapM_cons] at h;obtain ⟨b,hb,h⟩:=d7k.1 h;obtain ⟨bs,hbs,h⟩:=d7k.1 h;cases h;cases i with
  |zero=>simp at ha;subst ha;exact ⟨b,rfl,hb⟩
  |succ i=>exact qF hbs i a (by simpa using ha)
theorem a1r {w:World}{base:Nat}{a:Addr}{n:Nat}{cs:List Value}(h:w.cells? base a n=some cs):cs.length=n∧∀j,j<n→w.cell? (a.add j)=some (cs.getD j undef):=by
 unfold World.cells? at h;split at h
 ·have hl:=mapM_some_length h;refine ⟨by simpa using hl,fun j hj=>?_⟩;obtain ⟨v,h1,h2⟩:=qF h j j (by simp [hj]);simpa [List.getD,h1] using h2
 ·cases h
theorem a4t {α:Type}:∀(ls:List (List α)) (j:Nat) (l:List α),ls[j]? =some l→(ls.flatten.drop ((ls.take j).map List.length).sum).take l.length=l
 |[],j,l,h=>by simp at h
 |x::r,0,l,h=>by simp at h;subst h;simp
 |x::r,j+1,l,h=>by simp only [List.getElem?_cons_succ] at h;have:=a4t r j l h;simp only [List.flatten_cons,List.take_succ_cons,List.map_cons,List.sum_cons];rw [← List.drop_drop,List.drop_append_of_le_length (d7m _),List.drop_length,List.nil_append];exact this
theorem a8v {α:Type}:∀(ls:List (List α)) (i:Nat) (x:α),ls.flatten[i]? =some x→∃j l k,ls[j]? =some l∧l[k]? =some x∧i=((ls.take j).map List.length).sum+k
 |[],i,x,h=>by simp at h
 |l::r,i,x,h=>by
  simp only [List.flatten_cons] at h;by_cases hi:i<l.length
  ·rw [d7h hi] at h;exact ⟨0,l,i,rfl,h,by simp⟩
  ·rw [d7e (by omega)] at h;obtain ⟨j,l',k,h1,h2,h3⟩:=a8v r _ x h;exact ⟨j+1,l',k,h1,h2,by rw [List.take_succ_cons,List.map_cons,List.sum_cons];omega⟩
section
variable {P:Program} {H:Type} {enc:TypeId×Value→H} {w:World} {sp:Nat→Bool} {held:Bool} {L:List TypeId}
abbrev RW (w:World):Nat→Nat→Prop:=fun b _=>b<w.heap.size
theorem a8w {parts:List (DataW H×List MemPlace)}{cs:List Value}{offs:List Nat}{szs:List Nat}(hl:offs.length=parts.length)(hl':szs.length=parts.length)(hsum:∀(j:Nat) (o:Nat),offs[j]? =some o→o=(szs.take j).sum)(hcs:cs.length=szs.sum)(h:∀(j:Nat) (y:DataW H×List MemPlace) (o s:Nat),parts[j]? =some y→offs[j]? =some o→szs[j]? =some s→(flat y.1).length=((cs.drop o).take s).length∧∀i d,(flat y.1)[i]? =some d→d.one=true∧V (RW w) w (((cs.drop o).take s).getD i undef) d):
  (sE (parts.map (·.1))).length=cs.length∧(∀(j:Nat) (y:DataW H×List MemPlace) (o s:Nat),parts[j]? =some y→offs[j]? =some o→szs[j]? =some s→((sE (parts.map (·.1))).drop o).take s=flat y.1)∧
   ∀i d,(sE (parts.map (·.1)))[i]? =some d→d.one=true∧V (RW w) w (cs.getD i undef) d:=by
 rw [a8u,List.map_map];have hlen:∀(j:Nat) (y:DataW H×List MemPlace) (o s:Nat),parts[j]? =some y→offs[j]? =some o→szs[j]? =some s→(flat y.1).length=s:=fun j y o s h1 h2 h3=>by
  rw [(h j y o s h1 h2 h3).1,List.length_take,List.length_drop];have:=hsum j o h2;have hle:(szs.take j).sum+s≤szs.sum:=by
   have hj:j<szs.length:=(d6X.1 h3).1;have hs:szs[j]=s:=by rw [d7a hj] at h3;exact Option.some.inj h3
   have e:szs.sum=(szs.take j).sum+(szs.drop j).sum:=by rw [← List.sum_append,List.take_append_drop]
   rw [e,d7j hj,List.sum_cons,hs];omega
  omega
 have hmap:parts.map (List.length∘flat∘(·.1))=szs:=by
  apply List.ext_getElem?;intro j;rw [d7g];by_cases hj:j<parts.length
  ·have h1:parts[j]? =some parts[j]:=d7a hj
   have h2:offs[j]? =some (offs[j]'(by omega)):=d7a _
   have h3:szs[j]? =some (szs[j]'(by omega)):=d7a _
   rw [h1,h3];simpa using hlen j _ _ _ h1 h2 h3
  ·rw [List.getElem?_eq_none (by omega),List.getElem?_eq_none (by omega)]
   rfl
 have hpre:∀j,(((parts.map (flat∘(·.1))).take j).map List.length).sum=(szs.take j).sum:=fun j=>by rw [← hmap, ← List.map_take, ← List.map_take,List.map_map]
 refine ⟨?_,fun j y o s h1 h2 h3=>?_,fun i d hi=>?_⟩
 ·rw [List.length_flatten,List.map_map,hmap,hcs]
 ·have:=a4t (parts.map (flat∘(·.1))) j (flat y.1) (by rw [d7g,h1];rfl);rw [hpre, ← hsum j o h2,hlen j y o s h1 h2 h3] at this;exact this
 ·obtain ⟨j,l,k,h1,h2,h3⟩:=a8v _ i d hi;rw [hpre] at h3;rw [d7g] at h1;obtain ⟨y,hy,rfl⟩:=d6V.1 h1;have hj:j<parts.length:=(d6X.1 hy).1;have e2:offs[j]? =some (offs[j]'(by omega)):=d7a _
  have e3:szs[j]? =some (szs[j]'(by omega)):=d7a _
  obtain ⟨q1,q2⟩:=h j y _ _ hy e2 e3;obtain ⟨q3,q4⟩:=q2 k d h2;refine ⟨q3,?_⟩;have hk:k<(flat y.1).length:=(d6X.1 h2).1;rw [hlen j y _ _ hy e2 e3] at hk;have:((cs.drop (offs[j]'(by omega))).take (szs[j]'(by omega))).getD k undef=cs.getD i undef:=by simp only [List.getD,List.getElem?_take,hk,if_true,d7p];rw [h3,hsum j _ e2]
  rwa [this] at q4
theorem a5I (rY:laidOutB P=true)(hp:xR P L=true):∀(n:Nat) (t:TypeId) (cs:List Value) (x:DataW H×List MemPlace),L.contains t=true→DataW.trod enc P w 0 sp held n t cs=some x→
  (flat x.1).length=cs.length∧xQ P t (flat x.1)∧∀i d,(flat x.1)[i]? =some d→d.one=true∧V (RW w) w (cs.getD i undef) d:=by
 intro n
 induction n with
 |zero=>intro t cs x _ h;simp [DataW.trod] at h
 |succ n ih=>
  intro t cs x hT h;have hrow:=d6Z.1 hp t (by simpa using hT);simp only [d6W,decide_eq_true_eq] at hrow;obtain ⟨hts,hrow⟩:=hrow;rw [DataW.trod_step] at h;have one:∀(v:Value) (d:D),d.one=true→V (RW w) w v d→∀i d',([d]:List D)[i]? =some d'→d'.one=true∧V (RW w) w ([v].getD i undef) d':=fun v d h1 h2 i d' hi=>by
   cases i with
   |zero=>simp at hi;subst hi;exact ⟨h1,h2⟩
   |succ i=>simp at hi
  unfold DataW.trodStep at h;split at h
  case h_1 b hu=>simp at h;subst h;exact ⟨rfl,.bool hu,one _ _ rfl (.bool b)⟩
  case h_2 k k' m hu=>
   split at h
   ·rename_i hk;obtain ⟨rfl,hk⟩:=hk;simp at h;subst h;exact ⟨rfl,.int hu hk,one _ _ rfl (.int _ _)⟩
   ·cases h
  case h_3 hu=>rw [hu] at hrow;cases hrow
  case h_4 s hu=>
   split at h
   ·rename_i hs;simp at h;subst h;exact ⟨rfl,.str hu (by simpa using hs),one _ _ rfl (.str s.data.toList)⟩
   ·cases h
  case h_5 hu=>rw [hu] at hrow;cases hrow
  case h_6 hu=>rw [hu] at hrow;cases hrow
  case h_7 e hu=>simp at h;subst h;exact ⟨rfl,.sl hu (by simp) (by simp),one _ _ rfl (.emp none 0)⟩
  case h_8 e a len cap hu=>
   rw [hu] at hrow;simp only [d6W,decide_eq_true_eq] at hrow;obtain ⟨heL,hsz⟩:=hrow;simp only at h;split at h
   ·rename_i hc;obtain ⟨_,hlc,hcm⟩:=hc;simp only [d6V,d7k] at h;obtain ⟨elems,he,rest,_,rfl⟩:=h;have hlen:elems.length=len:=by simpa using mapM_some_length he
    have each:∀(i:Nat) (y:DataW H×List MemPlace),elems[i]? =some y→∃cs',w.cells? 0 (a.add (i*P.cellsOf e)) (P.cellsOf e)=some cs'∧DataW.trod enc P w 0 sp held n e cs'=some y:=fun i y hy=>by
     have hi:i<len:=by have:=(d6X.1 hy).1;omega
     obtain ⟨v,h1,h2⟩:=qF he i i (by simp [hi]);rw [hy] at h1;cases h1;simpa only [d7k] using h2
    simp only [flat,a6E,List.map_map];refine ⟨rfl,.sl hu (by simp [hlen];omega) (fun z hz=>?_),?_⟩
    ·obtain ⟨y,hy,rfl⟩:=List.mem_map.1 hz;obtain ⟨i,hi⟩:=List.mem_iff_getElem?.1 hy;obtain ⟨cs',h1,h2⟩:=each i y hi;exact (ih e cs' y heL h2).2.1
    ·refine one _ _ rfl ?_
     by_cases h0:len=0
     ·subst h0;have:elems=[]:=List.eq_nil_of_length_eq_zero hlen;subst this;exact .emp _ _
     ·obtain ⟨y0,hy0⟩:∃y,elems[0]? =some y:=⟨elems[0]'(by omega),d7a _⟩
      obtain ⟨cs0,hc0,_⟩:=each 0 y0 hy0;have h00:=(a1r hc0).2 0 hsz;have hspot:a.spot=none:=by simpa [Addr.add] using c0V h00
      obtain ⟨b,o,sp0⟩:=a;simp only at hspot;subst hspot;have cell:∀(i j:Nat),i<len→j<P.cellsOf e→∃y cs',elems[i]? =some y∧DataW.trod enc P w 0 sp held n e cs'=some y∧cs'.length=P.cellsOf e∧w.cell? ⟨b,o+i*P.cellsOf e+j,none⟩=some (cs'.getD j undef):=fun i j hi hj=>by
       have hy:elems[i]? =some (elems[i]'(by omega)):=d7a _
       obtain ⟨cs',h1,h2⟩:=each i _ hy;obtain ⟨h3,h4⟩:=a1r h1;refine ⟨_,cs',hy,h2,h3,?_⟩;have h5:=b5s (h4 j hj);have e1:((⟨b,o,none⟩:Addr).add (i*P.cellsOf e)).block=b:=by unfold Addr.add;split<;>rfl
       have e2:((⟨b,o,none⟩:Addr).add (i*P.cellsOf e)).off=o+i*P.cellsOf e:=by
        unfold Addr.add;split
        ·rename_i hz;simp [hz]
        ·rfl
       rw [e1,e2] at h5;exact h5
      have kid:∀(i j:Nat) (e':List D) (d:D),(elems.map (flat∘(·.1)))[i]? =some e'→e'[j]? =some d→d.one=true∧V (RW w) w ((w.cell? ⟨b,o+i*P.cellsOf e+j,none⟩).getD undef) d:=fun i j e' d h1 h2=>by
       rw [d7g] at h1;obtain ⟨y,hy,rfl⟩:=d6V.1 h1;have hi:i<len:=by have:=(d6X.1 hy).1;omega
       obtain ⟨cs',hcs',htr⟩:=each i y hy;obtain ⟨q1,_,q3⟩:=ih e cs' y heL htr;obtain ⟨p1,p2⟩:=q3 j d h2;have hj:j<P.cellsOf e:=by have:=(d6X.1 h2).1;have h3:=(a1r hcs').1;simp only [Function.comp] at this;omega
       obtain ⟨y',cs2,hy',htr',hl2,hcell⟩:=cell i j hi hj;rw [hy] at hy';cases hy';obtain ⟨h3,h4⟩:=a1r hcs';have h5:=b5s (h4 j hj);have e1:((⟨b,o,none⟩:Addr).add (i*P.cellsOf e)).block=b:=by unfold Addr.add;split<;>rfl
       have e2:((⟨b,o,none⟩:Addr).add (i*P.cellsOf e)).off=o+i*P.cellsOf e:=by
        unfold Addr.add;split
        ·rename_i hz;simp [hz]
        ·rfl
       rw [e1,e2] at h5;rw [h5];exact ⟨p1,p2⟩
      refine .sl b o len cap (P.cellsOf e) _ (fun i j=>(w.cell? ⟨b,o+i*P.cellsOf e+j,none⟩).getD undef) (by simp [hlen]) hlc hsz (fun x hx=>?_) (fun i j hi hj=>?_) (fun i j e' d h1 h2=>(kid i j e' d h1 h2).1) (fun i j e' d h1 h2=>(kid i j e' d h1 h2).2)
      ·obtain ⟨y,hy,rfl⟩:=List.mem_map.1 hx;obtain ⟨i,hi⟩:=List.mem_iff_getElem?.1 hy;obtain ⟨cs',h1,h2⟩:=each i y hi;simp only [Function.comp];rw [(ih e cs' y heL h2).1,(a1r h1).1]
      ·obtain ⟨_,_,_,_,_,hcell⟩:=cell i j hi hj;rw [hcell];exact ⟨b9x hcell,rfl⟩
   ·cases h
  case h_9 cs _ _ fs hu=>
   rw [hu] at hrow;simp only at hrow;split at h
   ·rename_i hc;obtain ⟨hk1,hk2,hk3⟩:=kid_struct rY hts hu;simp only [d6V] at h;obtain ⟨xs,hx,rfl⟩:=h;have hlen:xs.length=fs.toList.length:=mapM_some_length hx;obtain ⟨q1,q2,q3⟩:=a8w (w:=w) (parts:=xs) (cs:=cs) (offs:=fs.toList.map (·.offset)) (szs:=fs.toList.map fun f=>P.cellsOf f.type) (by simp [hlen]) (by simp [hlen])
     (fun j o ho=>by rw [d7g] at ho;obtain ⟨f,hf,rfl⟩:=d6V.1 ho;rw [hk3 j f hf,List.map_take]) (by rw [hc,hk2])
     (fun j y o s h1 h2 h3=>by rw [d7g] at h2 h3;obtain ⟨f,hf,rfl⟩:=d6V.1 h2;rw [hf] at h3;simp only [Option.map_some,d7c] at h3;subst h3;obtain ⟨v,p1,p2⟩:=qF hx j f hf;rw [h1] at p1;cases p1;have:=ih f.type _ _ (d6Z.1 hrow f (d7b hf)) p2;exact ⟨this.1,this.2.2⟩)
    simp only [flat];refine ⟨q1,.struct hu (by rw [q1,hc]) (fun f hf=>?_),q3⟩;obtain ⟨j,hj⟩:=List.mem_iff_getElem?.1 hf;obtain ⟨v,p1,p2⟩:=qF hx j f hj;rw [q2 j v f.offset (P.cellsOf f.type) p1 (by rw [d7g,hj];rfl) (by rw [d7g,hj];rfl)];exact (ih f.type _ _ (d6Z.1 hrow f hf) p2).2.1
   ·cases h
  case h_10 cs _ _ m e hu=>
   rw [hu] at hrow;simp only at hrow;split at h
   ·rename_i hc;obtain ⟨_,hk2⟩:=kid_array rY hts hu;simp only [d6V] at h;obtain ⟨xs,hx,rfl⟩:=h;have hlen:xs.length=m:=by simpa using mapM_some_length hx
    have at':∀(j:Nat) (y:DataW H×List MemPlace),xs[j]? =some y→DataW.trod enc P w 0 sp held n e ((cs.drop (j*P.cellsOf e)).take (P.cellsOf e))=some y:=fun j y hy=>by
     have hj:j<m:=by have:=(d6X.1 hy).1;omega
     obtain ⟨v,p1,p2⟩:=qF hx j j (by simp [hj]);rw [hy] at p1;cases p1;exact p2
    have hsumrep:∀j,j≤m→(((List.replicate m (P.cellsOf e)).take j).sum)=j*P.cellsOf e:=fun j hj=>by rw [List.take_replicate,Nat.min_eq_left hj,List.sum_replicate_nat]
    obtain ⟨q1,q2,q3⟩:=a8w (w:=w) (parts:=xs) (cs:=cs) (offs:=(List.range m).map fun i=>i*P.cellsOf e) (szs:=List.replicate m (P.cellsOf e)) (by simp [hlen]) (by simp [hlen])
     (fun j o ho=>by
      rw [d7g] at ho;obtain ⟨i,hi,rfl⟩:=d6V.1 ho;have hjm:j<m:=by have:=(d6X.1 hi).1;simpa using this
      have:i=j:=by rw [List.getElem?_range hjm] at hi;simpa using hi.symm
      rw [this,hsumrep j (by omega)]) (by rw [hc,hk2,List.sum_replicate_nat])
     (fun j y o s h1 h2 h3=>by
      have hjm:j<m:=by have:=(d6X.1 h1).1;omega
      have ho:o=j*P.cellsOf e:=by rw [d7g,List.getElem?_range hjm] at h2;simpa using h2.symm
      have hs:s=P.cellsOf e:=by rw [List.getElem?_replicate,if_pos hjm] at h3;simpa using h3.symm
      subst ho hs;have:=ih e _ _ hrow (at' j y h1);exact ⟨this.1,this.2.2⟩)
    simp only [flat];refine ⟨q1,.array hu (by rw [q1,hc]) (fun i hi=>?_),q3⟩;have hy:xs[i]? =some (xs[i]'(by omega)):=d7a _
    rw [q2 i _ (i*P.cellsOf e) (P.cellsOf e) hy (by rw [d7g,List.getElem?_range hi];rfl) (by rw [List.getElem?_replicate,if_pos hi])];exact (ih e _ _ hrow (at' i _ hy)).2.1
   ·cases h
  all_goals first|(rename_i hu;rw [hu] at hrow;cases hrow;done)|(cases h;done)
theorem c3w {t:TypeId}{ds:List D}(hu:P.underlying t=some .string)(h:xQ P t ds):∃s,ds=[.str s]∧s.length≤maxLen:=by
 cases h with
 |str _ h=>exact ⟨_,rfl,h⟩
 |_ h1=>rw [hu] at h1;cases h1
def a2U (P:Program)(t:TypeId)(d:D):Prop:=
 match P.underlying t with
 |some u=>if kW u then ∃cs,d= .agg cs∧xQ P t cs else xQ P t [d]
 |none=>False
def a4u (P:Program):List TypeId→List D→Prop
 |[],[]=>True
 |t::ts,d::ds=>a2U P t d∧a4u P ts ds
 |_,_=>False
theorem c0W {t:TypeId}{u:TypeDesc}{d:D}(hu:P.underlying t=some u)(ha:kW u=false)(h:a2U P t d):xQ P t [d]:=by unfold a2U at h;rw [hu] at h;simp only [ha] at h;exact h
theorem c0X {t:TypeId}{d:D}(hu:P.underlying t=some .string)(h:a2U P t d):∃s,d= .str s∧s.length≤maxLen:=by obtain ⟨s,h1,h2⟩:=c3w hu (c0W hu rfl h);cases h1;exact ⟨s,rfl,h2⟩
theorem a8x {r:Reach}{b0:Nat}{t:TypeId}{v:Value}{u:TypeDesc}(hu:P.underlying t=some u)(ha:kW u=false)(hp:(match P.underlying t with|some .bool|some (.int _)|some .string|some (.slice _)=>true|_=>false)=true)(hval:Value.okWide P w r b0 t v):v.cells= #[v]:=by
 unfold Value.okWide at hval;rw [hu] at hval hp;cases u<;>simp only [kW] at ha<;>(try cases ha)<;>simp only [] at hp<;>(try cases hp)
 all_goals
  simp only [Cell.okWide,hu] at hval;cases v<;>first|rfl|(simp [Cell.ok,hu] at hval)
theorem c3x {r:Reach}{b0:Nat}(rY:laidOutB P=true)(hp:xR P L=true){t:TypeId}{v:Value}{d:DataW H}{ps:List MemPlace}(hT:L.contains t=true)(hval:Value.okWide P w r b0 t v)(h:DataW.Trod enc P w 0 sp held t v d ps):
  ∃x,a2U P t x∧V (RW w) w v x:=by
 obtain ⟨n,hn⟩:=h;obtain ⟨h1,h2,h3⟩:=a5I rY hp n t _ _ hT hn;have hrow:=d6Z.1 hp t (by simpa using hT);simp only [d6W,decide_eq_true_eq] at hrow;obtain ⟨_,hrow⟩:=hrow;cases hu:P.underlying t with
 |none=>rw [hu] at hrow;cases hrow
 |some u=>
  cases ha:kW u with
  |true=>
   have hv:∃cs:Array Value,v= .agg cs:=by
    unfold Value.okWide at hval;rw [hu] at hval;cases u<;>simp only [kW] at ha<;>(try cases ha)
    ·obtain ⟨cs,hv,_⟩:=hval;exact ⟨cs,hv⟩
    ·obtain ⟨cs,hv,_⟩:=hval;exact ⟨cs,hv⟩
   obtain ⟨cs,rfl⟩:=hv;refine ⟨.agg (flat d),by simp only [a2U,hu,ha,if_true];exact ⟨_,rfl,h2⟩,.agg _ _ (by simpa [Value.cells] using h1.symm) (fun i x hx=>(h3 i x hx).1) (fun i x hx=>?_)⟩;have:=(h3 i x hx).2;simpa [Value.cells,List.getD,d6Y] using this
  |false=>
   have hc:v.cells= #[v]:=by
    refine a8x hu ha ?_ hval
    rw [hu] at hrow ⊢;cases u<;>simp only [kW] at ha<;>(try cases ha)<;>first|rfl|(simp at hrow)
   rw [hc] at h1 h3;simp at h1;obtain ⟨x,hx⟩:∃x,flat d=[x]:=List.length_eq_one_iff.1 h1;simp only [hx] at h2 h3;refine ⟨x,by simp only [a2U,hu,ha];exact h2,?_⟩;simpa using (h3 0 x rfl).2
theorem zD {r:Reach}{b0:Nat}(rY:laidOutB P=true)(hp:xR P L=true):∀ {ts:List TypeId} {vs:List Value} {ds:List (DataW H)} {ps:List MemPlace},(∀t∈ts,L.contains t=true)→(∀(j:Nat) t v,ts[j]? =some t→vs[j]? =some v→Value.okWide P w r b0 t v)→
  DataW.TrodAll enc P w 0 sp held ts vs ds ps→∃xs,a4u P ts xs∧vs.length=xs.length∧∀(i:Nat) (d:D),xs[i]? =some d→V (RW w) w (vs.getD i undef) d
 |[],_,_,_,_,_,h=>by obtain ⟨rfl,rfl,rfl⟩:=trodAll_nil h;exact ⟨[],trivial,rfl,by simp⟩
 |t::ts,_,_,_,hT,hv,h=>by
  obtain ⟨v,vs1,d,ds1,a,b,rfl,rfl,rfl,h1,h2⟩:=trodAll_cons h;obtain ⟨x,q1,q2⟩:=c3x rY hp (hT t (.head _)) (hv 0 t v rfl rfl) h1;obtain ⟨xs,q3,q4,q5⟩:=zD rY hp (fun t ht=>hT t (.tail _ ht)) (fun j t v a b=>hv (j+1) t v a b) h2;refine ⟨x::xs,⟨q1,q3⟩,by simp [q4],fun i d hi=>?_⟩;cases i with
  |zero=>simp at hi;subst hi;simpa using q2
  |succ i=>simp at hi;simpa using q5 i d hi
theorem a2V {w':World}{base:Nat}:∀ {ts:List TypeId} {vs:List Value} {ds:List (DataW H)} {ps:List MemPlace},DataW.TrodAll enc P w base sp held ts vs ds ps→(∀p∈ps,w.sameAt w' p)→DataW.TrodAll enc P w' base sp held ts vs ds ps
 |[],[],[],_,h,_=>h
 |_::_,_::_,_::_,_,⟨p,q,⟨n,hn⟩,h2,e⟩,hs=>⟨p,q,⟨n,DataW.trod_carry n _ _ _ hn fun x hx=>hs x (by rw [e];exact List.mem_append_left _ hx)⟩,a2V h2 fun x hx=>hs x (by rw [e];exact List.mem_append_right _ hx),e⟩
theorem a6F {base:Nat}:∀ {ts:List TypeId} {vs:List Value} {ds:List (DataW H)} {ps:List MemPlace},DataW.TrodAll enc P w base sp held ts vs ds ps→ds.length=ts.length
 |[],[],[],_,_=>rfl
 |_::_,_::_,_::_,_,⟨_,_,_,h,_⟩=>by simp [a6F h]
theorem c0Y {f:Func}{s:ChangeSpec}{apart fresh handsOn again:Bool}{W W':World}{args:Array Value}{v:Value}{ds gs:List (DataW H)}{before:List MemPlace}(hW:DataW.Whole enc P f.params.toList s.vars apart W args.toList ds gs before)(hst:Below W.heap.size W W')(hres:∀(b:Nat) (sp:Nat→Bool) (hd:Bool),DataW.TrodAll enc P W' b sp hd f.resultTypes.toList (v.resultList f.resultTypes.size) (s.fn H (ds++gs)).results [])(hargs:∀sp:Nat→Bool,(∀p∈before,sp p.block=true)→DataW.TrodAll enc P W' 0 sp true f.params.toList args.toList (s.fn H (ds++gs)).args before)(hvars:∀sp:Nat→Bool,(∀p∈before,sp p.block=true)→DataW.TrodVars enc P W' sp s.vars (s.fn H (ds++gs)).vars [])(hok:∀(j:Nat) (t:TypeId) (r:Value),f.resultTypes[j]? =some t→(v.resultList f.resultTypes.size)[j]? =some r→Value.okWide P W' .any 0 t r):
  s.post enc P f apart fresh handsOn again W args v W':=by
 have hlt:=hW.lt;have hold:∀p∈before,(fun b=>decide (b<W.heap.size)) p.block=true:=fun p hp=>by simpa using hlt p hp
 refine ⟨ds,gs,before,[],before,[],hW,hres _ _ _,hargs _ hold,hvars _ hold,World.keptBut_mono (fun p hp=>⟨hp,?_⟩) (hst.frame (· ∈before)),fun _=>?_⟩
 ·exact Or.inr (by simpa using hp)
 ·obtain ⟨_,_,_,_,_,hz,hn⟩:=hW;refine ⟨hok,_,_,([]++before)++[],⟨[]++before,[],trodAll_append (hargs _ (fun _ _=>rfl)) (hres _ _ _),hvars _ (fun _ _=>rfl),rfl,?_,?_⟩,?_⟩
  ·intro b off hp;have hp':MemPlace.cell b off∈before:=by simpa using hp
   rw [hst.frozen (hlt _ hp')];exact hz b off hp'
  ·intro ha;simpa using hn ha
  ·intro p hp _;simpa using hp
theorem a4v {W:World}:∀ {laid:List (String×DataW Unit)} {ps:List MemPlace},DataW.LaidVars P W laid ps→∀(n:String) (d:DataW Unit),(n,d)∈laid→
  ∃g t cs fuel p,P.globalNamed n=some g∧(P.globals[g]?).map (·.type)=some t∧W.var? P n=some cs∧DataW.trod (fun _=>()) P W 0 (fun _=>true) false fuel t cs.toList=some (d,p)
 |[],_,_,n,d,hm=>by cases hm
 |(n',d')::r,_,⟨g,t,cs,fuel,p,q,h1,h2,h3,h4,h5,_⟩,n,d,hm=>by
  rcases List.mem_cons.1 hm with he|hm
  ·cases he;exact ⟨g,t,cs,fuel,p,h1,h2,h3,h4⟩
  ·exact a4v h5 n d hm
theorem laidMetH_plain {laid:List (String×DataW Unit)}{W:World}(hh:(laid.filter fun x=>x.2.handleName?.isSome).isEmpty=true)(h:laidMetH P laid W):laidMet P laid W:=by unfold laidMetH at h;rw [List.isEmpty_iff.1 hh] at h;exact h
theorem b5t {laid:List (String×DataW Unit)}{W:World}(hh:(laid.filter fun x=>x.2.handleName?.isSome).isEmpty=true)(h:laidMet P laid W):laidMetH P laid W:=by unfold laidMetH;rw [List.isEmpty_iff.1 hh];exact h
theorem b5u {laid:List (String×DataW Unit)}{W:World}(rY:laidOutB P=true)(hp:xR P L=true)(hh:(laid.filter fun x=>x.2.handleName?.isSome).isEmpty=true)(h:laidMetH P laid W){n:String}{d:DataW Unit}{g:Nat}{t:TypeId}(hm:(n,d)∈laid)(hg:P.globalNamed n=some g)(ht:(P.globals[g]?).map (·.type)=some t)(hL:L.contains t=true):
  Run (RW W) W g 0 (flat d)∧g<W.heap.size∧∃arr T fr,W.heap[g]? =some (.cells arr T fr)∧arr.size=(flat d).length:=by
 obtain ⟨ps,hl,_⟩:=laidMetH_plain hh h;obtain ⟨g',t',cs,fuel,p,h1,h2,h3,h4⟩:=a4v hl n d hm;rw [hg] at h1;cases h1;rw [ht] at h2;cases h2;obtain ⟨q1,_,q3⟩:=a5I rY hp fuel t _ _ hL h4;simp only [Array.length_toList] at q1;have hblk:∃T fr,W.heap[g]? =some (.cells cs T fr):=by
  unfold World.var? at h3;rw [hg] at h3;simp only [Option.bind_some] at h3;split at h3
  ·rename_i T fr hb;cases h3;exact ⟨T,fr,hb⟩
  ·cases h3
 obtain ⟨T,fr,hb⟩:=hblk;refine ⟨fun j x hj=>?_,(d7f.1 hb).1,cs,T,fr,hb,q1.symm⟩;obtain ⟨p1,p2⟩:=q3 j x hj;have hjl:j<cs.size:=by have:=(d6X.1 hj).1;rw [q1] at this;exact this
 have hcell:W.cell? ⟨g,0+j,none⟩=some (cs[j]'hjl):=by unfold World.cell?;simp only [hb];simp [hjl]
 refine ⟨p1,b9x hcell,_,hcell,?_⟩;have:cs.toList.getD j undef=cs[j]:=by simp [List.getD,hjl]
 rwa [this] at p2
end
end Go.VM
end
section
section
namespace Go.VM
open Go Go.RowKit Go.Sort
section
variable {P:Program} {G:GT}
theorem CS.b9y {f:FuncId}{ds:List D}{r:D}(h:∀(w:World) (R:Nat→Nat→Prop) (args:Array Value),a2F G (uR w.heap.size) R w→(∀b o,R b o→b<w.heap.size)→args.size=ds.length→(∀(i:Nat) (d:D),ds[i]? =some d→V R w (args.getD i undef) d)→
  Calls P f args w fun e w'=>∃v,e= .returned v∧V R w' v r∧Below w.heap.size w w'):CS P G f ds (.d r) none:=fun w R args hg hR hl hv=>
 (h w R args hg hR hl hv).mono fun e w' ⟨v,he,hr,hb⟩=>⟨v,R,he,fun _=> .d _ _ hr,⟨.c2C hb,fun _ _ h=>h,fun _ _ h h'=>absurd h h',fun b o hbo=>hb.cell (hR b o hbo)⟩,fun b o hbo=>Nat.lt_of_lt_of_le (hR b o hbo) hb.size,fun _ he=>by cases he⟩
theorem c8z {f:FuncId}{xs:List (List UInt8)}{sep:List UInt8}(h0:∀(a:Option Addr) (c:Nat) (sep:ByteArray) (w:World),Calls P f #[.slice a 0 c,.string sep] w fun e w'=>e= .returned (.string ⟨#[]⟩)∧w'=w)(h1:∀(bk o c:Nat) (xs:List ByteArray) (sep:ByteArray) (w:World),(∀(j:Nat) x,xs[j]? =some x→w.cell? ⟨bk,o+j,none⟩=some (.string x))→bk<w.heap.size→xs.length≤140737488355328→xs.length≤c→(Lib.join (xs.map (·.data.toList)) sep.data.toList).length≤140737488355328→
   Calls P f #[.slice (some ⟨bk,o,none⟩) xs.length c,.string sep] w fun e w'=>e= .returned (.string ⟨(Lib.join (xs.map (·.data.toList)) sep.data.toList).toArray⟩)∧Below w.heap.size w w')(hl:xs.length≤140737488355328)(hj:(Lib.join xs sep).length≤140737488355328):CS P G f [.sl (xs.map fun s=>[.str s]),.str sep] (.d (.str (Lib.join xs sep))) none:=by
 refine CS.b9y fun w R args hg hR hs hv=>?_
 have ha:args= #[args.getD 0 undef,args.getD 1 undef]:=by
  obtain ⟨l⟩:=args
  match l,hs with
  |[a,b],_=>rfl
 have e1:=(hv 1 _ rfl).kX;have e0:=hv 0 _ rfl;have nix:∀a c,xs=[]→args= #[.slice a 0 c,.string ⟨sep.toArray⟩]→Calls P f args w fun e w'=>∃v,e= .returned v∧V R w' v (.str (Lib.join xs sep))∧Below w.heap.size w w':=fun a c hx ha'=>by rw [ha',hx,Lib.join_nil];exact (h0 a c _ w).mono fun e w' ⟨he,hw⟩=>⟨_,he,.str [],hw▸Below.refl _ _⟩
 generalize args.getD 0 undef=v0 at *;rw [e1] at ha;generalize hes:(xs.map fun s=>[D.str s])=es0 at e0;cases e0 with
 |emp ao cap=>exact nix ao cap (by simpa using hes) ha
 |sl b o n cap size es g q1 q2 q3 q4 q5 q6 q7=>
  subst hes;by_cases hx:xs=[]
  ·have:n=0:=by rw [q1,hx];rfl
   subst this;exact nix _ cap hx ha
  ·have hn:n=xs.length:=by rw [q1];simp
   have hsz:size=1:=by
    cases xs with
    |nil=>exact absurd rfl hx
    |cons x r=>exact (q4 [.str x] (by simp)).symm
   subst hsz;have hc:∀(j:Nat) (x:List UInt8),xs[j]? =some x→R b (o+j)∧w.cell? ⟨b,o+j,none⟩=some (.string ⟨x.toArray⟩):=fun j x hj=>by
    have hjl:j<n:=by rw [hn];exact (d6X.1 hj).1
    obtain ⟨r1,r2⟩:=q5 j 0 hjl (by omega);have:=q7 j 0 [.str x] (.str x) (by rw [d7g,hj];rfl) rfl;simp only [Nat.mul_one,Nat.add_zero] at r1 r2;rw [this.kX] at r2;exact ⟨r1,r2⟩
   have hb:b<w.heap.size:=by
    cases xs with
    |nil=>exact absurd rfl hx
    |cons x r=>exact hR b _ (hc 0 x rfl).1
   have key:=h1 b o cap (xs.map fun s=>⟨s.toArray⟩) ⟨sep.toArray⟩ w (fun j x hj=>by rw [d7g] at hj;obtain ⟨y,hy,rfl⟩:=d6V.1 hj;exact (hc j y hy).2) hb (by simpa using hl) (by simp;omega) (by simpa [List.map_map,Function.comp_def] using hj)
   simp only [List.length_map,List.map_map,Function.comp_def] at key;rw [ha,hn];have hid:List.map (fun x:List UInt8=>x) xs=xs:=by simp
   simp only [hid] at key;exact key.mono fun e w' ⟨he,hw⟩=>⟨_,he,.str _,hw⟩
end
end Go.VM
end
section
namespace Go.VM
open Go Go.RowKit
section
variable {P:Program} {G:GT} {st:St} {base:cS} {R:Nat→Nat→Prop} {μ:Nat→Nat} {a:Act} {w:World}
def c3y (P:Program)(s:St):ResultVar→Option DV
 | .tmp i=>some (s.tmps.getD i (.cM []))
 | .cell p ty=>match s.tmps.getD p (.cM []) with
  | .ptr k off=>(match getKey k s.H with
   |some (.cells cs)=>a6n P ty (cs.drop off)
   |_=>none)
  |_=>none
def xS (P:Program)(s:St)(rs:List ResultVar):Option DV:=match rs with
 |[r]=>c3y P s r
 |rs=>(a1n P s rs).map .cM
theorem c8A (hr:Rel P G base R μ st a w){r:ResultVar}{x:DV}(h:c3y P st r=some x):∃v,(a5G a.tmps r).run P w= .ok v w∧TV R μ w v x:=by
 cases r with
 |tmp i=>simp only [c3y,d7c] at h;subst h;have he:=hr.eval (.tmp i);simp only [St.eval,Act.eval] at he;exact ⟨_,rfl,he⟩
 |cell p ty=>
  simp only [c3y] at h;have he:=hr.eval (.tmp p);simp only [St.eval,Act.eval] at he;split at h
  ·rename_i k off hp;split at h
   ·rename_i cs hk;rw [hp] at he;obtain ⟨_,_,hob⟩:=hr.gL k _ hk;have hrun:=(a5A.a1b hob).drop off;rw [Nat.zero_add] at hrun;obtain ⟨v,h1,h2,_⟩:=sX (P:=P) hrun h;refine ⟨v,?_,h2⟩;unfold a5G;simp only;rw [he.b2K];simp only [asAddr,Sem.run_bind,Sem.run_pure,Result.andThen_ok,h1]
   ·cases h
  ·cases h
theorem wR (hr:Rel P G base R μ st a w){fn:Func}{r:DV}(h:xS P st fn.results.toList=some r):∃v,(results fn a.tmps).run P w= .ok v w∧TV R μ w v r:=by
 unfold xS at h;split at h
 ·rename_i r0 hrs;obtain ⟨v,h1,h2⟩:=c8A hr h;refine ⟨v,?_,h2⟩;rw [a3D,Array.mapM_eq_mapM_toList,hrs];simp [h1]
 ·rename_i hne;obtain ⟨ds,hds,rfl⟩:=d6V.1 h;obtain ⟨vs,h1,h2,h3⟩:=a8p hr hds;have hl:vs.length≠1:=fun e=>by
   have:ds.length=1:=by omega
   have hrl:fn.results.toList.length=1:=by rw [← b1G hds];exact this
   match hq:fn.results.toList,hrl with
   |[x],_=>exact hne x hq
  refine ⟨.tuple vs.toArray,?_,.cM _ _ (by simpa using h2) (fun i d hi=>by have:=h3 i d hi;simpa [d6Y,List.getD] using this)⟩;rw [a3D,Array.mapM_eq_mapM_toList];simp only [Sem.run_bind,Sem.run_map,h1,Result.andThen_ok,Sem.run_pure];rw [dif_neg (by simpa using hl)]
where b1G {P:Program} {s:St}:∀ {l:List ResultVar} {ds:List D},a1n P s l=some ds→ds.length=l.length
 |[],ds,h=>by simp [a1n] at h;subst h;rfl
 |r::l,ds,h=>by
  simp only [a1n] at h;split at h
  ·rename_i x ds' _ h';simp at h;subst h;simp [b1G h']
  ·cases h
def a5J (n:Nat)(rs:List ResultVar):Loc→Option Loc
 | .t j=>match rs with
  |[.tmp i]=>if i=j∧j<n then some (.t 0) else none
  |_=>none
 | .c k off=>some (.c k off)
def a6G (s:St)(rs:List ResultVar)(r:DV):St:=⟨[r],s.H,s.own.map fun c=>(c.1,c.2.filterMap (a5J s.tmps.length rs))⟩
def b9z (P:Program)(s:St)(rs:List ResultVar)(s1:St):Prop:=match xS P s rs with
 |some r=>vM (a6G s rs r) s1
 |none=>False
theorem Rel.ret (hr:Rel P G base R μ st a w){fn:Func}{r:DV}{v:Value}(hv:(results fn a.tmps).run P w= .ok v w)(ht:TV R μ w v r):Rel P G base R μ (a6G st fn.results.toList r) { tmps:= #[v],defers:=[] } w:=by
 refine ⟨rfl,rfl,fun i u d hu hd=>?_,hr.gL,hr.inj,fun c hc k off hl=>?_,?_,hr.rX,hr.mY,hr.base,hr.pass⟩
 ·simp only [a6G] at hd;cases i with
  |zero=>simp at hu hd;subst hu hd;exact ht
  |succ i=>simp at hd
 ·simp only [a6G,List.mem_map] at hc;obtain ⟨c0,hc0,rfl⟩:=hc;simp only [List.mem_filterMap] at hl;obtain ⟨l0,hl0,he⟩:=hl;cases l0 with
  |t j=>
   simp only [a5J] at he;split at he
   ·split at he<;>cases he
   ·cases he
  |c k' off'=>simp only [a5J,d7c] at he;cases he;exact hr.dR c0 hc0 k off hl0
 ·obtain ⟨vs,hl,h1,hap⟩:=hr.own;refine ⟨vs,by simpa [a6G] using hl,fun i c u hc hu=>?_,hap⟩;simp only [a6G,d7g] at hc;obtain ⟨c0,hc0,rfl⟩:=d6V.1 hc;have ho:=h1 i c0 u hc0 hu;refine ⟨fun l hl u' hu'=>?_,ho.own,ho.keys⟩;simp only [List.mem_filterMap] at hl;obtain ⟨l0,hl0,he⟩:=hl;cases l0 with
  |t j=>
   simp only [a5J] at he;split at he
   ·rename_i i' hrs;split at he
    ·rename_i hij;cases he;obtain ⟨rfl,hlt⟩:=hij;simp [cB] at hu';subst hu';have hrs':fn.results= #[.tmp i']:=by apply Array.ext';simpa using hrs
     rw [results_tmp hrs' a.tmps P w] at hv;cases hv;have hlt':i'<a.tmps.size:=by rw [hr.size];exact hlt
     exact ho.dR _ hl0 _ (by simp [cB,hlt'])
    ·cases he
   ·cases he
  |c k' off'=>simp only [a5J,d7c] at he;subst he;exact ho.dR _ hl0 u' hu'
theorem CH.a2W {f:FuncId}{fn:Func}{c:Code}{n:Nat}{s0 s1:St}(hf:P.funcs[f]? =some fn)(hb:fn.body=some c)(hn:fn.ntmps=n){rs:List ResultVar}(hrs:fn.results.toList=rs)(hT:(s0.own.all fun c=>c.2.all fun l=>match l with| .t i=>decide (i<s0.tmps.length)|_=>true)=true)(h:SW P G c ⟨s0.tmps++List.replicate (n-s0.tmps.length) (.cM []),s0.H,s0.own⟩ fun e s=>(e= .normal∨e= .ret)∧b9z P s rs s1):CH P G f s0 s1:=by
 subst hrs;intro base R μ args w hr;refine calls_of_wp hf hb ?_
 have hsz:args.size=s0.tmps.length:=hr.size;have hrel:Rel P G base R μ ⟨s0.tmps++List.replicate (n-s0.tmps.length) (.cM []),s0.H,s0.own⟩ { tmps:=args++Array.replicate (fn.ntmps-args.size) undef,defers:=[] } w:=by
  refine ⟨rfl,by simp [hsz,hn],fun i v d hiv hid=>?_,hr.gL,hr.inj,hr.dR,?_,hr.rX,hr.mY,hr.base,hr.pass⟩
  ·simp only at hid;by_cases hi:i<s0.tmps.length
   ·rw [d7h hi] at hid;rw [Array.getElem?_append_left (by omega)] at hiv;exact hr.tmps i v d hiv hid
   ·rw [d7e (by omega),List.getElem?_replicate] at hid;split at hid<;>simp at hid;subst hid;rw [Array.getElem?_append_right (by omega),Array.getElem?_replicate] at hiv;split at hiv<;>simp at hiv;subst hiv;exact .cM #[] [] rfl (by simp)
  ·obtain ⟨vs,hl,h1,hap⟩:=hr.own;refine ⟨vs,hl,fun i c v hc hv=>?_,hap⟩;have ho:=h1 i c v hc hv;refine ⟨fun l hl u hu=>?_,ho.own,ho.keys⟩;cases l with
   |t j=>have hj:=d6Z.1 (d6Z.1 hT c (d7b hc)) _ hl;simp only [decide_eq_true_eq] at hj;simp only [cB] at hu;rw [Array.getElem?_append_left (by omega)] at hu;exact ho.dR _ hl u hu
   |c k off=>exact ho.dR _ hl u hu
 refine wp_mono (h base R μ _ w hrel) fun e a' w' ⟨s,R',μ',⟨he,hend⟩,hr',hs⟩=>?_
 unfold b9z at hend;split at hend
 ·rename_i r hres;obtain ⟨v,hv1,hv2⟩:=wR hr' hres;have hpost:a'.defers=[]∧∃v,(results fn a'.tmps).run P w'= .ok v w'∧∃v' R' μ',Ending.returned v= .returned v'∧Rel P G base R' μ' s1 { tmps:= #[v'],defers:=[] } w'∧Step base R w R' w':=
   ⟨hr'.defers,v,hv1,v,R',μ',rfl,(hr'.ret hv1 hv2).yK hend,hs⟩
  rcases he with rfl|rfl
  ·exact hpost
  ·exact hpost
 ·exact hend.elim
theorem CH.bI {f:FuncId}{fn:Func}{c:Code}{n:Nat}{s0 s1:St}(hf:P.funcs[f]? =some fn)(hb:fn.body=some c)(hn:fn.ntmps=n){rs:List ResultVar}(hrs:fn.results.toList=rs)(hT:(s0.own.all fun c=>c.2.all fun l=>match l with| .t i=>decide (i<s0.tmps.length)|_=>true)=true)(h:VK P G [.code c] .normal ⟨s0.tmps++List.replicate (n-s0.tmps.length) (.cM []),s0.H,s0.own⟩ fun e s=>(e= .normal∨e= .ret)∧b9z P s rs s1):CH P G f s0 s1:=CH.a2W hf hb hn hrs hT (a0H c _ _ (b5g h))
end
end Go.VM
end
section
namespace Go.VM
open Go Go.RowKit
def rQ (s:St):List (TypeId×List Loc)→List (TypeId×List Loc)→Option (List (TypeId×List Loc))
 |own,[]=>some own
 |own,c::r=>if a8m s c then rQ s own r else match vL c own with
  |some own1=>rQ s own1 r
  |none=>none
def eX (K:List (Nat×Nat))(dst:Option Tmp):Loc→Option Loc
 | .t i=>if i=0 then dst.map Loc.t else none
 | .c k off=>some (.c (rk K k) off)
def gM (K:List (Nat×Nat))(dst:Option Tmp)(c:TypeId×List Loc):TypeId×List Loc:=(c.1,c.2.filterMap (eX K dst))
def a8y (K:List (Nat×Nat))(ls:List (Option Loc)):Loc→Option Loc
 | .t i=>(ls[i]?).join
 | .c k off=>some (.c (rk K k) off)
def mJ (K:List (Nat×Nat))(ls:List (Option Loc))(c:TypeId×List Loc):TypeId×List Loc:=(c.1,c.2.filterMap (a8y K ls))
def uU (n:Nat)(ls:List (Option Loc))(own:List (TypeId×List Loc)):Bool:=own.all fun c=>c.2.all fun l=>match l with
 | .t i=>(match ls[i]? with
  |some (some (.t t))=>decide (t<n)
  |_=>false)
 | .c _ _=>true
def eA:List (Nat×Nat)→List (TypeId×List Loc)→List (TypeId×List Loc)
 |[],own=>own
 |p::r,own=>eA r (dropKey p.2 own)
def bN (K:List (Nat×Nat)):List (Nat×aY)→List (Nat×aY)→List (Nat×aY)
 |[],H=>H
 |p::r,H=>bN K r (cE (rk K p.1) (cW K p.2) H)
def cL (K:List (Nat×Nat))(H:List (Nat×aY)):List (Nat×aY):=H.map fun p=>(rk K p.1,cW K p.2)
def pS (dst:Option Tmp)(d:DV)(l:List DV):List DV:=match dst with
 |some i=>l.set i d
 |none=>l
def qG (dst:Option Tmp)(own:List (TypeId×List Loc)):List (TypeId×List Loc):=match dst with
 |some d=>cH (.t d) own
 |none=>own
def bB (K:List (Nat×Nat))(dst:Option Tmp)(st:St)(rest:List (TypeId×List Loc))(r:DV)(H1:List (Nat×aY))(own1:List (TypeId×List Loc)):St:=
 { tmps:=pS dst (bC K r) st.tmps,H:=bN K H1 st.H,own:=own1.map (gM K dst)++qG dst (eA K rest) }
def aN (K:List (Nat×Nat))(s0:St)(r:DV)(H1:List (Nat×aY)):Bool:=
 decide ((K.map (·.1)).Nodup)&&decide ((K.map (·.2)).Nodup)&&(K.all fun p=>decide (100000≤p.1))&&(s0.tmps.all (aW K))&&
 (s0.H.all fun p=>(K.any fun q=>q.1==p.1)&&aR K p.2&&(getKey p.1 H1).isSome)&&bA s0.H s0.own&&
 aW K r&&decide ((H1.map (·.1)).Nodup)&&(H1.all fun p=>aR K p.2&&(getKey p.1 s0.H).isSome)
theorem gN {k:Nat}{o:aY}:∀ {H:List (Nat×aY)},getKey k H=some o→(k,o)∈H
 |[],h=>by simp [getKey] at h
 |(k',o')::r,h=>by
  unfold getKey at h;split at h
  ·rename_i he;cases h;subst he;exact .head _
  ·exact .tail _ (gN h)
theorem getKey_of_mem {k:Nat}{o:aY}:∀ {H:List (Nat×aY)},(H.map (·.1)).Nodup→(k,o)∈H→getKey k H=some o
 |(k',o')::r,hn,h=>by
  simp only [List.map_cons,List.nodup_cons] at hn;unfold getKey;rcases List.mem_cons.1 h with he|h
  ·cases he;simp
  ·have:k'≠k:=fun e=>hn.1 (by rw [e];exact List.mem_map.2 ⟨(k,o),h,rfl⟩)
   rw [if_neg this];exact getKey_of_mem hn.2 h
theorem tR {K:List (Nat×Nat)}{k:Nat}{o:aY}:∀ {l H:List (Nat×aY)},getKey k (bN K l H)=some o→(∃p∈l,k=rk K p.1∧o=cW K p.2)∨((∀p∈l,k≠rk K p.1)∧getKey k H=some o)
 |[],H,h=> .inr ⟨by simp,h⟩
 |p::r,H,h=>by
  rcases tR (l:=r) h with ⟨q,h1,h2⟩|⟨h1,h2⟩
  ·exact .inl ⟨q,.tail _ h1,h2⟩
  ·rw [eV] at h2;split at h2
   ·rename_i he;cases h2;exact .inl ⟨p,.head _,he.symm,rfl⟩
   ·rename_i hne;exact .inr ⟨fun q hq=>by rcases List.mem_cons.1 hq with rfl|hq;exact fun e=>hne e.symm;exact h1 q hq,h2⟩
theorem a1s {K:List (Nat×Nat)}{k:Nat}:∀ {l H:List (Nat×aY)},(∃o,getKey k H=some o)→∃o,getKey k (bN K l H)=some o
 |[],H,h=>h
 |p::r,H,⟨o,h⟩=>a1s (l:=r) (by
   rw [eV];split
   ·exact ⟨_,rfl⟩
   ·exact ⟨o,h⟩)
theorem a8z {K:List (Nat×Nat)}:∀ {own:List (TypeId×List Loc)} {i:Nat} {c:TypeId×List Loc},(eA K own)[i]? =some c→∃c',own[i]? =some c'∧c.1=c'.1∧∀x,x∈c.2→x∈c'.2∧∀p∈K,x.uA p.2=false:=by
 induction K with
 |nil=>intro own i c h;exact ⟨c,h,rfl,fun x hx=>⟨hx,by simp⟩⟩
 |cons p r ih=>intro own i c h;obtain ⟨c1,h1,h2,h3⟩:=ih h;obtain ⟨c0,g1,g2,g3⟩:=uC h1;refine ⟨c0,g1,h2.trans g2,fun x hx=>?_⟩;obtain ⟨q1,q2⟩:=h3 x hx;have q3:=(g3 x).1 q1;exact ⟨q3.1,fun y hy=>by rcases List.mem_cons.1 hy with rfl|hy;exact q3.2;exact q2 y hy⟩
theorem a6H {dst:Option Tmp}{own:List (TypeId×List Loc)}{i:Nat}{c:TypeId×List Loc}(h:(qG dst own)[i]? =some c):∃c',own[i]? =some c'∧c.1=c'.1∧∀x,x∈c.2→x∈c'.2∧∀d,dst=some d→x≠ .t d:=by
 cases dst with
 |none=>exact ⟨c,h,rfl,fun x hx=>⟨hx,by simp⟩⟩
 |some d=>obtain ⟨c',h1,h2,h3⟩:=mT h;exact ⟨c',h1,h2,fun x hx=>⟨((h3 x).1 hx).1,fun d' hd=>by cases hd;exact ((h3 x).1 hx).2⟩⟩
theorem b7S (K:List (Nat×Nat)):∀own,(eA K own).length=own.length:=by
 induction K with
 |nil=>intro own;rfl
 |cons p r ih=>intro own;simp [eA,ih,dropKey]
theorem b5v (dst:Option Tmp)(own:List (TypeId×List Loc)):(qG dst own).length=own.length:=by cases dst<;>simp [qG,cH]
section
variable {P:Program} {G:GT} {st:St} {base:cS} {R:Nat→Nat→Prop} {μ:Nat→Nat} {a:Act} {w:World}
theorem a1t (hr:Rel P G base R μ st a w):∀(cs own own1:List (TypeId×List Loc)) (vs:List Value),b7F P base R μ st a w own vs→rQ st own cs=some own1→
  ∃vsT vs1:List Value,vsT.length=cs.length∧(∀(i:Nat) (c:TypeId×List Loc) (v:Value),cs[i]? =some c→vsT[i]? =some v→zR P base R μ st a w c v)∧vsT.Pairwise a0A∧b7F P base R μ st a w own1 vs1∧
   (∀v∈vsT,∀u∈vs1,a0A v u)∧(∀x∈vs1,x∈vs)∧∀x∈vsT,bD x=none∨x∈vs
 |[],own,own1,vs,h,ht=>by simp only [rQ,d7c] at ht;subst ht;exact ⟨[],vs,rfl,by simp,.nil,h,by simp,fun _ h=>h,by simp⟩
 |c::r,own,own1,vs,h,ht=>by
  unfold rQ at ht;split at ht
  ·rename_i hn;obtain ⟨vsT,vs1,q1,q2,q3,q4,q5,q6,q7⟩:=a1t hr r own own1 vs h ht;have hex:∃v,zR P base R μ st a w c v∧bD v=none:=by
    by_cases hx:∃l∈c.2,∃u,cB a w μ l=some u
    ·obtain ⟨l,hl,u,hu⟩:=hx;unfold a8m at hn;split at hn
     ·rename_i he;rw [he] at hl;cases hl
     ·rename_i l' he;rw [he] at hl;simp at hl;subst hl;obtain ⟨ao,rfl⟩:=b1D hr hn hu;have hs:bD (.slice ao 0 0)=none:=by cases ao<;>rfl
      exact ⟨.slice ao 0 0,⟨fun l2 hl2 u2 hu2=>by rw [he] at hl2;simp at hl2;subst hl2;rw [hu] at hu2;exact (Option.some.inj hu2).symm,.inl ⟨ao,rfl⟩,fun k o _=>by rw [hs];simp⟩,hs⟩
     ·cases hn
    ·exact ⟨.slice none 0 0,⟨fun l hl u hu=>absurd ⟨l,hl,u,hu⟩ hx,.inl ⟨none,rfl⟩,fun k o _=>by simp [bD]⟩,rfl⟩
   obtain ⟨v,hv1,hv2⟩:=hex;refine ⟨v::vsT,vs1,by simp [q1],fun i c' u hc hu=>?_,List.pairwise_cons.2 ⟨fun x _ g hg=>(by rw [hv2] at hg;cases hg),q3⟩,q4,fun x hx u hu=>?_,q6,fun x hx=>?_⟩
   ·cases i with
    |zero=>simp at hc hu;subst hc hu;exact hv1
    |succ i=>simp at hc hu;exact q2 i c' u hc hu
   ·rcases List.mem_cons.1 hx with rfl|hx
    ·exact fun g hg=>by rw [hv2] at hg;cases hg
    ·exact q5 x hx u hu
   ·rcases List.mem_cons.1 hx with rfl|hx
    ·exact .inl hv2
    ·exact q7 x hx
  ·split at ht
   ·rename_i own2 htk;obtain ⟨v,vs2,p1,p2,p3,p4,p5⟩:=h.take htk;obtain ⟨vsT,vs1,q1,q2,q3,q4,q5,q6,q7⟩:=a1t hr r own2 own1 vs2 p2 ht;refine ⟨v::vsT,vs1,by simp [q1],fun i c' u hc hu=>?_,List.pairwise_cons.2 ⟨fun x hx=>?_,q3⟩,q4,fun x hx u hu=>?_,fun x hx=>p3 x (q6 x hx),fun x hx=>?_⟩
    ·cases i with
     |zero=>simp at hc hu;subst hc hu;exact p1
     |succ i=>simp at hc hu;exact q2 i c' u hc hu
    ·rcases q7 x hx with hs|hx'
     ·exact fun g _ hg=>by rw [hs] at hg;cases hg
     ·exact p5 x hx'
    ·rcases List.mem_cons.1 hx with rfl|hx
     ·exact p5 u (q6 u hu)
     ·exact q5 x hx u hu
    ·rcases List.mem_cons.1 hx with rfl|hx
     ·exact .inr p4
     ·rcases q7 x hx with hs|hx'
      ·exact .inl hs
      ·exact .inr (p3 x hx')
   ·cases ht
end
end Go.VM
end
section
namespace Go.VM
open Go Go.RowKit
section
variable {P:Program} {G:GT} {st:St}
theorem mG.mono {b b':cS}{R:Nat→Nat→Prop}{w:World}{e:TypeId}{v:Value}(h:mG P b R w e v)(hb:∀k,b k→b' k):mG P b' R w e v:=by
 rcases h with h|⟨g,n,cap,cur,h0,h1,h2⟩
 ·exact .inl h
 ·exact .inr ⟨g,n,cap,cur,h0,hb g h1,h2⟩
theorem kR.a6I {f:FuncId}{s0:St}{r:DV}{H1:List (Nat×aY)}{own1:List (TypeId×List Loc)}(hch:CH P G f s0 ⟨[r],H1,own1⟩)(K:List (Nat×Nat)){d6U:List DV}{ls:List (Option Loc)}{dst:Option Tmp}{rest:List (TypeId×List Loc)}(hfit:aN K s0 r H1=true)(hargs:WkT d6U (aT K s0.tmps))(hH:WkH st.H (cL K s0.H))(jR:rQ st st.own (s0.own.map (mJ K ls))=some rest)(kn:uU st.tmps.length ls s0.own=true):
  kR P G f d6U ls st dst (bB K dst st rest r H1 own1):=by
 simp only [aN,d6W,decide_eq_true_eq,d6Z] at hfit;obtain ⟨⟨⟨⟨⟨⟨⟨⟨kf,ks⟩,kp⟩,kt⟩,kh⟩,kl⟩,kr⟩,kd⟩,k1⟩:=hfit;intro base R μ a w args hr hl hv hloc;obtain ⟨vs,hvs⟩:=hr.own;obtain ⟨vsT,vsR,t1,t2,t3,t4,t5,t6,t7⟩:=a1t hr _ _ _ vs ⟨hvs.len,hvs.one,hvs.apart⟩ jR;have inK:∀k o,getKey k s0.H=some o→(K.any fun p=>p.1==k)=true∧aR K o=true∧(getKey k H1).isSome=true:=fun k o hk=>by
  have:=kh _ (gN hk)
  try simp only [d6W] at this
  exact ⟨this.1.1,this.1.2,this.2⟩
 have inst:∀k o,getKey k s0.H=some o→∃o',getKey (rk K k) st.H=some o'∧WkO o' (cW K o):=fun k o hk=>by
  have hm:=gN hk;have:∀ {l:List (Nat×aY)},WkH st.H (cL K l)→(k,o)∈l→∃o',getKey (rk K k) st.H=some o'∧WkO o' (cW K o):=by
   intro l
   induction l with
   |nil=>intro _ h;cases h
   |cons p l ih=>
    intro hw hp;obtain ⟨h1,h2⟩:=hw;rcases List.mem_cons.1 hp with rfl|hp
    ·exact h1
    ·exact ih h2 hp
  exact this hH hm
 have big:∀k,(K.any fun p=>p.1==k)=true→100000≤k:=fun k hk=>by obtain ⟨p,h1,h2,_⟩:=wL hk;rw [← h2];exact kp p h1
 have rinj:∀k k',(K.any fun p=>p.1==k)=true→(K.any fun p=>p.1==k')=true→rk K k=rk K k'→k=k':=fun k k' h h' he=>by
  obtain ⟨p,p1,p2,p3⟩:=wL h;obtain ⟨q,q1,q2,q3⟩:=wL h';have hpq:p.2=q.2:=by rw [← p3, ← q3,he]
  have:p=q:=a2k ks p1 q1 hpq;rw [← p2, ← q2,this]
 have one:∀k,(getKey k H1).isSome=true→∃o,getKey k s0.H=some o:=fun k hk=>by
  obtain ⟨o,ho⟩:=Option.isSome_iff_exists.1 hk;have:=k1 _ (gN ho)
  try simp only [d6W] at this
  exact Option.isSome_iff_exists.1 this.2
 let base':cS:=⟨fun b=>w.heap.size≤b∨(∃k o,getKey k s0.H=some o∧b=μ (rk K k))∨(∃v∈vsT,bD v=some b),fun k=>μ (rk K k)⟩
 have sub:∀b,base' b→base b:=fun b hb=>by
  rcases hb with hb|⟨k,o,hk,rfl⟩|⟨v,hv,hs⟩
  ·exact hr.base b hb
  ·obtain ⟨o',ho',_⟩:=inst k o hk;exact (hr.gL _ o' ho').1
  ·obtain ⟨i,hi⟩:=d7n hv;have hil:i<(s0.own.map (mJ K ls)).length:=by rw [← t1];exact (d6X.1 hi).1
   exact (t2 i _ v (d7a hil) hi).own.xJ hs
 have hrel0:Rel P G base' R (fun k=>μ (rk K k)) s0 { tmps:=args,defers:=[] } w:=by
  obtain ⟨g1,g2⟩:=wN hargs;rw [oJ] at g1 g2;refine ⟨rfl,by show args.size=s0.tmps.length;rw [List.length_map] at g1;omega,fun i v d hiv hid=>?_,fun k o hk=>?_,fun k k' o o' hk hk' he=>?_,fun c hc k off hl'=>?_,⟨vsT,by simpa using t1,fun i c v hc hv'=>?_,t3⟩,hr.rX.up sub,hr.mY,fun b hb=> .inl hb,fun k hk=>rfl⟩
  ·obtain ⟨d0,hd0,hcase⟩:=g2 i (bC K d) (by rw [d7g,hid];rfl);have hva:=hv i d0 hd0;have hav:args.getD i undef=v:=by simp only at hiv;simp [d6Y,hiv]
   rw [hav] at hva;have hren:TV R μ w v (bC K d):=by
    rcases hcase with hc|hc|⟨hc1,hc2⟩
    ·rw [hc];exact .undef _
    ·rw [hc];exact hva
    ·rw [hc2];rw [hc1] at hva;obtain ⟨ao,rfl⟩:=hva.a4f.jE;exact .d _ _ (.emp _ _)
   exact hren.ren (μ:=μ) (fun _ _=>rfl) (kt d (d7b hid))
  ·obtain ⟨q1,q2,_⟩:=inK k o hk;obtain ⟨o',ho',hw⟩:=inst k o hk;obtain ⟨p1,p2,p3⟩:=hr.gL _ o' ho';exact ⟨.inr (.inl ⟨k,o,hk,rfl⟩),p2,(a7K hw p3).ren (fun _ _=>rfl) q2⟩
  ·obtain ⟨o1,h1,_⟩:=inst k o hk;obtain ⟨o2,h2,_⟩:=inst k' o' hk';exact rinj k k' (inK k o hk).1 (inK k' o' hk').1 (hr.inj _ _ o1 o2 h1 h2 he)
  ·have:=d6Z.1 (d6Z.1 kl c hc) _ hl';exact Option.isSome_iff_exists.1 this
  ·have ho:=t2 i (mJ K ls c) v (by rw [d7g,hc];rfl) hv';refine ⟨fun l hl' u hu=>?_,?_,fun k o hk=>?_⟩
   ·have hn:=d6Z.1 (d6Z.1 kn c (d7b hc)) l hl';cases l with
    |t j=>
     simp only at hn;split at hn
     ·rename_i t hj;simp only [decide_eq_true_eq] at hn;have ht:t<a.tmps.size:=by rw [hr.size];exact hn
      have hlv:cB a w μ (.t t)=some a.tmps[t]:=by simp [cB,ht]
      have h1:=hloc j _ hj _ hlv;have h2:=ho.dR (.t t) (List.mem_filterMap.2 ⟨.t j,hl',by simp [a8y,hj]⟩) _ hlv;simp only [cB] at hu;have h3:args.getD j undef=u:=by simp [d6Y,hu]
      rw [← h3, ← h1,h2]
     ·cases hn
    |c k off=>exact ho.dR (.c (rk K k) off) (List.mem_filterMap.2 ⟨.c k off,hl',rfl⟩) u hu
   ·rcases ho.own with h|⟨g,n,cap,cur,h0,h1,h2,h3,h4⟩
    ·exact .inl h
    ·by_cases hc0:cap=0
     ·subst hc0;have:n=0:=by omega
      subst this;exact .inl ⟨_,h0⟩
     ·exact .inr ⟨g,n,cap,cur,h0,.inr (.inr ⟨v,d7b hv',by rw [h0];simp [bD,hc0]⟩),h2,h3,h4⟩
   ·obtain ⟨o',ho',_⟩:=inst k o hk;exact ho.keys _ o' ho'
 refine (hch base' R (fun k=>μ (rk K k)) args w hrel0).mono fun e w' ⟨v,R',ν,he,hrel1,hs⟩=>⟨v,R',μ,he,?_,⟨hs.below.mono sub,hs.mono,fun b o h1 h2=>sub b (hs.new b o h1 h2),hs.cells⟩⟩
 have hsb:Step base R w R' w':=⟨hs.below.mono sub,hs.mono,fun b o h1 h2=>sub b (hs.new b o h1 h2),hs.cells⟩;have hν:∀k,(K.any fun p=>p.1==k)=true→ν k=μ (rk K k):=fun k hk=>hrel1.pass k (big k hk)
 have k1':∀p∈H1,aR K p.2=true∧(∃o,getKey p.1 s0.H=some o)∧getKey p.1 H1=some p.2:=fun p hp=>by
  have:=k1 p hp
  try simp only [d6W] at this
  exact ⟨this.1,Option.isSome_iff_exists.1 this.2,getKey_of_mem kd hp⟩
 have kept:∀b, ¬base' b→w'.heap[b]? =w.heap[b]? ∧∀off,R' b off→R b off:=fun b hb=>⟨hs.below.block b hb,fun off h=>by
  by_cases hx:R b off
  ·exact hx
  ·exact absurd (hs.new b off h hx) hb⟩
 have objOut:∀k o,(∀p∈H1,k≠rk K p.1)→getKey k st.H=some o→ ¬base' (μ k):=fun k o hk ho hb=>by
  rcases hb with hb|⟨k0,o0,h0,he'⟩|⟨u,hu,hsp⟩
  ·have:=(hr.gL k o ho).2.2.lt;omega
  ·obtain ⟨o',ho',_⟩:=inst k0 o0 h0;have:=hr.inj k (rk K k0) o o' ho ho' he';obtain ⟨o1,ho1⟩:=Option.isSome_iff_exists.1 (inK k0 o0 h0).2.2;exact hk (k0,o1) (gN ho1) this
  ·obtain ⟨i,hi⟩:=d7n hu;have hil:i<(s0.own.map (mJ K ls)).length:=by rw [← t1];exact (d6X.1 hi).1
   exact (t2 i _ u (d7a hil) hi).keys k o ho hsp
 have known:∀k o,getKey k (bN K H1 st.H)=some o→∃o',getKey k st.H=some o':=fun k o hk=>by
  rcases tR hk with ⟨p,hp,rfl,_⟩|⟨_,h⟩
  ·obtain ⟨_,⟨o0,h0⟩,_⟩:=k1' p hp;obtain ⟨o',ho',_⟩:=inst _ _ h0;exact ⟨o',ho'⟩
  ·exact ⟨o,h⟩
 obtain ⟨vs1,hv1⟩:=hrel1.own;have hd0:∀u,(#[v]:Array Value)[0]? =some u→u=v:=fun u hu=>by simp at hu;exact hu.symm
 refine ⟨by cases dst<;>exact hr.defers,?_,fun i u d hu hd=>?_,fun k o hk=>?_,fun k k' o o' hk hk' he'=>?_,fun c hc k off hl'=>?_,⟨vs1++vsR,?_,fun i c u hc hu=>?_,?_⟩,hr.rX.bJ hsb,hrel1.mY,fun b hb=>hr.base b (Nat.le_trans hs.below.size hb),hr.pass⟩
 ·cases dst with
  |none=>exact hr.size
  |some t=>simp [bB,pS,Act.put,hr.size]
 ·
  have hres:TV R' μ w' v (bC K r):=(hrel1.tmps 0 v r rfl rfl).b1v hν kr;cases dst with
  |none=>exact (hr.tmps i u d hu hd).bJ hsb
  |some t=>
   simp only [bB,pS,Act.put] at hu hd;by_cases hti:t=i
   ·subst hti;have h1:t<st.tmps.length:=by
     by_cases hlt:t<st.tmps.length
     ·exact hlt
     ·have hno:(st.tmps.set t (bC K r))[t]? =none:=List.getElem?_eq_none (by rw [List.length_set];exact Nat.le_of_not_lt hlt)
      rw [hno] at hd;cases hd
    have h2:t<a.tmps.size:=by rw [hr.size];exact h1
    simp [h1] at hd;simp [h2] at hu;subst hu hd;exact hres
   ·rw [Array.getElem?_setIfInBounds_ne hti] at hu;rw [List.getElem?_set_ne hti] at hd;exact (hr.tmps i u d hu hd).bJ hsb
 ·
  simp only [bB] at hk;rcases tR hk with ⟨p,hp,rfl,rfl⟩|⟨hk1,hk2⟩
  ·obtain ⟨q1,⟨o0,h0⟩,q3⟩:=k1' p hp;obtain ⟨p1,p2,p3⟩:=hrel1.gL p.1 p.2 q3;have hk0:=(inK _ _ h0).1;rw [hν _ hk0] at p1 p2 p3;exact ⟨sub _ p1,p2,p3.b1v hν q1⟩
  ·obtain ⟨p1,p2,p3⟩:=hr.gL k o hk2;obtain ⟨e1,e2⟩:=kept _ (objOut k o hk1 hk2);exact ⟨p1,fun off h=>p2 off (e2 off h),p3.bJ hsb e1⟩
 ·obtain ⟨o1,h1⟩:=known k o hk;obtain ⟨o2,h2⟩:=known k' o' hk';exact hr.inj k k' o1 o2 h1 h2 he'
 ·
  simp only [bB,List.mem_append] at hc;rcases hc with hc|hc
  ·obtain ⟨c0,hc0,rfl⟩:=List.mem_map.1 hc;obtain ⟨l0,hl0,he0⟩:=List.mem_filterMap.1 hl';cases l0 with
   |t j=>
    simp only [eX] at he0;split at he0
    ·cases dst<;>simp at he0
    ·cases he0
   |c k0 off0=>simp only [eX,d7c] at he0;cases he0;obtain ⟨o,ho⟩:=hrel1.dR c0 hc0 k0 off hl0;have hm:=gN ho;obtain ⟨_,⟨o0,h0⟩,_⟩:=k1' _ hm;obtain ⟨o',ho',_⟩:=inst _ _ h0;exact a1s ⟨o',ho'⟩
  ·obtain ⟨i,hi⟩:=d7n hc;obtain ⟨c1,g1,_,g3⟩:=a6H hi;obtain ⟨c2,f1,_,f3⟩:=a8z g1;have hx:=(f3 _ (g3 _ hl').1).1;have hmem:=d7b f1;obtain ⟨o,ho⟩:=hr.dR c2 (a2l jR c2 hmem) k off hx;exact a1s ⟨o,ho⟩
 ·have:=hv1.len;have:=t4.len;simp only [bB,List.length_append,List.length_map,b5v,b7S];simp at *;omega
 ·
  simp only [bB] at hc;have h1l:vs1.length=own1.length:=hv1.len;by_cases hi:i<own1.length
  ·rw [d7h (by simpa using hi),d7g] at hc;rw [d7h (by omega)] at hu;obtain ⟨c0,hc0,rfl⟩:=d6V.1 hc;have ho:=hv1.one i c0 u hc0 hu;refine ⟨fun l hl' u' hu'=>?_,ho.own.mono sub,fun k o hk=>?_⟩
   ·obtain ⟨l0,hl0,he0⟩:=List.mem_filterMap.1 hl';cases l0 with
    |t j=>
     simp only [eX] at he0;split at he0
     ·rename_i hj;subst hj;cases dst with
      |none=>simp at he0
      |some t=>
       simp at he0;subst he0;simp only [cB,Act.put] at hu';by_cases hlt:t<a.tmps.size
       ·simp [hlt] at hu';subst hu';exact ho.dR (.t 0) hl0 _ (by simp [cB])
       ·simp [hlt] at hu'
     ·cases he0
    |c k0 off0=>
     simp only [eX,d7c] at he0;subst he0;obtain ⟨o,hoo⟩:=hrel1.dR c0 (d7b hc0) k0 off0 hl0;obtain ⟨_,⟨o0,h0⟩,_⟩:=k1' _ (gN hoo);have hk0:=(inK _ _ h0).1;refine ho.dR (.c k0 off0) hl0 u' ?_
     simp only [cB] at hu' ⊢;rw [hν _ hk0];cases dst<;>exact hu'
   ·simp only [bB] at hk;rcases tR hk with ⟨p,hp,rfl,_⟩|⟨hk1,hk2⟩
    ·obtain ⟨_,⟨o0,h0⟩,q3⟩:=k1' p hp;have:=ho.keys p.1 p.2 q3;rw [hν _ (inK _ _ h0).1] at this;exact this
    ·intro hsp;exact objOut k o hk1 hk2 (ho.own.xJ hsp)
  ·rw [d7e (by simp;omega)] at hc;rw [d7e (by omega)] at hu;simp only [List.length_map] at hc;rw [h1l] at hu;obtain ⟨c1,g1,g2,g3⟩:=a6H hc;obtain ⟨c2,f1,f2,f3⟩:=a8z g1;have ho:=t4.one _ c2 u f1 hu;have hum:=d7b hu;have out:∀g,bD u=some g→ ¬base' g:=fun g hg hb=>by
    rcases hb with hb|⟨k0,o0,h0,he'⟩|⟨x,hx,hsp⟩
    ·have:=ho.own.lt hg;omega
    ·obtain ⟨o',ho',_⟩:=inst k0 o0 h0;exact ho.keys _ o' ho' (by rw [hg,he'])
    ·exact t5 x hx u hum g hsp hg
   refine ⟨fun l hl' u' hu'=>?_,?_,fun k o hk=>?_⟩
   ·obtain ⟨q1,q2⟩:=g3 l hl';obtain ⟨q3,q4⟩:=f3 l q1;refine ho.dR l q3 u' ?_
    rw [a2P q2] at hu';cases l with
    |t j=>exact hu'
    |c k off=>
     obtain ⟨o,hoo⟩:=hr.dR c2 (a2l jR c2 (d7b f1)) k off q3;have hno:∀p∈H1,k≠rk K p.1:=fun p hp e=>by obtain ⟨_,⟨o0,h0⟩,_⟩:=k1' p hp;obtain ⟨q,hq1,hq2,hq3⟩:=wL (inK _ _ h0).1;have:=q4 q hq1;simp [Loc.uA,e,hq3] at this
     rw [← hu'];exact (World.cell?_of_block (kept _ (objOut k o hno hoo)).1).symm
   ·have:mG P base R' w' c2.1 u:=ho.own.b9m (fun g hg=>(kept g (out g hg)).1) (fun g off hg h=>(kept g (out g hg)).2 off h);rw [g2,f2];exact this
   ·obtain ⟨o',ho'⟩:=known k o hk;exact ho.keys k o' ho'
 ·refine List.pairwise_append.2 ⟨hv1.apart,t4.apart,fun x hx y hy g hg hg'=>?_⟩;obtain ⟨i,hi⟩:=d7n hx;have hil:i<own1.length:=by rw [← hv1.len];exact (d6X.1 hi).1
  have hb:=(hv1.one i _ x (d7a hil) hi).own.xJ hg;obtain ⟨j,hj⟩:=d7n hy;have hjl:j<rest.length:=by rw [← t4.len];exact (d6X.1 hj).1
  have ho:=t4.one j _ y (d7a hjl) hj;rcases hb with hb|⟨k0,o0,h0,he'⟩|⟨z,hz,hsp⟩
  ·have:=ho.own.lt hg';omega
  ·obtain ⟨o',ho',_⟩:=inst k0 o0 h0;exact ho.keys _ o' ho' (by rw [hg',he'])
  ·exact t5 z hz y hy g hsp hg'
where
 a2k {α β:Type} {f:α→β}:∀ {l:List α},(l.map f).Nodup→∀ {x y:α},x∈l→y∈l→f x=f y→x=y
  |z::l,hn,x,y,hx,hy,he=>by
   simp only [List.map_cons,List.nodup_cons,List.mem_map,not_exists,not_and] at hn;rcases List.mem_cons.1 hx with h1|h1
   ·rcases List.mem_cons.1 hy with h2|h2
    ·rw [h1,h2]
    ·exact absurd (by rw [← he,h1]) (hn.1 y h2)
   ·rcases List.mem_cons.1 hy with h2|h2
    ·exact absurd (by rw [he,h2]) (hn.1 x h1)
    ·exact a2k hn.2 h1 h2 he
 b5w {c:TypeId×List Loc} {own own1:List (TypeId×List Loc)} (h:vL c own=some own1):∀x∈own1,x∈own:=fun x hx=>by obtain ⟨pre,c0,post,rfl,rfl,_,_⟩:=zY h;simp at hx ⊢;rcases hx with hx|hx<;>simp [hx]
 a2l {s:St}:∀ {cs own own1:List (TypeId×List Loc)},rQ s own cs=some own1→∀x∈own1,x∈own
  |[],own,own1,h,x,hx=>by simp only [rQ,d7c] at h;subst h;exact hx
  |c::r,own,own1,h,x,hx=>by
   unfold rQ at h;split at h
   ·exact a2l h x hx
   ·split at h
    ·rename_i own2 ht;exact b5w ht x (a2l h x hx)
    ·cases h
theorem eW.mk {q ro:Bool}{ls:List (Option Loc)}{f:FuncId}{s0:St}{r:DV}{H1:List (Nat×aY)}{own1:List (TypeId×List Loc)}{d6U:List DV}{dst:Option Tmp}{all:Array Oper}{ops:List Oper}{k:List KI}{Q:Exit→St→Prop}{rest:List (TypeId×List Loc)}(he:Enters P f)(hch:CH P G f s0 ⟨[r],H1,own1⟩)(K:List (Nat×Nat))(hfit:aN K s0 r H1=true)(hargs:WkT d6U (aT K s0.tmps))(hH:WkH st.H (cL K s0.H))(jR:rQ st st.own (s0.own.map (mJ K ls))=some rest)(harg:uU st.tmps.length ls s0.own=true)(h:VK P G (.ops q all ops::k) .normal (bB K dst st rest r H1 own1) Q)(hro:ro=false:=by kernel_rfl):eW P G q ro f d6U ls dst all ops k st Q:=eW.mk' ⟨_,⟨he,kR.a6I hch K hfit hargs hH jR harg⟩,h⟩ hro
theorem aH.own {q ro qn:Bool}{ls:List (Option Loc)}{f:FuncId}{s0:St}{r:DV}{own1:List (TypeId×List Loc)}{ds:List D}{dst:Option Tmp}{all:Array Oper}{ops:List Oper}{k:List KI}{Q:Exit→St→Prop}{rest:List (TypeId×List Loc)}(he:Enters P f)(hch:CH P G f s0 ⟨[r],[],own1⟩)(hfit:aN [] s0 r []=true)(hargs:WkT (ds.map .d) (aT [] s0.tmps))(hH:WkH st.H (cL [] s0.H))(jR:rQ st st.own (s0.own.map (mJ [] ls))=some rest)(harg:uU st.tmps.length ls s0.own=true)(h:VK P G (.ops q all ops::k) .normal (bB [] dst st rest r [] own1) Q)(hro:ro=false:=by kernel_rfl):aH P G q ro qn f ds ls dst all ops k st Q:=aH.dZ ⟨_,⟨he,kR.a6I hch [] hfit hargs hH jR harg⟩,h⟩ hro
theorem a6J {k:Nat}{o:aY}:∀ {H:List (Nat×aY)},getKey k H=some o→wC k o H=H
 |[],h=>by simp [getKey] at h
 |(k',o')::r,h=>by
  unfold getKey at h;unfold wC;split at h
  ·rename_i he;cases h;subst he;simp
  ·rename_i he;rw [if_neg he,a6J h]
theorem b5x {k:Nat}{o:aY}{H:List (Nat×aY)}(h:getKey k H=some o):cE k o H=H:=by unfold cE;rw [h];exact a6J h
theorem a4w {K:List (Nat×Nat)}:∀ {l H:List (Nat×aY)},(∀p∈l,getKey (rk K p.1) H=some (cW K p.2))→bN K l H=H
 |[],H,_=>rfl
 |p::r,H,h=>by unfold bN;rw [b5x (h p (.head _))];exact a4w fun q hq=>h q (.tail _ hq)
theorem b2Z {k:Nat}{ks:List Nat}{own:List (TypeId×List Loc)}(hk:k∈ks)(h:jL ks own=true):dropKey k own=own:=by
 unfold dropKey
 conv=>rhs;rw [← List.map_id own]
 refine List.map_congr_left fun c hc=>?_
 have h1:=d6Z.1 h c hc;have:c.2.filter (fun x=> !x.uA k)=c.2:=List.filter_eq_self.2 fun l hl=>by
  have h2:=d6Z.1 h1 l hl;cases l with
  |t i=>rfl
  |c k' off=>simp only [c2L,Bool.not_eq_true',List.contains_eq_mem,decide_eq_false_iff_not] at h2;simp only [Loc.uA,Bool.not_eq_true',beq_eq_false_iff_ne,ne_eq];exact fun e=>h2 (e▸hk)
 rw [this];rfl
theorem a6K:∀ {K:List (Nat×Nat)} {ks:List Nat} {own:List (TypeId×List Loc)},(∀p∈K,p.2∈ks)→jL ks own=true→eA K own=own
 |[],_,_,_,_=>rfl
 |p::r,ks,own,h,hn=>by unfold eA;rw [b2Z (h p (.head _)) hn];exact a6K (fun q hq=>h q (.tail _ hq)) hn
def a2X (H:List (Nat×aY)):List (Nat×aY)→Prop
 |[]=>True
 |p::r=>getKey p.1 H=some p.2∧a2X H r
theorem b5y:∀l:List DV,WkT l l
 |[]=>trivial
 |d::r=>⟨.inr (.inl rfl),b5y r⟩
theorem b1H {H:List (Nat×aY)}:∀ {l:List (Nat×aY)},a2X H l→WkH H l
 |[],_=>trivial
 |p::r,h=>⟨⟨p.2,h.1,by cases p.2<;>simp [WkO,b5y]⟩,b1H h.2⟩
theorem a8A {H:List (Nat×aY)}{K:List (Nat×Nat)}:∀ {l:List (Nat×aY)},a2X H (cL K l)→∀p∈l,getKey (rk K p.1) H=some (cW K p.2)
 |q::r,h,p,hp=>by
  rcases List.mem_cons.1 hp with rfl|hp
  ·exact h.1
  ·exact a8A h.2 p hp
theorem a6L {H H':List (Nat×aY)}{K:List (Nat×Nat)}{ks:List Nat}(ha:∀k∈ks,getKey k H'=getKey k H):∀ {l:List (Nat×aY)},(∀p∈l,rk K p.1∈ks)→a2X H (cL K l)→a2X H' (cL K l)
 |[],_,_=>trivial
 |p::r,hi,h=>⟨(ha _ (hi p (.head _))).trans h.1,a6L ha (fun q hq=>hi q (.tail _ hq)) h.2⟩
theorem RO.a6I {f:FuncId}{tmps:List DV}{H0:List (Nat×aY)}{r:DV}{d6U:List DV}{H:List (Nat×aY)}(hch:CH P G f ⟨tmps,H0,[]⟩ ⟨[r],H0,[]⟩)(K:List (Nat×Nat))(hfit:aN K ⟨tmps,H0,[]⟩ r H0=true)(hargs:WkT d6U (aT K tmps))(hH:a2X H (cL K H0)):RO P G f d6U (K.map (·.2)) H (bC K r):=by
 intro st hst hno dst ls;have hin:∀p∈H0,rk K p.1∈K.map (·.2):=fun p hp=>by simp only [aN,d6W,d6Z] at hfit;obtain ⟨⟨⟨⟨⟨_,hh⟩,_⟩,_⟩,_⟩,_⟩:=hfit;obtain ⟨q,q1,q2,q3⟩:=wL (hh p hp).1.1;rw [q3];exact List.mem_map_of_mem q1
 have hH:a2X st.H (cL K H0):=a6L hst hin hH;have h:=kR.a6I (st:=st) (dst:=dst) (ls:=ls) hch K hfit hargs (b1H hH) (rest:=st.own) rfl rfl;have he:bB K dst st st.own r H0 []=finish st dst (bC K r) .no:=by unfold bB;rw [a4w (a8A hH),a6K (ks:=K.map (·.2)) (fun p hp=>List.mem_map_of_mem hp) hno];cases dst<;>rfl
 rw [← he];exact h
theorem eW.ro {q ro:Bool}{ls:List (Option Loc)}{f:FuncId}{tmps:List DV}{H0:List (Nat×aY)}{r:DV}{d6U:List DV}{dst:Option Tmp}{all:Array Oper}{ops:List Oper}{k:List KI}{Q:Exit→St→Prop}(he:Enters P f)(hch:CH P G f ⟨tmps,H0,[]⟩ ⟨[r],H0,[]⟩)(K:List (Nat×Nat))(hfit:aN K ⟨tmps,H0,[]⟩ r H0=true)(hargs:WkT d6U (aT K tmps))(hH:a2X st.H (cL K H0))(hno:jL (K.map (·.2)) st.own=true)(hks:((K.map (·.2)).all fun k=>(getKey k st.H).isSome)=true)(h:VK P G (.ops q all ops::k) .normal (finish st dst (bC K r) .no) Q)(hkl:pA (bC K r)=true:=by rfl):eW P G q ro f d6U ls dst all ops k st Q:=eW.ro' he (RO.a6I hch K hfit hargs hH) hno hks hkl h
end
attribute [simp] a8y mJ uU a2X jL c2L bB bC aT rk cW cL eX gM eA bN pS qG rQ aN aW aQ aR a6G a5J b9z xS c3y
end Go.VM
end
end
section
section
namespace Go.Proofs.YtjpodcmhcenjjaaGreatDoor
open Go Go.VM
variable {G:GT}
def inB (n:Int):Bool:=decide (-1000000000000≤n)&&decide (n≤1000000000000)
theorem b5z:VM.Enters Tryz.prog 228:=VM.Enters.mk Tryz.func228 rfl
theorem yL:VM.Enters Tryz.prog 206:=VM.Enters.mk Tryz.func206 rfl
theorem b9A (n:Int):CS Tryz.prog G 228 [.int .i64 n] (.d (.bool (inB n))) none:=by
 refine CS.bI Tryz.func228 rfl Tryz.ntmps228 rfl ?_
 by_cases h: -1000000000000≤n<;>simp [inB,h]
def chk (n:Int)(ok:Bool):Int×Bool:=if ok&&inB n then (n,true) else (0,false)
theorem a0c (n:Int)(ok:Bool):CS Tryz.prog G 206 [.int .i64 n,.bool ok] (.cM [.int .i64 (chk n ok).1,.bool (chk n ok).2]) none:=by
 refine CS.bI Tryz.func206 rfl Tryz.ntmps206 rfl ?_
 cases ok
 ·simp [chk]
 ·simp;refine aH.mk b5z (b9A _) ?_
  cases h:inB n<;>simp [chk,h]
end Go.Proofs.YtjpodcmhcenjjaaGreatDoor
end
section
namespace Go.Proofs.YtjpodcmhcenjjaaGreatDoor
open Go Go.VM
def tB (c:UInt8):Bool:=decide (48≤c.toNat)&&decide (c.toNat≤57)
def b7T (a:Nat)(l:List UInt8):Nat:=l.foldl (fun a c=>10*a+(c.toNat-48)) a
def jW (l:List UInt8):Nat:=b7T 0 l
theorem b1I (l:List UInt8)(c:UInt8):jW (l++[c])=10*jW l+(c.toNat-48):=by simp [jW,b7T]
theorem a4x:jW []=0:=rfl
theorem vZ {l:List UInt8}{i:Nat}(h:i<l.length):jW (l.take (i+1))=10*jW (l.take i)+(l[i].toNat-48):=by rw [d7l h,b1I]
theorem sF {c:UInt8}:tB c=true↔48≤c.toNat∧c.toNat≤57:=by simp [tB]
def a5K (s:List UInt8):Bool:=decide (s.head? =some 45)
def mU (s:List UInt8):List UInt8:=if a5K s then s.tail else s
def sgn (b:Bool)(v:Nat):Int:=if b then -(v:Int) else v
def oK (s:List UInt8):Bool:=decide (1≤(mU s).length)&&decide ((mU s).length≤13)&& !(decide ((mU s).head? =some 48)&&(a5K s||decide (1<(mU s).length)))
def oE (s:List UInt8):Int×Bool:=if oK s&&(mU s).all tB then chk (sgn (a5K s) (jW (mU s))) true else (0,false)
theorem wA {s:List UInt8}(h:(mU s).all tB=false):oE s=(0,false):=by simp [oE,h]
end Go.Proofs.YtjpodcmhcenjjaaGreatDoor
end
section
namespace Go.Proofs
open Go.Shelf
def Tryz.a6M:Go.Shelf.Ren:=⟨fun|156=>265|165=>274|166=>275|169=>276|240=>283|241=>284|276=>288|277=>289|n=>n,fun|31=>39|9=>9|3=>3|4=>4|0=>0|20=>20|72=>270|76=>274|70=>267|37=>268|75=>273|127=>277|164=>278|5=>5|80=>132|n=>n,fun|n=>n⟩
theorem Tryz.b9B:Go.Proofs.Lays.n156 Tryz.prog Tryz.a6M:={
 mixed:=by kernel_rfl
 f156:=Tryz.func265.trans (congrArg some (by kernel_rfl))
 f165:=Tryz.func274.trans (congrArg some (by kernel_rfl))
 f166:=Tryz.func275.trans (congrArg some (by kernel_rfl))
 f169:=Tryz.func276.trans (congrArg some (by kernel_rfl))
 f240:=Tryz.func283.trans (congrArg some (by kernel_rfl))
 f241:=Tryz.func284.trans (congrArg some (by kernel_rfl))
 f276:=Tryz.func288.trans (congrArg some (by kernel_rfl))
 f277:=Tryz.func289.trans (congrArg some (by kernel_rfl))
 t0:=Tryz.underlying0
 a0:=Tryz.isAgg0
 z0:=Tryz.sizeOf0
 v0:=Tryz.zeroValue0
 t3:=Tryz.underlying3
 a3:=Tryz.isAgg3
 z3:=Tryz.sizeOf3
 v3:=Tryz.zeroValue3
 t4:=Tryz.underlying4
 a4:=Tryz.isAgg4
 z4:=Tryz.sizeOf4
 v4:=Tryz.zeroValue4
 t9:=Tryz.underlying9
 a9:=Tryz.isAgg9
 z9:=Tryz.sizeOf9
 v9:=Tryz.zeroValue9
 t20:=Tryz.underlying20
 a20:=Tryz.isAgg20
 z20:=Tryz.sizeOf20
 v20:=Tryz.zeroValue20
 t31:=Tryz.underlying39
 a31:=Tryz.isAgg39
 z31:=Tryz.sizeOf39
 v31:=Tryz.zeroValue39
 t37:=Tryz.underlying268
 a37:=Tryz.isAgg268
 z37:=Tryz.sizeOf268
 v37:=Tryz.zeroValue268
 t70:=Tryz.underlying267
 a70:=Tryz.isAgg267
 z70:=Tryz.sizeOf267
 v70:=Tryz.zeroValue267
 t72:=Tryz.underlying270
 a72:=Tryz.isAgg270
 z72:=Tryz.sizeOf270
 v72:=Tryz.zeroValue270
 t75:=Tryz.underlying273
 a75:=Tryz.isAgg273
 z75:=Tryz.sizeOf273
 v75:=Tryz.zeroValue273
 t76:=Tryz.underlying274
 a76:=Tryz.isAgg274
 z76:=Tryz.sizeOf274
 v76:=Tryz.zeroValue274
 t127:=Tryz.underlying277
 a127:=Tryz.isAgg277
 z127:=Tryz.sizeOf277
 v127:=Tryz.zeroValue277
 t164:=Tryz.underlying278
 a164:=Tryz.isAgg278
 z164:=Tryz.sizeOf278
 v164:=Tryz.zeroValue278 }
theorem Tryz.xU:Builder.Extra Tryz.prog Tryz.a6M:={
 sizeBuilder:=by kernel_rfl
 liesBuilder:=by kernel_rfl
 t5:=Tryz.underlying5
 a5:=Tryz.isAgg5
 z5:=Tryz.sizeOf5
 v5:=Tryz.zeroValue5
 infoByte:=by kernel_rfl
 cellsByte:=by kernel_rfl
 sizeByte:=by kernel_rfl
 neB5:=by decide }
open Go.RowKit in
theorem Tryz.strings_Join_none (a:Option Addr)(c:Nat)(sep:ByteArray)(w:World):
  Calls Tryz.prog 265 #[.slice a 0 c,.string sep] w fun e w'=>e= .returned (.string ⟨#[]⟩)∧w'=w:=Any.strings_Join_none Tryz.b9B Tryz.xU a c sep w
open Go.RowKit in
theorem Tryz.strings_Join (bk o c:Nat)(xs:List ByteArray)(sep:ByteArray)(w:World)(hcells:∀(j:Nat) x,xs[j]? =some x→w.cell? ⟨bk,o+j,none⟩=some (.string x))(hbk:bk<w.heap.size)(hN:xs.length≤140737488355328)(hcap:xs.length≤c)(hlen:(Lib.join (xs.map (·.data.toList)) sep.data.toList).length≤140737488355328):
  Calls Tryz.prog 265 #[.slice (some ⟨bk,o,none⟩) xs.length c,.string sep] w fun e w'=>e= .returned (.string ⟨(Lib.join (xs.map (·.data.toList)) sep.data.toList).toArray⟩)∧Below w.heap.size w w':=Any.strings_Join Tryz.b9B Tryz.xU bk o c xs sep w hcells hbk hN hcap hlen
def Tryz.b5A:Go.Shelf.Ren:=⟨fun|161=>188|231=>202|227=>203|233=>204|235=>205|228=>225|197=>226|151=>227|260=>245|152=>246|137=>260|119=>261|224=>262|225=>263|217=>270|266=>281|n=>n,fun|9=>9|4=>4|3=>3|5=>5|117=>212|116=>211|0=>0|124=>215|105=>229|21=>21|119=>257|46=>258|139=>261|138=>260|n=>n,fun|3=>2|4=>3|n=>n⟩
theorem Tryz.c8C:Go.Proofs.Lays.n161 Tryz.prog Tryz.b5A:={
 mixed:=by kernel_rfl
 f119:=Tryz.func261.trans (congrArg some (by kernel_rfl))
 f137:=Tryz.func260.trans (congrArg some (by kernel_rfl))
 f151:=Tryz.func227.trans (congrArg some (by kernel_rfl))
 f152:=Tryz.func246.trans (congrArg some (by kernel_rfl))
 f161:=Tryz.func188.trans (congrArg some (by kernel_rfl))
 f197:=Tryz.func226.trans (congrArg some (by kernel_rfl))
 f217:=Tryz.func270.trans (congrArg some (by kernel_rfl))
 f224:=Tryz.func262.trans (congrArg some (by kernel_rfl))
 f225:=Tryz.func263.trans (congrArg some (by kernel_rfl))
 f227:=Tryz.func203.trans (congrArg some (by kernel_rfl))
 f228:=Tryz.func225.trans (congrArg some (by kernel_rfl))
 f231:=Tryz.func202.trans (congrArg some (by kernel_rfl))
 f233:=Tryz.func204.trans (congrArg some (by kernel_rfl))
 f235:=Tryz.func205.trans (congrArg some (by kernel_rfl))
 f260:=Tryz.func245.trans (congrArg some (by kernel_rfl))
 f266:=Tryz.func281.trans (congrArg some (by kernel_rfl))
 t0:=Tryz.underlying0
 a0:=Tryz.isAgg0
 z0:=Tryz.sizeOf0
 v0:=Tryz.zeroValue0
 t3:=Tryz.underlying3
 a3:=Tryz.isAgg3
 z3:=Tryz.sizeOf3
 v3:=Tryz.zeroValue3
 t4:=Tryz.underlying4
 a4:=Tryz.isAgg4
 z4:=Tryz.sizeOf4
 v4:=Tryz.zeroValue4
 t5:=Tryz.underlying5
 a5:=Tryz.isAgg5
 z5:=Tryz.sizeOf5
 v5:=Tryz.zeroValue5
 t9:=Tryz.underlying9
 a9:=Tryz.isAgg9
 z9:=Tryz.sizeOf9
 v9:=Tryz.zeroValue9
 t21:=Tryz.underlying21
 a21:=Tryz.isAgg21
 z21:=Tryz.sizeOf21
 v21:=Tryz.zeroValue21
 t46:=Tryz.underlying258
 a46:=Tryz.isAgg258
 z46:=Tryz.sizeOf258
 v46:=Tryz.zeroValue258
 t105:=Tryz.underlying229
 a105:=Tryz.isAgg229
 z105:=Tryz.sizeOf229
 v105:=Tryz.zeroValue229
 t116:=Tryz.underlying211
 a116:=Tryz.isAgg211
 z116:=Tryz.sizeOf211
 t117:=Tryz.underlying212
 a117:=Tryz.isAgg212
 z117:=Tryz.sizeOf212
 v117:=Tryz.zeroValue212
 t119:=Tryz.underlying257
 a119:=Tryz.isAgg257
 z119:=Tryz.sizeOf257
 t124:=Tryz.underlying215
 a124:=Tryz.isAgg215
 z124:=Tryz.sizeOf215
 v124:=Tryz.zeroValue215
 t138:=Tryz.underlying260
 a138:=Tryz.isAgg260
 z138:=Tryz.sizeOf260
 v138:=Tryz.zeroValue260
 t139:=Tryz.underlying261
 a139:=Tryz.isAgg261
 z139:=Tryz.sizeOf261
 v139:=Tryz.zeroValue261
 g3:=by kernel_rfl
 g4:=by kernel_rfl }
open Go.RowKit in
theorem Tryz.strings_TrimLeft_one (s:ByteArray)(c:UInt8)(hc:c.toNat<128)(w:World):
  Calls Tryz.prog 188 #[.string s,.string ⟨#[c]⟩] w fun e w'=>e= .returned (.string ⟨(Lib.trimLeftB s.data.toList c).toArray⟩)∧w'=w:=Any.strings_TrimLeft_one Tryz.c8C s c hc w
def Tryz.d0S:Go.Shelf.Ren:=⟨fun|206=>190|n=>n,fun|9=>9|4=>4|3=>3|n=>n,fun|n=>n⟩
def Tryz.b7U:Go.Shelf.Ren:=⟨fun|99=>165|206=>190|n=>n,fun|9=>9|4=>4|3=>3|n=>n,fun|n=>n⟩
theorem Tryz.d2R:Go.Proofs.Lays.n99 Tryz.prog Tryz.b7U:={
 mixed:=by kernel_rfl
 f99:=Tryz.func165.trans (congrArg some (by kernel_rfl))
 f206:=Tryz.func190.trans (congrArg some (by kernel_rfl))
 t3:=Tryz.underlying3
 a3:=Tryz.isAgg3
 z3:=Tryz.sizeOf3
 v3:=Tryz.zeroValue3
 t4:=Tryz.underlying4
 a4:=Tryz.isAgg4
 z4:=Tryz.sizeOf4
 v4:=Tryz.zeroValue4
 t9:=Tryz.underlying9
 a9:=Tryz.isAgg9
 z9:=Tryz.sizeOf9
 v9:=Tryz.zeroValue9 }
open Go.RowKit Go.Lib in
theorem Tryz.strings_HasPrefix (s p:ByteArray)(w:World):
  Calls Tryz.prog 165 #[.string s,.string p] w fun e w'=>e= .returned (.bool (Lib.hasPrefix s.data.toList p.data.toList))∧w'=w:=Any.strings_HasPrefix Tryz.d2R s p w
end Go.Proofs
end
section
namespace Go.Proofs.YtjpodcmhcenjjaaGreatDoor
open Go Go.VM
variable {G:GT}
theorem b5B:VM.Enters Tryz.prog 189:=VM.Enters.mk Tryz.func189 rfl
theorem c3z {c:UInt8}(h:tB c=true):IntKind.i64.wrap (IntKind.u8.wrap ((c.toNat:Int)-48))=((c.toNat-48:Nat):Int):=by
 have:=sF.1 h;have e:IntKind.u8.wrap ((c.toNat:Int)-48)=((c.toNat-48:Nat):Int):=by unfold IntKind.wrap;simp [IntKind.bits,IntKind.signed];omega
 rw [e];exact wrap64 (by omega)
theorem a0d:∀(n:Nat) (l:List UInt8),l.length=n→(∀c∈l,tB c=true)→jW l<10 ^ n:=by
 intro n
 induction n with
 |zero=>intro l hl _;rw [List.length_eq_zero_iff.1 hl];simp [a4x]
 |succ n ih=>
  intro l hl h;have hne:l≠[]:=fun e=>by rw [e] at hl;simp at hl
  have hs:=List.dropLast_concat_getLast hne;have hc:=sF.1 (h _ (List.getLast_mem hne));have:=ih l.dropLast (by simp;omega) fun c hc=>h c (List.dropLast_subset _ hc)
  rw [← hs,b1I,Nat.pow_succ];omega
theorem c3A {s:List UInt8}(h:0<s.length):a5K s=decide (s[0].toNat=45):=by
 cases s with
 |nil=>simp at h
 |cons c r=>simp only [a5K,List.head?_cons,d7c,List.getElem_cons_zero];have:c=45↔c.toNat=45:=⟨fun e=>by rw [e];rfl,fun e=>UInt8.toNat.inj (by simpa using e)⟩;simp [this]
theorem b9C {s:List UInt8}(h:0<s.length):(s.head? =some 48)↔s[0].toNat=48:=by
 cases s with
 |nil=>simp at h
 |cons c r=>simp only [List.head?_cons,d7c,List.getElem_cons_zero];exact ⟨fun e=>by rw [e];rfl,fun e=>UInt8.toNat.inj (by simpa using e)⟩
theorem b7V (s:List UInt8):CS Tryz.prog G 189 [.str s] (.cM [.int .i64 (oE s).1,.bool (oE s).2]) none:=by
 refine CS.bI Tryz.func189 rfl Tryz.ntmps189 rfl ?_
 by_cases h0:0<s.length;rotate_left
 ·have:s=[]:=List.length_eq_zero_iff.1 (by omega);subst this;simp [oE,oK,mU,a5K]
 by_cases hc:s[0].toNat=45
 ·obtain ⟨ds,hds⟩:∃ds,s.tail=ds:=⟨_,rfl⟩;have hneg:a5K s=true:=by rw [c3A h0];simp [hc]
  have hbody:mU s=ds:=by unfold mU;rw [hneg, ← hds];simp
  have hle:1≤s.length:=h0;simp [h0,hc,hds,hle];by_cases e0:ds.length=0
  ·first
   |(exfalso;omega;done)
   |(have hf:oK s=false:=by unfold oK;rw [hbody];simp [e0]
     have e1:ds=[]:=List.length_eq_zero_iff.1 e0;simp [hbody,e1,oE,hf])
  have e1:0<ds.length:=by omega
  have e2: ¬ds=[]:=fun e=>e0 (by rw [e];rfl)
  by_cases hl:13<ds.length
  ·have hf:oK s=false:=by unfold oK;rw [hbody];simp;omega
   simp [hbody,e0,e2,hl,oE,hf]
  have hh:=b9C e1;by_cases hd:ds[0].toNat=48
  ·have hf:oK s=false:=by simp [oK,hbody,hneg,hh.2 hd]
   simp [e0,e1,e2,hl,hd,oE,hf]
  have hd': ¬ds.head? =some 48:=fun e=>hd (hh.1 e)
  have hform:oK s=true:=by simp [oK,hbody,hneg,hd'];omega
  simp [e0,e1,e2,hl,hd];have hlen:ds.length≤13:=by have:=hform;simp only [oK,d6W,decide_eq_true_eq,hbody] at this;exact this.1.2
  refine SW.kJ (ι:={ i:Nat // i≤ds.length∧∀c∈ds.take i,tB c=true }) (fun i=>[(6,.d (.int .i64 (jW (ds.take i.1):Nat))),(43,.d (.int .i64 i.1))]) (fun _=>[]) (fun _=>[]) (fun i=>ds.length-i.1) ⟨0,by simp⟩ (by simp [a4x]) ?_
  rintro ⟨i,hi,ht⟩;by_cases hlt:i<ds.length
  ·have hw:=bO (show i<9223372036854775807 by omega);by_cases hd:tB ds[i]=true
   ·have hv:=a0d _ (ds.take (i+1)) rfl fun c hc=>by
     rw [d7l hlt] at hc;rcases List.mem_append.1 hc with hc|hc
     ·exact ht c hc
     ·rw [d7d] at hc;rw [hc];exact hd
    have hp:10 ^ (ds.take (i+1)).length≤10 ^ 13:=Nat.pow_le_pow_right (by omega) (by simp;omega);rw [vZ hlt] at hv;have hdd:=sF.1 hd;have h48: ¬ds[i].toNat<48:=by omega
    have h57: ¬57<ds[i].toNat:=by omega
    have w1:IntKind.i64.wrap (10*((jW (ds.take i):Nat):Int))=10*((jW (ds.take i):Nat):Int):=wrap64 (by omega);have w2:=c3z hd;have w3:IntKind.i64.wrap (10*((jW (ds.take i):Nat):Int)+((ds[i].toNat-48:Nat):Int))=((jW (ds.take (i+1)):Nat):Int):=by rw [vZ hlt,wrap64 (by omega)];simp
    simp [hlt,h48,h57,w1,w2,w3];exact bQ.mk ⟨i+1,hlt,fun c hc=>by
     rw [d7l hlt] at hc;rcases List.mem_append.1 hc with hc|hc
     ·exact ht c hc
     ·rw [d7d] at hc;rw [hc];exact hd⟩ (by simp [hw]) (by simp;omega)
   ·have hbad:(mU s).all tB=false:=by
     cases h:(mU s).all tB
     ·rfl
     ·rw [hbody,d6Z] at h;exact absurd (h _ (List.getElem_mem hlt)) hd
    by_cases h48:ds[i].toNat<48
    ·simp [hlt,h48,wA hbad]
    ·have h57:57<ds[i].toNat:=by rw [sF] at hd;omega
     simp [hlt,h48,h57,wA hbad]
  ·have hi':i=ds.length:=by omega
   subst hi';rw [List.take_length] at ht;have hall:(mU s).all tB=true:=by rw [hbody,d6Z];exact ht
   have hv:=a0d _ ds rfl ht;have hp:10 ^ ds.length≤10 ^ 13:=Nat.pow_le_pow_right (by omega) hlen;have hres:oE s=chk (sgn (a5K s) (jW (mU s))) true:=by simp [oE,hform,hall]
   rw [hneg,hbody] at hres;simp [sgn] at hres;have w1:IntKind.i64.wrap (-((jW ds:Nat):Int))= -((jW ds:Nat):Int):=wrap64 (by omega);simp [w1];refine aH.mk yL (a0c _ _) ?_
   simp [hres]
 ·have hneg:a5K s=false:=by rw [c3A h0];simp [hc]
  have hbody:mU s=s:=by unfold mU;rw [hneg];rfl
  simp [h0,hc];by_cases e0:s.length=0
  ·first
   |(exfalso;omega;done)
   |(have hf:oK s=false:=by unfold oK;rw [hbody];simp [e0]
     have e1:s=[]:=List.length_eq_zero_iff.1 e0;simp [hbody,e1,oE,hf])
  have e1:0<s.length:=by omega
  have e2: ¬s=[]:=fun e=>e0 (by rw [e];rfl)
  by_cases hl:13<s.length
  ·have hf:oK s=false:=by unfold oK;rw [hbody];simp;omega
   simp [hbody,e0,e2,hl,oE,hf]
  have hh:=b9C e1;by_cases hd:s[0].toNat=48
  ·by_cases h1:1<s.length
   ·have hf:oK s=false:=by simp [oK,hbody,hh.2 hd,h1]
    simp [e0,e1,e2,hl,hd,h1,oE,hf]
   ·have hform:oK s=true:=by simp [oK,hbody,hneg,h1];omega
    simp [e0,e1,e2,hl,hd,h1];have hlen:s.length≤13:=by have:=hform;simp only [oK,d6W,decide_eq_true_eq,hbody] at this;exact this.1.2
    refine SW.kJ (ι:={ i:Nat // i≤s.length∧∀c∈s.take i,tB c=true }) (fun i=>[(6,.d (.int .i64 (jW (s.take i.1):Nat))),(43,.d (.int .i64 i.1))]) (fun _=>[]) (fun _=>[]) (fun i=>s.length-i.1) ⟨0,by simp⟩ (by simp [a4x]) ?_
    rintro ⟨i,hi,ht⟩;by_cases hlt:i<s.length
    ·have hw:=bO (show i<9223372036854775807 by omega);by_cases hd:tB s[i]=true
     ·have hv:=a0d _ (s.take (i+1)) rfl fun c hc=>by
       rw [d7l hlt] at hc;rcases List.mem_append.1 hc with hc|hc
       ·exact ht c hc
       ·rw [d7d] at hc;rw [hc];exact hd
      have hp:10 ^ (s.take (i+1)).length≤10 ^ 13:=Nat.pow_le_pow_right (by omega) (by simp;omega);rw [vZ hlt] at hv;have hdd:=sF.1 hd;have h48: ¬s[i].toNat<48:=by omega
      have h57: ¬57<s[i].toNat:=by omega
      have w1:IntKind.i64.wrap (10*((jW (s.take i):Nat):Int))=10*((jW (s.take i):Nat):Int):=wrap64 (by omega);have w2:=c3z hd;have w3:IntKind.i64.wrap (10*((jW (s.take i):Nat):Int)+((s[i].toNat-48:Nat):Int))=((jW (s.take (i+1)):Nat):Int):=by rw [vZ hlt,wrap64 (by omega)];simp
      simp [hlt,h48,h57,w1,w2,w3];exact bQ.mk ⟨i+1,hlt,fun c hc=>by
       rw [d7l hlt] at hc;rcases List.mem_append.1 hc with hc|hc
       ·exact ht c hc
       ·rw [d7d] at hc;rw [hc];exact hd⟩ (by simp [hw]) (by simp;omega)
     ·have hbad:(mU s).all tB=false:=by
       cases h:(mU s).all tB
       ·rfl
       ·rw [hbody,d6Z] at h;exact absurd (h _ (List.getElem_mem hlt)) hd
      by_cases h48:s[i].toNat<48
      ·simp [hlt,h48,wA hbad]
      ·have h57:57<s[i].toNat:=by rw [sF] at hd;omega
       simp [hlt,h48,h57,wA hbad]
    ·have hi':i=s.length:=by omega
     subst hi';rw [List.take_length] at ht;have hall:(mU s).all tB=true:=by rw [hbody,d6Z];exact ht
     have hv:=a0d _ s rfl ht;have hp:10 ^ s.length≤10 ^ 13:=Nat.pow_le_pow_right (by omega) hlen;have hres:oE s=chk (sgn (a5K s) (jW (mU s))) true:=by simp [oE,hform,hall]
     rw [hneg,hbody] at hres;simp [sgn] at hres;have w1:IntKind.i64.wrap (-((jW s:Nat):Int))= -((jW s:Nat):Int):=wrap64 (by omega);simp [w1];refine aH.mk yL (a0c _ _) ?_
     simp [hres]
  ·have hd': ¬s.head? =some 48:=fun e=>hd (hh.1 e)
   have hform:oK s=true:=by simp [oK,hbody,hd'];omega
   simp [e0,e1,e2,hl,hd];have hlen:s.length≤13:=by have:=hform;simp only [oK,d6W,decide_eq_true_eq,hbody] at this;exact this.1.2
   refine SW.kJ (ι:={ i:Nat // i≤s.length∧∀c∈s.take i,tB c=true }) (fun i=>[(6,.d (.int .i64 (jW (s.take i.1):Nat))),(43,.d (.int .i64 i.1))]) (fun _=>[]) (fun _=>[]) (fun i=>s.length-i.1) ⟨0,by simp⟩ (by simp [a4x]) ?_
   rintro ⟨i,hi,ht⟩;by_cases hlt:i<s.length
   ·have hw:=bO (show i<9223372036854775807 by omega);by_cases hd:tB s[i]=true
    ·have hv:=a0d _ (s.take (i+1)) rfl fun c hc=>by
      rw [d7l hlt] at hc;rcases List.mem_append.1 hc with hc|hc
      ·exact ht c hc
      ·rw [d7d] at hc;rw [hc];exact hd
     have hp:10 ^ (s.take (i+1)).length≤10 ^ 13:=Nat.pow_le_pow_right (by omega) (by simp;omega);rw [vZ hlt] at hv;have hdd:=sF.1 hd;have h48: ¬s[i].toNat<48:=by omega
     have h57: ¬57<s[i].toNat:=by omega
     have w1:IntKind.i64.wrap (10*((jW (s.take i):Nat):Int))=10*((jW (s.take i):Nat):Int):=wrap64 (by omega);have w2:=c3z hd;have w3:IntKind.i64.wrap (10*((jW (s.take i):Nat):Int)+((s[i].toNat-48:Nat):Int))=((jW (s.take (i+1)):Nat):Int):=by rw [vZ hlt,wrap64 (by omega)];simp
     simp [hlt,h48,h57,w1,w2,w3];exact bQ.mk ⟨i+1,hlt,fun c hc=>by
      rw [d7l hlt] at hc;rcases List.mem_append.1 hc with hc|hc
      ·exact ht c hc
      ·rw [d7d] at hc;rw [hc];exact hd⟩ (by simp [hw]) (by simp;omega)
    ·have hbad:(mU s).all tB=false:=by
      cases h:(mU s).all tB
      ·rfl
      ·rw [hbody,d6Z] at h;exact absurd (h _ (List.getElem_mem hlt)) hd
     by_cases h48:s[i].toNat<48
     ·simp [hlt,h48,wA hbad]
     ·have h57:57<s[i].toNat:=by rw [sF] at hd;omega
      simp [hlt,h48,h57,wA hbad]
   ·have hi':i=s.length:=by omega
    subst hi';rw [List.take_length] at ht;have hall:(mU s).all tB=true:=by rw [hbody,d6Z];exact ht
    have hv:=a0d _ s rfl ht;have hp:10 ^ s.length≤10 ^ 13:=Nat.pow_le_pow_right (by omega) hlen;have hres:oE s=chk (sgn (a5K s) (jW (mU s))) true:=by simp [oE,hform,hall]
    rw [hneg,hbody] at hres;simp [sgn] at hres;have w1:IntKind.i64.wrap (-((jW s:Nat):Int))= -((jW s:Nat):Int):=wrap64 (by omega);simp [w1];refine aH.mk yL (a0c _ _) ?_
    simp [hres]
end Go.Proofs.YtjpodcmhcenjjaaGreatDoor
end
end
section
section
namespace Go.Proofs.YtjpodcmhcenjjaaGreatDoor
structure Tok where
 kind:Int
 text:List UInt8
 n:Int
 line:Int
 deriving DecidableEq
def smU (b:UInt8):Bool:=decide (97≤b.toNat∧b.toNat≤122)
def caU (b:UInt8):Bool:=decide (65≤b.toNat∧b.toNat≤90)
def dgU (b:UInt8):Bool:=decide (48≤b.toNat∧b.toNat≤57)
def inU (b:UInt8):Bool:=smU b||caU b||dgU b||decide (b.toNat=95)
def eN:List (List UInt8):=[[60,61,62],[45,62],[61,62],[60,61],[62,61],[33,61],[61,61],[38,38],[124,124],[43],[45],[42],[47],[37],[40],[41],[123],[125],[91],[93],[60],[62],[61],[124],[44],[58],[59],[46],[33],[63],[39]]
def pD (s:List UInt8):List UInt8:=(eN.find? fun t=>t.isPrefixOf s).getD []
section
variable (num:List UInt8→Int×Bool)
def firstT (s:List UInt8):Int×List UInt8×Int×Bool:=
 match s with
 |[]=>(0,[],0,false)
 |c::r=>
  if smU c then (1,(c::r).takeWhile inU,0,true)
  else if caU c then (2,(c::r).takeWhile inU,0,true)
  else if dgU c then (3,(c::r).takeWhile dgU,(num ((c::r).takeWhile dgU)).1,(num ((c::r).takeWhile dgU)).2)
  else if pD (c::r)=[] then (0,[],0,false)
  else (4,pD (c::r),0,true)
def gS:List UInt8→Nat→Int→Bool→Except Int (List Tok)
 |[],_,ln,_=> .ok [⟨0,[],0,ln⟩]
 |_::r,k+1,ln,cm=>gS r k ln cm
 |c::r,0,ln,cm=>
  if c=10 then gS r 0 (ln+1) false
  else if cm=true∨c=32∨c=9 then gS r 0 ln cm
  else if c=35 then gS r 0 ln true
  else if (firstT num (c::r)).2.2.2 then
   match gS r ((firstT num (c::r)).2.1.length-1) ln false with
   | .ok l=> .ok (⟨(firstT num (c::r)).1,(firstT num (c::r)).2.1,(firstT num (c::r)).2.2.1,ln⟩::l)
   | .error e=> .error e
  else .error ln
variable {num}
theorem d4E {b:UInt8}(h:smU b=true):inU b=true:=by simp [inU,h]
theorem d4F {b:UInt8}(h:caU b=true):inU b=true:=by simp [inU,h]
theorem yM {p:UInt8→Bool}{rest:List UInt8}(h:∀b,rest.head? =some b→p b=false):∀s:List UInt8,(s++rest).takeWhile p=s.takeWhile p
 |[]=>by
  cases rest with
  |nil=>rfl
  |cons b r=>simp [List.takeWhile,h b rfl]
 |c::s=>by simp only [List.cons_append,List.takeWhile_cons,yM h s]
theorem find_congr {α:Type}{p q:α→Bool}:∀ {l:List α},(∀x∈l,p x=q x)→l.find? p=l.find? q
 |[],_=>rfl
 |x::l,h=>by simp only [List.find?_cons,h x (.head _),find_congr fun y hy=>h y (.tail _ hy)]
theorem b5C {s:List UInt8}(h:pD s≠[]):pD s∈eN∧pD s <+:s:=by
 unfold pD at h ⊢;cases hf:eN.find? fun t=>t.isPrefixOf s with
 |none=>rw [hf] at h;simp at h
 |some t=>exact ⟨List.mem_of_find?_eq_some hf,List.isPrefixOf_iff_prefix.1 (by simpa using List.find?_some hf)⟩
theorem c0Z:∀t∈eN,pD t=t:=by decide
theorem tS (p:UInt8→Bool):∀s:List UInt8,s.takeWhile p <+:s:=fun s=>List.takeWhile_prefix p
theorem sG (p:UInt8→Bool):∀s:List UInt8,(s.takeWhile p).takeWhile p=s.takeWhile p
 |[]=>rfl
 |c::s=>by
  rw [List.takeWhile_cons];split
  ·rename_i hc;rw [List.takeWhile_cons,if_pos hc,sG p s]
  ·rfl
theorem wS {p:UInt8→Bool}{c:UInt8}{r:List UInt8}(h:p c=true):(c::r).takeWhile p=c::r.takeWhile p:=by rw [List.takeWhile_cons,if_pos h]
theorem a4y {s:List UInt8}(h:(firstT num s).2.2.2=true):(firstT num s).2.1≠[]∧(firstT num s).2.1 <+:s∧firstT num (firstT num s).2.1=firstT num s:=by
 cases s with
 |nil=>simp [firstT] at h
 |cons c r=>
  by_cases h1:smU c=true
  ·have hw:=wS (r:=r) (d4E h1);have hs:=sG inU (c::r);have hp:=tS inU (c::r);simp only [firstT,h1,if_true] at h ⊢;rw [hw] at hs hp ⊢;refine ⟨by simp,hp,?_⟩;simp only [firstT,h1,if_true,hs]
  ·have h1:smU c=false:=by simpa using h1
   by_cases h2:caU c=true
   ·have hw:=wS (r:=r) (d4F h2);have hs:=sG inU (c::r);have hp:=tS inU (c::r);simp only [firstT,h1,h2,if_true,Bool.false_eq_true,if_false] at h ⊢;rw [hw] at hs hp ⊢;refine ⟨by simp,hp,?_⟩;simp only [firstT,h1,h2,if_true,Bool.false_eq_true,if_false,hs]
   ·have h2:caU c=false:=by simpa using h2
    by_cases h3:dgU c=true
    ·have hw:=wS (r:=r) h3;have hs:=sG dgU (c::r);have hp:=tS dgU (c::r);simp only [firstT,h1,h2,h3,if_true,Bool.false_eq_true,if_false] at h ⊢;rw [hw] at hs hp ⊢;refine ⟨by simp,hp,?_⟩;simp only [firstT,h1,h2,h3,if_true,Bool.false_eq_true,if_false,hs]
    ·have h3:dgU c=false:=by simpa using h3
     by_cases h4:pD (c::r)=[]
     ·simp [firstT,h1,h2,h3,h4] at h
     ·obtain ⟨hm,hp⟩:=b5C h4;have hself:=c0Z _ hm;simp only [firstT,h1,h2,h3,h4,Bool.false_eq_true,if_false] at h ⊢;refine ⟨h4,hp,?_⟩;obtain ⟨t,ht⟩:∃t,pD (c::r)=t:=⟨_,rfl⟩;rw [ht] at h4 hp hself ⊢;cases t with
      |nil=>exact absurd rfl h4
      |cons d t'=>
       have hd:d=c:=by obtain ⟨u,hu⟩:=hp;simp only [List.cons_append,List.cons.injEq] at hu;exact hu.1
       subst hd;simp only [firstT,h1,h2,h3,Bool.false_eq_true,if_false,hself];simp
theorem a4z {c:UInt8}{r:List UInt8}(h:c=10∨c=32∨c=9∨c=35):(firstT num (c::r)).2.2.2=false:=by
 have hs:pD (c::r)=[]:=by rcases h with rfl|rfl|rfl|rfl<;>(simp [pD,eN,List.find?_cons,List.isPrefixOf])
 have h1:smU c=false:=by rcases h with rfl|rfl|rfl|rfl<;>decide
 have h2:caU c=false:=by rcases h with rfl|rfl|rfl|rfl<;>decide
 have h3:dgU c=false:=by rcases h with rfl|rfl|rfl|rfl<;>decide
 simp [firstT,h1,h2,h3,hs]
theorem b7W {c:UInt8}{r:List UInt8}(h:(firstT num (c::r)).2.2.2=true):c≠10∧c≠32∧c≠9∧c≠35:=by
 refine ⟨?_,?_,?_,?_⟩
 ·intro e;rw [a4z (.inl e)] at h;cases h
 ·intro e;rw [a4z (.inr (.inl e))] at h;cases h
 ·intro e;rw [a4z (.inr (.inr (.inl e)))] at h;cases h
 ·intro e;rw [a4z (.inr (.inr (.inr e)))] at h;cases h
theorem a5L:∀(s:List UInt8) (k:Nat) (ln:Int) (cm:Bool),k≤s.length→gS num s k ln cm=gS num (s.drop k) 0 ln cm
 |[],k,ln,cm,h=>by
  have:k=0:=by simpa using h
  subst this
  rfl
 |c::r,0,ln,cm,_=>by rfl
 |c::r,k+1,ln,cm,h=>by
  rw [List.drop_succ_cons];simp only [List.length_cons] at h;rw [← a5L r k ln cm (by omega)]
  rfl
end
end Go.Proofs.YtjpodcmhcenjjaaGreatDoor
end
section
namespace Go.Proofs.YtjpodcmhcenjjaaGreatDoor
section
variable {num:List UInt8→Int×Bool}
theorem b7X {c:UInt8}{r:List UInt8}(ln:Int)(h1:c≠10)(h2:c≠32)(h3:c≠9)(h4:c≠35):gS num (c::r) 0 ln false=if (firstT num (c::r)).2.2.2 then
   (match gS num ((c::r).drop (firstT num (c::r)).2.1.length) 0 ln false with
   | .ok l=> .ok (⟨(firstT num (c::r)).1,(firstT num (c::r)).2.1,(firstT num (c::r)).2.2.1,ln⟩::l)
   | .error e=> .error e)
  else .error ln:=by
 conv=>lhs;rw [gS]
 rw [if_neg h1,if_neg (by simp [h2,h3]),if_neg h4];split
 ·rename_i hok;obtain ⟨q1,q2,_⟩:=a4y hok;obtain ⟨tx,htx⟩:∃tx,(firstT num (c::r)).2.1=tx:=⟨_,rfl⟩;rw [htx] at q1 q2 ⊢;have hl:0<tx.length:=List.length_pos_iff.2 q1;have hle:=q2.length_le;simp only [List.length_cons] at hle;rw [a5L r (tx.length-1) ln false (by omega)];have:(c::r).drop tx.length=r.drop (tx.length-1):=by
   conv=>lhs;rw [show tx.length=(tx.length-1)+1 by omega]
   rfl
  rw [this]
  try rfl
 ·rfl
inductive OkT (num:List UInt8→Int×Bool):List Tok→Int→Prop
 |fin (ln l:Int):ln≤l→OkT num [⟨0,[],0,l⟩] ln
 |cons (t:Tok) (r:List Tok) (ln:Int):ln≤t.line→firstT num t.text=(t.kind,t.text,t.n,true)→OkT num r t.line→OkT num (t::r) ln
theorem OkT.mono {l:List Tok}{ln ln':Int}(h:OkT num l ln)(hl:ln'≤ln):OkT num l ln':=by
 cases h with
 |fin _ l hle=>exact .fin _ _ (by omega)
 |cons t r _ h1 h2 h3=>exact .cons t r _ (by omega) h2 h3
theorem b7Y {s:List UInt8}(h:(firstT num s).2.2.2=true):1≤(firstT num s).1∧(firstT num s).1≤4:=by
 cases s with
 |nil=>simp [firstT] at h
 |cons c r=>
  simp only [firstT] at h ⊢;split at h
  ·rename_i h1;simp [h1]
  ·rename_i h1;split at h
   ·rename_i h2;simp [h1,h2]
   ·rename_i h2;split at h
    ·rename_i h3;simp [h1,h2,h3]
    ·rename_i h3;split at h
     ·cases h
     ·rename_i h4;simp [h1,h2,h3,h4]
theorem rC:∀(s:List UInt8) (k:Nat) (ln:Int) (cm:Bool) (l:List Tok),gS num s k ln cm= .ok l→OkT num l ln
 |[],k,ln,cm,l,h=>by simp only [gS,Except.ok.injEq] at h;subst h;exact .fin _ _ (Int.le_refl _)
 |c::r,k+1,ln,cm,l,h=>by rw [gS] at h;exact rC r k ln cm l h
 |c::r,0,ln,cm,l,h=>by
  rw [gS] at h;split at h
  ·exact (rC r 0 _ _ l h).mono (by omega)
  ·split at h
   ·exact rC r 0 _ _ l h
   ·split at h
    ·exact rC r 0 _ _ l h
    ·split at h
     ·rename_i hok;split at h
      ·rename_i l' hl;simp only [Except.ok.injEq] at h;subst h;obtain ⟨q1,q2,q3⟩:=a4y hok;refine .cons _ _ _ (Int.le_refl _) ?_ (rC r _ _ _ l' hl)
       simp only;rw [q3, ← hok]
      ·cases h
     ·cases h
end
end Go.Proofs.YtjpodcmhcenjjaaGreatDoor
end
section
namespace Go.Proofs.YtjpodcmhcenjjaaGreatDoor
open Go
theorem b3b {s:List UInt8}{i:Nat}(h:i<s.length):((⟨s.toArray⟩:ByteArray).get! i)=s[i]:=by
 show (s.toArray)[i]! =s[i]
 simp [h]
theorem c8D (s:List UInt8):(⟨s.toArray⟩:ByteArray).size=s.length:=by
 show s.toArray.size=s.length
 simp
theorem c3D {s:List UInt8}{i:Nat}(h:i<s.length)(hb:s[i].toNat<128):Utf8.decode ⟨s.toArray⟩ i=(s[i].toNat,1):=by rw [Lib.decode_at,b3b h];unfold Lib.decodeN;rw [if_pos hb]
theorem c3E {s:List UInt8}{i:Nat}(h:i<s.length)(hb:128≤s[i].toNat):128≤(Utf8.decode ⟨s.toArray⟩ i).1∧1≤(Utf8.decode ⟨s.toArray⟩ i).2∧i+(Utf8.decode ⟨s.toArray⟩ i).2≤s.length∧
  ∀j,i≤j→j<i+(Utf8.decode ⟨s.toArray⟩ i).2→∃h:j<s.length,128≤s[j].toNat:=by
 rw [Lib.decode_at,b3b h,c8D];have at1:∀k,i+k<s.length→((⟨s.toArray⟩:ByteArray).get! (i+k))=s[i+k]! :=fun k hk=>by rw [b3b hk];simp [hk]
 have two:∀(j:Nat) (hj:j<s.length),s[j].toNat/64=2→128≤s[j].toNat:=fun j hj h=>by omega
 have key:∀k,i+k<s.length→((⟨s.toArray⟩:ByteArray).get! (i+k)).toNat/64=2→∃h:i+k<s.length,128≤s[i+k].toNat:=fun k hk h=>by rw [b3b hk] at h;exact ⟨hk,two _ hk h⟩
 rcases Lib.decodeN_shape (s.length-i) s[i].toNat ((⟨s.toArray⟩:ByteArray).get! (i+1)).toNat ((⟨s.toArray⟩:ByteArray).get! (i+2)).toNat ((⟨s.toArray⟩:ByteArray).get! (i+3)).toNat with h1|h1|h1|h1|h1
 ·omega
 ·obtain ⟨a,b,c,d,e⟩:=h1;rw [e];refine ⟨by simp only;omega,by simp,by simp only;omega,fun j hj hj2=>?_⟩;simp only at hj2;rcases (show j=i∨j=i+1 by omega) with rfl|rfl
  ·exact ⟨h,hb⟩
  ·exact key 1 (by omega) c
 ·obtain ⟨a,b,c,d,f,g,e⟩:=h1;rw [e];refine ⟨by simp only;omega,by simp,by simp only;omega,fun j hj hj2=>?_⟩;simp only at hj2;rcases (show j=i∨j=i+1∨j=i+2 by omega) with rfl|rfl|rfl
  ·exact ⟨h,hb⟩
  ·exact key 1 (by omega) c
  ·exact key 2 (by omega) d
 ·obtain ⟨a,b,c,d,f,g,k,e⟩:=h1;rw [e];refine ⟨by simp only;omega,by simp,by simp only;omega,fun j hj hj2=>?_⟩;simp only at hj2;rcases (show j=i∨j=i+1∨j=i+2∨j=i+3 by omega) with rfl|rfl|rfl|rfl
  ·exact ⟨h,hb⟩
  ·exact key 1 (by omega) c
  ·exact key 2 (by omega) d
  ·exact key 3 (by omega) f
 ·rw [h1];refine ⟨by simp,by simp,by simp only;omega,fun j hj hj2=>?_⟩;simp only at hj2;rcases (show j=i by omega) with rfl
  exact ⟨h,hb⟩
end Go.Proofs.YtjpodcmhcenjjaaGreatDoor
end
end
section
namespace Go.VM
open Go Go.RowKit Go.ChangeShapes Go.WideShapes Go.Proofs.YtjpodcmhcenjjaaGreatDoor
mutual
def szD:D→Nat
 | .str s=>s.length+1
 | .sl es=>b3c es+1
 | .agg ds=>szL ds
 | .int _ _=>1
 | .bool _=>1
 | .aM=>1
def szL:List D→Nat
 |[]=>0
 |d::r=>szD d+szL r
def b3c:List (List D)→Nat
 |[]=>0
 |l::r=>szL l+b3c r
end
theorem a8B:∀a b:List D,szL (a++b)=szL a+szL b
 |[],b=>by simp [szL]
 |d::a,b=>by have:=a8B a b;simp only [List.cons_append,szL,this];omega
mutual
theorem b3d {H:Type}:∀d:DataW H,szL (flat d)≤Rows.uptoBulk d
 | .lit (.int k n)=>by simp [flat,szL,szD,Rows.uptoBulk]
 | .lit (.bool b)=>by simp [flat,szL,szD,Rows.uptoBulk]
 | .lit (.string s)=>by simp [flat,szL,szD,Rows.uptoBulk]
 | .nil=>by simp [flat,szL,szD,b3c,Rows.uptoBulk]
 | .slice es sp=>by have:=b1J es;simp only [flat,szL,szD,Rows.uptoBulk];omega
 | .agg ps=>by have:=b5D ps;simp only [flat,Rows.uptoBulk];omega
 | .lit (.float .f32 _)=>by simp [flat,szL]
 | .lit (.float .f64 _)=>by simp [flat,szL]
 | .lit .nil=>by simp [flat,szL]
 | .ptr d=>by simp [flat,szL]
 | .iface _ d=>by simp [flat,szL]
 | .map es=>by simp [flat,szL]
 | .held _=>by simp [flat,szL]
theorem b1J {H:Type}:∀l:List (DataW H),b3c (uH l)≤Rows.uptoBulkAll l
 |[]=>by simp [uH,b3c]
 |d::r=>by have h1:=b3d d;have h2:=b1J r;simp only [uH,b3c,Rows.uptoBulkAll];omega
theorem b5D {H:Type}:∀l:List (DataW H),szL (sE l)≤Rows.uptoBulkAll l
 |[]=>by simp [sE,szL]
 |d::r=>by have h1:=b3d d;have h2:=b5D r;simp only [sE,a8B,Rows.uptoBulkAll];omega
end
section
variable {P:Program} {H:Type} {enc:TypeId×Value→H} {w:World} {sp:Nat→Bool} {held:Bool} {L:List TypeId}
theorem b5E {r:Reach}{b0:Nat}(rY:laidOutB P=true)(hp:xR P L=true){t:TypeId}{v:Value}{d:DataW H}{ps:List MemPlace}(hT:L.contains t=true)(hval:Value.okWide P w r b0 t v)(h:DataW.Trod enc P w 0 sp held t v d ps):
  ∃x,a2U P t x∧V (RW w) w v x∧szD x=szL (flat d):=by
 obtain ⟨n,hn⟩:=h;obtain ⟨h1,h2,h3⟩:=a5I rY hp n t _ _ hT hn;have hrow:=d6Z.1 hp t (by simpa using hT);simp only [d6W,decide_eq_true_eq] at hrow;obtain ⟨_,hrow⟩:=hrow;cases hu:P.underlying t with
 |none=>rw [hu] at hrow;cases hrow
 |some u=>
  cases ha:kW u with
  |true=>
   have hv:∃cs:Array Value,v= .agg cs:=by
    unfold Value.okWide at hval;rw [hu] at hval;cases u<;>simp only [kW] at ha<;>(try cases ha)
    ·obtain ⟨cs,hv,_⟩:=hval;exact ⟨cs,hv⟩
    ·obtain ⟨cs,hv,_⟩:=hval;exact ⟨cs,hv⟩
   obtain ⟨cs,rfl⟩:=hv;refine ⟨.agg (flat d),by simp only [a2U,hu,ha,if_true];exact ⟨_,rfl,h2⟩,.agg _ _ (by simpa [Value.cells] using h1.symm) (fun i x hx=>(h3 i x hx).1) (fun i x hx=>?_),by simp [szD]⟩;have:=(h3 i x hx).2;simpa [Value.cells,List.getD,d6Y] using this
  |false=>
   have hc:v.cells= #[v]:=by
    refine a8x hu ha ?_ hval
    rw [hu] at hrow ⊢;cases u<;>simp only [kW] at ha<;>(try cases ha)<;>first|rfl|(simp at hrow)
   rw [hc] at h1 h3;simp at h1;obtain ⟨x,hx⟩:∃x,flat d=[x]:=List.length_eq_one_iff.1 h1;simp only [hx] at h2 h3;refine ⟨x,by simp only [a2U,hu,ha];exact h2,by simpa using (h3 0 x rfl).2,by simp [hx,szL]⟩
theorem a6O {r:Reach}{b0:Nat}(rY:laidOutB P=true)(hp:xR P L=true):∀ {ts:List TypeId} {vs:List Value} {ds:List (DataW H)} {ps:List MemPlace},(∀t∈ts,L.contains t=true)→(∀(j:Nat) t v,ts[j]? =some t→vs[j]? =some v→Value.okWide P w r b0 t v)→
  DataW.TrodAll enc P w 0 sp held ts vs ds ps→∃xs,a4u P ts xs∧vs.length=xs.length∧(∀(i:Nat) (d:D),xs[i]? =some d→V (RW w) w (vs.getD i undef) d)∧szL xs≤Rows.uptoBulkAll ds
 |[],_,_,_,_,_,h=>by obtain ⟨rfl,rfl,rfl⟩:=trodAll_nil h;exact ⟨[],trivial,rfl,by simp,by simp [szL]⟩
 |t::ts,_,_,_,hT,hv,h=>by
  obtain ⟨v,vs1,d,ds1,a,b,rfl,rfl,rfl,h1,h2⟩:=trodAll_cons h;obtain ⟨x,q1,q2,q7⟩:=b5E rY hp (hT t (.head _)) (hv 0 t v rfl rfl) h1;obtain ⟨xs,q3,q4,q5,q6⟩:=a6O rY hp (fun t ht=>hT t (.tail _ ht)) (fun j t v a b=>hv (j+1) t v a b) h2;refine ⟨x::xs,⟨q1,q3⟩,by simp [q4],fun i d hi=>?_,by have:=b3d d;simp only [szL,Rows.uptoBulkAll];omega⟩
  cases i with
  |zero=>simp at hi;subst hi;simpa using q2
  |succ i=>simp at hi;simpa using q5 i d hi
theorem a8C {G:GT}{f:FuncId}{fn:Func}{s:ChangeSpec}{apart fresh handsOn again:Bool}{tb:TypeId}{r:Reach}{b0:Nat}(rY:laidOutB P=true)(hmr:mapsRowed P=true)(hsf:((List.range P.types.size).all fun t=>match P.underlying t with|some (.slice e)=>decide (0<P.cellsOf e)|_=>true)=true)(hp:xR P L=true){ts:List TypeId}(hts:fn.params.toList=ts)(hT:(ts.all fun t=>L.contains t)=true)(hvars:s.vars=[])(hres:fn.resultTypes= #[tb])(htb:P.underlying tb=some .bool)(hs:∀ds:List (DataW H),ds.length=ts.length→s.fn H ds={ results:=[.lit (.bool true)],args:=ds })(hcs:∀xs,a4u P ts xs→szL xs≤1048576→CS P G f xs (.d (.bool true)) none){W:World}{args:Array Value}{ds gs:List (DataW H)}{before:List MemPlace}(hval:∀(j:Nat) t v,fn.params[j]? =some t→args[j]? =some v→Value.okWide P W r b0 t v)(hW:DataW.Whole enc P fn.params.toList s.vars apart W args.toList ds gs before)(hG:a2F G (uR W.heap.size) (RW W) W)(hk:Rows.uptoSmall H (ds++gs)=true):
  Calls P f args W fun e W'=>∃v,e= .returned v∧s.post enc P fn apart fresh handsOn again W args v W':=by
 have hW':=hW;obtain ⟨p,q,hA,hV,rfl,hfz,hnd⟩:=hW;rw [hvars] at hV;obtain ⟨rfl,rfl⟩:=trodVars_none hV;rw [hts] at hA;have hTm:∀t∈ts,L.contains t=true:=d6Z.1 hT;obtain ⟨xs,q1,q2,q3,q6⟩:=a6O rY hp hTm (fun j t v a b=>hval j t v (by rw [← Array.getElem?_toList,hts];exact a) (by rw [← Array.getElem?_toList];exact b)) hA;have hsz:szL xs≤1048576:=by have h1:Rows.uptoBulkAll (ds++[])≤1048576:=of_decide_eq_true hk;rw [List.append_nil] at h1;omega
 refine (hcs xs q1 hsz W (RW W) args hG (fun _ _ h=>h) (by simpa using q2) (fun i d hi=>by simpa [List.getD,d6Y] using q3 i d hi)).mono fun e W' ⟨v,R',he,htv,hst,_,_⟩=>?_
 have hv:v= .bool true:=by
  have:=htv (fun _=>0);cases this with
  |d _ _ h=>cases h;rfl
 subst he hv;have hlen:=a6F hA;have hlt:∀x∈p++[],x.block<W.heap.size:=hW'.lt;refine ⟨_,rfl,c0Y hW' hst.below.below (fun _ _ _=>?_) (fun sp' hsp=>?_) (fun _ _=>?_) ?_⟩
 ·rw [List.append_nil,hs ds hlen,hres];exact trodAll_cons_mk (shut_bool htb _) trodAll_mk0
 ·rw [List.append_nil,List.append_nil,hs ds hlen,hts];have h1:=a2V (w':=W') hA fun x hx=>hst.below.below.same (hlt x (by simpa using hx))
  refine h1.respare (kids_rows rY hmr) (fun t e ht hu=>slices_full_of P hsf t e ht hu) (fun t ht=>?_) (fun x hx=>hsp x (by simpa using hx));have hrow:=d6Z.1 hp t (by simpa using hTm t ht);simp only [d6W,decide_eq_true_eq] at hrow;exact hrow.1
 ·rw [List.append_nil,hs ds hlen,hvars]
  rfl
 ·exact ok_one hres rfl (okWide_bool_mk htb _)
end
end Go.VM
end
section
section
namespace Go.Proofs.YtjpodcmhcenjjaaGreatDoor
open Go Go.VM
abbrev Nm:=List UInt8
theorem c3F:strs []=[]:=rfl
attribute [simp] c3F
structure Pr where
 op:Int
 name:Nm
 n:Int
 kids:List Pr
structure Ty where
 op:Int
 name:Nm
 args:List Ty
 names:List Nm
 pred:Pr
 a4A:List Pr
theorem Pr.ind {M:Pr→Prop}(h:∀p:Pr,(∀k∈p.kids,M k)→M p):∀p,M p
 |⟨op,nm,n,ks⟩=>h _ fun k hk=>Pr.ind h k
theorem Ty.ind {M:Ty→Prop}(h:∀t:Ty,(∀k∈t.args,M k)→M t):∀t,M t
 |⟨op,nm,l,ns,p,ps⟩=>h _ fun k hk=>Ty.ind h k
def qR:Pr→List D
 |⟨op,nm,n,ks⟩=>[.int .i64 op,.str nm,.int .i64 n,.sl (ks.map qR)]
abbrev prD (p:Pr):List D:=[.int .i64 p.op,.str p.name,.int .i64 p.n,.sl (p.kids.map qR)]
theorem eY (p:Pr):qR p=[.int .i64 p.op,.str p.name,.int .i64 p.n,.sl (p.kids.map qR)]:=by cases p;rw [qR]
def tyC:Ty→List D
 |⟨op,nm,l,ns,p,ps⟩=>[.int .i64 op,.str nm,.sl (l.map tyC),.sl (strs ns),.int .i64 p.op,.str p.name,.int .i64 p.n,.sl (p.kids.map qR),.sl (ps.map qR)]
abbrev tyD (t:Ty):List D:=[.int .i64 t.op,.str t.name,.sl (t.args.map tyC),.sl (strs t.names),.int .i64 t.pred.op,.str t.pred.name,.int .i64 t.pred.n,.sl (t.pred.kids.map qR),.sl (t.a4A.map qR)]
theorem cP (t:Ty):tyC t=[.int .i64 t.op,.str t.name,.sl (t.args.map tyC),.sl (strs t.names),.int .i64 t.pred.op,.str t.pred.name,.int .i64 t.pred.n,.sl (t.pred.kids.map qR),.sl (t.a4A.map qR)]:=by cases t;rw [tyC]
attribute [simp] eY cP
theorem vO {l:List Pr}{i:Nat}(h:i<l.length):(l.map qR)[i]? =some (prD l[i]):=by simp [h,eY]
theorem c8E {l:List Ty}{i:Nat}(h:i<l.length):(l.map tyC)[i]? =some (tyD l[i]):=by simp [h,cP]
end Go.Proofs.YtjpodcmhcenjjaaGreatDoor
end
section
namespace Go.Proofs.YtjpodcmhcenjjaaGreatDoor
open Go Go.VM
variable {G:GT}
mutual
def dF:Pr→Nat
 |⟨_,_,_,l⟩=>1+eE l
def eE:List Pr→Nat
 |[]=>0
 |t::r=>dF t+eE r
end
mutual
theorem c8F:∀p:Pr,dF p≤szL (qR p)
 |⟨op,nm,n,l⟩=>by have:=b5F l;rw [eY];simp only [dF,szL,szD];omega
theorem b5F:∀l:List Pr,eE l≤b3c (l.map qR)
 |[]=>by simp [eE,b3c]
 |t::r=>by have h1:=c8F t;have h2:=b5F r;simp only [eE,List.map_cons,b3c];omega
end
theorem a5M:∀a b:List Pr,eE (a++b)=eE a+eE b
 |[],b=>by simp [eE]
 |t::a,b=>by simp only [List.cons_append,eE,a5M a b];omega
theorem qH (p:Pr):dF p=1+eE p.kids:=by cases p;rfl
theorem rJ {l:List Pr}{i:Nat}(h:i<l.length):eE (l.take (i+1))=eE (l.take i)+dF l[i]:=by rw [d7l h,a5M];simp [eE]
theorem kC:∀(l:List Pr) (i:Nat),eE (l.take i)≤eE l
 |[],i=>by simp
 |t::r,0=>by simp [eE]
 |t::r,i+1=>by have:=kC r i;simp only [List.take_succ_cons,eE];omega
theorem b5G (p:Pr):1≤dF p:=by rw [qH];omega
theorem jX:∀l:List Pr,l.length≤eE l
 |[]=>by simp
 |t::r=>by have h1:=b5G t;have h2:=jX r;simp only [eE,List.length_cons];omega
end Go.Proofs.YtjpodcmhcenjjaaGreatDoor
end
section
namespace Go.Proofs.YtjpodcmhcenjjaaGreatDoor
open Go Go.VM
variable {G:GT}
theorem eL {P:Program}{q:Bool}{x:Out}{c:Prop}[Decidable c]{dst:Option Tmp}{all:Array Oper}{rest:List Oper}{k:List KI}{Q:Exit→St→Prop}(hc:c)(h:a6B P G q (some x) dst all rest k Q):a6B P G q (if c then some x else none) dst all rest k Q:=by rw [if_pos hc];exact h
theorem c3G {α β:Type}(f:α→β){l:List α}{i:Nat}(h:i<l.length):(l.take (i+1)).map f=(l.take i).map f++[f l[i]]:=by
 rw [d7l h,List.map_append]
 rfl
end Go.Proofs.YtjpodcmhcenjjaaGreatDoor
end
end
