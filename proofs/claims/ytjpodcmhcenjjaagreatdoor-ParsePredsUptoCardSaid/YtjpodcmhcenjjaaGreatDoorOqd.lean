/- Lemmas that the law of this claim needs (ZP PsH PsI PsJ PsK PsL PsM PsR PsS PsN PsU PsO PsP VmRB PsQ PsT VmRD PsV PsW). No condition. -/
import Derived.Test.YtjpodcmhcenjjaaGreatDoorOqc
import Derived.RangeFuncNested
import Derived.RangeFuncBound
import Derived.RangeFuncCalls
import Derived.RangeFuncLeaves
import Derived.Shelf.Abstract
import Derived.OwnWalkIn
import Derived.TacticsInMore
import Derived.LoopNIn
import Derived.LoopIn
set_option linter.unusedVariables false
set_option linter.unusedSimpArgs false
set_option linter.unusedSectionVars false
set_option maxRecDepth 100000
set_option maxHeartbeats 64000000
section
section
namespace Go.Proofs.YtjpodcmhcenjjaaGreatDoor
open Go Go.VM
def a4K:Pr:=⟨0,[],0,[]⟩
def b6h:Pr:=⟨2,[],1,[]⟩
def c6j:Pr:=⟨2,[],0,[]⟩
instance:DecidableEq Pr:=fun a b=>if h:a1W a b=true then isTrue ((a4c a b).1 h) else isFalse fun e=>h ((a4c a b).2 e)
def a2s (p:Pr):Bool:=decide (p=a4K)||decide (p=b6h)
def tH:Pr→List Pr
 |⟨op,nm,n,[a,b]⟩=>if op=15 then tH a++tH b else [⟨op,nm,n,[a,b]⟩]
 |⟨op,nm,n,l⟩=>if a2s ⟨op,nm,n,l⟩ then [] else [⟨op,nm,n,l⟩]
theorem b6i (nm:Nm)(n:Int)(a b:Pr):tH ⟨15,nm,n,[a,b]⟩=tH a++tH b:=by rw [tH,if_pos rfl]
theorem b8L {p:Pr}(h:a2s p=true):p.kids=[]:=by simp only [a2s,d3T,decide_eq_true_eq] at h;rcases h with rfl|rfl<;>rfl
theorem b1S {p:Pr}(h: ¬(p.op=15∧p.kids.length=2)):tH p=if a2s p then [] else [p]:=by
 obtain ⟨op,nm,n,l⟩:=p
 match l,h with
 |[],_=>rw [tH];simp
 |[a],_=>rw [tH];simp
 |[a,b],h=>
  have h5: ¬op=15:=fun e=>h ⟨e,rfl⟩
  rw [tH,if_neg h5];cases hv:a2s ⟨op,nm,n,[a,b]⟩ with
  |false=>simp
  |true=>have:=b8L hv;simp at this
 |a::b::c::r,_=>rw [tH];simp
mutual
theorem b0z:∀p:Pr,(tH p).length≤cW p
 |⟨op,nm,n,l⟩=>by
  by_cases h:op=15∧l.length=2
  ·match l,h with
   |[a,b],⟨h15,_⟩=>subst h15;rw [b6i];have h1:=b0z a;have h2:=b0z b;simp only [List.length_append,cW,dG];omega
  ·rw [b1S h];have:=b3K ⟨op,nm,n,l⟩;split<;>simp<;>omega
end
def d1V (ns:List Nm)(bys:List Pr)(op:Int)(nm:Nm):Option Pr:=if op=3∧0≤c0Q nm ns 0 then bys[(c0Q nm ns 0).toNat]? else none
mutual
def d0m (ns:List Nm) (bys:List Pr):Pr→Pr
 |⟨op,nm,n,l⟩=>match d1V ns bys op nm with
  |some u=>u
  |none=>⟨op,nm,n,b7v ns bys l⟩
def b7v (ns:List Nm) (bys:List Pr):List Pr→List Pr
 |[]=>[]
 |t::r=>d0m ns bys t::b7v ns bys r
end
mutual
def a5Y:Pr→Nat
 |⟨_,_,_,l⟩=>oL l 0+1
def oL:List Pr→Nat→Nat
 |[],n=>n
 |t::r,n=>oL r (max n (a5Y t))
end
theorem b7w (p:Pr):a5Y p=oL p.kids 0+1:=by cases p;rfl
theorem b0A:∀(a b:List Pr) (n:Nat),oL (a++b) n=oL b (oL a n)
 |[],b,n=>by simp [oL]
 |t::a,b,n=>by simp only [List.cons_append,oL,b0A a b]
theorem a7N {l:List Pr}{i:Nat}(h:i<l.length)(n:Nat):oL (l.take (i+1)) n=max (oL (l.take i) n) (a5Y l[i]):=by rw [d3W h,b0A];simp [oL]
mutual
theorem c6k:∀p:Pr,a5Y p≤cW p
 |⟨op,nm,n,l⟩=>by have:=a4d l 0;simp only [a5Y,cW];omega
theorem a4d:∀(l:List Pr) (n:Nat),oL l n≤n+dG l
 |[],n=>by simp [oL]
 |t::r,n=>by have h1:=c6k t;have h2:=a4d r (max n (a5Y t));simp only [oL,dG];omega
end
theorem b8M:∀ {l:List Pr} {k:Pr},k∈l→cW k≤dG l
 |t::r,k,h=>by
  simp only [dG];rcases List.mem_cons.1 h with rfl|h
  ·omega
  ·have:=b8M h;omega
end Go.Proofs.YtjpodcmhcenjjaaGreatDoor
end
section
namespace Go.Proofs.YtjpodcmhcenjjaaGreatDoor
open Go Go.VM
variable {G:GT}
theorem b8N {α:Type}(f:α→List D){l:List α}{i:Nat}(h:i<l.length):List.take (i+1) (List.map f l)=List.take i (List.map f l)++[f l[i]]:=by have:=c1b f h;rw [List.map_take,List.map_take] at this;exact this
theorem c6l {α:Type}{f:α→List D}{k:Nat}(hf:∀a,(f a).length=k){l:List α}{i:Nat}:∀(x:List D),x∈List.take i (List.map f l)→x.length=k:=fun x hx=>by obtain ⟨t,_,rfl⟩:=List.mem_map.1 (List.mem_of_mem_take hx);exact hf t
abbrev prO (op:Int)(nm:Nm)(n:Int)(k:D):aR:= .cells [.d (.int .i64 op),.d (.str nm),.d (.int .i64 n),.d k]
theorem pJ:VM.Enters Tryz.prog 128:=VM.Enters.mk Tryz.func128 rfl
theorem b8O:VM.Enters Tryz.prog 169:=VM.Enters.mk Tryz.func169 rfl
theorem c1B (l l':List Pr)(hN:dG l≤900000000)(ih:∀k∈l,∀u:Pr,cW k≤900000000→CS Tryz.prog G 128 [.agg (prD k),.agg (prD u)] (.d (.bool (a1W k u))) none):
  CH Tryz.prog G 169 ⟨[.d (.sl (l.map pW)),.d (.sl (l'.map pW)),.fn 128],[],[]⟩ ⟨[.d (.bool (b8K l l'))],[],[]⟩:=by
 have hl:=hU l;refine CH.bB Tryz.func169 rfl Tryz.ntmps169 rfl (by simp) ?_
 by_cases h3:l.length=l'.length
 ·have hq:b8K l l'=qK l l':=by simp [b8K,h3]
  simp [h3];refine SW.jV (ι:={ i:Nat // i≤l.length∧qK (l.drop i) (l'.drop i)=qK l l' }) (fun i=>[(15,.d (.int .i64 i.1))]) (fun _=>[]) (fun _=>[]) (fun i=>l.length-i.1) ⟨0,by simp⟩ (by simp) ?_
  rintro ⟨i,hi,hR⟩
  try simp only at hi hR
  by_cases hlt:i<l.length
  ·have hlt':i<l'.length:=by omega
   have hg:=wL hlt;have hg':=wL hlt';have hw:=bO (show i<9223372036854775807 by omega);have hb2:=pX hlt;have hb3:=jD l (i+1);rw [a7M hlt hlt'] at hR;simp [hlt',hlt,hg,hg'];refine ⟨oG.mk (by kernel_rfl),?_⟩;refine aG.mk pJ (ih l[i] (List.getElem_mem hlt) l'[i] (by omega)) ?_
   cases hs:a1W l[i] l'[i]
   ·rw [hs,Bool.false_and] at hR;simp [hs,hq, ← hR]
   ·rw [hs,Bool.true_and] at hR;simp [hs];exact bN.mk ⟨i+1,hlt,hR⟩ (by simp [hw]) (by simp;omega)
  ·have:i=l.length:=by omega
   subst this;rw [b0y] at hR;simp [hq, ← hR, ← h3]
 ·have h3': ¬((l.length:Int)=(l'.length:Int)):=by omega
  have hq:b8K l l'=false:=by simp [b8K,h3]
  simp [h3,h3',hq]
theorem tZ:∀t u:Pr,cW t≤900000000→CS Tryz.prog G 128 [.agg (prD t),.agg (prD u)] (.d (.bool (a1W t u))) none:=by
 refine Pr.ind fun t ih=>?_
 obtain ⟨op,nm,n,l⟩:=t;intro u hN;obtain ⟨op',nm',n',l'⟩:=u;simp only at ih;have hn:=oY ⟨op,nm,n,l⟩;have hq:=b7u ⟨op,nm,n,l⟩ ⟨op',nm',n',l'⟩;simp only at hn hq;have hE:=c1B (G:=G) l l' (by omega) ih;have hA:(decide (l.length=l'.length)&&qK l l')=b8K l l':=rfl;rw [hA] at hq;refine CS.bB Tryz.func128 rfl Tryz.ntmps128 rfl ?_
 by_cases h1:op=op'
 ·by_cases h2:nm=nm'
  ·by_cases h4:n=n'
   ·simp only [h1,h2,h4,decide_true,Bool.true_and] at hq;simp [h1,h2,h4];refine dY.ro b8O hE [] (by simp) (by simp) (by simp) (by simp) (by simp) ?_
    simp [hq]
   ·simp only [h1,h2,h4,decide_true,decide_false,Bool.true_and,Bool.false_and] at hq;simp [h1,h2,h4,hq]
  ·simp only [h1,h2,decide_true,decide_false,Bool.true_and,Bool.false_and] at hq;simp [h1,h2,hq]
 ·simp only [h1,decide_false,Bool.false_and] at hq;simp [h1,hq]
theorem mY:VM.Enters Tryz.prog 170:=VM.Enters.mk Tryz.func170 rfl
def a1a (b:Bool):Pr:=if b then b6h else c6j
theorem pC (b:Bool):CS Tryz.prog G 170 [.bool b] (.d (.agg (prD (a1a b)))) none:=by
 refine CS.bB Tryz.func170 rfl Tryz.ntmps170 rfl ?_
 cases b<;>simp [a1a,b6h,c6j]
theorem b4m (a b:Pr):a1W a b=decide (a=b):=by rw [Bool.eq_iff_iff,a4c];simp
theorem a9k:VM.Enters Tryz.prog 171:=VM.Enters.mk Tryz.func171 rfl
theorem b1T (p:Pr)(h:cW p≤900000000):CS Tryz.prog G 171 [.agg (prD p)] (.d (.bool (a2s p))) none:=by
 have e1:=tZ (G:=G) p a4K h;have e2:=tZ (G:=G) p b6h h;rw [b4m] at e1 e2;refine CS.bB Tryz.func171 rfl Tryz.ntmps171 rfl ?_
 simp;refine ⟨oG.mk (by kernel_rfl),?_⟩;refine aG.mk pJ (CS.args e1 (by simp [a4K])) ?_
 by_cases hz:p=a4K
 ·simp [hz,a2s]
 ·simp [hz,a2s];refine aG.mk mY (pC true) ?_
  simp;refine aG.mk pJ (CS.args e2 (by simp [b6h,a1a])) ?_
  simp
theorem tI:VM.Enters Tryz.prog 172:=VM.Enters.mk Tryz.func172 rfl
theorem a7O:∀p:Pr,cW p≤900000000→CS Tryz.prog G 172 [.agg (prD p)] (.d (.agg (prD p))) none:=by
 refine Pr.ind fun p ih=>?_
 obtain ⟨op,nm,n,l⟩:=p;intro hN;simp only at ih;have hn:=oY ⟨op,nm,n,l⟩;simp only at hn;have hl:=hU l;refine CS.bB Tryz.func172 rfl Tryz.ntmps172 rfl ?_
 simp;refine SW.jV (ι:={ i:Nat // i≤l.length }) (fun i=>[(16,.d (.int .i64 i.1))]) (fun i=>[(1,prO op nm n (.sl (l.map pW))),(2,prO 0 [] 0 .aI),(3,prO op nm n (.sl ((l.take i.1).map pW)))]) (fun _=>[(43,[.c 3 3])]) (fun i=>l.length-i.1) ⟨0,by simp⟩ (by simp) ?_
 rintro ⟨i,hi⟩;by_cases hlt:i<l.length
 ·have hg:=wL hlt;have hw:=bO (show i<9223372036854775807 by omega);have hs2:=b8N pW hlt;rw [eB] at hs2;have h4:∀(x:List D),x∈List.take i (List.map pW l)→x.length=4:=c6l (by simp);have hb2:=pX hlt;have hb3:=jD l (i+1);simp [hlt,hg];refine ⟨oG.mk (by kernel_rfl),?_⟩;refine aG.mk tI (ih l[i] (List.getElem_mem hlt) (by omega)) ?_
  simp;refine dH ⟨h4,by omega⟩ ?_
  simp;exact bN.mk ⟨i+1,hlt⟩ (by simp [hw,hs2]) (by simp;omega)
 ·have:i=l.length:=by omega
  subst this;simp
end Go.Proofs.YtjpodcmhcenjjaaGreatDoor
end
section
namespace Go.Proofs.YtjpodcmhcenjjaaGreatDoor
open Go Go.VM
variable {G:GT}
theorem b1U:VM.Enters Tryz.prog 223:=VM.Enters.mk Tryz.func223 rfl
theorem c8e (p:Pr):cW p≤900000000→CS Tryz.prog G 223 [.agg (prD p)] (.d (.int .i64 (a5Y p))) none:=by
 revert p
 refine Pr.ind fun p ih=>?_
 obtain ⟨op,nm,n,l⟩:=p;intro hN;simp only at ih;have hn:=oY ⟨op,nm,n,l⟩;have hd:=b7w ⟨op,nm,n,l⟩;simp only at hn hd;have hl:=hU l;have hle:=a4d l 0;refine CS.bB Tryz.func223 rfl Tryz.ntmps223 rfl ?_
 simp;refine SW.jV (ι:={ i:Nat // i≤l.length }) (fun i=>[(3,.d (.int .i64 (oL (l.take i.1) 0))),(9,.d (.int .i64 i.1))]) (fun _=>[(1,prO op nm n (.sl (l.map pW)))]) (fun _=>[]) (fun i=>l.length-i.1) ⟨0,by simp⟩ (by simp [oL]) ?_
 rintro ⟨i,hi⟩;by_cases hlt:i<l.length
 ·have hg:=wL hlt;have hw:=bO (show i<9223372036854775807 by omega);have hs:=a7N hlt 0;have hb2:=pX hlt;have hb3:=jD l (i+1);simp [hlt,hg];refine aG.mk b1U (ih l[i] (List.getElem_mem hlt) (by omega)) ?_
  simp;exact bN.mk ⟨i+1,hlt⟩ (by simp [hw,hs];split<;>omega) (by simp;omega)
 ·have:i=l.length:=by omega
  subst this;have hw:IntKind.i64.wrap ((oL l 0:Int)+1)=((oL l 0+1:Nat):Int):=bO (by omega);simp [hw,hd]
end Go.Proofs.YtjpodcmhcenjjaaGreatDoor
end
section
namespace Go.Proofs.YtjpodcmhcenjjaaGreatDoor
open Go Go.VM Go.RowKit Go.Shelf
attribute [local go_sem] Oper.semAt_some
structure bK (X:Nat→Prop) (W W':World):Prop where
 os:W'.os=W.os
 tape:W'.tape=W.tape
 output:W'.output=W.output
 size:W.heap.size≤W'.heap.size
 block:∀k,k<W.heap.size→ ¬X k→W'.heap[k]? =W.heap[k]?
theorem bK.refl (X:Nat→Prop)(W:World):bK X W W:=⟨rfl,rfl,rfl,d3X _,fun _ _ _=>rfl⟩
theorem bK.trans {X:Nat→Prop}{A B C:World}(h:bK X A B)(k:bK X B C):bK X A C:=
 ⟨k.os.trans h.os,k.tape.trans h.tape,k.output.trans h.output,Nat.le_trans h.size k.size,fun i hi hx=>(k.block i (Nat.lt_of_lt_of_le hi h.size) hx).trans (h.block i hi hx)⟩
abbrev NoX:Nat→Prop:=fun _=>False
theorem bK.up {X:Nat→Prop}{A B:World}(h:bK NoX A B):bK X A B:=⟨h.os,h.tape,h.output,h.size,fun k hk _=>h.block k hk fun e=>e⟩
theorem bK.cell {X:Nat→Prop}{A B:World}(h:bK X A B){b o:Nat}(hb:b<A.heap.size)(hx: ¬X b):B.cell? ⟨b,o,none⟩=A.cell? ⟨b,o,none⟩:=by unfold World.cell?;rw [h.block b hb hx]
theorem bK.alloc {X:Nat→Prop}{A B:World}(h:bK X A B)(o:Obj):bK X A (B.alloc o):=
 h.trans ⟨rfl,rfl,rfl,by simp,fun k hk _=>by
  show (B.heap.push o)[k]? =_
  rw [Array.getElem?_push,if_neg (by omega)]⟩
theorem c1C {R:Nat→Nat→Prop}{w:World}{v:Value}{p:Pr}(h:V R w v (.agg (pW p))):
  ∃(ao:Option Addr) (cap:Nat) (nm:ByteArray),v= .agg #[.int .i64 p.op,.string nm,.int .i64 p.n,.slice ao p.kids.length cap]∧
   ∀(i:Nat) (hi:i<p.kids.length),∃b o,ao=some ⟨b,o,none⟩∧∃f:Nat→Value,(∀j,j<4→R b (o+i*4+j)∧w.cell? ⟨b,o+i*4+j,none⟩=some (f j))∧V R w (.agg #[f 0,f 1,f 2,f 3]) (.agg (pW p.kids[i])):=by
 obtain ⟨op,nm,n,ks⟩:=p;rw [eB] at h;cases h with
 |agg cs _ h1 h2 h3=>
  obtain ⟨l⟩:=cs
  match l,h1 with
  |[c0,c1,c2,c3],_=>
   have g0:=h3 0 _ rfl;have g1:=h3 1 _ rfl;have g2:=h3 2 _ rfl;have g3:=h3 3 _ rfl;simp at g0 g1 g2 g3;obtain ⟨es,hes⟩:∃es,ks.map pW=es:=⟨_,rfl⟩;simp only [hes] at g3;cases g0;cases g1;cases g2;have hlen:es.length=ks.length:=by rw [← hes];simp
   cases g3 with
   |emp ao cap=>
    have h0:ks=[]:=by simpa using hes
    subst h0;exact ⟨ao,cap,_,rfl,fun i hi=>by simp at hi⟩
   |sl b o m cap size es f k1 k2 k3 k4 k5 k6 k7=>
    have hm:m=ks.length:=by omega
    subst hm;refine ⟨_,cap,_,rfl,fun i hi=>⟨b,o,rfl,f i,?_⟩⟩;simp only at hi;have hg:es[i]? =some (pW ks[i]):=by rw [← hes];simp [hi]
    have hs:size=4:=by have:=k4 _ (d3M hg);rw [eB] at this;simpa using this.symm
    subst hs;refine ⟨fun j hj=>k5 i j hi hj,?_⟩;have q:∀(j:Nat) (d:D),(pW ks[i])[j]? =some d→V R w (f i j) d:=fun j d hd=>k7 i j _ d hg hd
    have q1:∀(j:Nat) (d:D),(pW ks[i])[j]? =some d→d.one=true:=fun j d hd=>k6 i j _ d hg hd
    refine .agg _ _ (by rw [eB];rfl) q1 fun j d hd=>?_
    have hj:j<4:=by have:=(d3I.1 hd).1;rw [eB] at this;simpa using this
    have hv:=q j d hd
    match j,hj with
    |0,_=>exact hv
    |1,_=>exact hv
    |2,_=>exact hv
    |3,_=>exact hv
mutual
def xZ:Pr→List Pr
 |⟨op,nm,n,l⟩=>⟨op,nm,n,l⟩::jY l
def jY:List Pr→List Pr
 |[]=>[]
 |p::r=>xZ p++jY r
end
theorem a4e (p:Pr):xZ p=p::jY p.kids:=by cases p;rfl
theorem a4L:∀a b:List Pr,jY (a++b)=jY a++jY b
 |[],b=>by simp [jY]
 |p::a,b=>by simp only [List.cons_append,jY,a4L a b,List.append_assoc]
theorem b6j {l:List Pr}{i:Nat}(h:i<l.length):jY (l.take (i+1))=jY (l.take i)++xZ l[i]:=by rw [d3W h,a4L];simp [jY]
theorem a5K (l:List Pr)(i:Nat):jY l=jY (l.take i)++jY (l.drop i):=by rw [← a4L,List.take_append_drop]
def Yields (P:Program)(L:List Pr)(l:Nat)(X:Nat→Prop)(R:Nat→Nat→Prop)(w0:World)(J Jx:List Pr→World→Prop):Prop:=
 ∀(m:Nat) (pre:List Pr) (v:Value) (p:Pr) (W:World),pre++[p] <+:L→V R w0 v (.agg (pW p))→bK X w0 W→J pre W→YieldAt Fence.wide m P l #[v] W fun e W'=>(e= .returned (.bool true)∧J (pre++[p]) W'∧bK X W W')∨(e= .returned (.bool false)∧Jx (pre++[p]) W'∧bK X W W')
theorem c1D (W:World)(cs:Array Value)(T:TypeId){j:Nat}{v:Value}(h:cs[j]? =some v):(W.alloc (.cells cs T)).cell? ⟨W.heap.size,j,none⟩=some v:=by unfold World.cell?;rw [World.alloc_heap_new];simp [h]
theorem c1E (L:List Pr)(l:Nat)(X:Nat→Prop)(R:Nat→Nat→Prop)(w0:World)(hX:∀b o,R b o→ ¬X b)(hR:∀b o,R b o→b<w0.heap.size)(hX2:∀k,X k→k<w0.heap.size)(J Jx:List Pr→World→Prop)(hJ:∀s A B,J s A→bK NoX A B→J s B)(hY:Yields Tryz.prog L l X R w0 J Jx):
  ∀(p:Pr) (n:Nat) (v:Value) (pre:List Pr) (W:World),cW p≤1000000→pre++xZ p <+:L→V R w0 v (.agg (pW p))→bK X w0 W→J pre W→
   CallsIn Fence.wide n Tryz.prog 238 #[v,.func (.yield l) #[] #[]] W fun e W'=>(e= .returned (.bool true)∧J (pre++xZ p) W'∧bK X W W')∨(e= .returned (.bool false)∧∃q,q <+:xZ p∧Jx (pre++q) W'∧bK X W W'):=by
 refine Pr.ind fun p ih=>?_
 intro n v pre W hN hL hv hW hJ0;have hN1:=oY p;have hN2:=hU p.kids;have hpk:∀(k:Nat) (h:k<p.kids.length),(pre++p::jY (p.kids.take k))++xZ p.kids[k] <+:L:=fun k h=>by refine List.IsPrefix.trans ⟨jY (p.kids.drop (k+1)),?_⟩ hL;rw [a4e p,a5K p.kids k,d3U h];simp [jY]
 obtain ⟨ao,cap,nm,rfl,hk⟩:=c1C hv;have hJ1:=hJ _ _ (W.alloc (.cells #[.int .i64 p.op,.string nm,.int .i64 p.n,.slice ao p.kids.length cap] 43)) hJ0 ((bK.refl NoX W).alloc _);have hW1:=hW.alloc (.cells #[.int .i64 p.op,.string nm,.int .i64 p.n,.slice ao p.kids.length cap] 43);obtain ⟨fn,tmps,assign,body,hy,hYR⟩:=hY (n-1) pre _ p _ (((List.prefix_append_right_inj pre).2 ⟨jY p.kids,by rw [a4e];rfl⟩).trans hL) hv hW1 hJ1;refine callsIn_of_wp Tryz.func238 rfl trivial ?_ rfl
 simp only [Tryz.ntmps238,List.size_toArray,List.length_cons,List.length_nil,Nat.reduceAdd,Nat.reduceSub,Array.replicate_succ,Array.replicate_zero,List.push_toArray,List.append_toArray,List.nil_append,List.cons_append]
 gi_wp2
 refine ⟨fun h=>(by cases h),?_⟩;have hbx: ¬X W.heap.size:=fun h=>by have:=hX2 _ h;have:=hW.size;omega
 refine hYR.mono ?_
 rintro e W3 (⟨rfl,hJ3,hK3⟩|⟨rfl,hJ3,hK3⟩)
 ·have hWK:bK X W W3:=((bK.refl X W).alloc _).trans hK3;have hbox:W3.cell? ⟨W.heap.size,3,none⟩=some (.slice ao p.kids.length cap):=(hK3.cell (by simp) hbx).trans (c1D W _ _ rfl)
  gi_wp2
  gi_loopw [14] (fun i wr=>∃k:Nat,k≤p.kids.length∧i= .int .i64 k∧J (pre++p::jY (p.kids.take k)) wr∧bK X W wr) (fun i _=>p.kids.length-(intOf i).toNat)
  case atStart=>exact ⟨0,Nat.zero_le _,rfl,by simpa [jY] using hJ3,hWK⟩
  case round=>
   obtain ⟨k,hkl,rfl,hJk,hKk⟩:=hrel;by_cases hlt:k<p.kids.length
   ·obtain ⟨b,o,rfl,f,hf,hfv⟩:=hk k hlt;have hcx:∀j,j<4→wr.cell? ⟨b,o+k*4+j,none⟩=some (f j):=fun j hj=>((hW.trans hKk).cell (hR _ _ (hf j hj).1) (hX _ _ (hf j hj).1)).trans (hf j hj).2
    have h0:=hcx 0 (by omega);rw [Nat.add_zero] at h0;have h1:=hcx 1 (by omega);have h2:=hcx 2 (by omega);have h3:=hcx 3 (by omega);have hfv2:=hfv;have hb2:=pX hlt;have hb3:=jD p.kids (k+1);obtain ⟨ao2,cap2,nm2,he,_⟩:=c1C hfv;simp only [Value.agg.injEq,Array.mk.injEq,List.cons.injEq,and_true] at he;obtain ⟨e0,e1,e2,e3⟩:=he;rw [e0] at h0;rw [e1] at h1;rw [e2] at h2;rw [e3] at h3;rw [e0,e1,e2,e3] at hfv2
    gi_wp2
    refine ⟨trivial,fun h=>(by cases h),(ih p.kids[k] (List.getElem_mem hlt) (n-1) _ _ _ (by omega) (hpk k hlt) hfv2 ((hW.trans hKk).alloc _) (hJ _ _ _ hJk ((bK.refl NoX wr).alloc _))).mono ?_⟩;rintro e W4 (⟨rfl,hJ4,hK4⟩|⟨rfl,q,hq,hJ4,hK4⟩)
    ·have hw64:RowKit.wrap64 ((k:Int)+1)=(k:Int)+1:=by unfold RowKit.wrap64;omega
     gi_wp2
     go_roundw
     case rel=>exact ⟨k+1,hlt,by simp [hw64],by rw [b6j hlt];simpa using hJ4,(hKk.alloc _).trans hK4⟩
     case measure=>simp [intOf,hw64];omega
    ·gi_wp2
     go_ret
     refine .inr ⟨rfl,p::jY (p.kids.take k)++q,?_,by simpa using hJ4,(hKk.alloc _).trans hK4⟩;rw [a4e,a5K p.kids k,d3U hlt];obtain ⟨r,hr⟩:=hq;exact ⟨r++jY (p.kids.drop (k+1)),by simp [jY, ← hr]⟩
   ·obtain rfl:k=p.kids.length:=by omega
    gi_wp2
    go_ret
    exact .inl ⟨rfl,by rw [a4e];simpa using hJk,hKk⟩
 ·gi_wp2
  go_ret
  exact .inr ⟨rfl,[p],⟨jY p.kids,by rw [a4e];rfl⟩,hJ3,((bK.refl X W).alloc _).trans hK3⟩
end Go.Proofs.YtjpodcmhcenjjaaGreatDoor
end
section
namespace Go.Proofs.YtjpodcmhcenjjaaGreatDoor
open Go Go.VM Go.RowKit Go.Shelf
attribute [local go_sem] Oper.semAt_some
theorem b8P {G:GT}{R:Nat→Nat→Prop}{w0 w:World}(h:a1T G (tC w0.heap.size) R w0)(hs:w0.heap.size≤w.heap.size)(hR:∀b o,R b o→b<w0.heap.size)(hb:∀k,k<w0.heap.size→w.heap[k]? =w0.heap[k]?):a1T G (tC w.heap.size) R w:=by
 intro g cs hg;obtain ⟨h1,h2,arr,T,fr,h3,h4⟩:=h g cs hg;have hl:g<w0.heap.size:=by simpa [tC] using h2
 have hc:∀b o,R b o→w.cell? ⟨b,o,none⟩=w0.cell? ⟨b,o,none⟩:=fun b o hbo=>by unfold World.cell?;rw [hb b (hR b o hbo)]
 refine ⟨fun j d hj=>?_,by simp only [tC];omega,arr,T,fr,(hb g hl).trans h3,h4⟩;obtain ⟨a1,a2,v,a3,a4⟩:=h1 j d hj;exact ⟨a1,a2,v,(hc _ _ a2).trans a3,a4.step (fun _ _ h=>h) hc⟩
theorem bK.bC {R R':Nat→Nat→Prop}{w w':World}(h:Step (tC w.heap.size) R w R' w'):bK NoX w w':=
 ⟨h.below.os,h.below.tape,h.below.output,h.below.size,fun k hk _=>h.below.block k (by simp only [tC];omega)⟩
theorem c6m {P:Program}{G:GT}{f:FuncId}{ds:List D}{k:IntKind}{z:Int}{own:Option TypeId}(h:CS P G f ds (.d (.int k z)) own){w:World}{R:Nat→Nat→Prop}{args:Array Value}(m:Nat)(hg:a1T G (tC w.heap.size) R w)(hR:∀b o,R b o→b<w.heap.size)(hs:args.size=ds.length)(hv:∀(i:Nat) (d:D),ds[i]? =some d→V R w (args.getD i undef) d):CallsIn Fence.wide m P f args w fun e w'=>e= .returned (.int k z)∧bK NoX w w':=
 callsIn_wide.2 ((h w R args hg hR hs hv).mono fun e w' ⟨v,R',he,hv',hst,_,_⟩=>by
  cases hv' id with
  |d v x hvx=>cases hvx;exact ⟨he,bK.bC hst⟩)
theorem bK.weaken {X Y:Nat→Prop}{A B:World}(h:bK X A B)(hXY:∀k,X k→Y k):bK Y A B:=⟨h.os,h.tape,h.output,h.size,fun k hk hy=>h.block k hk fun hx=>hy (hXY k hx)⟩
theorem bK.putObj {X:Nat→Prop}(A:World){l:Nat}(hl:X l)(o:Obj):bK X A (A.putObj l o):=⟨rfl,rfl,rfl,by simp,fun k _ hx=>World.putObj_heap_other fun e=>hx (e▸hl)⟩
theorem a1b {X:Nat→Prop}{A B:World}(h:bK X A B)(hX:∀k,X k→A.heap.size≤k):bK NoX A B:=⟨h.os,h.tape,h.output,h.size,fun k hk _=>h.block k hk fun hx=>by have:=hX k hx;omega⟩
theorem b6k (L:List Pr)(l:Nat)(X:Nat→Prop)(R:Nat→Nat→Prop)(w0:World)(hX:∀b o,R b o→ ¬X b)(hR:∀b o,R b o→b<w0.heap.size)(hX2:∀k,X k→k<w0.heap.size)(J Jx:List Pr→World→Prop)(hJ:∀s A B,J s A→bK NoX A B→J s B)(hY:Yields Tryz.prog L l X R w0 J Jx)(p:Pr)(n:Nat)(c0 c1 c2 c3:Value)(W:World)(bx:Nat)(hbx:W.heap[bx]? =some (.cells #[c0,c1,c2,c3] 43 (0,0)))(hN:cW p≤1000000)(hL:xZ p=L)(hv:V R w0 (.agg #[c0,c1,c2,c3]) (.agg (pW p)))(hW:bK X w0 W)(hJ0:J [] W):
  CallsIn Fence.wide n Tryz.prog 237 #[.func (.yield l) #[] #[],.pointer (some ⟨bx,0,none⟩)] W fun e W'=>∃v,e= .returned v∧((J L W'∧bK X W W')∨∃q,q <+:L∧Jx q W'∧bK X W W'):=by
 have hvis:=c1E L l X R w0 hX hR hX2 J Jx hJ hY p (n-1) _ [] W hN (by rw [List.nil_append,hL];exact List.prefix_rfl) hv hW hJ0;obtain ⟨ao,cap,nm,he,_⟩:=c1C hv;simp only [Value.agg.injEq,Array.mk.injEq,List.cons.injEq,and_true] at he;obtain ⟨rfl,rfl,rfl,rfl⟩:=he;have e0:W.cell? ⟨bx,0,none⟩=some (.int .i64 p.op):=by unfold World.cell?;rw [hbx];rfl
 have e1:W.cell? ⟨bx,1,none⟩=some (.string nm):=by unfold World.cell?;rw [hbx];rfl
 have e2:W.cell? ⟨bx,2,none⟩=some (.int .i64 p.n):=by unfold World.cell?;rw [hbx];rfl
 have e3:W.cell? ⟨bx,3,none⟩=some (.slice ao p.kids.length cap):=by unfold World.cell?;rw [hbx];rfl
 refine callsIn_of_wp Tryz.func237 rfl trivial ?_ rfl
 simp only [Tryz.ntmps237,List.size_toArray,List.length_cons,List.length_nil,Nat.reduceAdd,Nat.reduceSub,Array.replicate_succ,Array.replicate_zero,List.push_toArray,List.append_toArray,List.nil_append,List.cons_append]
 gi_wp2
 refine ⟨trivial,fun h=>(by cases h),hvis.mono ?_⟩;rintro e W4 (⟨rfl,hJ4,hK4⟩|⟨rfl,q,hq,hJ4,hK4⟩)
 ·gi_wp2
  first|go_ret|go_ret2|go_end0
  rw [hL] at hJ4;exact ⟨_,rfl,.inl ⟨hJ4,hK4⟩⟩
 ·gi_wp2
  first|go_ret|go_ret2|go_end0
  rw [hL] at hq;exact ⟨_,rfl,.inr ⟨q,hq,hJ4,hK4⟩⟩
theorem b8Q (n:Nat)(c0 c1 c2 c3:Value)(W:World):CallsIn Fence.wide n Tryz.prog 216 #[.agg #[c0,c1,c2,c3]] W fun e W'=>e= .returned (.func (.func 237) #[] #[.pointer (some ⟨W.heap.size,0,none⟩)])∧W'=W.alloc (.cells #[c0,c1,c2,c3] 43):=by
 refine callsIn_of_wp Tryz.func216 rfl trivial ?_ rfl
 simp only [Tryz.ntmps216,List.size_toArray,List.length_cons,List.length_nil,Nat.reduceAdd,Nat.reduceSub,Array.replicate_succ,Array.replicate_zero,List.push_toArray,List.append_toArray,List.nil_append,List.cons_append]
 gi_wp2
 first|go_ret|go_ret2|go_end0
 exact ⟨rfl,rfl⟩
theorem c1F (n:Nat){g:Operand}{ps:Array Tmp}{assign body:Code}{Q:Exit→Act→World→Prop}{a:Act}{W:World}{bx:Nat}{c0 c1 c2 c3:Value}(hg:a.eval g= .func (.func 237) #[] #[.pointer (some ⟨bx,0,none⟩)])(hbx:W.heap[bx]? =some (.cells #[c0,c1,c2,c3] 43 (0,0)))(hps:ps.size=1){R:Nat→Nat→Prop}{p:Pr}(hv:V R W (.agg #[c0,c1,c2,c3]) (.agg (pW p)))(hN:cW p≤1000000)(hR:∀b o,R b o→b<W.heap.size)(b1:Nat)(hb1:b1<W.heap.size)(hRb:∀b o,R b o→b≠b1)(hbb:bx≠b1)(I Ix:List Pr→World→Prop)(hI:∀s A B,I s A→(∀k,k<W.heap.size→B.heap[k]? =A.heap[k]?)→I s B)(hIx:∀s A B,Ix s A→(∀k,k<W.heap.size→B.heap[k]? =A.heap[k]?)→Ix s B)(h0:I [] W)(hround:∀(m l:Nat) (pre:List Pr) (q:Pr) (vq:Value) (W1:World),W.heap.size≤l→l<W1.heap.size→pre++[q] <+:xZ p→V R W vq (.agg (pW q))→bK (fun k=>k=b1) W W1→I pre W1→
   assign.wpIn (Fence.wide.inRound l) m Tryz.prog (Exit.then (fun a₁ w₁=>bK NoX W1 w₁∧∀w2,bK (fun k=>k=l) w₁ w2→body.wpIn (Fence.wide.inRound l) m Tryz.prog (fun e _ w3=>match e with
    | .normal=>bK (fun k=>k=b1) w2 w3∧I (pre++[q]) w3
    | .ret=>bK (fun k=>k=b1) w2 w3∧Ix (pre++[q]) w3
    |_=>False) a₁ w2) (fun _ _ _=>False)) { tmps:=(ps.zip #[vq]).foldl (fun t (p,v)=>t.setIfInBounds p v) a.tmps,defers:=[] } W1)(hdone:∀(D:Nat) (W':World),W.heap.size≤D→I (xZ p) W'→bK (fun k=>k=b1) W W'→W'.heap[D]? =some (.deferred (some []))→Q .normal { a with defers:={ target:= .collected D,args:= #[] }::a.defers } W')(hstop:∀(D:Nat) (pre:List Pr) (W':World),W.heap.size≤D→pre <+:xZ p→Ix pre W'→bK (fun k=>k=b1) W W'→W'.heap[D]? =some (.deferred (some []))→Q .ret { a with defers:={ target:= .collected D,args:= #[] }::a.defers } W'):
  (Code.rangeFunc g ps assign body).wpIn Fence.wide n Tryz.prog Q a W:=by
 refine wpIn_rangeFunc ?_
 intro fn hfn;rw [show Fence.wide.round=none from rfl];obtain ⟨rec,hrec⟩:∃rec:LoopState→Option Code→Loop,rec=fun st pe=>{ state:=st,pending:=pe,fn,tmps:=a.tmps,params:=ps,assign,body,defers:=W.heap.size }:=⟨_,rfl⟩
 obtain ⟨W1,hW1⟩:∃W1,(W.alloc (.deferred (some []))).alloc (.loop (rec .ready none))=W1:=⟨_,rfl⟩;have hL1:W1.heap[W.heap.size+1]? =some (.loop (rec .ready none)):=by rw [← hW1];have:=World.alloc_heap_new (W.alloc (.deferred (some []))) (.loop (rec .ready none));rwa [World.size_alloc] at this
 have hD1:W1.heap[W.heap.size]? =some (.deferred (some [])):=by rw [← hW1];exact (Below.heap_alloc _ _ _ (by simp)).trans (World.alloc_heap_new W _)
 have hK1:bK NoX W W1:=by rw [← hW1];exact ((bK.refl _ _).alloc _).alloc _
 have hs1:W1.heap.size=W.heap.size+2:=by rw [← hW1];simp
 have hI1:I [] W1:=hI _ _ _ h0 fun k hk=>hK1.block k hk id
 have hv1:V R W1 (.agg #[c0,c1,c2,c3]) (.agg (pW p)):=hv.step (fun _ _ h=>h) fun b o hbo=>hK1.cell (hR b o hbo) id
 have hfin:∀ {A:World},bK (fun k=>k=W.heap.size+1∨k=b1) W1 A→bK (fun k=>k=b1) W A:=fun h=>⟨h.os.trans hK1.os,h.tape.trans hK1.tape,h.output.trans hK1.output,Nat.le_trans hK1.size h.size,fun k hk hx=>(h.block k (by omega) (by rintro (e|e);(· omega);exact hx e)).trans (hK1.block k hk id)⟩
 refine ⟨W.heap.size+1,[{ target:= .collected W.heap.size,args:= #[] }],W1,{ target:= .fn (.func 237) #[.pointer (some ⟨bx,0,none⟩)],args:= #[.func (.yield (W.heap.size+1)) #[] #[]] },W1,237,
  #[.func (.yield (W.heap.size+1)) #[] #[],.pointer (some ⟨bx,0,none⟩)],W1,?_,?_,?_,?_,fun h=>(by cases h),?_⟩
 ·rw [← hW1,hrec];exact run_enterLoop_outer _ _ _ _ _
 ·simp only [resolve,hg];simp [go_sem]
 ·exact fun f' _=>trivial
 ·simp [invoke,go_sem,enters_of Tryz.func237 (by kernel_rfl) rfl]
 ·refine (b6k (xZ p) (W.heap.size+1) (fun k=>k=W.heap.size+1∨k=b1) R W1 (fun b o hbo=>by rintro (e|e);(· have:=hR b o hbo;omega);exact hRb b o hbo e) (fun b o hbo=>by have:=hR b o hbo;omega) (fun k hk=>by rcases hk with e|e<;>omega)
   (fun pre A=>I pre A∧A.heap[W.heap.size+1]? =some (.loop (rec .ready none))∧A.heap[W.heap.size]? =some (.deferred (some [])))
   (fun pre A=>Ix pre A∧A.heap[W.heap.size+1]? =some (.loop (rec .done (some .ret)))∧A.heap[W.heap.size]? =some (.deferred (some [])))
   ?hj ?hy p _ c0 c1 c2 c3 W1 bx ((hK1.block _ (d3Q.1 hbx).1 id).trans hbx) hN rfl hv1 (bK.refl _ _) ⟨hI1,hL1,hD1⟩).mono ?_
  case hj=>rintro s A B ⟨hi,hl,hd⟩ hk;have hlt:W.heap.size+1<A.heap.size:=(d3Q.1 hl).1;exact ⟨hI _ _ _ hi fun k hk'=>hk.block k (by omega) id,(hk.block _ hlt id).trans hl,(hk.block _ (by omega) id).trans hd⟩
  case hy=>
   rintro m pre vq q A hpre hvq hKA ⟨hi,hl,hd⟩;have hlt:W.heap.size+1<A.heap.size:=(d3Q.1 hl).1;have hy:=run_yield (P:=Tryz.prog) (args:= #[vq]) hl (by rw [hrec];exact hps.symm);rw [hrec] at hy;refine ⟨fn,_,assign,body,hy,roundIn_of_wpIn hfn ?_⟩
   clear hy
   have hvW:V R W vq (.agg (pW q)):=hvq.step (fun _ _ h=>h) fun b o hbo=>(hK1.cell (hR b o hbo) id).symm
   refine wpIn_mono (hround m (W.heap.size+1) pre q vq A (by omega) hlt hpre hvW (hfin hKA) hi) ?_
   rintro e a1 w1 hq;cases e with
   |normal=>
    obtain ⟨hka,hbody⟩:=hq;have hl1:=(hka.block _ hlt id).trans hl;refine ⟨_,run_beginRound hl1 (by rw [hrec]),?_⟩;have hkb:bK (fun k=>k=W.heap.size+1) w1 (w1.putObj (W.heap.size+1) (.loop { rec .ready none with state:= .busy })):=bK.putObj (X:=fun k=>k=W.heap.size+1) _ rfl _;have hl2:(w1.putObj (W.heap.size+1) (.loop { rec .ready none with state:= .busy })).heap[W.heap.size+1]? =some (.loop { rec .ready none with state:= .busy }):=World.putObj_heap_same (d3Q.1 hl1).1
    have hsz:=hka.size;refine wpIn_mono (hbody _ hkb) ?_
    have fin:∀(jump:Option Code) (w3:World),bK (fun k=>k=b1) (w1.putObj (W.heap.size+1) (.loop { rec .ready none with state:= .busy })) w3→
      (Instr.endRound (W.heap.size+1) jump).run Tryz.prog w3= .ok (.bool jump.isNone) (w3.putObj (W.heap.size+1) (.loop (rec (if jump.isNone then .ready else .done) jump)))∧
      (w3.putObj (W.heap.size+1) (.loop (rec (if jump.isNone then .ready else .done) jump))).heap[W.heap.size+1]? =some (.loop (rec (if jump.isNone then .ready else .done) jump))∧
      (w3.putObj (W.heap.size+1) (.loop (rec (if jump.isNone then .ready else .done) jump))).heap[W.heap.size]? =some (.deferred (some []))∧
      bK (fun k=>k=W.heap.size+1∨k=b1) A (w3.putObj (W.heap.size+1) (.loop (rec (if jump.isNone then .ready else .done) jump))):=fun jump w3 hk3=>by
     have hl3:=(hk3.block _ (by simp;omega) (by omega)).trans hl2;have:=run_endRound (P:=Tryz.prog) jump hl3;rw [hrec] at this ⊢;refine ⟨this,World.putObj_heap_same (d3Q.1 hl3).1,?_,?_⟩
     ·refine (World.putObj_heap_other (by omega)).trans ((hk3.block _ (by simp;omega) (by omega)).trans ?_);exact (World.putObj_heap_other (by omega)).trans ((hka.block _ (by omega) id).trans hd)
     ·exact (hka.weaken fun _ h=>h.elim).trans ((hkb.weaken fun _ h=> .inl h).trans ((hk3.weaken fun _ h=> .inr h).trans (bK.putObj _ (.inl rfl) _)))
    rintro e a3 w3 hp;cases e with
    |normal=>obtain ⟨hk3,hi3⟩:=hp;obtain ⟨h1,h2,h3,h4⟩:=fin none w3 hk3;exact ⟨_,_,h1,.inl ⟨rfl,⟨hI _ _ _ hi3 fun k hk=>World.putObj_heap_other (by omega),h2,h3⟩,h4⟩⟩
    |ret=>obtain ⟨hk3,hi3⟩:=hp;obtain ⟨h1,h2,h3,h4⟩:=fin (some .ret) w3 hk3;exact ⟨_,_,h1,.inr ⟨rfl,⟨hIx _ _ _ hi3 fun k hk=>World.putObj_heap_other (by omega),h2,h3⟩,h4⟩⟩
    |exit id=>exact hp.elim
    |goto t=>exact hp.elim
    |panic ch=>exact hp.elim
    |outgrown=>exact hp.elim
   |ret=>exact hq.elim
   |exit id=>exact hq.elim
   |goto t=>exact hq.elim
   |panic ch=>exact hq.elim
   |outgrown=>exact hq.elim
  ·rintro e W2 ⟨v,rfl,(⟨⟨hi,hl,hd⟩,hK⟩|⟨pre,hpre,⟨hi,hl,hd⟩,hK⟩)⟩
   ·refine ⟨none,_,by have:=run_endLoop (P:=Tryz.prog) hl (by rw [hrec];simp);rw [hrec] at this;exact this,?_⟩;exact hdone _ _ (d3X _) (hI _ _ _ hi fun k hk=>World.putObj_heap_other (by omega)) (hfin (hK.trans (bK.putObj _ (.inl rfl) _))) ((World.putObj_heap_other (by omega)).trans hd)
   ·refine ⟨some .ret,_,by have:=run_endLoop (P:=Tryz.prog) hl (by rw [hrec];simp);rw [hrec] at this;exact this,?_⟩;exact wpIn_ret (hstop _ pre _ (d3X _) hpre (hIx _ _ _ hi fun k hk=>World.putObj_heap_other (by omega)) (hfin (hK.trans (bK.putObj _ (.inl rfl) _))) ((World.putObj_heap_other (by omega)).trans hd))
theorem a1c {W:World}{b:Nat}{v:Value}{T:TypeId}(h:W.heap[b]? =some (.cells #[v] T (0,0))):W.cell? ⟨b,0,none⟩=some v∧W.frozen? ⟨b,0,none⟩=false:=by unfold World.cell? World.frozen?;rw [h];simp
theorem tJ {W:World}{b:Nat}{cs:Array Value}{T:TypeId}(h:W.heap[b]? =some (.cells cs T (0,0)))(j:Nat)(v:Value)(hj:cs[j]? =some v):W.cell? ⟨b,j,none⟩=some v:=by unfold World.cell?;rw [h];simp [hj]
theorem b1V {W:World}{b:Nat}{v:Value}{T:TypeId}(h:W.heap[b]? =some (.cells #[v] T (0,0)))(u:Value):(W.setCell ⟨b,0,none⟩ u).heap[b]? =some (.cells #[u] T (0,0)):=by
 obtain ⟨hlt,hh⟩:=d3Q.1 h
 show (W.heap.modify b _)[b]? =_
 rw [d3Z (by rw [Array.size_modify];exact hlt),Array.getElem_modify_self,hh];simp
theorem bK.set {X:Nat→Prop}(A:World){b:Nat}(hl:X b)(u:Value):bK X A (A.setCell ⟨b,0,none⟩ u):=⟨rfl,rfl,rfl,by show A.heap.size≤(A.heap.modify _ _).size;rw [Array.size_modify];exact d3X _,fun k _ hx=>Below.heap_setCell A ⟨b,0,none⟩ u k fun e=>hx (by rw [show k=b from e];exact hl)⟩
def xG (e:Pr→Int):List Pr→Int
 |[]=>0
 |p::r=>if e p=0 then xG e r else e p
theorem a5L {e:Pr→Int}:∀ {l:List Pr},(∀q∈l,e q=0)→xG e l=0
 |[],_=>rfl
 |p::r,h=>by rw [xG,if_pos (h p (by simp))];exact a5L fun q hq=>h q (by simp [hq])
theorem b0B {e:Pr→Int}{p:Pr}:∀ {l r:List Pr},(∀q∈l,e q=0)→e p≠0→xG e (l++p::r)=e p
 |[],r,_,hp=>by simp [xG,hp]
 |q::l,r,h,hp=>by rw [List.cons_append,xG,if_pos (h q (by simp))];exact b0B (fun q hq=>h q (by simp [hq])) hp
def a9l (e:Pr→Int)(p:Pr):Int:=if 400<cW p then 7 else if 40<a5Y p then 8 else xG e (xZ p)
theorem a9m {G:GT}(e:Pr→Int)(p:Pr)(hN:cW p≤1000000)(hNod:CS Tryz.prog G 214 [.agg (pW p)] (.d (.int .i64 (cW p))) none)(hDep:CS Tryz.prog G 215 [.agg (pW p)] (.d (.int .i64 (a5Y p))) none)(hnode:∀q∈xZ p,CS Tryz.prog G 217 [.agg (pW q)] (.d (.int .i64 (e q))) none):CS Tryz.prog G 199 [.agg (pW p)] (.d (.int .i64 (a9l e p))) none:=by
 refine CS.b7h fun w R args hg hR hs hv=>?_
 have ha:args= #[args.getD 0 undef]:=by
  obtain ⟨l⟩:=args
  match l,hs with
  |[a],_=>rfl
 have hv0:=hv 0 _ rfl;rw [ha];generalize args.getD 0 undef=v at hv0
 clear hv ha hs args
 obtain ⟨ao,cap,nm,rfl,hk⟩:=c1C hv0;refine (callsIn_wide (n:=10)).1 (callsIn_of_wp_marks Tryz.func199 rfl trivial ?_ rfl);simp only [Tryz.ntmps199,List.size_toArray,List.length_cons,List.length_nil,Nat.reduceAdd,Nat.reduceSub,Array.replicate_succ,Array.replicate_zero,List.push_toArray,List.append_toArray,List.nil_append,List.cons_append];have wD:∀ {f:FuncId} {z:Int} (m:Nat) (q:Pr) (vq:Value) (W:World),CS Tryz.prog G f [.agg (pW q)] (.d (.int .i64 z)) none→V R w vq (.agg (pW q))→bK NoX w W→
   CallsIn Fence.wide m Tryz.prog f #[vq] W fun e w'=>e= .returned (.int .i64 z)∧bK NoX W w':=fun m q vq W hc hvq hW=>by
  refine c6m hc (R:=R) m (b8P hg hW.size hR fun k hk=>hW.block k hk id) (fun b o hbo=>Nat.lt_of_lt_of_le (hR b o hbo) hW.size) rfl fun i d hd=>?_
  match i,hd with
  |0,hd=>cases hd;exact hvq.step (fun _ _ h=>h) fun b o hbo=>hW.cell (hR b o hbo) id
 gi_wp2
 obtain ⟨W2,hW2⟩:∃W2,(w.alloc (.cells #[.int .i64 p.op,.string nm,.int .i64 p.n,.slice ao p.kids.length cap] 43)).alloc (.cells #[.int .i64 0] 31)=W2:=⟨_,rfl⟩;have hK2:bK NoX w W2:=by rw [← hW2];exact ((bK.refl _ _).alloc _).alloc _
 have hs2:W2.heap.size=w.heap.size+2:=by rw [← hW2];simp
 have hB2:W2.heap[w.heap.size+1]? =some (.cells #[.int .i64 0] 31 (0,0)):=by rw [← hW2];have:=World.alloc_heap_new (w.alloc (.cells #[.int .i64 p.op,.string nm,.int .i64 p.n,.slice ao p.kids.length cap] 43)) (.cells #[.int .i64 0] 31);rwa [World.size_alloc] at this
 have hA2:W2.heap[w.heap.size]? =some (.cells #[.int .i64 p.op,.string nm,.int .i64 p.n,.slice ao p.kids.length cap] 43 (0,0)):=by rw [← hW2];exact (Below.heap_alloc _ _ _ (by simp)).trans (World.alloc_heap_new w _)
 rw [hW2];refine ⟨trivial,(wD _ p _ _ hNod hv0 hK2).mono ?_⟩;rintro _ W3 ⟨rfl,hK3⟩;have hB3:=(hK3.block _ (by omega) id).trans hB2;have hA3:=(hK3.block _ (by omega) id).trans hA2;have hs3:=hK3.size;obtain ⟨hc3,hf3⟩:=a1c hB3;have q0:=(tJ hA3 0 _ rfl);have q1:=(tJ hA3 1 _ rfl);have q2:=(tJ hA3 2 _ rfl);have q3:=(tJ hA3 3 _ rfl);have fin:∀ {W:World} {z:Int} {K:World},K.heap[w.heap.size+1]? =some (.cells #[.int .i64 z] 31 (0,0))→bK NoX w W→z=a9l e p→∃v,Ending.returned (.int .i64 z)= .returned v∧V R W v (.int .i64 (a9l e p))∧Below w.heap.size w W:=fun h hk hz=>⟨_,rfl,hz▸ .int _ _,⟨hk.os,hk.tape,hk.output,hk.size,fun k h'=>hk.block k h' id⟩⟩
 by_cases h1:400<cW p
 ·gi_wp2
  have hS:=b1V hB3 (.int .i64 7);have hc:=(a1c hS).1;exact ⟨_,by simp [results,Tryz.f199,go_sem,hc],fin hS (a1b (((hK2.trans hK3).weaken fun _ h=>h.elim).trans (bK.set (X:=fun k=>k=w.heap.size+1) _ rfl _)) (by intro k hk;omega)) (by simp [a9l,h1])⟩
 ·gi_wp2
  refine ⟨trivial,(wD _ p _ _ hDep hv0 (hK2.trans hK3)).mono ?_⟩;rintro _ W4 ⟨rfl,hK4⟩;have hs4:=hK4.size;have hB4:=(hK4.block _ (by omega) id).trans hB3;have hA4:=(hK4.block _ (by omega) id).trans hA3;obtain ⟨hc4,hf4⟩:=a1c hB4;have r0:=(tJ hA4 0 _ rfl);have r1:=(tJ hA4 1 _ rfl);have r2:=(tJ hA4 2 _ rfl);have r3:=(tJ hA4 3 _ rfl);have hKw4:=(hK2.trans hK3).trans hK4;by_cases h2:40<a5Y p
  ·gi_wp2
   have hS:=b1V hB4 (.int .i64 8);have hc:=(a1c hS).1;exact ⟨_,by simp [results,Tryz.f199,go_sem,hc],fin hS (a1b ((hKw4.weaken fun _ h=>h.elim).trans (bK.set (X:=fun k=>k=w.heap.size+1) _ rfl _)) (by intro k hk;omega)) (by simp [a9l,h1,h2])⟩
  ·gi_wp2
   refine ⟨trivial,(b8Q _ _ _ _ _ _).mono ?_⟩;rintro _ W5 ⟨rfl,rfl⟩
   gi_wp2
   obtain ⟨W5,hW5⟩:∃W5,W4.alloc (.cells #[.int .i64 p.op,.string nm,.int .i64 p.n,.slice ao p.kids.length cap] 43)=W5:=⟨_,rfl⟩;have hK5:bK NoX W4 W5:=by rw [← hW5];exact (bK.refl _ _).alloc _
   have hB5:=(hK5.block _ (by omega) id).trans hB4;have hA5:W5.heap[W4.heap.size]? =some (.cells #[.int .i64 p.op,.string nm,.int .i64 p.n,.slice ao p.kids.length cap] 43 (0,0)):=by rw [← hW5];exact World.alloc_heap_new _ _
   have hs5:W5.heap.size=W4.heap.size+1:=by rw [← hW5];simp
   have hKw5:=hKw4.trans hK5;rw [hW5];refine c1F 10 (W:=W5) (R:=R) (p:=p) rfl hA5 rfl (hv0.step (fun _ _ h=>h) fun b o hbo=>hKw5.cell (hR b o hbo) id) hN (fun b o hbo=>by have:=hR b o hbo;omega) (w.heap.size+1) (by omega) (fun b o hbo=>by have:=hR b o hbo;omega) (by omega)
    (fun pre A=>A.heap[w.heap.size+1]? =some (.cells #[.int .i64 0] 31 (0,0))∧∀q∈pre,e q=0)
    (fun pre A=>∃pre' q,pre=pre'++[q]∧(∀x∈pre',e x=0)∧e q≠0∧A.heap[w.heap.size+1]? =some (.cells #[.int .i64 (e q)] 31 (0,0)))
    (fun s A B h hk=>⟨(hk _ (by omega)).trans h.1,h.2⟩) (fun s A B ⟨pre',q,h1,h2,h3,h4⟩ hk=>⟨pre',q,h1,h2,h3,(hk _ (by omega)).trans h4⟩) ⟨hB5,by simp⟩ ?hround ?hdone ?hstop
   case hround=>
    rintro m l pre q vq W6 hl hl6 hpre hvq hK6 ⟨hB6,hz⟩;obtain ⟨ao2,cap2,nm2,rfl,_⟩:=c1C hvq;have hqm:q∈xZ p:=hpre.subset (by simp);have hvw:V R w _ (.agg (pW q)):=hvq.step (fun _ _ h=>h) fun b o hbo=>(hKw5.cell (hR b o hbo) id).symm
    gi_wp2
    refine ⟨(bK.refl _ _).alloc _,fun w2 hk2=>?_⟩;have hA7:=(hk2.block W6.heap.size (by simp) (by omega)).trans (World.alloc_heap_new _ _);have hs6:=hK6.size;have hB7:=((hk2.block (w.heap.size+1) (by simp;omega) (by omega)).trans (Below.heap_alloc _ _ _ (by omega))).trans hB6;have hs7:=hk2.size;simp only [World.size_alloc] at hs7;have hKw7:bK NoX w w2:=a1b (X:=fun k=>k=w.heap.size+1∨k=l) ((hKw5.weaken fun _ h=>h.elim).trans ((hK6.weaken fun _ h=> .inl h).trans (((bK.refl _ _).alloc _).trans (hk2.weaken fun _ h=> .inr h)))) (by rintro k (hk|hk)<;>omega);have t0:=(tJ hA7 0 _ rfl);have t1:=(tJ hA7 1 _ rfl);have t2:=(tJ hA7 2 _ rfl);have t3:=(tJ hA7 3 _ rfl)
    gi_wp2
    refine ⟨trivial,fun h=>(by cases h),(CallsIn.inRound l (wD _ q _ _ (hnode q hqm) hvw hKw7)).mono ?_⟩;rintro _ W8 ⟨rfl,hK8⟩;have hB8:=(hK8.block _ (by omega) id).trans hB7;obtain ⟨hc8,hf8⟩:=a1c hB8;by_cases he:e q=0
    ·gi_wp2
     have hall:∀x,x∈pre∨x=q→e x=0:=fun x hx=>hx.elim (hz x) fun hx=>by subst hx;exact he
     first|exact hall|exact ⟨hK8.up,hall⟩|exact ⟨hK8.up,hB8,hall⟩
    ·gi_wp2
     have hS:=b1V hB8 (.int .i64 (e q));exact ⟨hK8.up.trans (bK.set (X:=fun k=>k=w.heap.size+1) _ rfl _),pre,q,⟨rfl,rfl⟩,hz,he,hS⟩
   case hdone=>
    rintro D W' hD ⟨hB',hz⟩ hK' hD';obtain ⟨hc',hf'⟩:=a1c hB'
    gi_wp2
    have hS:=b1V hB' (.int .i64 0);have hDs:=((bK.set (X:=fun k=>k=w.heap.size+1) W' rfl (.int .i64 0)).block D (d3Q.1 hD').1 (by omega)).trans hD';refine ⟨by simp,.inl ⟨_,_,rfl,run_takeDeferred hDs,?_⟩⟩;have hS2:=(World.putObj_heap_other (r:=D) (o:= .deferred none) (show w.heap.size+1≠D by omega)).trans hS;have hc:=(a1c hS2).1;exact ⟨_,by simp [results,Tryz.f199,go_sem,hc],fin hS2 (a1b (X:=fun k=>k=w.heap.size+1∨k=D) ((hKw5.weaken fun _ h=>h.elim).trans ((hK'.weaken fun _ h=> .inl h).trans ((bK.set (X:=fun k=>k=w.heap.size+1∨k=D) _ (.inl rfl) _).trans (bK.putObj _ (.inr rfl) _)))) (by rintro k (hk|hk)<;>omega)) (by simp [a9l,h1,h2,a5L hz])⟩
   case hstop=>
    rintro D pre W' hD hpre ⟨pre',q,rfl,hz,hq,hB'⟩ hK' hD'
    gi_wp2
    refine ⟨by simp,.inl ⟨_,_,rfl,run_takeDeferred hD',?_⟩⟩;have hS2:=(World.putObj_heap_other (r:=D) (o:= .deferred none) (show w.heap.size+1≠D by omega)).trans hB';have hc:=(a1c hS2).1;have hfe:xG e (xZ p)=e q:=by obtain ⟨r,hr⟩:=hpre;rw [← hr,List.append_assoc];exact b0B hz hq
    exact ⟨_,by simp [results,Tryz.f199,go_sem,hc],fin hS2 (a1b (X:=fun k=>k=w.heap.size+1∨k=D) ((hKw5.weaken fun _ h=>h.elim).trans ((hK'.weaken fun _ h=> .inl h).trans (bK.putObj _ (.inr rfl) _))) (by rintro k (hk|hk)<;>omega)) (by simp [a9l,h1,h2,hfe])⟩
end Go.Proofs.YtjpodcmhcenjjaaGreatDoor
end
section
namespace Go.Proofs.YtjpodcmhcenjjaaGreatDoor
open Go Go.VM
variable {G:GT}
def a4f (op:Int):Bool:=decide (op=3)||(decide (op=4)||decide (op=5))
def oM (op:Int):Int:=if op=1∨op=2∨op=3 then 0 else if op=4∨op=5 then 1 else if op=9∨op=14 then 1 else 2
def tN (op:Int):Int:=if op=1∨op=2∨op=3 then 0 else if op=4∨op=5 then 24 else if op=9∨op=14 then 1 else 2
def b7x (l:List Pr):Int:=match l with
 |[]=>1
 |k::_=>k.op
def a5M (op:Int)(nm:Nm):Bool:=(decide (op=3)&&decide (nm=[118]))||(decide (op=4)&&(decide (nm=[116,97,103])||decide (nm=[118,97,108])))
def a1d (op:Int)(nm:Nm)(n:Int)(len:Int):Bool:=(!a4f op&& !decide (nm=[]))||(!decide (op=1)&& !decide (op=2)&& !decide (n=0))||decide (len<oM op)||decide (tN op<len)
def vM (op n:Int):Bool:=(decide (op=1)&& !inB n)||(decide (op=2)&& !decide (n=0)&& !decide (n=1))
def a1e (p:Pr):Int:=
 if p.op<1∨18<p.op then 1
 else if a1d p.op p.name p.n p.kids.length then 1
 else if vM p.op p.n then 2
 else if a4f p.op&& !xR p.name&& !a5M p.op p.name then 3
 else if p.op=8∧b7x p.kids≠1 then 6
 else 0
theorem kP:VM.Enters Tryz.prog 240:=VM.Enters.mk Tryz.func240 rfl
theorem mN (op:Int):CS Tryz.prog G 240 [.int .i64 op] (.d (.bool (a4f op))) none:=by
 refine CS.bB Tryz.func240 rfl Tryz.ntmps240 rfl ?_
 by_cases h3:op=3
 ·simp [h3,a4f]
 ·by_cases h4:op=4
  ·simp [h4,a4f]
  ·simp [h3,h4,a4f]
theorem a9n:VM.Enters Tryz.prog 239:=VM.Enters.mk Tryz.func239 rfl
theorem b1W (op:Int):CS Tryz.prog G 239 [.int .i64 op] (.cF [.int .i64 (oM op),.int .i64 (tN op)]) none:=by
 refine CS.bB Tryz.func239 rfl Tryz.ntmps239 rfl ?_
 by_cases h1:op=1
 ·simp [h1,oM,tN]
 by_cases h2:op=2
 ·simp [h2,oM,tN]
 by_cases h3:op=3
 ·simp [h3,oM,tN]
 by_cases h4:op=4
 ·simp [h4,oM,tN]
 by_cases h5:op=5
 ·simp [h5,oM,tN]
 by_cases h9:op=9
 ·simp [h9,oM,tN]
 by_cases h14:op=14
 ·simp [h14,oM,tN]
 ·simp [h1,h2,h3,h4,h5,h9,h14,oM,tN]
theorem b8R {op:Int}(h:a4f op=true):op=3∨op=4∨op=5:=by simpa [a4f] using h
theorem b8S {op:Int}(h:a4f op=false): ¬op=3∧ ¬op=4∧ ¬op=5:=by simpa [a4f] using h
theorem b1X (hG:G 1=some cX)(p:Pr)(hlen:p.kids.length≤900000000):CS Tryz.prog G 217 [.agg (prD p)] (.d (.int .i64 (a1e p))) none:=by
 obtain ⟨op,nm,n,l⟩:=p;simp only at hlen;have hm:a1e ⟨op,nm,n,l⟩=if op<1∨18<op then 1 else if a1d op nm n l.length then 1 else if vM op n then 2 else if a4f op&& !xR nm&& !a5M op nm then 3 else if op=8∧b7x l≠1 then 6 else 0:=rfl
 refine CS.bB Tryz.func217 rfl Tryz.ntmps217 rfl ?_
 by_cases a1:op<1
 ·simp [a1] at hm;simp [a1,hm]
 by_cases a2:18<op
 ·simp [a2] at hm;simp [a1,a2,hm]
 rw [if_neg (by omega)] at hm;simp [a1,a2];refine aG.mk a9n (b1W op) ?_
 simp;refine aG.mk kP (mN op) ?_
 cases hn:a4f op
 ·obtain ⟨n3,n4,n5⟩:=b8S hn;by_cases b1:nm=[];rotate_left
  ·have b1':nm.isEmpty=false:=by cases nm<;>simp at b1 ⊢
   simp [a1d,hn,b1] at hm;simp (maxSteps:=4000000) [hn,b1,b1',hm]
  subst b1;by_cases o1:op=1
  ·subst o1;have el:oM 1=0:=rfl;have em:tN 1=0:=rfl;by_cases k0:l=[];rotate_left
   ·have kl:0<l.length:=List.length_pos_iff.2 k0;have kl': ¬((l.length:Int)<0):=by omega
    simp [a1d,hn,el,em,kl,kl'] at hm;simp (maxSteps:=4000000) [hn,el,em,kl,kl',hm]
   subst k0;simp [a1d,hn,el,em] at hm;simp (maxSteps:=4000000) [hn,el,em];refine aG.mk b3E (b7j n) ?_
   cases hi:inB n
   ·simp [vM,hi] at hm;simp [hm]
   ·simp [vM,hi] at hm;simp;refine aG.mk kP (mN 1) ?_
    simp (maxSteps:=4000000) [hn,hm]
  by_cases o2:op=2
  ·subst o2;have el:oM 2=0:=rfl;have em:tN 2=0:=rfl;by_cases k0:l=[];rotate_left
   ·have kl:0<l.length:=List.length_pos_iff.2 k0;have kl': ¬((l.length:Int)<0):=by omega
    simp [a1d,hn,el,em,kl,kl'] at hm;simp (maxSteps:=4000000) [hn,el,em,kl,kl',hm]
   subst k0;simp [a1d,hn,el,em] at hm;by_cases c0:n=0
   ·simp [vM,c0] at hm;simp (maxSteps:=4000000) [hn,el,em,c0];refine aG.mk kP (mN 2) ?_
    simp (maxSteps:=4000000) [hn,hm]
   ·by_cases c1:n=1
    ·simp [vM,c1] at hm;simp (maxSteps:=4000000) [hn,el,em,c1];refine aG.mk kP (mN 2) ?_
     simp (maxSteps:=4000000) [hn,hm]
    ·simp [vM,c0,c1] at hm;simp (maxSteps:=4000000) [hn,el,em,c0,c1,hm]
  by_cases c0:n=0;rotate_left
  ·simp [a1d,hn,o1,o2,c0] at hm;simp (maxSteps:=4000000) [hn,o1,o2,c0,hm]
  subst c0;by_cases d1:(l.length:Int)<oM op
  ·simp [a1d,hn,d1] at hm;simp (maxSteps:=4000000) [hn,o1,o2,d1,hm]
  by_cases d2:tN op<(l.length:Int)
  ·simp [a1d,hn,d1,d2] at hm;simp (maxSteps:=4000000) [hn,o1,o2,d1,d2,hm]
  simp [a1d,vM,hn,o1,o2,d1,d2] at hm;simp (maxSteps:=4000000) [hn,o1,o2,d1,d2];refine aG.mk kP (mN op) ?_
  by_cases o8:op=8
  ·subst o8;have el:oM 8=2:=rfl
   match l,d1 with
   |[],d1=>exact absurd (by rw [el];simp) d1
   |k::r,d1=>
    by_cases e1:k.op=1
    ·simp [b7x,e1] at hm;simp (maxSteps:=4000000) [hn,e1,hm]
    ·simp [b7x,e1] at hm;simp (maxSteps:=4000000) [hn,e1,hm]
  ·simp [o8] at hm;simp (maxSteps:=4000000) [hn,o8,hm]
 ·have ho:=b8R hn;have o1: ¬op=1:=by omega
  have o2: ¬op=2:=by omega
  have o8: ¬op=8:=by omega
  by_cases c0:n=0;rotate_left
  ·simp [a1d,hn,o1,o2,c0] at hm;simp (maxSteps:=4000000) [hn,o1,o2,c0,hm]
  subst c0;by_cases d1:(l.length:Int)<oM op
  ·simp [a1d,hn,d1] at hm;simp (maxSteps:=4000000) [hn,o1,o2,d1,hm]
  by_cases d2:tN op<(l.length:Int)
  ·simp [a1d,hn,d1,d2] at hm;simp (maxSteps:=4000000) [hn,o1,o2,d1,d2,hm]
  simp [a1d,vM,hn,o1,o2,o8,d1,d2] at hm;simp (maxSteps:=4000000) [hn,o1,o2,d1,d2];refine aG.mk kP (mN op) ?_
  simp [hn];refine aG.mk b5J (b8q hG nm) ?_
  cases hc:xR nm;rotate_left
  ·simp [hc] at hm;simp [a6r,o8,hm]
  simp [hc] at hm;simp [a6r];by_cases o3:op=3
  ·subst o3;by_cases v1:nm=[118]
   ·simp [a5M,v1] at hm;simp [v1,hm]
   ·simp [a5M,v1] at hm;simp [v1,hm]
  by_cases o4:op=4
  ·subst o4;by_cases v1:nm=[116,97,103]
   ·simp [a5M,v1] at hm;simp [v1,hm]
   ·by_cases v2:nm=[118,97,108]
    ·simp [a5M,v2] at hm;simp [v2,hm]
    ·simp [a5M,v1,v2] at hm;simp [v1,v2,hm]
  ·simp [a5M,o3,o4] at hm;simp [o3,o4,hm]
theorem a7P:VM.Enters Tryz.prog 214:=VM.Enters.mk Tryz.func214 rfl
theorem a9o (p:Pr):cW p≤900000000→CS Tryz.prog G 214 [.agg (prD p)] (.d (.int .i64 (cW p))) none:=by
 revert p
 refine Pr.ind fun p ih=>?_
 obtain ⟨op,nm,n,l⟩:=p;intro hN;simp only at ih;have hn:=oY ⟨op,nm,n,l⟩;simp only at hn;have hl:=hU l;refine CS.bB Tryz.func214 rfl Tryz.ntmps214 rfl ?_
 simp;refine SW.jV (ι:={ i:Nat // i≤l.length }) (fun i=>[(3,.d (.int .i64 (1+dG (l.take i.1):Nat))),(9,.d (.int .i64 i.1))]) (fun _=>[(1,prO op nm n (.sl (l.map pW)))]) (fun _=>[]) (fun i=>l.length-i.1) ⟨0,by simp⟩ (by simp [dG]) ?_
 rintro ⟨i,hi⟩;by_cases hlt:i<l.length
 ·have hg:=wL hlt;have hw:=bO (show i<9223372036854775807 by omega);have hb2:=pX hlt;have hb3:=jD l (i+1);have hw2:IntKind.i64.wrap (((1+dG (l.take i):Nat):Int)+(cW l[i]:Int))=((1+dG (l.take (i+1)):Nat):Int):=by rw [wrap64 (by omega),hb2];omega
  simp [hlt,hg];refine aG.mk a7P (ih l[i] (List.getElem_mem hlt) (by omega)) ?_
  simp;exact bN.mk ⟨i+1,hlt⟩ (by simp at hw2;simp [hw,hw2]) (by simp;omega)
 ·have:i=l.length:=by omega
  subst this;simp [hn]
theorem a7Q:VM.Enters Tryz.prog 215:=VM.Enters.mk Tryz.func215 rfl
theorem a9p (p:Pr):cW p≤900000000→CS Tryz.prog G 215 [.agg (prD p)] (.d (.int .i64 (a5Y p))) none:=by
 revert p
 refine Pr.ind fun p ih=>?_
 obtain ⟨op,nm,n,l⟩:=p;intro hN;simp only at ih;have hn:=oY ⟨op,nm,n,l⟩;have hd:=b7w ⟨op,nm,n,l⟩;simp only at hn hd;have hl:=hU l;have hle:=a4d l 0;refine CS.bB Tryz.func215 rfl Tryz.ntmps215 rfl ?_
 simp;refine SW.jV (ι:={ i:Nat // i≤l.length }) (fun i=>[(3,.d (.int .i64 (oL (l.take i.1) 0))),(9,.d (.int .i64 i.1))]) (fun _=>[(1,prO op nm n (.sl (l.map pW)))]) (fun _=>[]) (fun i=>l.length-i.1) ⟨0,by simp⟩ (by simp [oL]) ?_
 rintro ⟨i,hi⟩;by_cases hlt:i<l.length
 ·have hg:=wL hlt;have hw:=bO (show i<9223372036854775807 by omega);have hs:=a7N hlt 0;have hb2:=pX hlt;have hb3:=jD l (i+1);simp [hlt,hg];refine aG.mk a7Q (ih l[i] (List.getElem_mem hlt) (by omega)) ?_
  simp;exact bN.mk ⟨i+1,hlt⟩ (by simp [hw,hs];split<;>omega) (by simp;omega)
 ·have:i=l.length:=by omega
  subst this;have hw:IntKind.i64.wrap ((oL l 0:Int)+1)=((oL l 0+1:Nat):Int):=bO (by omega);simp [hw,hd]
mutual
theorem b4n:∀(p q:Pr),q∈xZ p→cW q≤cW p
 |⟨op,nm,n,l⟩,q,h=>by
  simp only [xZ,List.mem_cons] at h;rcases h with rfl|h
  ·exact d3X _
  ·have:=b0C l q h;simp only [cW];omega
theorem b0C:∀(l:List Pr) (q:Pr),q∈jY l→cW q≤dG l
 |[],q,h=>by simp [jY] at h
 |t::r,q,h=>by
  simp only [jY,List.mem_append] at h;simp only [dG];rcases h with h|h
  ·have:=b4n t q h;omega
  ·have:=b0C r q h;omega
end
def a4M (p:Pr):Int:=a9l a1e p
theorem a7R:VM.Enters Tryz.prog 199:=VM.Enters.mk Tryz.func199 rfl
theorem a9q (hG:G 1=some cX)(p:Pr)(hN:cW p≤1000000):CS Tryz.prog G 199 [.agg (prD p)] (.d (.int .i64 (a4M p))) none:=by
 have h:=a9m (G:=G) a1e p hN (by have:=a9o (G:=G) p (by omega);rwa [eB]) (by have:=a9p (G:=G) p (by omega);rwa [eB]) (fun q hq=>by
  have h1:=b4n p q hq;have h2:=oY q;have h3:=hU q.kids;have:=b1X hG q (by omega)
  rwa [eB])
 rwa [eB] at h
end Go.Proofs.YtjpodcmhcenjjaaGreatDoor
end
end
namespace Go.Proofs.YtjpodcmhcenjjaaGreatDoor
section
open Go Go.VM
variable {G:GT}
def a9r (p:Pr)(s:Pr×Bool):Option (Pr×Bool):=if a2s p then some s else if a1W p (a1a false) then none else if s.2 then some (⟨15,[],0,[s.1,p]⟩,true) else some (p,true)
def a7S:List Pr→Pr×Bool→Pr
 |[],s=>s.1
 |p::r,s=>match a9r p s with
  |none=>a1a false
  |some s=>a7S r s
def bW (a b:Pr):Pr:=a7S [a,b] (a1a true,false)
theorem b1Y:VM.Enters Tryz.prog 129:=VM.Enters.mk Tryz.func129 rfl
theorem a7T (b:Bool):cW (a1a b)=1:=by cases b<;>simp [a1a,b6h,c6j,cW,dG]
theorem c1G (op:Int)(a b:Pr):cW ⟨op,[],0,[a,b]⟩=cW a+cW b+1:=by simp [cW,dG];omega
theorem b4o (L:List Pr)(hL:∀p∈L,cW p≤1000000)(hl:L.length≤1000):CS Tryz.prog G 129 [.sl (L.map pW)] (.d (.agg (prD (a7S L (a1a true,false))))) none:=by
 generalize hR:a7S L (a1a true,false)=R;refine CS.bB Tryz.func129 rfl Tryz.ntmps129 rfl ?_
 simp;refine aG.mk mY (pC true) ?_
 simp;refine SW.jV (ι:={ x:Nat×Pr×Bool // x.1≤L.length∧a7S (L.drop x.1) x.2=R }) (fun x=>[(4,.d (.bool x.1.2.2)),(10,.d (.int .i64 x.1.1))]) (fun x=>[(2,.cells [.d (.int .i64 0),.d (.str []),.d (.int .i64 0),.d .aI]),(3,.cells ((prD x.1.2.1).map .d))]) (fun _=>[]) (fun x=>L.length-x.1.1) ⟨(0,a1a true,false),by simpa using hR⟩ (by simp) ?_
 rintro ⟨⟨k,out,some⟩,hk,hp⟩;simp only at hk hp;by_cases hlt:k<L.length
 ·have hg:(L.map pW)[k]? = .some (pW L[k]):=by simp [hlt]
  have hw:=bO (show k<9223372036854775807 by omega);have hd:L.drop k=L[k]::L.drop (k+1):=d3U hlt;have hb:=hL L[k] (List.getElem_mem hlt);rw [hd] at hp;obtain ⟨p,hP⟩:∃p,L[k]=p:=⟨_,rfl⟩;rw [hP] at hg hd hb hp;have hv:=b1T (G:=G) p (by omega);have hs:=tZ (G:=G) p (a1a false) (by omega);have hc:=a7O (G:=G) p (by omega);simp only [a7S,a9r] at hp;simp [hlt,hP];refine aG.mk a9k hv ?_
  cases h1:a2s p with
  |true=>rw [h1] at hp;simp;exact bN.mk ⟨(k+1,out,some),hlt,by simpa using hp⟩ (by simp [hw]) (by simp;omega)
  |false=>
   rw [h1] at hp;simp;refine ⟨oG.mk (by kernel_rfl),?_⟩;refine aG.mk mY (pC false) ?_
   simp;refine aG.mk pJ hs ?_
   cases h2:a1W p (a1a false) with
   |true=>
    rw [h2] at hp;simp at hp;simp;refine aG.mk mY (pC false) ?_
    simp [← hp]
   |false=>
    rw [h2] at hp;cases some with
    |true=>
     simp;refine ⟨oG.mk (by kernel_rfl),?_⟩;refine aG.mk tI hc ?_
     simp;exact bN.mk ⟨(k+1,⟨15,[],0,[out,p]⟩,true),hlt,by simpa using hp⟩ (by simp [hw]) (by simp;omega)
    |false=>
     simp;refine aG.mk tI hc ?_
     simp;exact bN.mk ⟨(k+1,p,true),hlt,by simpa using hp⟩ (by simp [hw]) (by simp;omega)
 ·have hd:L.drop k=[]:=List.drop_eq_nil_of_le (by omega);rw [hd] at hp;simp only [a7S] at hp;simp [hlt, ← hp]
end
section
open Go Go.VM
variable {G:GT}
abbrev a5Z:Ty→DV:=fun t=> .d (.agg (tyD t))
abbrev d2K:Option Ty→DV:=fun o=> .cF [.agg (tyD (o.getD rR)),.bool o.isSome]
theorem a5N:VM.Enters Tryz.prog 74:=VM.Enters.mk Tryz.func74 rfl
theorem a6a:VM.Enters Tryz.prog 123:=VM.Enters.mk Tryz.func123 rfl
theorem a1f:VM.Enters Tryz.prog 77:=VM.Enters.mk Tryz.func77 rfl
theorem cG:VM.Enters Tryz.prog 39:=VM.Enters.mk Tryz.func39 rfl
theorem a4g:VM.Enters Tryz.prog 124:=VM.Enters.mk Tryz.func124 rfl
section
variable {rdP:List Tok→Nat→Nat→kJ Pr} {l:List Tok} (hV:jX G rdP l)
include hV
theorem a7U (i:Nat)(hi:i<l.length):mX G 74 [] l i (kK bD l i) d2K:=by
 have hl:=hV.len;have ht:=cB (G:=G) l i i 0 (by omega) (by omega) (by intro e;subst e;simp at hi) (by omega);obtain ⟨j0,rfl⟩:∃j0,j0=i:=⟨_,rfl⟩;have p0:j0≤j0∧j0<l.length:=⟨d3X _,hi⟩;refine jG.cK Tryz.func74 rfl Tryz.ntmps74 rfl (by simp) ?_
 intro Q Q0;simp;cases h1:aQ l j0 [73,110,116] with
 |true=>
  refine aY (ds:=[.str [73,110,116]]) (d:= .d (.bool true)) aC (aN l j0 [73,110,116] p0.2 (by omega) h1) (by simp) (by simp) ?_
  have p1:j0+1≤j0+1∧j0+1<l.length:=⟨d3X _,aF hV.fin p0.2 h1⟩;simp;exact Q0.ok _ (j0+1) _ _ (by unfold kK;rw [if_pos h1]) (.inr rfl) (by simp [psT,kC])
 |false=>
 refine aY (ds:=[.str [73,110,116]]) (d:= .d (.bool false)) aC (aO l j0 [73,110,116] p0.2 (by omega) h1) (by simp) (by simp) ?_
 simp;cases h2:aQ l j0 [66,111,111,108] with
 |true=>
  refine aY (ds:=[.str [66,111,111,108]]) (d:= .d (.bool true)) aC (aN l j0 [66,111,111,108] p0.2 (by omega) h2) (by simp) (by simp) ?_
  have p1:j0+1≤j0+1∧j0+1<l.length:=⟨d3X _,aF hV.fin p0.2 h2⟩;simp;exact Q0.ok _ (j0+1) _ _ (by unfold kK;rw [if_neg (by rw [h1];decide),if_pos h2]) (.inr rfl) (by simp [psT,kC])
 |false=>
 refine aY (ds:=[.str [66,111,111,108]]) (d:= .d (.bool false)) aC (aO l j0 [66,111,111,108] p0.2 (by omega) h2) (by simp) (by simp) ?_
 simp;cases h3:aQ l j0 [67,101,108,108] with
 |true=>
  refine aY (ds:=[.str [67,101,108,108]]) (d:= .d (.bool true)) aC (aN l j0 [67,101,108,108] p0.2 (by omega) h3) (by simp) (by simp) ?_
  have p1:j0+1≤j0+1∧j0+1<l.length:=⟨d3X _,aF hV.fin p0.2 h3⟩;simp;exact Q0.ok _ (j0+1) _ _ (by unfold kK;rw [if_neg (by rw [h1];decide),if_neg (by rw [h2];decide),if_pos h3]) (.inr rfl) (by simp [psT,kC])
 |false=>
 refine aY (ds:=[.str [67,101,108,108]]) (d:= .d (.bool false)) aC (aO l j0 [67,101,108,108] p0.2 (by omega) h3) (by simp) (by simp) ?_
 simp;refine aY (ds:=[.int .i64 0]) bJ ht (by simp) (by simp) ?_
 simp;refine kU.mk gH (jE hV.kw (aZ l j0)) ?_
 cases h4:pF bD (aZ l j0) with
 |true=>simp;refine bY (ds:=[]) cH (cR hV.kw l j0 hi (by omega)) (by simp) (by simp) (fun s j hx=>?_) (fun n e hx=>by unfold cA oI at hx;rw [if_pos h4] at hx;cases hx);unfold cA oI at hx;rw [if_pos h4] at hx;cases hx;simp;exact Q0.ok _ (j0+1) _ _ (by unfold kK;rw [if_neg (by rw [h1];decide),if_neg (by rw [h2];decide),if_neg (by rw [h3];decide),if_pos h4]) (.inr rfl) (by simp [psT,kC])
 |false=>simp;exact Q0.ok none j0 _ _ (by unfold kK;rw [if_neg (by rw [h1];decide),if_neg (by rw [h2];decide),if_neg (by rw [h3];decide),if_neg (by rw [h4];decide)]) (.inr rfl) (by simp [rR,kC])
theorem a7V (i:Nat)(hi:i<l.length):CH Tryz.prog G 123 ⟨[.ptr 100000 0],rH l i,[]⟩ ⟨[.d (.bool (b0h bD l i))],rH l i,[]⟩:=by
 have hl:=hV.len;have ht:=cB (G:=G) l i i 0 (by omega) (by omega) (by intro e;subst e;simp at hi) (by omega);have hb:=eY (G:=G) l i [123] hi (by omega);have hc:=eY (G:=G) l i [40] hi (by omega);have hw:=jE hV.kw (aZ l i);unfold b0h;refine CH.bB Tryz.func123 rfl Tryz.ntmps123 rfl (by simp) ?_
 simp;refine b1P (i:=i) (ds:=[.int .i64 0]) bJ ht (by simp) (by simp) (by simp) ?_
 generalize aZ l i=T at ht hw ⊢;obtain ⟨k,x,n,ln⟩:=T;simp [cC];refine aG.mk gH hw ?_
 cases h1:pF bD ⟨k,x,n,ln⟩ with
 |true=>simp
 |false=>
  by_cases h2:k=2
  ·simp [h2,pY]
  ·simp [h2,pY];refine b1P (i:=i) (ds:=[.str [123]]) dV hb (by simp) (by simp) (by simp) ?_
   cases h3:aQ l i [123] with
   |true=>simp
   |false=>
    simp;refine b1P (i:=i) (ds:=[.str [40]]) dV hc (by simp) (by simp) (by simp) ?_
    simp
def TyI (t:Ty)(i j:Nat):Prop:=(t.pred.op=0→t.pred=a4K)∧cW t.pred+i≤j+1
section
variable {ty:bE Ty} {low:Nat} (hty:∀i,low≤i→i<l.length→mX G 39 [] l i (ty i) a5Z) (aty:aA l 0 ty) (ity:∀i t j,i<l.length→ty i= .ok t j→TyI t i j)
include hty aty ity
theorem a2t (i:Nat)(hlow:low≤i+1)(hi:i<l.length):mX G 77 [] l i (tF bW rdP l ty i) a5Z:=by
 have hl:=hV.len;obtain ⟨j0,rfl⟩:∃j0,j0=i:=⟨_,rfl⟩;have p0:j0≤j0∧j0<l.length:=⟨d3X _,hi⟩;refine jG.cK Tryz.func77 rfl Tryz.ntmps77 rfl (by simp) ?_
 intro Q Q0;unfold tF at Q0;simp;refine bY (ds:=[.sl (strs [[123],[118],[58]])]) aD (aE l [[123],[118],[58]] j0 p0.2 (by omega) hV.fin (by simp)) (by simp [strs]) (by simp) (fun u1 j1 x1=>?_) (fun n e hx=>by first|exact Q0.fail hx _|(simp;exact Q0.fail hx _)|(simp;exact fun s=>Q0.fail hx s));have Q1:=Q0.step x1;have p1:=aA.exp hV.fin _ _ j0 u1 j1 p0.2 x1;simp;refine bY cG ((hty j1 (by omega) p1.2)) (by simp) (by simp) (fun t j2 x2=>?_) (fun n e hx=>by first|exact Q1.fail hx _|(simp;exact Q1.fail hx _)|(simp;exact fun s=>Q1.fail hx s));have Q2:=Q1.step x2;have p2:=aty j1 t j2 p1.2 x2;have it:=ity j1 t j2 p1.2 x2;obtain ⟨op,nm,args,ns,p,ps⟩:=t;simp only at Q2;simp;by_cases h6:op=6
 ·rw [if_pos h6] at Q2;simp [h6];refine bY (ds:=[]) qJ (rY (α:=Ty) l j2 p2.2 (by omega) fun _=> .cF []) (by simp) (by simp) (fun a j hx=>by unfold dQ at hx;cases hx) (fun n e hx=>Q2.bad n e _ hx)
 rw [if_neg h6] at Q2;simp [h6];refine bY (ds:=[.sl (strs [[124]])]) aD (aE l [[124]] j2 p2.2 (by omega) hV.fin (by simp)) (by simp [strs]) (by simp) (fun u3 j3 x3=>?_) (fun n e hx=>by first|exact Q2.fail hx _|(simp;exact Q2.fail hx _)|(simp;exact fun s=>Q2.fail hx s));have Q3:=Q2.step x3;have p3:=aA.exp hV.fin _ _ j2 u3 j3 p2.2 x3;simp;refine bY kV (oK hV j3 p3.2) (by simp) (by simp) (fun q j4 x4=>?_) (fun n e hx=>by first|exact Q3.fail hx _|(simp;exact Q3.fail hx _)|(simp;exact fun s=>Q3.fail hx s));have Q4:=Q3.step x4;have p4:=hV.tM.pred j3 q j4 p3.2 x4;simp;refine bY (ds:=[.sl (strs [[125]])]) aD (aE l [[125]] j4 p4.2 (by omega) hV.fin (by simp)) (by simp [strs]) (by simp) (fun u5 j5 x5=>?_) (fun n e hx=>by first|exact Q4.fail hx _|(simp;exact Q4.fail hx _)|(simp;exact fun s=>Q4.fail hx s));have Q5:=Q4.step x5;have p5:=aA.exp hV.fin _ _ j4 u5 j5 p4.2 x5;simp;have hq:=hV.nod _ _ _ _ p3.2 x4;have hs:=tZ (G:=G) p a4K (by have:=it.2;simp only at this;omega);refine kU.mk pJ (CS.args hs (by simp [a4K])) ?_
 rw [b4m];have h0:=it.1;simp only at h0;by_cases hz:p=a4K
 ·subst hz;simp;exact Q5.ok _ j5 _ _ rfl (.inr rfl) (by simp [a4K])
 ·have hop: ¬p.op=0:=fun e=>hz (h0 e)
  have ha:=b4o (G:=G) [p,q] (by intro x hx;have h1:=it.2;simp only at h1;simp only [List.mem_cons,List.not_mem_nil,or_false] at hx;rcases hx with rfl|rfl<;>omega) (by simp)
  simp [hz];refine kU.mk b1Y (by simpa using ha) ?_
  simp;exact Q5.ok _ j5 _ _ rfl (.inr rfl) (by simp [hop,bW])
theorem a5O (i:Nat)(hlow:low≤i+1)(hi:i<l.length):mX G 124 [] l i (kL bD bW rdP l ty i) a5Z:=by
 have hl:=hV.len;obtain ⟨j0,rfl⟩:∃j0,j0=i:=⟨_,rfl⟩;have p0:j0≤j0∧j0<l.length:=⟨d3X _,hi⟩;have ht:=cB (G:=G) l j0 j0 0 (by omega) (by omega) (by intro e;subst e;simp at hi) (by omega);refine jG.cK Tryz.func124 rfl Tryz.ntmps124 rfl (by simp) ?_
 intro Q Q0;unfold kL at Q0;simp;refine bY a5N (a7U hV j0 hi) (by simp) (by simp) (fun o j1 x1=>?_) (fun n e hx=>by first|exact Q0.fail hx _|(simp;exact Q0.fail hx _)|(simp;exact fun s=>Q0.fail hx s));have Q1:=Q0.step x1;have p1:=aA.base hV.fin j0 o j1 p0.2 x1;cases o with
 |some t=>obtain ⟨op,nm,args,ns,p,ps⟩:=t;simp;exact Q1.ok _ j1 _ _ rfl (.inr rfl) (by simp)
 |none=>
 have hj:=qH x1;subst hj;simp only at Q1;simp [rR,kC];refine aY (ds:=[.int .i64 0]) bJ ht (by simp) (by simp) ?_
 cases hti:pY (aZ l j1) with
 |true=>
  rw [hti,if_pos rfl] at Q1;have hk:(aZ l j1).kind=2:=by simpa [pY] using hti
  have htt:=gI (G:=G) l j1 p1.2 (by omega);have hx:gM l j1= .ok (aZ l j1).text (j1+1):=by unfold gM oI;rw [if_pos hti]
  generalize aZ l j1=T at Q1 hk hx ⊢;obtain ⟨k,x,n,ln⟩:=T;simp only at hk;subst hk;simp [cC];refine bY (ds:=[]) eO htt (by simp) (by simp) (fun s j h=>?_) (fun n e h=>by rw [hx] at h;cases h);rw [hx] at h;cases h;simp;exact Q1.ok _ (j1+1) _ _ rfl (.inr rfl) (by simp [psT,kC])
 |false=>
  rw [hti,if_neg (by decide)] at Q1;have hk: ¬(aZ l j1).kind=2:=by simpa [pY] using hti
  generalize aZ l j1=T at hk ⊢;obtain ⟨k,x,n,ln⟩:=T;simp only at hk;simp [cC,hk];have hb:=eY (G:=G) l j1 [123] p1.2 (by omega);refine aY (ds:=[.str [123]]) dV hb (by simp) (by simp) ?_
  cases hs:aQ l j1 [123] with
  |true=>rw [hs,if_pos rfl] at Q1;simp;refine bY (ds:=[]) a1f (a2t hV hty aty ity j1 hlow p1.2) (by simp) (by simp) (fun t j h=>?_) (fun n e h=>Q1.bad n e _ h);simp;exact Q1.ok t j _ _ h (.inr rfl) (by simp)
  |false=>rw [hs,if_neg (by decide)] at Q1;simp;refine bY (ds:=[.sl (strs [[40]])]) aD (aE l [[40]] j1 p1.2 (by omega) hV.fin (by simp)) (by simp [strs]) (by simp) (fun u2 j2 x2=>?_) (fun n e hx=>by first|exact Q1.fail hx _|(simp;exact Q1.fail hx _)|(simp;exact fun s=>Q1.fail hx s));have Q2:=Q1.step x2;have p2:=aA.exp hV.fin _ _ j1 u2 j2 p1.2 x2;simp;refine bY cG ((hty j2 (by omega) p2.2)) (by simp) (by simp) (fun t j3 x3=>?_) (fun n e hx=>by first|exact Q2.fail hx _|(simp;exact Q2.fail hx _)|(simp;exact fun s=>Q2.fail hx s));have Q3:=Q2.step x3;have p3:=aty j2 t j3 p2.2 x3;simp;refine bY (ds:=[.sl (strs [[41]])]) aD (aE l [[41]] j3 p3.2 (by omega) hV.fin (by simp)) (by simp [strs]) (by simp) (fun u4 j4 x4=>?_) (fun n e hx=>by first|exact Q3.fail hx _|(simp;exact Q3.fail hx _)|(simp;exact fun s=>Q3.fail hx s));have Q4:=Q3.step x4;have p4:=aA.exp hV.fin _ _ j3 u4 j4 p3.2 x4;simp;exact Q4.ok t j4 _ _ rfl (.inr rfl) (by simp)
end
end
end
section
open Go Go.VM
variable {G:GT}
theorem b4p:VM.Enters Tryz.prog 75:=VM.Enters.mk Tryz.func75 rfl
theorem a9s:VM.Enters Tryz.prog 125:=VM.Enters.mk Tryz.func125 rfl
section
variable {rdP:List Tok→Nat→Nat→kJ Pr} {l:List Tok} (hV:jX G rdP l)
include hV
def a2u (nm:Nm)(args:List Ty)(out:List Pr):List (Nat×aR):=[(100001,.cells [.ptr 100000 0]),(100002,.cells [.d (.int .i64 4),.d (.str nm),.d (.sl (args.map tyC)),.d (.sl []),.d (.int .i64 0),.d (.str []),.d (.int .i64 0),.d (.sl []),.d (.sl (out.map pW))])]
abbrev c8f:List (TypeId×List VM.Loc):=[(43,[.c 100002 8])]
abbrev b4q (rdP:List Tok→Nat→Nat→kJ Pr)(l:List Tok)(out:List Pr):bE (List Pr):=do
 aV l [[118],[46]]
 let p ← jM rdP l
 pure (out++[p])
theorem b4r (nm:Nm)(args:List Ty)(out:List Pr)(i:Nat)(hi:i<l.length)(hout:out.length≤i):jG G 125 [.ptr 100001 0,.ptr 100002 0] (a2u nm args out) c8f l i (b4q rdP l out i) (fun _=> .cF []) (a2u nm args):=by
 have hl:=hV.len;obtain ⟨j0,rfl⟩:∃j0,j0=i:=⟨_,rfl⟩;have p0:j0≤j0∧j0<l.length:=⟨d3X _,hi⟩;refine jG.cK Tryz.func125 rfl Tryz.ntmps125 rfl (by simp) ?_
 intro Q Q0;simp [a2u];refine bY (ds:=[.sl (strs [[118],[46]])]) aD (aE l [[118],[46]] j0 p0.2 (by omega) hV.fin (by simp)) (by simp [strs]) (by simp) (fun u1 j1 x1=>?_) (fun n e hx=>by first|exact Q0.fail hx _|(simp;exact Q0.fail hx _)|(simp;exact fun s=>Q0.fail hx s));have Q1:=Q0.step x1;have p1:=aA.exp hV.fin _ _ j0 u1 j1 p0.2 x1;simp;refine cV 6 (t:=41) (e:=43) (T:=45) (s:=6) (z:=10) (r:=11) (p:=12) (q:=9) (x:=8) (b:=13) (y:=1) (fd:=5) [0] 3 [2] (a0f 1 4 5) (eK (jM rdP l j1)) rfl rfl rfl rfl rfl (by kernel_rfl) (by kernel_rfl) rfl ?_
 simp
 repeat' apply And.intro
 all_goals
  refine rE kV (oK hV j1 p1.2) (by simp) (by simp) (fun q j2 x2=>?_) (fun n e hx=>by first|exact Q1.fail hx _|(simp;exact Q1.fail hx _)|(simp;exact fun s=>Q1.fail hx s));have Q2:=Q1.step x2;have p2:=hV.tM.pred j1 q j2 p1.2 x2;refine cO.mk ?_
  simp
 all_goals
  refine ⟨_,_,_,_,_,_,_,_,_,by simp,rfl,rfl,?_,rfl,rfl,?_,by simp,rfl,rfl,rfl,rfl,by decide,rfl,?_⟩
  ·intro c hc
   first
    |(obtain ⟨y,_,rfl⟩:=List.mem_map.1 hc
      rw [eB]
      rfl)
    |(simp only [d3O] at hc
      subst hc
      rfl)
  ·simp<;>omega
  exact Q2.ok _ j2 .normal _ rfl (.inl rfl) (by simp [a2u,eB])
theorem b8U (nm:Nm)(args:List Ty):vL l K3 [.ptr 100001 0,.ptr 100002 0] (a2u nm args) c8f:=by
 constructor
 all_goals intros
 all_goals first
  |rfl
  |simp [a2u,aJ,aP,aL,aK,aT,getKey,aM,aW,cE,rk,cL,bH, *]
theorem b8V (a:List Pr)(i:Nat)(b:List Pr)(j:Nat)(h:b4q rdP l a i= .ok b j):b.length=a.length+1:=by
 simp only [b4q,hZ] at h
 repeat' split at h
 all_goals first|cases h|skip
 all_goals simp
theorem a4N (out:List Pr):aA l 1 (b4q rdP l out):=(aA.exp hV.fin _ _).bl fun _=>hV.tM.pred.bl fun _=>aA.bI _
theorem rZ {α:Type}{c:Nat→Bool}{one:α→bE α}{g:Nat}{a b:α}{i j:Nat}(hc:c i=true)(h:one a i= .ok b j):eE c one (g+1) a i=eE c one g b j:=by rw [eE];simp only [hc,if_true,h]
theorem mO {α:Type}{c:Nat→Bool}{one:α→bE α}{g:Nat}{a:α}{i:Nat}{n e:Int}(hc:c i=true)(h:one a i= .bad n e):eE c one (g+1) a i= .bad n e:=by rw [eE];simp only [hc,if_true,h]
theorem sA {α:Type}{c:Nat→Bool}{one:α→bE α}{g:Nat}{a:α}{i:Nat}(hc:c i=false):eE c one (g+1) a i= .ok a i:=by rw [eE];simp only [hc,Bool.false_eq_true,if_false]
section
variable {ty:bE Ty} {low:Nat} (hty:∀i,low≤i→i<l.length→mX G 39 [] l i (ty i) a5Z) (aty:aA l 0 ty) (ity:∀i t j,i<l.length→ty i= .ok t j→TyI t i j)
include hty aty ity
abbrev c6n (rdP:List Tok→Nat→Nat→kJ Pr)(l:List Tok)(ty:bE Ty)(out:List Ty):bE (List Ty):=do let t ← kL bD bW rdP l ty;pure (out++[t])
theorem b6l (i:Nat)(hlow:low≤i+1)(hi:i<l.length):mX G 75 [] l i (tV bD bW rdP l ty i) a5Z:=by
 have hl:=hV.len;obtain ⟨j0,rfl⟩:∃j0,j0=i:=⟨_,rfl⟩;have p0:j0≤j0∧j0<l.length:=⟨d3X _,hi⟩;refine jG.cK Tryz.func75 rfl Tryz.ntmps75 rfl (by simp) ?_
 intro Q Q0;unfold tV at Q0;simp;refine bY eO (gI l j0 p0.2 (by omega)) (by simp) (by simp) (fun nm j1 x1=>?_) (fun n e hx=>by first|exact Q0.fail hx _|(simp;exact Q0.fail hx _)|(simp;exact fun s=>Q0.fail hx s));have Q1:=Q0.step x1;have p1:=aA.title hV.fin j0 nm j1 p0.2 x1;simp;refine SW.wR (ι:={ x:List Ty×Nat×Nat // j1≤x.2.1∧x.2.1<l.length∧l.length<x.2.2+x.2.1∧x.1.length≤x.2.1∧eE (b0h bD l) (c6n rdP l ty) x.2.2 x.1 x.2.1=pZ l (b0h bD l) (c6n rdP l ty) [] j1 }) (fun _=>[]) (fun x=>[(1,.cells [.ptr 100000 0]),(2,.cells [.d (.int .i64 0),.d (.str []),.d .aI,.d .aI,.d (.int .i64 0),.d (.str []),.d (.int .i64 0),.d .aI,.d .aI]),(3,.cells [.d (.int .i64 4),.d (.str nm),.d (.sl (x.1.1.map tyC)),.d .aI,.d (.int .i64 0),.d (.str []),.d (.int .i64 0),.d .aI,.d .aI]),(100000,rdO l x.1.2.1)]) (fun _=>[(45,[.c 3 2])]) (fun x=>l.length-x.1.2.1) ⟨([],j1,l.length+2),d3X _,p1.2,by simp only;omega,by simp,rfl⟩ (by simp) ?_
 rintro ⟨⟨out,j2,g⟩,hb,hj2,hg,ho,hp⟩;simp only at hb hj2 hg ho hp;obtain ⟨g,rfl⟩:∃k,g=k+1:=⟨g-1,by omega⟩;simp;refine aY (i:=j2) (ds:=[]) a6a (a7V hV j2 hj2) (by simp) (by simp) ?_
 by_cases hc:b0h bD l j2=true
 ·simp [hc];refine cV 6 (t:=28) (e:=45) (T:=45) (s:=10) (z:=14) (r:=15) (p:=16) (q:=13) (x:=12) (b:=17) (y:=3) (fd:=2) [0] 3 [2] (a0f 1 4 5) (eK (kL bD bW rdP l ty j2)) rfl rfl rfl rfl rfl (by kernel_rfl) (by kernel_rfl) rfl ?_
  simp
  repeat' apply And.intro
  all_goals
   refine rE (ds:=[]) a4g (a5O hV hty aty ity j2 (by omega) hj2) (by simp) (by simp) (fun t j3 x3=>?_) (fun n e hx=>?_)
   ·have p3:=aA.zA hV.fin aty hV.tM.pred j2 t j3 hj2 x3;have h1:c6n rdP l ty out j2= .ok (out++[t]) j3:=(bQ x3).trans rfl;rw [rZ hV hc h1] at hp;refine cO.mk ?_
    simp;refine ⟨_,_,_,_,_,_,_,_,_,by simp,rfl,rfl,?_,rfl,rfl,?_,by simp,rfl,rfl,rfl,rfl,by decide,rfl,?_⟩
    ·intro c hc
     first
      |(obtain ⟨y,_,rfl⟩:=List.mem_map.1 hc
        rw [cJ]
        rfl)
      |(simp only [d3O] at hc
        subst hc
        rfl)
    ·simp<;>omega
    refine bN.mk ⟨(out++[t],j3,g),by simp only;omega,p3.2,by simp only;omega,by simp;omega,hp⟩ (by simp [cJ]) (by simp;omega)
   ·have h1:c6n rdP l ty out j2= .bad n e:=eS hx;rw [mO hV hc h1] at hp;simp;exact fun s=>Q1.fail hp.symm s
 ·have hc:=Bool.eq_false_iff.2 hc;rw [sA hV hc] at hp;have Q2:=Q1.step hp.symm;have p2:j1≤j2∧j2<l.length:=⟨hb,hj2⟩;simp [hc];cases hs:aQ l j2 [60] with
  |false=>
   have Q3:=Q2.step (gA hs);rw [if_neg (by decide)] at Q3;refine aY (ds:=[.str [60]]) (d:= .d (.bool false)) aC (aO l j2 [60] p2.2 (by omega) hs) (by simp) (by simp) ?_
   simp;exact Q3.ok _ j2 _ _ rfl (.inr rfl) (by simp [psT,kC])
  |true=>
   have Q3:=Q2.step (eZ hs);rw [if_pos rfl] at Q3;refine aY (ds:=[.str [60]]) (d:= .d (.bool true)) aC (aN l j2 [60] p2.2 (by omega) hs) (by simp) (by simp) ?_
   have p3:j2+1≤j2+1∧j2+1<l.length:=⟨d3X _,aF hV.fin p2.2 hs⟩;obtain ⟨j3,hj3⟩:∃j3,j2+1=j3:=⟨_,rfl⟩;rw [hj3] at Q3 p3 ⊢;simp;have hone:=dR hV [44] (b4q rdP l) (fun out i=>out.length≤i) 0 a9s (b8U hV nm out) (fun a=>(a4N hV a).le (by omega)) (fun a i _ hi h=>b4r hV nm out a i hi h) (fun a i b j hi h hx=>by have h1:=a4N hV a i b j hi hx;have h2:=b8V hV a i b j hx;omega) (fun a i h=>by omega) [] j3 (by omega) p3.2 (by simp)
   refine eU.mk (tY cT hone [(100000,100000),(100001,1),(100002,3)] (fun a j hx=>?_) ?_ ?_ ?_ rfl rfl (fun ws j4 x4=>?_) (fun n e hx2=>Q3.fail hx2 _))
   ·simp [a2u,aJ,aP,aL,aK,aT,getKey]
   ·simp [a2u,aJ,aP,aL,aK,aT,getKey]
   ·simp [aM,aW,rk]
   ·simp [a2u,aM,aW,rk,cE,cL]
   ·have Q4:=Q3.step x4;have p4:=aA.list hV.fin (fun a=>a4N hV a) [] j3 ws j4 p3.2 x4;simp [aU,a2u,aM,aW,rk,cE,cL,bH,eM,dZ,dC];refine bY (ds:=[.sl (strs [[62]])]) aD (aE l [[62]] j4 p4.2 (by omega) hV.fin (by simp)) (by simp [strs]) (by simp) (fun u5 j5 x5=>?_) (fun n e hx=>by first|exact Q4.fail hx _|(simp;exact Q4.fail hx _)|(simp;exact fun s=>Q4.fail hx s));have Q5:=Q4.step x5;have p5:=aA.exp hV.fin _ _ j4 u5 j5 p4.2 x5;simp;exact Q5.ok _ j5 _ _ rfl (.inr rfl) (by simp [psT,kC])
end
end
end
section
open Go Go.VM
variable {G:GT}
theorem b6m:VM.Enters Tryz.prog 78:=VM.Enters.mk Tryz.func78 rfl
theorem b1Z:VM.Enters Tryz.prog 130:=VM.Enters.mk Tryz.func130 rfl
theorem b2a:VM.Enters Tryz.prog 131:=VM.Enters.mk Tryz.func131 rfl
section
variable {rdP:List Tok→Nat→Nat→kJ Pr} {l:List Tok} (hV:jX G rdP l)
include hV
def vY (out:List Nm×List Ty):List (Nat×aR):=[(100001,.cells [.d (.int .i64 6),.d (.str []),.d (.sl (out.2.map tyC)),.d (.sl (strs out.1)),.d (.int .i64 0),.d (.str []),.d (.int .i64 0),.d (.sl []),.d (.sl [])]),(100002,.cells [.ptr 100000 0])]
abbrev d0n:List (TypeId×List VM.Loc):=[(45,[.c 100001 2]),(9,[.c 100001 3])]
abbrev a1g (l:List Tok)(ty:bE Ty)(out:List Nm×List Ty):bE (List Nm×List Ty):=do
 let w ← cA bD l
 aV l [[58]]
 let t ← ty
 pure (out.1++[w],out.2++[t])
abbrev a0b (ty:bE Ty)(out:List Nm×List Ty):bE (List Nm×List Ty):=do
 let t ← ty
 pure (out.1,out.2++[t])
theorem oN {α:Type}{c:Nm}{one:α→bE α}(I:α→Nat→Prop)(h1:∀a i b j,i<l.length→I a i→one a i= .ok b j→I b j∧j<l.length)(hm:∀a i,I a i→I a (i+1)):∀(g:Nat) (a:α) (i:Nat) (b:α) (j:Nat),i<l.length→I a i→oJ l c one g a i= .ok b j→I b j∧j<l.length
 |0,a,i,b,j,_,_,h=>by unfold oJ at h;cases h
 |g+1,a,i,b,j,hi,ha,h=>by
  unfold oJ at h;split at h
  ·cases h
  ·rename_i b' j' ho;have k1:=h1 a i b' j' hi ha ho;split at h
   ·rename_i hs;exact oN I h1 hm g b' (j'+1) b j (aF hV.fin k1.2 hs) (hm _ _ k1.1) h
   ·cases h;exact k1
theorem b4s:vL l K3 [.ptr 100001 0,.ptr 100002 0] vY d0n:=by
 constructor
 all_goals intros
 all_goals first
  |rfl
  |simp [vY,aJ,aP,aL,aK,aT,getKey,aM,aW,cE,rk,cL,bH, *]
omit hV in
theorem b0D {ty:bE Ty}(a:List Nm×List Ty)(i:Nat)(b:List Nm×List Ty)(j:Nat)(h:a1g l ty a i= .ok b j):b.1.length=a.1.length+1∧b.2.length=a.2.length+1:=by
 simp only [a1g,hZ] at h
 repeat' split at h
 all_goals first|cases h|skip
 all_goals simp
omit hV in
theorem b8W {ty:bE Ty}(a:List Nm×List Ty)(i:Nat)(b:List Nm×List Ty)(j:Nat)(h:a0b ty a i= .ok b j):b.1=a.1∧b.2.length=a.2.length+1:=by
 simp only [a0b,hZ] at h
 repeat' split at h
 all_goals first|cases h|skip
 all_goals simp
section
variable {ty:bE Ty} {low:Nat} (hty:∀i,low≤i→i<l.length→mX G 39 [] l i (ty i) a5Z) (aty:aA l 1 ty)
include hty aty
theorem b6n (out:List Nm×List Ty)(i:Nat)(hlow:low≤i)(hi:i<l.length)(hout:out.1.length≤i∧out.2.length≤i):jG G 130 [.ptr 100001 0,.ptr 100002 0] (vY out) d0n l i (a1g l ty out i) (fun _=> .cF []) vY:=by
 have hl:=hV.len;obtain ⟨j0,rfl⟩:∃j0,j0=i:=⟨_,rfl⟩;have p0:j0≤j0∧j0<l.length:=⟨d3X _,hi⟩;refine jG.cK Tryz.func130 rfl Tryz.ntmps130 rfl (by simp) ?_
 intro Q Q0;simp [vY];refine jA [0] 3 [2] (.op 1 (.call [4,5,6,7] .none) (.call [1,4,5,6,7] .none)) (eK (cA bD l j0)) (by kernel_rfl) (by kernel_rfl) ?_
 simp;refine ⟨?_,?_⟩
 all_goals
  refine rE cH (cR hV.kw l j0 p0.2 (by omega)) (by simp) (by simp) (fun w j1 x1=>?_) (fun n e hx=>by first|exact Q0.fail hx _|(simp;exact Q0.fail hx _)|(simp;exact fun s=>Q0.fail hx s));have Q1:=Q0.step x1;have p1:=aA.word hV.fin j0 w j1 p0.2 x1;refine cO.mk ?_
  simp;refine dH (by omega) ?_
  simp;refine bY (ds:=[.sl (strs [[58]])]) aD (aE l [[58]] j1 p1.2 (by omega) hV.fin (by simp)) (by simp [strs]) (by simp) (fun u2 j2 x2=>?_) (fun n e hx=>by first|exact Q1.fail hx _|(simp;exact Q1.fail hx _)|(simp;exact fun s=>Q1.fail hx s));have Q2:=Q1.step x2;have p2:=aA.exp hV.fin _ _ j1 u2 j2 p1.2 x2;simp;refine cV 6 (t:=28) (e:=45) (T:=45) (s:=13) (z:=17) (r:=18) (p:=19) (q:=16) (x:=15) (b:=20) (y:=0) (fd:=2) [0] 3 [2] (a0f 1 4 5) (eK (ty j2)) rfl rfl rfl rfl rfl (by kernel_rfl) (by kernel_rfl) rfl ?_
  simp
  repeat' apply And.intro
  all_goals
   refine rE cG ((hty j2 (by omega) p2.2)) (by simp) (by simp) (fun t j3 x3=>?_) (fun n e hx=>by first|exact Q2.fail hx _|(simp;exact Q2.fail hx _)|(simp;exact fun s=>Q2.fail hx s));have Q3:=Q2.step x3;have p3:=aty j2 t j3 p2.2 x3;refine cO.mk ?_
   simp;refine ⟨_,_,_,_,_,_,_,_,_,by simp,rfl,rfl,?_,rfl,rfl,?_,by simp,rfl,rfl,rfl,rfl,by decide,rfl,?_⟩
   ·intro c hc
    first
     |(obtain ⟨y,_,rfl⟩:=List.mem_map.1 hc
       rw [cJ]
       rfl)
     |(simp only [d3O] at hc
       subst hc
       rfl)
   ·simp<;>omega
   exact Q3.ok _ j3 .normal _ rfl (.inl rfl) (by simp [vY,cJ,xY])
theorem b6o (out:List Nm×List Ty)(i:Nat)(hlow:low≤i)(hi:i<l.length)(hout:out.1.length≤i∧out.2.length≤i):jG G 131 [.ptr 100001 0,.ptr 100002 0] (vY out) d0n l i (a0b ty out i) (fun _=> .cF []) vY:=by
 have hl:=hV.len;obtain ⟨j2,rfl⟩:∃j2,j2=i:=⟨_,rfl⟩;have p2:j2≤j2∧j2<l.length:=⟨d3X _,hi⟩;refine jG.cK Tryz.func131 rfl Tryz.ntmps131 rfl (by simp) ?_
 intro Q Q2;simp [vY];refine cV 6 (t:=28) (e:=45) (T:=45) (s:=3) (z:=7) (r:=8) (p:=9) (q:=6) (x:=5) (b:=10) (y:=0) (fd:=2) [0] 3 [2] (a0f 1 4 5) (eK (ty j2)) rfl rfl rfl rfl rfl (by kernel_rfl) (by kernel_rfl) rfl ?_
 simp
 repeat' apply And.intro
 all_goals
  refine rE cG ((hty j2 (by omega) p2.2)) (by simp) (by simp) (fun t j3 x3=>?_) (fun n e hx=>by first|exact Q2.fail hx _|(simp;exact Q2.fail hx _)|(simp;exact fun s=>Q2.fail hx s));have Q3:=Q2.step x3;have p3:=aty j2 t j3 p2.2 x3;refine cO.mk ?_
  simp;refine ⟨_,_,_,_,_,_,_,_,_,by simp,rfl,rfl,?_,rfl,rfl,?_,by simp,rfl,rfl,rfl,rfl,by decide,rfl,?_⟩
  ·intro c hc
   first
    |(obtain ⟨y,_,rfl⟩:=List.mem_map.1 hc
      rw [cJ]
      rfl)
    |(simp only [d3O] at hc
      subst hc
      rfl)
  ·simp<;>omega
  exact Q3.ok _ j3 .normal _ rfl (.inl rfl) (by simp [vY,cJ])
theorem a4O (out:List Nm×List Ty):aA l 1 (a1g l ty out):=(aA.word hV.fin).bl fun _=>((aA.exp hV.fin _ _).le (by omega)).bl fun _=>(aty.le (by omega)).bl fun _=>aA.bI _
omit hV in
theorem a1L (out:List Nm×List Ty):aA l 1 (a0b ty out):=aty.bl fun _=>aA.bI _
theorem a7W (a:List Nm×List Ty)(i:Nat)(b:List Nm×List Ty)(j:Nat)(hi:i<l.length)(h:a.1.length≤i∧a.2.length≤i)(hx:a1g l ty a i= .ok b j):(b.1.length≤j∧b.2.length≤j)∧j<l.length:=by have h1:=a4O hV hty aty a i b j hi hx;have h2:=b0D a i b j hx;omega
omit hV in
theorem a2Z (a:List Nm×List Ty)(i:Nat)(b:List Nm×List Ty)(j:Nat)(hi:i<l.length)(h:a.1.length≤i∧a.2.length≤i)(hx:a0b ty a i= .ok b j):(b.1.length≤j∧b.2.length≤j)∧j<l.length:=by have h1:=a1L hty aty a i b j hi hx;have h2:=b8W a i b j hx;rw [h2.1];omega
theorem b8X (i:Nat)(hlow:low≤i+1)(hi:i<l.length):mX G 78 [] l i (yU bD l ty i) a5Z:=by
 have hl:=hV.len;obtain ⟨j0,rfl⟩:∃j0,j0=i:=⟨_,rfl⟩;have p0:j0≤j0∧j0<l.length:=⟨d3X _,hi⟩;refine jG.cK Tryz.func78 rfl Tryz.ntmps78 rfl (by simp) ?_
 intro Q Q0;unfold yU at Q0;simp;refine bY (ds:=[.sl (strs [[40]])]) aD (aE l [[40]] j0 p0.2 (by omega) hV.fin (by simp)) (by simp [strs]) (by simp) (fun u1 j1 x1=>?_) (fun n e hx=>by first|exact Q0.fail hx _|(simp;exact Q0.fail hx _)|(simp;exact fun s=>Q0.fail hx s));have Q1:=Q0.step x1;have p1:=aA.exp hV.fin _ _ j0 u1 j1 p0.2 x1;simp;have ht:=cB (G:=G) l j1 j1 0 (by omega) (by omega) (by intro e;subst e;simp at hi) (by omega);have ht1:=cB (G:=G) l j1 (j1+1) 1 (by omega) (by omega) (by intro e;subst e;simp at hi) (by omega);refine aY (ds:=[.int .i64 0]) bJ ht (by simp) (by simp) ?_
 simp;refine kU.mk gH (jE hV.kw (aZ l j1)) ?_
 have hK:∀(b:Bool),(pF bD (aZ l j1)&&jL (aZ l (j1+1)) [58])=b→((fun i=>if pF bD (aZ l i)&&jL (aZ l (i+1)) [58] then gR l [44] (a1g l ty) ([],[]) i else gR l [44] (a0b ty) ([],[]) i:bE (List Nm×List Ty)) j1)=if b then gR l [44] (a1g l ty) ([],[]) j1 else gR l [44] (a0b ty) ([],[]) j1:=fun b hb=>by simp only [hb]
 have hone1:=dR hV [44] (a1g l ty) (fun out i=>out.1.length≤i∧out.2.length≤i) low b1Z (b4s hV) (fun a=>(a4O hV hty aty a).le (by omega)) (fun a i qM hi h=>b6n hV hty aty a i qM hi h) (fun a i b j hi h hx=>(a7W hV hty aty a i b j hi h hx).1) (fun a i h=>by omega) ([],[]) j1 (by omega) p1.2 (by simp);have hone2:=dR hV [44] (a0b ty) (fun out i=>out.1.length≤i∧out.2.length≤i) low b2a (b4s hV) (fun a=>(a1L hty aty a).le (by omega)) (fun a i qM hi h=>b6o hV hty aty a i qM hi h) (fun a i b j hi h hx=>(a2Z hty aty a i b j hi h hx).1) (fun a i h=>by omega) ([],[]) j1 (by omega) p1.2 (by simp);cases hw:pF bD (aZ l j1) with
 |false=>
  have hx:=hK false (by rw [hw];rfl);rw [if_neg (by decide)] at hx;simp;refine eU.mk (tY cT hone2 [(100000,100000),(100001,3),(100002,1)] (fun a j hx=>?_) ?_ ?_ ?_ rfl rfl (fun ws j2 x2=>?_) (fun n e hx2=>Q1.fail (hx.trans hx2) _))
  ·simp [vY,aJ,aP,aL,aK,aT,getKey]
  ·simp [vY,aJ,aP,aL,aK,aT,getKey]
  ·simp [aM,aW,rk]
  ·simp [vY,aM,aW,rk,cE,cL]
  ·have Q2:=Q1.step (hx.trans x2);have p2:=aA.list hV.fin (fun a=>a1L hty aty a) ([],[]) j1 ws j2 p1.2 x2;have hlen:ws.1.length≤50000∧ws.2.length≤50000:=by have:=oN hV (one:=a0b ty) (fun a i=>a.1.length≤i∧a.2.length≤i) (a2Z hty aty) (fun a i h=>by omega) _ _ _ _ _ p1.2 (by simp) x2;omega
   simp [aU,vY,aM,aW,rk,cE,cL,bH,eM,dZ,dC];obtain ⟨ns,ts⟩:=ws;simp only at Q2 hlen;refine bY (ds:=[.sl (strs [[41]])]) aD (aE l [[41]] j2 p2.2 (by omega) hV.fin (by simp)) (by simp [strs]) (by simp) (fun u3 j3 x3=>?_) (fun n e hx=>by first|exact Q2.fail hx _|(simp;exact Q2.fail hx _)|(simp;exact fun s=>Q2.fail hx s));have Q3:=Q2.step x3;have p3:=aA.exp hV.fin _ _ j2 u3 j3 p2.2 x3;simp;by_cases hn:ns.length=0
   ·have hn0:ns=[]:=List.eq_nil_of_length_eq_zero hn;subst hn0;by_cases h1:ts.length=1
    ·obtain ⟨t,rfl⟩:=List.length_eq_one_iff.1 h1;have hb:=eY (G:=G) l j3 [45,62] p3.2 (by omega);simp;refine aY (ds:=[.str [45,62]]) dV hb (by simp) (by simp) ?_
     cases hs:aQ l j3 [45,62] with
     |false=>have Q3:=Q3.ifp (by simp [hs]);simp;exact Q3.ok _ j3 _ _ rfl (.inr rfl) (by simp [cJ])
     |true=>
      have Q3:=Q3.vX (by simp [hs]);simp;refine bY (ds:=[.sl (strs [[45,62]])]) aD (aE l [[45,62]] j3 p3.2 (by omega) hV.fin (by simp)) (by simp [strs]) (by simp) (fun u4 j4 x4=>?_) (fun n e hx=>by first|exact Q3.fail hx _|(simp;exact Q3.fail hx _)|(simp;exact fun s=>Q3.fail hx s));have Q4:=Q3.step x4;have p4:=aA.exp hV.fin _ _ j3 u4 j4 p3.2 x4;simp;refine cV 6 (t:=28) (e:=45) (T:=45) (s:=48) (z:=52) (r:=53) (p:=54) (q:=51) (x:=50) (b:=55) (y:=3) (fd:=2) [0] 3 [2] (a0f 1 4 5) (eK (ty j4)) rfl rfl rfl rfl rfl (by kernel_rfl) (by kernel_rfl) rfl ?_
      simp
      repeat' apply And.intro
      all_goals
       refine rE cG ((hty j4 (by omega) p4.2)) (by simp) (by simp) (fun t5 j5 x5=>?_) (fun n e hx=>by first|exact Q4.fail hx _|(simp;exact Q4.fail hx _)|(simp;exact fun s=>Q4.fail hx s));have Q5:=Q4.step x5;have p5:=aty j4 t5 j5 p4.2 x5;refine cO.mk ?_
       simp;refine ⟨_,_,_,_,_,_,_,_,_,by simp,rfl,rfl,?_,rfl,rfl,?_,by simp,rfl,rfl,rfl,rfl,by decide,rfl,?_⟩
       ·intro c hc
        first
         |(obtain ⟨y,_,rfl⟩:=List.mem_map.1 hc
           rw [cJ]
           rfl)
         |(simp only [d3O] at hc
           subst hc
           rfl)
       ·simp<;>omega
       simp;exact Q5.ok _ j5 _ _ rfl (.inr rfl) (by simp [psT,kC,cJ])
    ·have Q3:=Q3.vX (by simp [h1]);simp [h1];refine bY (ds:=[.sl (strs [[45,62]])]) aD (aE l [[45,62]] j3 p3.2 (by omega) hV.fin (by simp)) (by simp [strs]) (by simp) (fun u4 j4 x4=>?_) (fun n e hx=>by first|exact Q3.fail hx _|(simp;exact Q3.fail hx _)|(simp;exact fun s=>Q3.fail hx s));have Q4:=Q3.step x4;have p4:=aA.exp hV.fin _ _ j3 u4 j4 p3.2 x4;simp;refine cV 6 (t:=28) (e:=45) (T:=45) (s:=48) (z:=52) (r:=53) (p:=54) (q:=51) (x:=50) (b:=55) (y:=3) (fd:=2) [0] 3 [2] (a0f 1 4 5) (eK (ty j4)) rfl rfl rfl rfl rfl (by kernel_rfl) (by kernel_rfl) rfl ?_
     simp
     repeat' apply And.intro
     all_goals
      refine rE cG ((hty j4 (by omega) p4.2)) (by simp) (by simp) (fun t5 j5 x5=>?_) (fun n e hx=>by first|exact Q4.fail hx _|(simp;exact Q4.fail hx _)|(simp;exact fun s=>Q4.fail hx s));have Q5:=Q4.step x5;have p5:=aty j4 t5 j5 p4.2 x5;refine cO.mk ?_
      simp;refine ⟨_,_,_,_,_,_,_,_,_,by simp,rfl,rfl,?_,rfl,rfl,?_,by simp,rfl,rfl,rfl,rfl,by decide,rfl,?_⟩
      ·intro c hc
       first
        |(obtain ⟨y,_,rfl⟩:=List.mem_map.1 hc
          rw [cJ]
          rfl)
        |(simp only [d3O] at hc
          subst hc
          rfl)
      ·simp<;>omega
      simp;exact Q5.ok _ j5 _ _ rfl (.inr rfl) (by simp [psT,kC,cJ])
   ·have Q3:=Q3.vX (by simp [hn]);have hn': ¬(ns.length:Int)=0:=by omega
    have hn2: ¬ns=[]:=fun e=>hn (by rw [e];rfl)
    simp [hn,hn',hn2];refine bY (ds:=[.sl (strs [[45,62]])]) aD (aE l [[45,62]] j3 p3.2 (by omega) hV.fin (by simp)) (by simp [strs]) (by simp) (fun u4 j4 x4=>?_) (fun n e hx=>by first|exact Q3.fail hx _|(simp;exact Q3.fail hx _)|(simp;exact fun s=>Q3.fail hx s));have Q4:=Q3.step x4;have p4:=aA.exp hV.fin _ _ j3 u4 j4 p3.2 x4;simp;refine cV 6 (t:=28) (e:=45) (T:=45) (s:=48) (z:=52) (r:=53) (p:=54) (q:=51) (x:=50) (b:=55) (y:=3) (fd:=2) [0] 3 [2] (a0f 1 4 5) (eK (ty j4)) rfl rfl rfl rfl rfl (by kernel_rfl) (by kernel_rfl) rfl ?_
    simp
    repeat' apply And.intro
    all_goals
     refine rE cG ((hty j4 (by omega) p4.2)) (by simp) (by simp) (fun t5 j5 x5=>?_) (fun n e hx=>by first|exact Q4.fail hx _|(simp;exact Q4.fail hx _)|(simp;exact fun s=>Q4.fail hx s));have Q5:=Q4.step x5;have p5:=aty j4 t5 j5 p4.2 x5;refine cO.mk ?_
     simp;refine ⟨_,_,_,_,_,_,_,_,_,by simp,rfl,rfl,?_,rfl,rfl,?_,by simp,rfl,rfl,rfl,rfl,by decide,rfl,?_⟩
     ·intro c hc
      first
       |(obtain ⟨y,_,rfl⟩:=List.mem_map.1 hc
         rw [cJ]
         rfl)
       |(simp only [d3O] at hc
         subst hc
         rfl)
     ·simp<;>omega
     simp;exact Q5.ok _ j5 _ _ rfl (.inr rfl) (by simp [psT,kC,cJ])
 |true=>
  simp;refine aY (ds:=[.int .i64 1]) bJ ht1 (by simp) (by simp) ?_
  simp;refine kU.mk gT (jN (aZ l (j1+1)) [58]) ?_
  cases hf:jL (aZ l (j1+1)) [58] with
  |false=>
   have hx:=hK false (by rw [hw,hf];rfl);rw [if_neg (by decide)] at hx;simp;refine eU.mk (tY cT hone2 [(100000,100000),(100001,3),(100002,1)] (fun a j hx=>?_) ?_ ?_ ?_ rfl rfl (fun ws j2 x2=>?_) (fun n e hx2=>Q1.fail (hx.trans hx2) _))
   ·simp [vY,aJ,aP,aL,aK,aT,getKey]
   ·simp [vY,aJ,aP,aL,aK,aT,getKey]
   ·simp [aM,aW,rk]
   ·simp [vY,aM,aW,rk,cE,cL]
   ·have Q2:=Q1.step (hx.trans x2);have p2:=aA.list hV.fin (fun a=>a1L hty aty a) ([],[]) j1 ws j2 p1.2 x2;have hlen:ws.1.length≤50000∧ws.2.length≤50000:=by have:=oN hV (one:=a0b ty) (fun a i=>a.1.length≤i∧a.2.length≤i) (a2Z hty aty) (fun a i h=>by omega) _ _ _ _ _ p1.2 (by simp) x2;omega
    simp [aU,vY,aM,aW,rk,cE,cL,bH,eM,dZ,dC];obtain ⟨ns,ts⟩:=ws;simp only at Q2 hlen;refine bY (ds:=[.sl (strs [[41]])]) aD (aE l [[41]] j2 p2.2 (by omega) hV.fin (by simp)) (by simp [strs]) (by simp) (fun u3 j3 x3=>?_) (fun n e hx=>by first|exact Q2.fail hx _|(simp;exact Q2.fail hx _)|(simp;exact fun s=>Q2.fail hx s));have Q3:=Q2.step x3;have p3:=aA.exp hV.fin _ _ j2 u3 j3 p2.2 x3;simp;by_cases hn:ns.length=0
    ·have hn0:ns=[]:=List.eq_nil_of_length_eq_zero hn;subst hn0;by_cases h1:ts.length=1
     ·obtain ⟨t,rfl⟩:=List.length_eq_one_iff.1 h1;have hb:=eY (G:=G) l j3 [45,62] p3.2 (by omega);simp;refine aY (ds:=[.str [45,62]]) dV hb (by simp) (by simp) ?_
      cases hs:aQ l j3 [45,62] with
      |false=>have Q3:=Q3.ifp (by simp [hs]);simp;exact Q3.ok _ j3 _ _ rfl (.inr rfl) (by simp [cJ])
      |true=>
       have Q3:=Q3.vX (by simp [hs]);simp;refine bY (ds:=[.sl (strs [[45,62]])]) aD (aE l [[45,62]] j3 p3.2 (by omega) hV.fin (by simp)) (by simp [strs]) (by simp) (fun u4 j4 x4=>?_) (fun n e hx=>by first|exact Q3.fail hx _|(simp;exact Q3.fail hx _)|(simp;exact fun s=>Q3.fail hx s));have Q4:=Q3.step x4;have p4:=aA.exp hV.fin _ _ j3 u4 j4 p3.2 x4;simp;refine cV 6 (t:=28) (e:=45) (T:=45) (s:=48) (z:=52) (r:=53) (p:=54) (q:=51) (x:=50) (b:=55) (y:=3) (fd:=2) [0] 3 [2] (a0f 1 4 5) (eK (ty j4)) rfl rfl rfl rfl rfl (by kernel_rfl) (by kernel_rfl) rfl ?_
       simp
       repeat' apply And.intro
       all_goals
        refine rE cG ((hty j4 (by omega) p4.2)) (by simp) (by simp) (fun t5 j5 x5=>?_) (fun n e hx=>by first|exact Q4.fail hx _|(simp;exact Q4.fail hx _)|(simp;exact fun s=>Q4.fail hx s));have Q5:=Q4.step x5;have p5:=aty j4 t5 j5 p4.2 x5;refine cO.mk ?_
        simp;refine ⟨_,_,_,_,_,_,_,_,_,by simp,rfl,rfl,?_,rfl,rfl,?_,by simp,rfl,rfl,rfl,rfl,by decide,rfl,?_⟩
        ·intro c hc
         first
          |(obtain ⟨y,_,rfl⟩:=List.mem_map.1 hc
            rw [cJ]
            rfl)
          |(simp only [d3O] at hc
            subst hc
            rfl)
        ·simp<;>omega
        simp;exact Q5.ok _ j5 _ _ rfl (.inr rfl) (by simp [psT,kC,cJ])
     ·have Q3:=Q3.vX (by simp [h1]);simp [h1];refine bY (ds:=[.sl (strs [[45,62]])]) aD (aE l [[45,62]] j3 p3.2 (by omega) hV.fin (by simp)) (by simp [strs]) (by simp) (fun u4 j4 x4=>?_) (fun n e hx=>by first|exact Q3.fail hx _|(simp;exact Q3.fail hx _)|(simp;exact fun s=>Q3.fail hx s));have Q4:=Q3.step x4;have p4:=aA.exp hV.fin _ _ j3 u4 j4 p3.2 x4;simp;refine cV 6 (t:=28) (e:=45) (T:=45) (s:=48) (z:=52) (r:=53) (p:=54) (q:=51) (x:=50) (b:=55) (y:=3) (fd:=2) [0] 3 [2] (a0f 1 4 5) (eK (ty j4)) rfl rfl rfl rfl rfl (by kernel_rfl) (by kernel_rfl) rfl ?_
      simp
      repeat' apply And.intro
      all_goals
       refine rE cG ((hty j4 (by omega) p4.2)) (by simp) (by simp) (fun t5 j5 x5=>?_) (fun n e hx=>by first|exact Q4.fail hx _|(simp;exact Q4.fail hx _)|(simp;exact fun s=>Q4.fail hx s));have Q5:=Q4.step x5;have p5:=aty j4 t5 j5 p4.2 x5;refine cO.mk ?_
       simp;refine ⟨_,_,_,_,_,_,_,_,_,by simp,rfl,rfl,?_,rfl,rfl,?_,by simp,rfl,rfl,rfl,rfl,by decide,rfl,?_⟩
       ·intro c hc
        first
         |(obtain ⟨y,_,rfl⟩:=List.mem_map.1 hc
           rw [cJ]
           rfl)
         |(simp only [d3O] at hc
           subst hc
           rfl)
       ·simp<;>omega
       simp;exact Q5.ok _ j5 _ _ rfl (.inr rfl) (by simp [psT,kC,cJ])
    ·have Q3:=Q3.vX (by simp [hn]);have hn': ¬(ns.length:Int)=0:=by omega
     have hn2: ¬ns=[]:=fun e=>hn (by rw [e];rfl)
     simp [hn,hn',hn2];refine bY (ds:=[.sl (strs [[45,62]])]) aD (aE l [[45,62]] j3 p3.2 (by omega) hV.fin (by simp)) (by simp [strs]) (by simp) (fun u4 j4 x4=>?_) (fun n e hx=>by first|exact Q3.fail hx _|(simp;exact Q3.fail hx _)|(simp;exact fun s=>Q3.fail hx s));have Q4:=Q3.step x4;have p4:=aA.exp hV.fin _ _ j3 u4 j4 p3.2 x4;simp;refine cV 6 (t:=28) (e:=45) (T:=45) (s:=48) (z:=52) (r:=53) (p:=54) (q:=51) (x:=50) (b:=55) (y:=3) (fd:=2) [0] 3 [2] (a0f 1 4 5) (eK (ty j4)) rfl rfl rfl rfl rfl (by kernel_rfl) (by kernel_rfl) rfl ?_
     simp
     repeat' apply And.intro
     all_goals
      refine rE cG ((hty j4 (by omega) p4.2)) (by simp) (by simp) (fun t5 j5 x5=>?_) (fun n e hx=>by first|exact Q4.fail hx _|(simp;exact Q4.fail hx _)|(simp;exact fun s=>Q4.fail hx s));have Q5:=Q4.step x5;have p5:=aty j4 t5 j5 p4.2 x5;refine cO.mk ?_
      simp;refine ⟨_,_,_,_,_,_,_,_,_,by simp,rfl,rfl,?_,rfl,rfl,?_,by simp,rfl,rfl,rfl,rfl,by decide,rfl,?_⟩
      ·intro c hc
       first
        |(obtain ⟨y,_,rfl⟩:=List.mem_map.1 hc
          rw [cJ]
          rfl)
        |(simp only [d3O] at hc
          subst hc
          rfl)
      ·simp<;>omega
      simp;exact Q5.ok _ j5 _ _ rfl (.inr rfl) (by simp [psT,kC,cJ])
  |true=>
   have hx:=hK true (by rw [hw,hf];rfl);rw [if_pos rfl] at hx;simp;refine eU.mk (tY cT hone1 [(100000,100000),(100001,3),(100002,1)] (fun a j hx=>?_) ?_ ?_ ?_ rfl rfl (fun ws j2 x2=>?_) (fun n e hx2=>Q1.fail (hx.trans hx2) _))
   ·simp [vY,aJ,aP,aL,aK,aT,getKey]
   ·simp [vY,aJ,aP,aL,aK,aT,getKey]
   ·simp [aM,aW,rk]
   ·simp [vY,aM,aW,rk,cE,cL]
   ·have Q2:=Q1.step (hx.trans x2);have p2:=aA.list hV.fin (fun a=>a4O hV hty aty a) ([],[]) j1 ws j2 p1.2 x2;have hlen:ws.1.length≤50000∧ws.2.length≤50000:=by have:=oN hV (one:=a1g l ty) (fun a i=>a.1.length≤i∧a.2.length≤i) (a7W hV hty aty) (fun a i h=>by omega) _ _ _ _ _ p1.2 (by simp) x2;omega
    simp [aU,vY,aM,aW,rk,cE,cL,bH,eM,dZ,dC];obtain ⟨ns,ts⟩:=ws;simp only at Q2 hlen;refine bY (ds:=[.sl (strs [[41]])]) aD (aE l [[41]] j2 p2.2 (by omega) hV.fin (by simp)) (by simp [strs]) (by simp) (fun u3 j3 x3=>?_) (fun n e hx=>by first|exact Q2.fail hx _|(simp;exact Q2.fail hx _)|(simp;exact fun s=>Q2.fail hx s));have Q3:=Q2.step x3;have p3:=aA.exp hV.fin _ _ j2 u3 j3 p2.2 x3;simp;by_cases hn:ns.length=0
    ·have hn0:ns=[]:=List.eq_nil_of_length_eq_zero hn;subst hn0;by_cases h1:ts.length=1
     ·obtain ⟨t,rfl⟩:=List.length_eq_one_iff.1 h1;have hb:=eY (G:=G) l j3 [45,62] p3.2 (by omega);simp;refine aY (ds:=[.str [45,62]]) dV hb (by simp) (by simp) ?_
      cases hs:aQ l j3 [45,62] with
      |false=>have Q3:=Q3.ifp (by simp [hs]);simp;exact Q3.ok _ j3 _ _ rfl (.inr rfl) (by simp [cJ])
      |true=>
       have Q3:=Q3.vX (by simp [hs]);simp;refine bY (ds:=[.sl (strs [[45,62]])]) aD (aE l [[45,62]] j3 p3.2 (by omega) hV.fin (by simp)) (by simp [strs]) (by simp) (fun u4 j4 x4=>?_) (fun n e hx=>by first|exact Q3.fail hx _|(simp;exact Q3.fail hx _)|(simp;exact fun s=>Q3.fail hx s));have Q4:=Q3.step x4;have p4:=aA.exp hV.fin _ _ j3 u4 j4 p3.2 x4;simp;refine cV 6 (t:=28) (e:=45) (T:=45) (s:=48) (z:=52) (r:=53) (p:=54) (q:=51) (x:=50) (b:=55) (y:=3) (fd:=2) [0] 3 [2] (a0f 1 4 5) (eK (ty j4)) rfl rfl rfl rfl rfl (by kernel_rfl) (by kernel_rfl) rfl ?_
       simp
       repeat' apply And.intro
       all_goals
        refine rE cG ((hty j4 (by omega) p4.2)) (by simp) (by simp) (fun t5 j5 x5=>?_) (fun n e hx=>by first|exact Q4.fail hx _|(simp;exact Q4.fail hx _)|(simp;exact fun s=>Q4.fail hx s));have Q5:=Q4.step x5;have p5:=aty j4 t5 j5 p4.2 x5;refine cO.mk ?_
        simp;refine ⟨_,_,_,_,_,_,_,_,_,by simp,rfl,rfl,?_,rfl,rfl,?_,by simp,rfl,rfl,rfl,rfl,by decide,rfl,?_⟩
        ·intro c hc
         first
          |(obtain ⟨y,_,rfl⟩:=List.mem_map.1 hc
            rw [cJ]
            rfl)
          |(simp only [d3O] at hc
            subst hc
            rfl)
        ·simp<;>omega
        simp;exact Q5.ok _ j5 _ _ rfl (.inr rfl) (by simp [psT,kC,cJ])
     ·have Q3:=Q3.vX (by simp [h1]);simp [h1];refine bY (ds:=[.sl (strs [[45,62]])]) aD (aE l [[45,62]] j3 p3.2 (by omega) hV.fin (by simp)) (by simp [strs]) (by simp) (fun u4 j4 x4=>?_) (fun n e hx=>by first|exact Q3.fail hx _|(simp;exact Q3.fail hx _)|(simp;exact fun s=>Q3.fail hx s));have Q4:=Q3.step x4;have p4:=aA.exp hV.fin _ _ j3 u4 j4 p3.2 x4;simp;refine cV 6 (t:=28) (e:=45) (T:=45) (s:=48) (z:=52) (r:=53) (p:=54) (q:=51) (x:=50) (b:=55) (y:=3) (fd:=2) [0] 3 [2] (a0f 1 4 5) (eK (ty j4)) rfl rfl rfl rfl rfl (by kernel_rfl) (by kernel_rfl) rfl ?_
      simp
      repeat' apply And.intro
      all_goals
       refine rE cG ((hty j4 (by omega) p4.2)) (by simp) (by simp) (fun t5 j5 x5=>?_) (fun n e hx=>by first|exact Q4.fail hx _|(simp;exact Q4.fail hx _)|(simp;exact fun s=>Q4.fail hx s));have Q5:=Q4.step x5;have p5:=aty j4 t5 j5 p4.2 x5;refine cO.mk ?_
       simp;refine ⟨_,_,_,_,_,_,_,_,_,by simp,rfl,rfl,?_,rfl,rfl,?_,by simp,rfl,rfl,rfl,rfl,by decide,rfl,?_⟩
       ·intro c hc
        first
         |(obtain ⟨y,_,rfl⟩:=List.mem_map.1 hc
           rw [cJ]
           rfl)
         |(simp only [d3O] at hc
           subst hc
           rfl)
       ·simp<;>omega
       simp;exact Q5.ok _ j5 _ _ rfl (.inr rfl) (by simp [psT,kC,cJ])
    ·have Q3:=Q3.vX (by simp [hn]);have hn': ¬(ns.length:Int)=0:=by omega
     have hn2: ¬ns=[]:=fun e=>hn (by rw [e];rfl)
     simp [hn,hn',hn2];refine bY (ds:=[.sl (strs [[45,62]])]) aD (aE l [[45,62]] j3 p3.2 (by omega) hV.fin (by simp)) (by simp [strs]) (by simp) (fun u4 j4 x4=>?_) (fun n e hx=>by first|exact Q3.fail hx _|(simp;exact Q3.fail hx _)|(simp;exact fun s=>Q3.fail hx s));have Q4:=Q3.step x4;have p4:=aA.exp hV.fin _ _ j3 u4 j4 p3.2 x4;simp;refine cV 6 (t:=28) (e:=45) (T:=45) (s:=48) (z:=52) (r:=53) (p:=54) (q:=51) (x:=50) (b:=55) (y:=3) (fd:=2) [0] 3 [2] (a0f 1 4 5) (eK (ty j4)) rfl rfl rfl rfl rfl (by kernel_rfl) (by kernel_rfl) rfl ?_
     simp
     repeat' apply And.intro
     all_goals
      refine rE cG ((hty j4 (by omega) p4.2)) (by simp) (by simp) (fun t5 j5 x5=>?_) (fun n e hx=>by first|exact Q4.fail hx _|(simp;exact Q4.fail hx _)|(simp;exact fun s=>Q4.fail hx s));have Q5:=Q4.step x5;have p5:=aty j4 t5 j5 p4.2 x5;refine cO.mk ?_
      simp;refine ⟨_,_,_,_,_,_,_,_,_,by simp,rfl,rfl,?_,rfl,rfl,?_,by simp,rfl,rfl,rfl,rfl,by decide,rfl,?_⟩
      ·intro c hc
       first
        |(obtain ⟨y,_,rfl⟩:=List.mem_map.1 hc
          rw [cJ]
          rfl)
        |(simp only [d3O] at hc
          subst hc
          rfl)
      ·simp<;>omega
      simp;exact Q5.ok _ j5 _ _ rfl (.inr rfl) (by simp [psT,kC,cJ])
end
end
end
section
open Go Go.VM
variable {G:GT}
theorem tK:VM.Enters Tryz.prog 272:=VM.Enters.mk Tryz.func272 rfl
theorem a4h:VM.Enters Tryz.prog 282:=VM.Enters.mk Tryz.func282 rfl
section
variable {rdP:List Tok→Nat→Nat→kJ Pr} {l:List Tok} (hV:jX G rdP l)
include hV
section
variable {ty:bE Ty} {low:Nat} (hty:∀i,low≤i→i<l.length→mX G 39 [] l i (ty i) a5Z) (aty:aA l 1 ty) (ity:∀i t j,i<l.length→ty i= .ok t j→TyI t i j)
include hty aty ity
theorem b8Y (i:Nat)(hlow:low≤i+1)(hi:i<l.length):mX G 39 [] l i (vD bD bW rdP l ty i) a5Z:=by
 have hl:=hV.len;obtain ⟨j0,rfl⟩:∃j0,j0=i:=⟨_,rfl⟩;have p0:j0≤j0∧j0<l.length:=⟨d3X _,hi⟩;have ht:=cB (G:=G) l j0 j0 0 (by omega) (by omega) (by intro e;subst e;simp at hi) (by omega);refine jG.cK Tryz.func39 rfl Tryz.ntmps39 rfl (by simp) ?_
 intro Q Q0;unfold vD at Q0;simp;refine bY a5N (a7U hV j0 hi) (by simp) (by simp) (fun o j1 x1=>?_) (fun n e hx=>by first|exact Q0.fail hx _|(simp;exact Q0.fail hx _)|(simp;exact fun s=>Q0.fail hx s));have Q1:=Q0.step x1;have p1:=aA.base hV.fin j0 o j1 p0.2 x1;cases o with
 |some t=>obtain ⟨op,nm,args,ns,p,ps⟩:=t;simp;exact Q1.ok _ j1 _ _ rfl (.inr rfl) (by simp)
 |none=>
 have hj:=qH x1;subst hj;simp only at Q1;simp [rR,kC];refine aY (ds:=[.int .i64 0]) bJ ht (by simp) (by simp) ?_
 cases hti:pY (aZ l j1) with
 |true=>
  rw [hti,if_pos rfl] at Q1;have hk:(aZ l j1).kind=2:=by simpa [pY] using hti
  generalize aZ l j1=T at hk ⊢;obtain ⟨k,x,n,ln⟩:=T;simp only at hk;subst hk;simp [cC];refine bY (ds:=[]) b4p (b6l hV hty (aty.le (by omega)) ity j1 hlow p1.2) (by simp) (by simp) (fun t j h=>?_) (fun n e h=>Q1.bad n e _ h);simp;exact Q1.ok t j _ _ h (.inr rfl) (by simp)
 |false=>
  rw [hti,if_neg (by decide)] at Q1;have hk: ¬(aZ l j1).kind=2:=by simpa [pY] using hti
  generalize aZ l j1=T at hk ⊢;obtain ⟨k,x,n,ln⟩:=T;simp only at hk;simp [cC,hk];have hb:=eY (G:=G) l j1 [123] p1.2 (by omega);refine aY (ds:=[.str [123]]) dV hb (by simp) (by simp) ?_
  cases hs:aQ l j1 [123] with
  |true=>rw [hs,if_pos rfl] at Q1;simp;refine bY (ds:=[]) a1f (a2t hV hty (aty.le (by omega)) ity j1 hlow p1.2) (by simp) (by simp) (fun t j h=>?_) (fun n e h=>Q1.bad n e _ h);simp;exact Q1.ok t j _ _ h (.inr rfl) (by simp)
  |false=>rw [hs,if_neg (by decide)] at Q1;simp;refine bY (ds:=[]) b6m (b8X hV hty aty j1 hlow p1.2) (by simp) (by simp) (fun t j h=>?_) (fun n e h=>Q1.bad n e _ h);simp;exact Q1.ok t j _ _ h (.inr rfl) (by simp)
end
theorem a7X (op:Int)(nm:Nm)(args:List Ty)(ns:List Nm)(ps:List Pr){i j:Nat}(h:i≤j):TyI ⟨op,nm,args,ns,kC,ps⟩ i j:=by refine ⟨fun _=>rfl,?_⟩;simp [kC,cW,dG];omega
theorem b7y {p q:Pr}{s r:Pr×Bool}(hp:p.op≠0)(hs:s.1.op≠0)(h:a9r p s=some r):r.1.op≠0:=by
 unfold a9r at h;split at h
 ·cases h;exact hs
 split at h
 ·cases h
 split at h
 ·cases h;simp
 ·cases h;exact hp
theorem b2b (b:Bool):(a1a b).op≠0:=by cases b<;>simp [a1a,b6h,c6j]
theorem c6o {a b:Pr}(ha:a.op≠0)(hb:b.op≠0):(bW a b).op≠0:=by
 unfold bW a7S;cases h1:a9r a (a1a true,false) with
 |none=>exact b2b hV false
 |some s=>
  have k1:=b7y hV (q:=a) ha (b2b hV true) h1;simp only [a7S];cases h2:a9r b s with
  |none=>exact b2b hV false
  |some r=>exact b7y hV (q:=b) hb k1 h2
theorem c1H {a b:Pr}:cW (bW a b)≤cW a+cW b+1:=by
 have pos:∀p:Pr,1≤cW p:=fun p=>by cases p;simp [cW]
 have ha:=pos a;have hb:=pos b;unfold bW a7S;cases h1:a9r a (a1a true,false) with
 |none=>simp only [a7T];omega
 |some s=>
  have k1:cW s.1≤cW a∧(s.2=false→cW s.1=1):=by
   unfold a9r at h1;split at h1
   ·cases h1;simp only [a7T];exact ⟨ha,fun _=>trivial⟩
   split at h1
   ·cases h1
   simp only [Bool.false_eq_true,if_false,d3N] at h1;subst h1;exact ⟨d3X _,fun h=>by cases h⟩
  simp only [a7S];cases h2:a9r b s with
  |none=>simp only [a7T];omega
  |some r=>
   simp only;unfold a9r at h2;split at h2
   ·cases h2;omega
   split at h2
   ·cases h2
   split at h2
   ·cases h2;simp only [c1G];omega
   ·cases h2;simp only;omega
omit hV in
theorem bT {α β:Type}{x:bE α}{f:α→bE β}{i j:Nat}{b:β}(h:(x >>=f) i= .ok b j):∃a k,x i= .ok a k∧f a k= .ok b j:=by
 rw [hZ] at h;cases hx:x i with
 |bad n e=>rw [hx] at h;cases h
 |ok a k=>rw [hx] at h;exact ⟨a,k,rfl,h⟩
theorem b8Z {ty:bE Ty}(i:Nat)(t:Ty)(j:Nat)(h:tV bD bW rdP l ty i= .ok t j):t.pred=kC:=by
 unfold tV at h;obtain ⟨nm,k1,_,h⟩:=bT h;obtain ⟨args,k2,_,h⟩:=bT h;obtain ⟨b,k3,_,h⟩:=bT h;cases b with
 |true=>rw [if_pos rfl] at h;obtain ⟨ps,k4,_,h⟩:=bT h;obtain ⟨_,k5,_,h⟩:=bT h;cases h;rfl
 |false=>rw [if_neg (by decide)] at h;cases h;rfl
theorem c1I {ty:bE Ty}(aty:aA l 1 ty)(ity:∀i t j,i<l.length→ty i= .ok t j→TyI t i j)(i:Nat)(t:Ty)(j:Nat)(hi:i<l.length)(h:tF bW rdP l ty i= .ok t j):TyI t i j:=by
 unfold tF at h;obtain ⟨_,k1,h1,h⟩:=bT h;obtain ⟨t1,k2,h2,h⟩:=bT h;have a1:=aA.exp hV.fin _ _ i _ k1 hi h1;have a2:=aty k1 t1 k2 a1.2 h2;have i2:=ity k1 t1 k2 a1.2 h2;split at h
 ·unfold dQ at h;cases h
 obtain ⟨_,k3,h3,h⟩:=bT h;obtain ⟨p,k4,h4,h⟩:=bT h;obtain ⟨_,k5,h5,h⟩:=bT h;have a3:=aA.exp hV.fin _ _ k2 _ k3 a2.2 h3;have a4:=hV.tM.pred k3 p k4 a3.2 h4;have a5:=aA.exp hV.fin _ _ k4 _ k5 a4.2 h5;have hp:=hV.nod k3 _ p k4 a3.2 h4;cases h;unfold TyI at i2 ⊢;simp only;by_cases hz:t1.pred.op=0
 ·rw [if_pos hz];exact ⟨fun h=>(hp.2 h).elim,by omega⟩
 ·rw [if_neg hz];have hn:=c1H hV (a:=t1.pred) (b:=p);exact ⟨fun h=>(c6o hV hz hp.2 h).elim,by omega⟩
theorem c1J {ty:bE Ty}(aty:aA l 1 ty)(ity:∀i t j,i<l.length→ty i= .ok t j→TyI t i j)(i:Nat)(t:Ty)(j:Nat)(hi:i<l.length)(h:yU bD l ty i= .ok t j):TyI t i j:=by
 have hadv:=aA.c5P (kw:=bD) hV.fin (aty.le (by omega)) hV.tM.pred i t j hi h;unfold yU at h;obtain ⟨_,k1,h1,h⟩:=bT h;obtain ⟨⟨ns,ts⟩,k2,h2,h⟩:=bT h;obtain ⟨_,k3,h3,h⟩:=bT h;have a1:=aA.exp hV.fin _ _ i _ k1 hi h1;simp only at h2 h3 h;have hI:∀(x:bE (List Nm×List Ty)),(∀(I:List Nm×List Ty→Nat→Prop),I ([],[]) k1→(∀a p b q,p<l.length→k1≤p→I a p→(a1g l ty a p= .ok b q∨a0b ty a p= .ok b q)→I b q∧q<l.length∧k1≤q)→(∀a p,I a p→I a (p+1))→x k1= .ok (ns,ts) k2→I (ns,ts) k2∧k2<l.length)→x k1= .ok (ns,ts) k2→(∀t∈ts,(t.pred.op=0→t.pred=a4K)∧cW t.pred+k1≤k2+1)∧k2<l.length:=fun x hx hx2=>by
  refine hx (fun a p=>∀t∈a.2,(t.pred.op=0→t.pred=a4K)∧cW t.pred+k1≤p+1) (by simp) (fun a p b q hp hk ha hab=>?_) (fun a p ha t ht=>by have:=ha t ht;exact ⟨this.1,by omega⟩) hx2;have key:∀t q',∀p',p≤p'→p'<l.length→ty p'= .ok t q'→(t.pred.op=0→t.pred=a4K)∧cW t.pred+k1≤q'+1∧q'<l.length∧p≤q':=fun t q' p' h1 h2 h3=>by have b1:=ity p' t q' h2 h3;have b2:=aty p' t q' h2 h3;exact ⟨b1.1,by have:=b1.2;omega,b2.2,by omega⟩
  rcases hab with hab|hab
  ·obtain ⟨w,m1,e1,hab⟩:=bT hab;obtain ⟨_,m2,e2,hab⟩:=bT hab;obtain ⟨t',m3,e3,hab⟩:=bT hab;have c1:=aA.word (kw:=bD) hV.fin p w m1 hp e1;have c2:=aA.exp hV.fin _ _ m1 _ m2 c1.2 e2;have c3:=key t' m3 m2 (by omega) c2.2 e3;cases hab;refine ⟨fun t ht=>?_,c3.2.2.1,by omega⟩;simp only [List.mem_append,d3O] at ht;rcases ht with ht|rfl
   ·have:=ha t ht;exact ⟨this.1,by omega⟩
   ·exact ⟨c3.1,c3.2.1⟩
  ·obtain ⟨t',m3,e3,hab⟩:=bT hab;have c3:=key t' m3 p (d3X _) hp e3;cases hab;refine ⟨fun t ht=>?_,c3.2.2.1,by omega⟩;simp only [List.mem_append,d3O] at ht;rcases ht with ht|rfl
   ·have:=ha t ht;exact ⟨this.1,by omega⟩
   ·exact ⟨c3.1,c3.2.1⟩
 have hA:(∀t∈ts,(t.pred.op=0→t.pred=a4K)∧cW t.pred+k1≤k2+1)∧k2<l.length:=by
  split at h2
  ·refine hI _ (fun I h0 hs hm hx=>?_) h2;have:=oN hV (one:=a1g l ty) (fun a p=>k1≤p∧I a p) (fun a p b q hp ha hab=>by have:=hs a p b q hp ha.1 ha.2 (.inl hab);exact ⟨⟨this.2.2,this.1⟩,this.2.1⟩) (fun a p h=>⟨by omega,hm a p h.2⟩) _ _ _ _ _ a1.2 ⟨d3X _,h0⟩ hx
   exact ⟨this.1.2,this.2⟩
  ·refine hI _ (fun I h0 hs hm hx=>?_) h2;have:=oN hV (one:=a0b ty) (fun a p=>k1≤p∧I a p) (fun a p b q hp ha hab=>by have:=hs a p b q hp ha.1 ha.2 (.inr hab);exact ⟨⟨this.2.2,this.1⟩,this.2.1⟩) (fun a p h=>⟨by omega,hm a p h.2⟩) _ _ _ _ _ a1.2 ⟨d3X _,h0⟩ hx
   exact ⟨this.1.2,this.2⟩
 have a3:=aA.exp hV.fin _ _ k2 _ k3 hA.2 h3;split at h
 ·rename_i hc;simp only [d3H,decide_eq_true_eq] at hc;obtain ⟨t',rfl⟩:=List.length_eq_one_iff.1 hc.1.2;cases h;have:=hA.1 t' (by simp);simp only [List.headD_cons];exact ⟨this.1,by omega⟩
 ·obtain ⟨_,k4,h4,h⟩:=bT h;obtain ⟨t',k5,h5,h⟩:=bT h;cases h;exact a7X hV _ _ _ _ _ (by omega)
theorem c1K {ty:bE Ty}(aty:aA l 1 ty)(ity:∀i t j,i<l.length→ty i= .ok t j→TyI t i j)(i:Nat)(t:Ty)(j:Nat)(hi:i<l.length)(h:vD bD bW rdP l ty i= .ok t j):TyI t i j:=by
 have hadv:=aA.c5Q (kw:=bD) (andP:=bW) hV.fin (aty.le (by omega)) hV.tM.pred i t j hi h;unfold vD at h;rw [hZ] at h;cases hb:kK bD l i with
 |bad n e=>rw [hb] at h;cases h
 |ok o k=>
  rw [hb] at h;cases o with
  |some t'=>
   simp only [eV] at h;cases h;unfold kK at hb
   repeat' split at hb
   all_goals first|(cases hb;exact a7X hV _ _ _ _ _ (by omega))|cases hb
  |none=>
   have:=qH hb;subst this;simp only at h;split at h
   ·have hp:=b8Z hV _ t j h;obtain ⟨op,nm,args,ns,p,ps⟩:=t;simp only at hp;subst hp;exact a7X hV _ _ _ _ _ (by omega)
   ·split at h
    ·exact c1I hV aty ity _ t j hi h
    ·exact c1J hV aty ity _ t j hi h
theorem a7Y:∀n i t j,i<l.length→rT bD bW rdP l n i= .ok t j→TyI t i j
 |0,i,t,j,_,h=>by unfold rT at h;cases h
 |n+1,i,t,j,hi,h=>c1K hV (aA.b3N hV.fin hV.tM.pred n) (a7Y n) i t j hi h
theorem a7Z:∀n i,i<l.length→l.length<n+i→mX G 39 [] l i (rT bD bW rdP l n i) a5Z
 |0,i,hi,h=>by omega
 |n+1,i,hi,h=>b8Y hV (ty:=rT bD bW rdP l n) (low:=i+1) (fun i' h1 h2=>a7Z n i' h2 (by omega)) (aA.b3N hV.fin hV.tM.pred n) (a7Y hV n) i (d3X _) hi
theorem jO (i:Nat)(hi:i<l.length):mX G 39 [] l i (gW bD bW rdP l i) a5Z:=a7Z hV _ i hi (by omega)
theorem eR:aA l 1 (gW bD bW rdP l):=aA.typ hV.fin hV.tM.pred
theorem b9a (i:Nat)(t:Ty)(j:Nat)(hi:i<l.length)(h:gW bD bW rdP l i= .ok t j):TyI t i j:=a7Y hV _ i t j hi h
theorem b2c (i:Nat)(hi:i<l.length):mX G 124 [] l i (kL bD bW rdP l (gW bD bW rdP l) i) a5Z:=a5O hV (low:=0) (fun i _ h=>jO hV i h) ((eR hV).le (by omega)) (b9a hV) i (by omega) hi
def xH (out:List Ty):List (Nat×aR):=[(100001,.cells [.d (.sl (out.map tyC))]),(100002,.cells [.ptr 100000 0])]
abbrev c1L:List (TypeId×List VM.Loc):=[(45,[.c 100001 0])]
abbrev b2d (rdP:List Tok→Nat→Nat→kJ Pr)(l:List Tok)(out:List Ty):bE (List Ty):=do let t ← gW bD bW rdP l;pure (out++[t])
theorem b6p:vL l K3 [.ptr 100001 0,.ptr 100002 0] xH c1L:=by
 constructor
 all_goals intros
 all_goals first
  |rfl
  |simp [xH,aJ,aP,aL,aK,aT,getKey,aM,aW,cE,rk,cL,bH, *]
theorem a8a (out:List Ty):aA l 1 (b2d rdP l out):=(eR hV).bl fun _=>aA.bI _
theorem b4t (a:List Ty)(i:Nat)(b:List Ty)(j:Nat)(hi:i<l.length)(h:a.length≤i)(hx:b2d rdP l a i= .ok b j):b.length≤j:=by obtain ⟨t,k,h1,h2⟩:=bT hx;have:=eR hV i t k hi h1;cases h2;simp;omega
theorem a6b (out:List Ty)(i:Nat)(hi:i<l.length)(hout:out.length≤i):jG G 282 [.ptr 100001 0,.ptr 100002 0] (xH out) c1L l i (b2d rdP l out i) (fun _=> .cF []) xH:=by
 have hl:=hV.len;obtain ⟨j0,rfl⟩:∃j0,j0=i:=⟨_,rfl⟩;have p0:j0≤j0∧j0<l.length:=⟨d3X _,hi⟩;refine jG.cK Tryz.func282 rfl Tryz.ntmps282 rfl (by simp) ?_
 intro Q Q0;simp [xH];refine a3Y 5 (t:=28) (e:=45) (s:=2) (z:=6) (r:=7) (p:=8) (q:=5) (x:=4) (b:=0) [] 2 [1] (a0f 0 3 4) (eK (gW bD bW rdP l j0)) rfl rfl rfl rfl (by kernel_rfl) (by kernel_rfl) rfl ?_
 simp
 repeat' apply And.intro
 all_goals
  refine rE cG ((jO hV j0 p0.2)) (by simp) (by simp) (fun t j1 x1=>?_) (fun n e hx=>by first|exact Q0.fail hx _|(simp;exact Q0.fail hx _)|(simp;exact fun s=>Q0.fail hx s));have Q1:=Q0.step x1;have p1:=eR hV j0 t j1 p0.2 x1;refine cO.mk ?_
  simp;refine ⟨_,_,_,_,_,by simp,rfl,rfl,?_,rfl,rfl,?_,by simp,rfl,rfl,rfl,?_⟩
  ·intro c hc
   first
    |(obtain ⟨y,_,rfl⟩:=List.mem_map.1 hc
      rw [cJ]
      rfl)
    |(simp only [d3O] at hc
      subst hc
      rfl)
  ·simp<;>omega
  exact Q1.ok _ j1 .normal _ rfl (.inl rfl) (by simp [xH,cJ])
theorem vN (i:Nat)(hi:i<l.length):mX G 272 [] l i (wM bD bW rdP l i) (fun ts=> .d (.sl (ts.map tyC))):=by
 have hl:=hV.len;obtain ⟨j0,rfl⟩:∃j0,j0=i:=⟨_,rfl⟩;have p0:j0≤j0∧j0<l.length:=⟨d3X _,hi⟩;refine jG.cK Tryz.func272 rfl Tryz.ntmps272 rfl (by simp) ?_
 intro Q Q0;unfold wM at Q0;simp;cases hs:aQ l j0 [91] with
 |false=>
  have Q1:=Q0.step (gA hs);rw [if_neg (by decide)] at Q1;refine aY (ds:=[.str [91]]) (d:= .d (.bool false)) aC (aO l j0 [91] p0.2 (by omega) hs) (by simp) (by simp) ?_
  simp;exact Q1.ok _ j0 _ _ rfl (.inr rfl) (by simp)
 |true=>
  have Q1:=Q0.step (eZ hs);rw [if_pos rfl] at Q1;refine aY (ds:=[.str [91]]) (d:= .d (.bool true)) aC (aN l j0 [91] p0.2 (by omega) hs) (by simp) (by simp) ?_
  have p1:j0+1≤j0+1∧j0+1<l.length:=⟨d3X _,aF hV.fin p0.2 hs⟩;obtain ⟨j1,hj1⟩:∃j1,j0+1=j1:=⟨_,rfl⟩;rw [hj1] at Q1 p1 ⊢;simp;have hone:=dR hV [44] (b2d rdP l) (fun out i=>out.length≤i) 0 a4h (b6p hV) (fun a=>(a8a hV a).le (by omega)) (fun a i _ hi h=>a6b hV a i hi h) (b4t hV) (fun a i h=>by omega) [] j1 (by omega) p1.2 (by simp);refine eU.mk (tY cT hone [(100000,100000),(100001,3),(100002,1)] (fun a j hx=>?_) ?_ ?_ ?_ rfl rfl (fun ws j2 x2=>?_) (fun n e hx2=>Q1.fail hx2 _))
  ·simp [xH,aJ,aP,aL,aK,aT,getKey]
  ·simp [xH,aJ,aP,aL,aK,aT,getKey]
  ·simp [aM,aW,rk]
  ·simp [xH,aM,aW,rk,cE,cL]
  ·have Q2:=Q1.step x2;have p2:=aA.list hV.fin (a8a hV) [] j1 ws j2 p1.2 x2;simp [aU,xH,aM,aW,rk,cE,cL,bH,eM,dZ,dC];refine bY (ds:=[.sl (strs [[93]])]) aD (aE l [[93]] j2 p2.2 (by omega) hV.fin (by simp)) (by simp [strs]) (by simp) (fun u3 j3 x3=>?_) (fun n e hx=>by first|exact Q2.fail hx _|(simp;exact Q2.fail hx _)|(simp;exact fun s=>Q2.fail hx s));have Q3:=Q2.step x3;have p3:=aA.exp hV.fin _ _ j2 u3 j3 p2.2 x3;simp;exact Q3.ok _ j3 _ _ rfl (.inr rfl) (by simp)
end
end
section
open Go Go.VM
variable {G:GT}
abbrev vO (e:gC):List D:=[.int .i64 e.op,.str e.name,.int .i64 e.n,.sl (e.kids.map a1V),.sl (e.params.map a7w),.sl (e.alts.map b3O),.sl (e.types.map tyC)]
abbrev pK:gC→DV:=fun e=> .d (.agg (vO e))
@[simp] theorem d2v (o:Int)(ks:List gC):(jF o ks).op=o:=rfl
@[simp] theorem d1q (o:Int)(ks:List gC):(jF o ks).name=[]:=rfl
@[simp] theorem d2L (o:Int)(ks:List gC):(jF o ks).n=0:=rfl
@[simp] theorem d1r (o:Int)(ks:List gC):(jF o ks).kids=ks:=rfl
@[simp] theorem c8g (o:Int)(ks:List gC):(jF o ks).params=[]:=rfl
@[simp] theorem d1s (o:Int)(ks:List gC):(jF o ks).alts=[]:=rfl
@[simp] theorem d0o (o:Int)(ks:List gC):(jF o ks).types=[]:=rfl
theorem bV:VM.Enters Tryz.prog 68:=VM.Enters.mk Tryz.func68 rfl
theorem bR:VM.Enters Tryz.prog 34:=VM.Enters.mk Tryz.func34 rfl
theorem a3a:VM.Enters Tryz.prog 168:=VM.Enters.mk Tryz.func168 rfl
theorem qY:VM.Enters Tryz.prog 247:=VM.Enters.mk Tryz.func247 rfl
theorem wV:VM.Enters Tryz.prog 72:=VM.Enters.mk Tryz.func72 rfl
theorem a9t:VM.Enters Tryz.prog 121:=VM.Enters.mk Tryz.func121 rfl
theorem b6q:VM.Enters Tryz.prog 67:=VM.Enters.mk Tryz.func67 rfl
theorem a8b:VM.Enters Tryz.prog 271:=VM.Enters.mk Tryz.func271 rfl
theorem a1h (o:Int)(ks:List gC):CS Tryz.prog G 68 [.int .i64 o,.sl (ks.map a1V)] (.d (.agg (vO (jF o ks)))) none:=by
 refine CS.res (r':= .d (.agg [.int .i64 o,.str [],.int .i64 0,.sl (ks.map a1V),.aI,.aI,.aI])) ?_ (by simp)
 refine CS.bB Tryz.func68 rfl Tryz.ntmps68 rfl ?_
 simp
theorem b9b (o:Int)(a:gC):CS Tryz.prog G 68 [.int .i64 o,.sl [vO a]] (.d (.agg [.int .i64 o,.str [],.int .i64 0,.sl [a1V a],.aI,.aI,.aI])) none:=by
 rw [dE];refine CS.bB Tryz.func68 rfl Tryz.ntmps68 rfl ?_
 simp
theorem a1M (o:Int)(a:gC):CS Tryz.prog G 68 [.int .i64 o,.sl [vO a]] (.d (.agg (vO (jF o [a])))) none:=by
 have:=a1h (G:=G) o [a]
 rwa [List.map_cons,List.map_nil,dE] at this
theorem gO (o:Int)(a b:gC):CS Tryz.prog G 68 [.int .i64 o,.sl [vO a,vO b]] (.d (.agg (vO (jF o [a,b])))) none:=by
 have:=a1h (G:=G) o [a,b]
 rwa [List.map_cons,List.map_cons,List.map_nil,dE a,dE b] at this
theorem b9c (o:Int)(a b c:gC):CS Tryz.prog G 68 [.int .i64 o,.sl [vO a,vO b,vO c]] (.d (.agg (vO (jF o [a,b,c])))) none:=by
 have:=a1h (G:=G) o [a,b,c]
 rwa [List.map_cons,List.map_cons,List.map_cons,List.map_nil,dE a,dE b,dE c] at this
theorem b4u {α β γ:Type}(x:bE α)(f:α→bE β)(g:β→bE γ)(i:Nat):((x >>=f) >>=g) i=(x >>=fun a=>f a >>=g) i:=by
 rw [hZ,hZ,hZ];cases x i with
 |ok a j=>simp only [hZ]
 |bad n e=>rfl
theorem sZ.assoc {α β γ:Type}{Q:Exit→St→Prop}{rs:List ResultVar}{l:List Tok}{enc:γ→DV}{Y:γ→List (Nat×aR)}{own:List (TypeId×List VM.Loc)}{x:bE α}{f:α→bE β}{g:β→bE γ}{i:Nat}(h:sZ Q rs l enc Y own (((x >>=f) >>=g) i)):sZ Q rs l enc Y own ((x >>=fun a=>f a >>=g) i):=by rwa [b4u] at h
theorem CH.drop {P:Program}{f:FuncId}{s0:St}{d:DV}{H1:List (Nat×aR)}{own1:List (TypeId×List VM.Loc)}(h:CH P G f s0 ⟨[d],H1,own1⟩):CH P G f s0 ⟨[d],H1,[]⟩:=fun base R μ args w hr=>(h base R μ args w hr).mono fun e w' ⟨v,R',μ',he,hr',hs⟩=>⟨v,R',μ',he,⟨hr'.defers,hr'.size,hr'.tmps,hr'.eT,hr'.inj,fun c hc=>(by cases hc),by obtain ⟨vs,hvs⟩:=hr'.own;obtain ⟨vs',hv',_⟩:=a0z hr' [] own1 vs ⟨hvs.len,hvs.one,hvs.apart⟩ rfl;exact ⟨vs',hv'.len,fun i c v hc hv=>⟨(hv'.one i c v hc hv).cU,(hv'.one i c v hc hv).own,(hv'.one i c v hc hv).keys⟩,hv'.apart⟩,hr'.qL,hr'.kY,hr'.base,hr'.pass⟩,hs⟩
abbrev RdO (G:GT){α:Type}(f:FuncId)(ds:List D)(l:List Tok)(i:Nat)(e:TypeId)(r:kJ α)(enc:α→DV):Prop:=CX Tryz.prog G f ⟨.ptr 100000 0::ds.map .d,rH l i,[]⟩ (rdE l enc (fun _=>[]) [(e,[.t 0])] r)
theorem RdO.m {α:Type}{f:FuncId}{ds:List D}{l:List Tok}{i:Nat}{e:TypeId}{r:kJ α}{enc:α→DV}(h:RdO G f ds l i e r enc):mX G f ds l i r enc:=by
 cases r with
 |ok a j=>exact CH.drop h
 |bad n x=>exact h
section
variable {β:Type} {Q:Exit→St→Prop} {rs:List ResultVar} {l:List Tok} {i:Nat} {enc:β→DV} {e:TypeId} {r:kJ β}
theorem RdO.cK {f:FuncId}{fn:Func}{c:Code}{k:Nat}{ds:List D}(hf:Tryz.prog.funcs[f]? =some fn)(hb:fn.body=some c)(hn:fn.ntmps=k)(hrs:fn.results.toList=rs)(h:∀Q:Exit→St→Prop,sZ Q rs l enc (fun _=>[]) [(e,[.t 0])] r→XK Tryz.prog G [.code c] .normal ⟨.ptr 100000 0::ds.map .d++List.replicate (k-(.ptr 100000 0::ds.map .d:List DV).length) (.cF []),rH l i,[]⟩ Q):RdO G f ds l i e r enc:=by
 refine CX.b1H hf hb hn hrs rfl fun Q h1 h2=>SW.xk (h Q ⟨fun a j e s hr he hs=>?_,fun n e s hr=>?_⟩)
 ·subst hr;exact h1 _ _ _ e s rfl he hs
 ·subst hr;exact h2 _ s rfl
end
section
variable {rdP:List Tok→Nat→Nat→kJ Pr} {l:List Tok} (hV:jX G rdP l)
include hV
section
variable {ex:Nat→bE gC} {low:Nat} (hex:∀i,low≤i→i<l.length→mX G 34 [] l i (ex 0 i) pK) (aex:∀k,aA l 1 (ex k))
include hex aex
def a2v (out:List gC):List (Nat×aR):=[(100001,.cells [.d (.sl (out.map a1V))]),(100002,.cells [.ptr 100000 0])]
abbrev c8h:List (TypeId×List VM.Loc):=[(30,[.c 100001 0])]
abbrev b4v (ex:Nat→bE gC)(out:List gC):bE (List gC):=do let e ← ex 0;pure (out++[e])
omit hex aex in
theorem b9d:vL l K3 [.ptr 100001 0,.ptr 100002 0] a2v c8h:=by
 constructor
 all_goals intros
 all_goals first
  |rfl
  |simp [a2v,aJ,aP,aL,aK,aT,getKey,aM,aW,cE,rk,cL,bH, *]
omit hex in
theorem a4P (out:List gC):aA l 1 (b4v ex out):=(aex 0).bl fun _=>aA.bI _
omit hex in
theorem a8c (a:List gC)(i:Nat)(b:List gC)(j:Nat)(hi:i<l.length)(h:a.length≤i)(hx:b4v ex a i= .ok b j):b.length≤j:=by obtain ⟨t,k,h1,h2⟩:=bT hx;have:=aex 0 i t k hi h1;cases h2;simp;omega
theorem b4w (out:List gC)(i:Nat)(hlow:low≤i)(hi:i<l.length)(hout:out.length≤i):jG G 121 [.ptr 100001 0,.ptr 100002 0] (a2v out) c8h l i (b4v ex out i) (fun _=> .cF []) a2v:=by
 have hl:=hV.len;obtain ⟨j0,rfl⟩:∃j0,j0=i:=⟨_,rfl⟩;have p0:j0≤j0∧j0<l.length:=⟨d3X _,hi⟩;refine jG.cK Tryz.func121 rfl Tryz.ntmps121 rfl (by simp) ?_
 intro Q Q0;simp [a2v];refine a3Y 5 (t:=25) (e:=30) (s:=2) (z:=6) (r:=7) (p:=8) (q:=5) (x:=4) (b:=0) [] 2 [1] (a0f 0 3 4) (eK (ex 0 j0)) rfl rfl rfl rfl (by kernel_rfl) (by kernel_rfl) rfl ?_
 simp
 repeat' apply And.intro
 all_goals
  refine rE bR ((hex j0 hlow p0.2)) (by simp) (by simp) (fun t j1 x1=>?_) (fun n e hx=>by first|exact Q0.fail hx _|(simp;exact Q0.fail hx _)|(simp;exact fun s=>Q0.fail hx s));have Q1:=Q0.step x1;have p1:=aex 0 j0 t j1 p0.2 x1;refine cO.mk ?_
  simp;refine ⟨_,_,_,_,_,by simp,rfl,rfl,?_,rfl,rfl,?_,by simp,rfl,rfl,rfl,?_⟩
  ·intro c hc
   first
    |(obtain ⟨y,_,rfl⟩:=List.mem_map.1 hc
      rw [dE]
      rfl)
    |(simp only [d3O] at hc
      subst hc
      rfl)
  ·simp<;>omega
  exact Q1.ok _ j1 .normal _ rfl (.inl rfl) (by simp [a2v,dE])
theorem a8d (i:Nat)(hlow:low≤i+1)(hi:i<l.length):RdO G 72 [] l i 30 (mF l ex i) (fun es=> .d (.sl (es.map a1V))):=by
 have hl:=hV.len;obtain ⟨j0,rfl⟩:∃j0,j0=i:=⟨_,rfl⟩;have p0:j0≤j0∧j0<l.length:=⟨d3X _,hi⟩;refine RdO.cK Tryz.func72 rfl Tryz.ntmps72 rfl ?_
 intro Q Q0;unfold mF at Q0;simp;refine bY (ds:=[.sl (strs [[40]])]) aD (aE l [[40]] j0 p0.2 (by omega) hV.fin (by simp)) (by simp [strs]) (by simp) (fun u1 j1 x1=>?_) (fun n e hx=>by first|exact Q0.fail hx _|(simp;exact Q0.fail hx _)|(simp;exact fun s=>Q0.fail hx s));have Q1:=Q0.step x1;have p1:=aA.exp hV.fin _ _ j0 u1 j1 p0.2 x1;simp;have hone:=dR hV [44] (b4v ex) (fun out i=>out.length≤i) low a9t (b9d hV) (fun a=>(a4P hV aex a).le (by omega)) (fun a i qM hi h=>b4w hV hex aex a i qM hi h) (a8c hV aex) (fun a i h=>by omega) [] j1 (by omega) p1.2 (by simp);refine eU.mk (tY cT hone [(100000,100000),(100001,3),(100002,1)] (fun a j hx=>?_) ?_ ?_ ?_ rfl rfl (fun ws j2 x2=>?_) (fun n e hx2=>Q1.fail hx2 _))
 ·simp [a2v,aJ,aP,aL,aK,aT,getKey]
 ·simp [a2v,aJ,aP,aL,aK,aT,getKey]
 ·simp [aM,aW,rk]
 ·simp [a2v,aM,aW,rk,cE,cL]
 ·have Q2:=Q1.step x2;have p2:=aA.list hV.fin (fun a=>a4P hV aex a) [] j1 ws j2 p1.2 x2;simp [aU,a2v,aM,aW,rk,cE,cL,bH,eM,dZ,dC];refine bY (ds:=[.sl (strs [[41]])]) aD (aE l [[41]] j2 p2.2 (by omega) hV.fin (by simp)) (by simp [strs]) (by simp) (fun u3 j3 x3=>?_) (fun n e hx=>by first|exact Q2.fail hx _|(simp;exact Q2.fail hx _)|(simp;exact fun s=>Q2.fail hx s));have Q3:=Q2.step x3;have p3:=aA.exp hV.fin _ _ j2 u3 j3 p2.2 x3;simp;exact Q3.ok _ j3 _ _ rfl (.inr rfl) (by simp)
theorem a3b (i:Nat)(hlow:low≤i+1)(hi:i<l.length):mX G 72 [] l i (mF l ex i) (fun es=> .d (.sl (es.map a1V))):=(a8d hV hex aex i hlow hi).m
theorem b0E (op:Int)(i:Nat)(hlow:low≤i+1)(hi:i<l.length):mX G 271 [.int .i64 op] l i (a0K l ex op i) pK:=by
 have hl:=hV.len;obtain ⟨j0,rfl⟩:∃j0,j0=i:=⟨_,rfl⟩;have p0:j0≤j0∧j0<l.length:=⟨d3X _,hi⟩;refine jG.cK Tryz.func271 rfl Tryz.ntmps271 rfl (by simp) ?_
 intro Q Q0;unfold a0K at Q0;simp;refine bY (ds:=[.sl (strs [[40]])]) aD (aE l [[40]] j0 p0.2 (by omega) hV.fin (by simp)) (by simp [strs]) (by simp) (fun u1 j1 x1=>?_) (fun n e hx=>by first|exact Q0.fail hx _|(simp;exact Q0.fail hx _)|(simp;exact fun s=>Q0.fail hx s));have Q1:=Q0.step x1;have p1:=aA.exp hV.fin _ _ j0 u1 j1 p0.2 x1;simp;refine bY bR ((hex j1 (by omega) p1.2)) (by simp) (by simp) (fun e j2 x2=>?_) (fun n e hx=>by first|exact Q1.fail hx _|(simp;exact Q1.fail hx _)|(simp;exact fun s=>Q1.fail hx s));have Q2:=Q1.step x2;have p2:=aex 0 j1 e j2 p1.2 x2;simp;refine bY (ds:=[.sl (strs [[41]])]) aD (aE l [[41]] j2 p2.2 (by omega) hV.fin (by simp)) (by simp [strs]) (by simp) (fun u3 j3 x3=>?_) (fun n e hx=>by first|exact Q2.fail hx _|(simp;exact Q2.fail hx _)|(simp;exact fun s=>Q2.fail hx s));have Q3:=Q2.step x3;have p3:=aA.exp hV.fin _ _ j2 u3 j3 p2.2 x3;simp;refine kU.mk bV (a1M op e) ?_
 simp;exact Q3.ok _ j3 _ _ rfl (.inr rfl) (by simp)
theorem b9e (i:Nat)(hlow:low≤i+1)(hi:i<l.length):mX G 67 [] l i (a2P bD bW rdP l ex i) pK:=by
 have hl:=hV.len;obtain ⟨j0,rfl⟩:∃j0,j0=i:=⟨_,rfl⟩;have p0:j0≤j0∧j0<l.length:=⟨d3X _,hi⟩;refine jG.cK Tryz.func67 rfl Tryz.ntmps67 rfl (by simp) ?_
 intro Q Q0;unfold a2P at Q0;simp;refine bY cH (cR hV.kw l j0 p0.2 (by omega)) (by simp) (by simp) (fun nm j1 x1=>?_) (fun n e hx=>by first|exact Q0.fail hx _|(simp;exact Q0.fail hx _)|(simp;exact fun s=>Q0.fail hx s));have Q1:=Q0.step x1;have p1:=aA.word hV.fin j0 nm j1 p0.2 x1;simp;cases hs:aQ l j1 [58] with
 |false=>
  have Q2:=Q1.step (gA hs);rw [if_neg (by decide)] at Q2;refine aY (ds:=[.str [58]]) (d:= .d (.bool false)) aC (aO l j1 [58] p1.2 (by omega) hs) (by simp) (by simp) ?_
  simp;have Q1:=Q2.step (eV _ _);refine bY (ds:=[.sl (strs [[61]])]) aD (aE l [[61]] j1 p1.2 (by omega) hV.fin (by simp)) (by simp [strs]) (by simp) (fun u4 j4 x4=>?_) (fun n e hx=>by first|exact Q1.fail hx _|(simp;exact Q1.fail hx _)|(simp;exact fun s=>Q1.fail hx s));have Q4:=Q1.step x4;have p4:=aA.exp hV.fin _ _ j1 u4 j4 p1.2 x4;simp;refine bY bR ((hex j4 (by omega) p4.2)) (by simp) (by simp) (fun x j5 x5=>?_) (fun n e hx=>by first|exact Q4.fail hx _|(simp;exact Q4.fail hx _)|(simp;exact fun s=>Q4.fail hx s));have Q5:=Q4.step x5;have p5:=aex 0 j4 x j5 p4.2 x5;simp;refine bY (ds:=[.sl (strs [[105,110]])]) aD (aE l [[105,110]] j5 p5.2 (by omega) hV.fin (by simp)) (by simp [strs]) (by simp) (fun u6 j6 x6=>?_) (fun n e hx=>by first|exact Q5.fail hx _|(simp;exact Q5.fail hx _)|(simp;exact fun s=>Q5.fail hx s));have Q6:=Q5.step x6;have p6:=aA.exp hV.fin _ _ j5 u6 j6 p5.2 x6;simp;refine jA [1] 2 [] (.op 0 (.call [3,4,5] .none) (.call [0,3,4,5] .none)) (eK (ex 0 j6)) (by kernel_rfl) (by kernel_rfl) ?_
  simp;refine ⟨?_,?_⟩
  all_goals
   refine rE bR ((hex j6 (by omega) p6.2)) (by simp) (by simp) (fun y j7 x7=>?_) (fun n e hx=>by first|exact Q6.fail hx _|(simp;exact Q6.fail hx _)|(simp;exact fun s=>Q6.fail hx s));have Q7:=Q6.step x7;have p7:=aex 0 j6 y j7 p6.2 x7;refine cO.mk ?_
   simp;exact Q7.ok _ j7 _ _ rfl (.inr rfl) (by simp [dE,cJ])
 |true=>
  have Q2:=Q1.step (eZ hs);rw [if_pos rfl] at Q2;refine aY (ds:=[.str [58]]) (d:= .d (.bool true)) aC (aN l j1 [58] p1.2 (by omega) hs) (by simp) (by simp) ?_
  have p2:j1+1≤j1+1∧j1+1<l.length:=⟨d3X _,aF hV.fin p1.2 hs⟩;obtain ⟨j2,hj2⟩:∃j2,j1+1=j2:=⟨_,rfl⟩;rw [hj2] at Q2 p2 ⊢;simp;have Q2:=Q2.assoc;refine bY cG ((jO hV j2 p2.2)) (by simp) (by simp) (fun t j3 x3=>?_) (fun n e hx=>by first|exact Q2.fail hx _|(simp;exact Q2.fail hx _)|(simp;exact fun s=>Q2.fail hx s));have Q3:=Q2.step x3;have p3:=eR hV j2 t j3 p2.2 x3;simp;have Q3:=Q3.step (eV _ _);refine bY (ds:=[.sl (strs [[61]])]) aD (aE l [[61]] j3 p3.2 (by omega) hV.fin (by simp)) (by simp [strs]) (by simp) (fun u4 j4 x4=>?_) (fun n e hx=>by first|exact Q3.fail hx _|(simp;exact Q3.fail hx _)|(simp;exact fun s=>Q3.fail hx s));have Q4:=Q3.step x4;have p4:=aA.exp hV.fin _ _ j3 u4 j4 p3.2 x4;simp;refine bY bR ((hex j4 (by omega) p4.2)) (by simp) (by simp) (fun x j5 x5=>?_) (fun n e hx=>by first|exact Q4.fail hx _|(simp;exact Q4.fail hx _)|(simp;exact fun s=>Q4.fail hx s));have Q5:=Q4.step x5;have p5:=aex 0 j4 x j5 p4.2 x5;simp;refine bY (ds:=[.sl (strs [[105,110]])]) aD (aE l [[105,110]] j5 p5.2 (by omega) hV.fin (by simp)) (by simp [strs]) (by simp) (fun u6 j6 x6=>?_) (fun n e hx=>by first|exact Q5.fail hx _|(simp;exact Q5.fail hx _)|(simp;exact fun s=>Q5.fail hx s));have Q6:=Q5.step x6;have p6:=aA.exp hV.fin _ _ j5 u6 j6 p5.2 x6;simp;refine jA [1] 2 [] (.op 0 (.call [3,4,5] .none) (.call [0,3,4,5] .none)) (eK (ex 0 j6)) (by kernel_rfl) (by kernel_rfl) ?_
  simp;refine ⟨?_,?_⟩
  all_goals
   refine rE bR ((hex j6 (by omega) p6.2)) (by simp) (by simp) (fun y j7 x7=>?_) (fun n e hx=>by first|exact Q6.fail hx _|(simp;exact Q6.fail hx _)|(simp;exact fun s=>Q6.fail hx s));have Q7:=Q6.step x7;have p7:=aex 0 j6 y j7 p6.2 x7;refine cO.mk ?_
   simp;exact Q7.ok _ j7 _ _ rfl (.inr rfl) (by simp [dE,cJ])
end
end
end
section
open Go Go.VM
variable {G:GT}
theorem a4i:VM.Enters Tryz.prog 136:=VM.Enters.mk Tryz.func136 rfl
theorem a8e:VM.Enters Tryz.prog 174:=VM.Enters.mk Tryz.func174 rfl
theorem b2e:VM.Enters Tryz.prog 152:=VM.Enters.mk Tryz.func152 rfl
theorem a6c:VM.Enters Tryz.prog 153:=VM.Enters.mk Tryz.func153 rfl
abbrev d1W (b:oZ):List D:= .str b.name:: .sl (b.vars.map jR)::(prD b.hyp++prD b.goal)
theorem b7z (b:oZ):b5T b=d1W b:=by
 rw [b5T,eB,eB]
 rfl
section
variable {rdP:List Tok→Nat→Nat→kJ Pr} {l:List Tok} (hV:jX G rdP l)
include hV
def xI (out:List zV):List (Nat×aR):=[(100001,.cells [.ptr 100000 0]),(100002,.cells [.d (.sl (out.map jR))])]
abbrev c1M:List (TypeId×List VM.Loc):=[(181,[.c 100002 0])]
abbrev b2f (l:List Tok)(out:List zV):bE (List zV):=do
 let c ← gM l
 let w ← cA bD l
 pure (out++[(c,w)])
theorem b6r:vL l K3 [.ptr 100001 0,.ptr 100002 0] xI c1M:=by
 constructor
 all_goals intros
 all_goals first
  |rfl
  |simp [xI,aJ,aP,aL,aK,aT,getKey,aM,aW,cE,rk,cL,bH, *]
theorem a8f (out:List zV):aA l 1 (b2f l out):=(aA.title hV.fin).bl fun _=>((aA.word hV.fin).le (by omega)).bl fun _=>aA.bI _
theorem b4x (a:List zV)(i:Nat)(b:List zV)(j:Nat)(hi:i<l.length)(h:a.length≤i)(hx:b2f l a i= .ok b j):b.length≤j:=by have h1:=a8f hV a i b j hi hx;obtain ⟨_,_,_,hx⟩:=bT hx;obtain ⟨_,_,_,hx⟩:=bT hx;cases hx;simp;omega
theorem b2g (out:List zV)(i:Nat)(hi:i<l.length)(hout:out.length≤i):jG G 174 [.ptr 100001 0,.ptr 100002 0] (xI out) c1M l i (b2f l out i) (fun _=> .cF []) xI:=by
 have hl:=hV.len;obtain ⟨j0,rfl⟩:∃j0,j0=i:=⟨_,rfl⟩;have p0:j0≤j0∧j0<l.length:=⟨d3X _,hi⟩;refine jG.cK Tryz.func174 rfl Tryz.ntmps174 rfl (by simp) ?_
 intro Q Q0;simp [xI];refine bY eO (gI l j0 p0.2 (by omega)) (by simp) (by simp) (fun c j1 x1=>?_) (fun n e hx=>by first|exact Q0.fail hx _|(simp;exact Q0.fail hx _)|(simp;exact fun s=>Q0.fail hx s));have Q1:=Q0.step x1;have p1:=aA.title hV.fin j0 c j1 p0.2 x1;simp;refine jA [1] 3 [2] (.op 0 (.call [4,5,6,7] .none) (.call [0,4,5,6,7] .none)) (eK (cA bD l j1)) (by kernel_rfl) (by kernel_rfl) ?_
 simp;refine ⟨?_,?_⟩
 all_goals
  refine rE cH (cR hV.kw l j1 p1.2 (by omega)) (by simp) (by simp) (fun w j2 x2=>?_) (fun n e hx=>by first|exact Q1.fail hx _|(simp;exact Q1.fail hx _)|(simp;exact fun s=>Q1.fail hx s));have Q2:=Q1.step x2;have p2:=aA.word hV.fin j1 w j2 p1.2 x2;refine cO.mk ?_
  simp;refine dH (by first|omega|(simp [jR];omega)) ?_
  simp;exact Q2.ok _ j2 _ _ rfl (.inl rfl) (by simp [xI,a1K hV])
theorem a5P (i:Nat)(hi:i<l.length):mX G 136 [] l i (sH bD l i) (fun ws=> .d (.sl (ws.map jR))):=by
 have hl:=hV.len;refine jG.cK Tryz.func136 rfl Tryz.ntmps136 rfl (by simp) ?_
 intro Q Q0;unfold sH at Q0;simp;have hone:=dR hV [44] (b2f l) (fun out i=>out.length≤i) 0 a8e (b6r hV) (fun a=>(a8f hV a).le (by omega)) (fun a i _ hi h=>b2g hV a i hi h) (b4x hV) (fun a i h=>by omega) [] i (by omega) hi (by simp);refine eU.mk (tY cT hone [(100000,100000),(100001,1),(100002,3)] (fun a j hx=>?_) ?_ ?_ ?_ rfl rfl (fun ws j2 hx2=>?_) (fun n e hx2=>Q0.bad n e _ hx2))
 ·simp [xI,aJ,aP,aL,aK,aT,getKey]
 ·simp [xI,aJ,aP,aL,aK,aT,getKey]
 ·simp [aM,aW,rk]
 ·simp [xI,aM,aW,rk,cE,cL]
 ·simp [aU,xI,aM,aW,rk,cE,cL,bH,eM,dZ,dC];exact Q0.ok _ j2 _ _ hx2 (.inr rfl) (by simp)
theorem b4y (i:Nat)(hi:i<l.length):mX G 152 [] l i (sI bD rdP l i) (fun b=> .d (.agg (d1W b))):=by
 have hl:=hV.len;obtain ⟨j0,rfl⟩:∃j0,j0=i:=⟨_,rfl⟩;have p0:j0≤j0∧j0<l.length:=⟨d3X _,hi⟩;refine jG.cK Tryz.func152 rfl Tryz.ntmps152 rfl (by simp) ?_
 intro Q Q0;unfold sI at Q0;simp;refine bY cH (cR hV.kw l j0 p0.2 (by omega)) (by simp) (by simp) (fun nm j1 x1=>?_) (fun n e hx=>by first|exact Q0.fail hx _|(simp;exact Q0.fail hx _)|(simp;exact fun s=>Q0.fail hx s));have Q1:=Q0.step x1;have p1:=aA.word hV.fin j0 nm j1 p0.2 x1;simp;refine bY (ds:=[.sl (strs [[40]])]) aD (aE l [[40]] j1 p1.2 (by omega) hV.fin (by simp)) (by simp [strs]) (by simp) (fun u2 j2 x2=>?_) (fun n e hx=>by first|exact Q1.fail hx _|(simp;exact Q1.fail hx _)|(simp;exact fun s=>Q1.fail hx s));have Q2:=Q1.step x2;have p2:=aA.exp hV.fin _ _ j1 u2 j2 p1.2 x2;simp;refine bY wU ((zH hV false j2 p2.2)) (by simp) (by simp) (fun vs j3 x3=>?_) (fun n e hx=>by first|exact Q2.fail hx _|(simp;exact Q2.fail hx _)|(simp;exact fun s=>Q2.fail hx s));have Q3:=Q2.step x3;have p3:=(aA.vars hV.fin false) j2 vs j3 p2.2 x3;simp;refine bY (ds:=[.sl (strs [[41]])]) aD (aE l [[41]] j3 p3.2 (by omega) hV.fin (by simp)) (by simp [strs]) (by simp) (fun u4 j4 x4=>?_) (fun n e hx=>by first|exact Q3.fail hx _|(simp;exact Q3.fail hx _)|(simp;exact fun s=>Q3.fail hx s));have Q4:=Q3.step x4;have p4:=aA.exp hV.fin _ _ j3 u4 j4 p3.2 x4;simp;refine bY kV (oK hV j4 p4.2) (by simp) (by simp) (fun p j5 x5=>?_) (fun n e hx=>by first|exact Q4.fail hx _|(simp;exact Q4.fail hx _)|(simp;exact fun s=>Q4.fail hx s));have Q5:=Q4.step x5;have p5:=hV.tM.pred j4 p j5 p4.2 x5;simp;refine bY (ds:=[.sl (strs [[45,62]])]) aD (aE l [[45,62]] j5 p5.2 (by omega) hV.fin (by simp)) (by simp [strs]) (by simp) (fun u6 j6 x6=>?_) (fun n e hx=>by first|exact Q5.fail hx _|(simp;exact Q5.fail hx _)|(simp;exact fun s=>Q5.fail hx s));have Q6:=Q5.step x6;have p6:=aA.exp hV.fin _ _ j5 u6 j6 p5.2 x6;simp;refine bY kV (oK hV j6 p6.2) (by simp) (by simp) (fun q j7 x7=>?_) (fun n e hx=>by first|exact Q6.fail hx _|(simp;exact Q6.fail hx _)|(simp;exact fun s=>Q6.fail hx s));have Q7:=Q6.step x7;have p7:=hV.tM.pred j6 q j7 p6.2 x7;simp;refine bY (ds:=[.sl (strs [[46]])]) aD (aE l [[46]] j7 p7.2 (by omega) hV.fin (by simp)) (by simp [strs]) (by simp) (fun u8 j8 x8=>?_) (fun n e hx=>by first|exact Q7.fail hx _|(simp;exact Q7.fail hx _)|(simp;exact fun s=>Q7.fail hx s));have Q8:=Q7.step x8;have p8:=aA.exp hV.fin _ _ j7 u8 j8 p7.2 x8;simp;exact Q8.ok _ j8 _ _ rfl (.inr rfl) (by simp)
omit hV in
theorem a1i (t:Tok):(cC t).length=4:=rfl
theorem d0q {g:Nat}{d:Int}{i:Nat}(hi:i<l.length)(h:jL (aZ l i) [40]=true):sX l (g+1) d i=sX l g (d+1) (i+1):=by rw [sX,if_pos hi,if_pos h]
theorem d0r {g:Nat}{d:Int}{i:Nat}(hi:i<l.length)(h0:jL (aZ l i) [40]=false)(h:jL (aZ l i) [41]=true):sX l (g+1) d i=sX l g (d-1) (i+1):=by rw [sX,if_pos hi,if_neg (by rw [h0];decide),if_pos h]
theorem d0s {g:Nat}{d:Int}{i:Nat}(hi:i<l.length)(h0:jL (aZ l i) [40]=false)(h1:jL (aZ l i) [41]=false):sX l (g+1) d i=if jL (aZ l i) [61]&&decide (d≤0) then i else sX l g d (i+1):=by rw [sX,if_pos hi,if_neg (by rw [h0];decide),if_neg (by rw [h1];decide)]
theorem d0t {g:Nat}{d:Int}{i:Nat}(hi: ¬i<l.length):sX l (g+1) d i=l.length:=by rw [sX,if_neg hi]
theorem a6u:∀(g:Nat) (d:Int) (i:Nat),sX l g d i≤l.length
 |0,d,i=>by unfold sX;omega
 |g+1,d,i=>by
  unfold sX;split
  ·split
   ·exact a6u g _ _
   ·split
    ·exact a6u g _ _
    ·split
     ·omega
     ·exact a6u g _ _
  ·omega
theorem a8g (i:Nat)(hi:i<l.length):CH Tryz.prog G 153 ⟨[.ptr 100000 0],rH l i,[]⟩ ⟨[.d (.int .i64 (sX l (l.length+1) 0 i))],rH l i,[]⟩:=by
 have hl:=hV.len;generalize hR:sX l (l.length+1) 0 i=R;refine CH.bB Tryz.func153 rfl Tryz.ntmps153 rfl (by simp) ?_
 simp;refine SW.jV (ι:={ x:Int×Nat×Nat // i≤x.2.1∧x.2.1≤l.length∧l.length<x.2.2+x.2.1∧(-(x.2.1:Int)≤x.1∧x.1≤x.2.1)∧sX l x.2.2 x.1 x.2.1=R }) (fun x=>[(3,.d (.int .i64 x.1.1)),(4,.d (.int .i64 x.1.2.1))]) (fun _=>rH l i) (fun _=>[]) (fun x=>l.length-x.1.2.1) ⟨(0,i,l.length+1),d3X _,by simp only;omega,by simp only;omega,by simp only;omega,hR⟩ (by simp) ?_
 rintro ⟨⟨d,k,g⟩,h1,h2,h3,h4,hp⟩;simp only at h1 h2 h3 h4 hp;obtain ⟨g,rfl⟩:∃k,g=k+1:=⟨g-1,by omega⟩;by_cases hk:k<l.length
 ·have hT:aZ l k=l[k]:=by simp [aZ,hk]
  have hw:=bO (show k<9223372036854775807 by omega);have hd1:IntKind.i64.wrap (d+1)=d+1:=wrap64 (by omega);have hd2:IntKind.i64.wrap (d-1)=d-1:=wrap64 (by omega);simp [hk,a1i];refine aG.mk gT (jN l[k] [40]) ?_
  cases e1:jL l[k] [40] with
  |true=>rw [d0q hV hk (by rw [hT];exact e1)] at hp;simp [hd1,hw];exact bN.mk ⟨(d+1,k+1,g),by simp only;omega,by simp only;omega,by simp only;omega,by simp only;omega,hp⟩ (by simp) (by simp;omega)
  |false=>
   simp [hk,a1i];refine aG.mk gT (jN l[k] [41]) ?_
   cases e2:jL l[k] [41] with
   |true=>rw [d0r hV hk (by rw [hT];exact e1) (by rw [hT];exact e2)] at hp;simp [hd2,hw];exact bN.mk ⟨(d-1,k+1,g),by simp only;omega,by simp only;omega,by simp only;omega,by simp only;omega,hp⟩ (by simp) (by simp;omega)
   |false=>
    rw [d0s hV hk (by rw [hT];exact e1) (by rw [hT];exact e2),hT] at hp;simp [hk,a1i];refine aG.mk gT (jN l[k] [61]) ?_
    cases e3:jL l[k] [61] with
    |true=>
     by_cases hd:d≤0
     ·rw [e3,if_pos (by simp [hd])] at hp;subst hp;simp [hd]
     ·rw [e3,if_neg (by simp [hd])] at hp;simp [hd,hw];exact bN.mk ⟨(d,k+1,g),by simp only;omega,by simp only;omega,by simp only;omega,by simp only;omega,hp⟩ (by simp) (by simp;omega)
    |false=>rw [e3,if_neg (by simp)] at hp;simp [hw];exact bN.mk ⟨(d,k+1,g),by simp only;omega,by simp only;omega,by simp only;omega,by simp only;omega,hp⟩ (by simp) (by simp;omega)
 ·rw [d0t hV hk] at hp;subst hp;simp [hk,a1i]
end
end
section
open Go Go.VM
variable {G:GT}
theorem a3c:VM.Enters Tryz.prog 108:=VM.Enters.mk Tryz.func108 rfl
theorem b2h:VM.Enters Tryz.prog 154:=VM.Enters.mk Tryz.func154 rfl
theorem SW.b4z {P:Program}{α:Type}{b c:Code}{st:St}{Q:Exit→St→Prop}(r:kJ α)(st':α→Nat→St)(h1:SW P G b st fun e s=>match e with
  | .normal=>∃v j,r= .ok v j∧tS s (st' v j)
  |e=>Q e s)(h2:∀v j,r= .ok v j→SW P G c (st' v j) Q):SW P G (.seq b c) st Q:=SW.mS (SW.mono (fun e s h=>by
 cases e with
 |normal=>obtain ⟨v,j,hr,hw⟩:=h;exact SW.xB hw (h2 v j hr)
 |_=>exact h) h1)
structure vP (Q:Exit→St→Prop) {α:Type} (r0 r:kJ α):Prop where
 eq:r0=r
 bad:∀n e s,r0= .bad n e→Q (.panic (tX (jW n e))) s
section
variable {α β:Type} {Q:Exit→St→Prop} {i j:Nat} {n e:Int} {a:α} {r0:kJ β}
theorem vP.step {x:bE α}{f:α→bE β}(h:vP Q r0 ((x >>=f) i))(hx:x i= .ok a j):vP Q r0 (f a j):=⟨h.eq.trans (bQ hx),h.bad⟩
theorem vP.fail {x:bE α}{f:α→bE β}(h:vP Q r0 ((x >>=f) i))(hx:x i= .bad n e)(s:St):Q (.panic (tX (jW n e))) s:=h.bad _ _ _ (h.eq.trans (eS hx))
end
theorem b9f {α β γ:Type}(x:bE α)(f:α→bE β)(g:β→bE γ):((x >>=f) >>=g)=(x >>=fun a=>f a >>=g):=funext fun i=>b4u x f g i
section
variable {rdP:List Tok→Nat→Nat→kJ Pr} {l:List Tok} (hV:jX G rdP l)
include hV
abbrev b2i (s:b0g):List D:= .sl (strs s.vars):: .sl (s.vC.map jR):: .sl (s.abs.map jR):: .sl (s.bounds.map b5T)::(tyD s.type++[.sl (s.b1w.map pW)])
omit hV in
theorem c6p (s:b0g):c5R s=b2i s:=by
 rw [c5R,cJ]
 rfl
abbrev b7A (l:List Tok):bE (List Nm):=do
 let b ← eC l [102,111,114,97,108,108]
 if b then do
  let w ← cA bD l
  let ws ← pZ l (fun i=>pF bD (aZ l i)) (tG l) [w]
  aV l [[46]]
  pure ws
 else pure []
abbrev b7B (l:List Tok):bE (List zV):=do
 let b ← eC l [119,104,101,114,101]
 if b then do
  let ns ← sH bD l
  aV l [[46]]
  pure ns
 else pure []
abbrev b7C (l:List Tok):bE (List zV):=do
 let b ← eC l [60]
 if b then do
  let ns ← rS bD l false
  aV l [[62],[46]]
  pure ns
 else pure []
abbrev c1N (rdP:List Tok→Nat→Nat→kJ Pr)(l:List Tok)(out:List oZ):bE (List oZ):=do
 aV l [[98,111,117,110,100]]
 let b ← sI bD rdP l
 pure (out++[b])
abbrev b4A (rdP:List Tok→Nat→Nat→kJ Pr)(l:List Tok):bE (List oZ):=pZ l (fun i=>aQ l i [98,111,117,110,100]) (c1N rdP l) []
abbrev b9g (rdP:List Tok→Nat→Nat→kJ Pr)(l:List Tok)(E:Nat)(out:List Pr):bE (List Pr):=do
 let p ← (fun j=>rdP l j E:bE Pr)
 pure (out++[p])
abbrev c8i (rdP:List Tok→Nat→Nat→kJ Pr)(l:List Tok):bE (List Pr):=do
 let b ← eC l [109,101,116,114,105,99]
 if b then (fun i=>gR l [44] (b9g rdP l (sX l (l.length+1) 0 i)) [] i) else pure []
omit hV in
theorem c1O:zX bD bW rdP l=(do
  let vs ← b7A l
  let ns ← b7B l
  let abs ← b7C l
  let bs ← b4A rdP l
  let t ← gW bD bW rdP l
  let ms ← c8i rdP l
  pure ⟨vs,ns,abs,bs,t,ms⟩):=by
 unfold zX;simp only [b9f]
theorem c1P:aA l 0 (b7A l):=(aA.skip hV.fin _).bl fun _=>aA.ite (((aA.word hV.fin).le (by omega)).bl fun _=>(aA.many (fun a=>((aA.word hV.fin).le (by omega)).bl fun _=>aA.bI _) _).bl fun _=>((aA.exp hV.fin _ _).le (by omega)).bl fun _=>aA.bI _) (aA.bI _)
theorem a1j:aA l 1 (sH bD l):=aA.vC hV.fin
theorem c1Q:aA l 0 (b7B l):=(aA.skip hV.fin _).bl fun _=>aA.ite (((a1j hV).le (by omega)).bl fun _=>((aA.exp hV.fin _ _).le (by omega)).bl fun _=>aA.bI _) (aA.bI _)
theorem c1R:aA l 0 (b7C l):=(aA.skip hV.fin _).bl fun _=>aA.ite (((aA.vars hV.fin false).le (by omega)).bl fun _=>((aA.exp hV.fin _ _).le (by omega)).bl fun _=>aA.bI _) (aA.bI _)
theorem a5Q:aA l 1 (sI bD rdP l):=aA.bound hV.fin hV.tM.pred
theorem c1S (out:List oZ):aA l 1 (c1N rdP l out):=(aA.exp hV.fin _ _).bl fun _=>((a5Q hV).le (by omega)).bl fun _=>aA.bI _
theorem c1T:aA l 0 (b4A rdP l):=aA.many (fun a=>(c1S hV a).le (by omega)) _
theorem a8h (E:Nat):aA l 0 (fun j=>rdP l j E:bE Pr):=fun i p j hi hx=>hV.tM E i p j hi hx
theorem c1U (E:Nat)(out:List Pr):aA l 0 (b9g rdP l E out):=(a8h hV E).bl fun _=>aA.bI _
theorem b9h (E:Nat)(a:List Pr)(i:Nat)(b:List Pr)(j:Nat)(hi:i<l.length)(h:a.length≤i)(hx:b9g rdP l E a i= .ok b j):b.length≤j:=by
 obtain ⟨p,k,h1,h2⟩:=bT hx;have h3:=(hV.nod i E p k hi h1).1;have pos:1≤cW p:=by cases p;simp [cW]
 cases h2;simp;omega
def a9u (vs:List Nm)(ns abs:List zV)(bs:List oZ)(t:Ty)(E:Nat)(out:List Pr):List (Nat×aR):=[(100001,.cells (.d (.sl (strs vs)):: .d (.sl (ns.map jR)):: .d (.sl (abs.map jR)):: .d (.sl (bs.map b5T))::((tyD t).map .d++[.d (.sl (out.map pW))]))),(100002,.cells [.ptr 100000 0]),(100003,.cells [.d (.int .i64 E)])]
abbrev d1X:List (TypeId×List VM.Loc):=[(43,[.c 100001 13])]
theorem c1V (vs:List Nm)(ns abs:List zV)(bs:List oZ)(t:Ty)(E:Nat):vL l K4 [.ptr 100001 0,.ptr 100002 0,.ptr 100003 0] (a9u vs ns abs bs t E) d1X:=by
 constructor
 all_goals intros
 all_goals first
  |rfl
  |simp [a9u,aJ,aP,aL,aK,aT,getKey,aM,aW,cE,rk,cL,bH, *]
theorem b6s (vs:List Nm)(ns abs:List zV)(bs:List oZ)(t:Ty)(E:Nat)(hE:E≤l.length)(out:List Pr)(i:Nat)(hi:i<l.length)(hout:out.length≤i):jG G 154 [.ptr 100001 0,.ptr 100002 0,.ptr 100003 0] (a9u vs ns abs bs t E out) d1X l i (b9g rdP l E out i) (fun _=> .cF []) (a9u vs ns abs bs t E):=by
 have hl:=hV.len;obtain ⟨j0,rfl⟩:∃j0,j0=i:=⟨_,rfl⟩;have p0:j0≤j0∧j0<l.length:=⟨d3X _,hi⟩;refine jG.cK Tryz.func154 rfl Tryz.ntmps154 rfl (by simp) ?_
 intro Q Q0;simp [a9u];refine cV 7 (t:=41) (e:=43) (T:=68) (s:=4) (z:=9) (r:=10) (p:=11) (q:=8) (x:=7) (b:=12) (y:=0) (fd:=5) [0] 4 [2,3] (a0f 1 5 6) (eK (rdP l j0 E)) rfl rfl rfl rfl rfl (by kernel_rfl) (by kernel_rfl) rfl ?_
 simp
 repeat' apply And.intro
 all_goals
  refine rE a2r ((hV.bef j0 E p0.2 hE)) (by simp) (by simp) (fun q j1 x1=>?_) (fun n e hx=>by first|exact Q0.fail hx _|(simp;exact Q0.fail hx _)|(simp;exact fun s=>Q0.fail hx s));have Q1:=Q0.step x1;have p1:=(a8h hV E) j0 q j1 p0.2 x1;refine cO.mk ?_
  simp;refine ⟨_,_,_,_,_,_,_,_,_,by simp,rfl,rfl,?_,rfl,rfl,?_,by simp,rfl,rfl,rfl,rfl,by decide,rfl,?_⟩
  ·intro c hc
   first
    |(obtain ⟨y,_,rfl⟩:=List.mem_map.1 hc
      rw [eB]
      rfl)
    |(simp only [d3O] at hc
      subst hc
      rfl)
  ·simp<;>omega
  exact Q1.ok _ j1 .normal _ rfl (.inl rfl) (by simp [a9u,eB])
abbrev c6q:List DV:=[.d .aI,.d .aI,.d .aI,.d .aI,.d (.int .i64 0),.d (.str []),.d .aI,.d .aI,.d (.int .i64 0),.d (.str []),.d (.int .i64 0),.d .aI,.d .aI,.d .aI]
abbrev c6r (l:List Tok)(a b c d:D)(j:Nat):St:=⟨.ptr 100000 0:: .ptr 1 0:: .ptr 2 0:: .ptr 3 0::List.replicate 76 .undef,[(1,.cells [.ptr 100000 0]),(2,.cells c6q),(3,.cells [.d a,.d b,.d c,.d d,.d (.int .i64 0),.d (.str []),.d .aI,.d .aI,.d (.int .i64 0),.d (.str []),.d (.int .i64 0),.d .aI,.d .aI,.d .aI]),(100000,rdO l j)],[]⟩
theorem c1W (v:Bool)(i:Nat)(xs:List zV)(j:Nat)(hi:i<l.length)(h:rS bD l v i= .ok xs j):xs.length≤j:=by unfold rS at h;exact (oN hV (one:=b0v l v) (fun a p=>a.length≤p) (fun a p b q hp ha hab=>by have h1:=a4J hV v a p b q hp hab;have h2:=b0w hV v a p b q hab;omega) (fun a p h=>by omega) _ _ _ _ _ hi (by simp) h).1
theorem a4Q (i:Nat)(hi:i<l.length):mX G 108 [] l i (zX bD bW rdP l i) (fun s=> .d (.agg (b2i s))):=by
 have hl:=hV.len;obtain ⟨j0,rfl⟩:∃j0,j0=i:=⟨_,rfl⟩;have p0:j0≤j0∧j0<l.length:=⟨d3X _,hi⟩;refine jG.a2g Tryz.func108 rfl Tryz.ntmps108 rfl (by simp) ?_
 intro Q Q0;rw [c1O] at Q0;refine SW.mS (SW.xk ?_);simp;refine SW.mS (SW.xk ?_);simp;refine SW.b4z (b7A l j0) (fun vs j=>c6r l (.sl (strs vs)) .aI .aI .aI j) ?_ fun vs j1 x1=>?_
 ·skip
  have Q0:=vP.mk (Q:=Q) (r0:=b7A l j0) rfl fun n e s h=>Q0.fail h s
  refine SW.mS (SW.xk ?_);simp;cases hs:aQ l j0 [102,111,114,97,108,108] with
  |false=>
   have Q1:=Q0.step (gA hs);rw [if_neg (by decide)] at Q1;refine aY (ds:=[.str [102,111,114,97,108,108]]) (d:= .d (.bool false)) aC (aO l j0 [102,111,114,97,108,108] p0.2 (by omega) hs) (by simp) (by simp) ?_
   simp;refine SW.a5F rfl (SW.xk ?_);simp;exact ⟨_,_,Q1.eq,by simp [List.replicate]⟩
  |true=>
   have Q1:=Q0.step (eZ hs);rw [if_pos rfl] at Q1;refine aY (ds:=[.str [102,111,114,97,108,108]]) (d:= .d (.bool true)) aC (aN l j0 [102,111,114,97,108,108] p0.2 (by omega) hs) (by simp) (by simp) ?_
   have p1:j0+1≤j0+1∧j0+1<l.length:=⟨d3X _,aF hV.fin p0.2 hs⟩;obtain ⟨j1,hj1⟩:∃j,j0+1=j:=⟨_,rfl⟩;rw [hj1] at Q1 p1 ⊢;simp;refine SW.a2n rfl (SW.xk ?_);simp;refine jA [0] 3 [2] (.op 1 (.call [4,5,6,7] .none) (.call [1,4,5,6,7] .none)) (eK (cA bD l j1)) (by kernel_rfl) (by kernel_rfl) ?_
   simp;refine ⟨?_,?_⟩
   all_goals
    refine rE cH (cR hV.kw l j1 p1.2 (by omega)) (by simp) (by simp) (fun w j2 x2=>?_) (fun n e hx=>by first|exact Q1.fail hx _|(simp;exact Q1.fail hx _)|(simp;exact fun s=>Q1.fail hx s));have Q2:=Q1.step x2;have p2:=aA.word hV.fin j1 w j2 p1.2 x2;refine cO.mk ?_
    simp;refine SW.wR (ι:={ x:List Nm×Nat×Nat // j2≤x.2.1∧x.2.1<l.length∧l.length<x.2.2+x.2.1∧x.1.length≤x.2.1∧eE (fun i=>pF bD (aZ l i)) (tG l) x.2.2 x.1 x.2.1=pZ l (fun i=>pF bD (aZ l i)) (tG l) [w] j2 }) (fun _=>[]) (fun x=>[(1,.cells [.ptr 100000 0]),(2,.cells c6q),(3,.cells [.d (.sl (strs x.1.1)),.d .aI,.d .aI,.d .aI,.d (.int .i64 0),.d (.str []),.d .aI,.d .aI,.d (.int .i64 0),.d (.str []),.d (.int .i64 0),.d .aI,.d .aI,.d .aI]),(100000,rdO l x.1.2.1)]) (fun _=>[(9,[.c 3 0])]) (fun x=>l.length-x.1.2.1) ⟨([w],j2,l.length+2),d3X _,p2.2,by simp only;omega,by simp only [List.length_singleton];omega,rfl⟩ (by simp [strs]) ?_
    rintro ⟨⟨out,j3,g⟩,hb,hj3,hg,ho,hp⟩;simp only at hb hj3 hg ho hp;obtain ⟨g,rfl⟩:∃k,g=k+1:=⟨g-1,by omega⟩;have p3:j2≤j3∧j3<l.length:=⟨hb,hj3⟩;have ht:=cB (G:=G) l j3 j3 0 (by omega) (by omega) (by intro e;subst e;simp at hi) (by omega);simp;refine aY (i:=j3) (ds:=[.int .i64 0]) bJ ht (by simp) (by simp) ?_
    simp;refine kU.mk gH (jE hV.kw (aZ l j3)) ?_
    cases hc:pF bD (aZ l j3) with
    |true=>
     simp;refine jA [0] 3 [2] (.op 1 (.call [4,5,6,7] .none) (.call [1,4,5,6,7] .none)) (eK (cA bD l j3)) (by kernel_rfl) (by kernel_rfl) ?_
     simp;refine ⟨?_,?_⟩
     all_goals
      refine rE (i:=j3) (ds:=[]) cH (cR hV.kw l j3 hj3 (by omega)) (by simp) (by simp) (fun w2 j4 x4=>?_) (fun n e hx=>?_)
      ·have p4:=aA.word (kw:=bD) hV.fin j3 w2 j4 hj3 x4;have h1:tG l out j3= .ok (out++[w2]) j4:=(bQ x4).trans rfl;rw [rZ hV hc h1] at hp;refine cO.mk ?_
       simp;refine dH (by first|omega|(simp;omega)) ?_
       simp;exact bN.mk ⟨(out++[w2],j4,g),by simp only;omega,p4.2,by simp only;omega,by simp;omega,hp⟩ (by simp [xY]) (by simp;omega)
      ·have h1:tG l out j3= .bad n e:=eS hx;rw [mO hV hc h1] at hp;simp
       first|exact Q2.fail hp.symm _|exact fun s=>Q2.fail hp.symm s
    |false=>rw [sA hV hc] at hp;have Q3:=Q2.step hp.symm;simp;refine bY (ds:=[.sl (strs [[46]])]) aD (aE l [[46]] j3 p3.2 (by omega) hV.fin (by simp)) (by simp [strs]) (by simp) (fun u4 j4 x4=>?_) (fun n e hx=>by first|exact Q3.fail hx _|(simp;exact Q3.fail hx _)|(simp;exact fun s=>Q3.fail hx s));have Q4:=Q3.step x4;have p4:=aA.exp hV.fin _ _ j3 u4 j4 p3.2 x4;simp;exact ⟨_,_,Q4.eq,by simp [List.replicate]⟩
 have Q0:=Q0.step x1;have p1:=c1P hV j0 vs j1 p0.2 x1
 clear p0 x1
 have p0:j1≤j1∧j1<l.length:=⟨d3X _,p1.2⟩
 clear p1 hi
 obtain ⟨j0,rfl⟩:∃j,j=j1:=⟨_,rfl⟩;refine SW.b4z (b7B l j0) (fun ns j=>c6r l (.sl (strs vs)) (.sl (ns.map jR)) .aI .aI j) ?_ fun ns j1 x1=>?_
 ·skip
  have Q0:=vP.mk (Q:=Q) (r0:=b7B l j0) rfl fun n e s h=>Q0.fail h s
  refine SW.mS (SW.xk ?_);simp [List.replicate];cases hs:aQ l j0 [119,104,101,114,101] with
  |false=>
   have Q1:=Q0.step (gA hs);rw [if_neg (by decide)] at Q1;refine aY (ds:=[.str [119,104,101,114,101]]) (d:= .d (.bool false)) aC (aO l j0 [119,104,101,114,101] p0.2 (by omega) hs) (by simp) (by simp) ?_
   simp;refine SW.a5F rfl (SW.xk ?_);simp;exact ⟨_,_,Q1.eq,by simp [List.replicate]⟩
  |true=>
   have Q1:=Q0.step (eZ hs);rw [if_pos rfl] at Q1;refine aY (ds:=[.str [119,104,101,114,101]]) (d:= .d (.bool true)) aC (aN l j0 [119,104,101,114,101] p0.2 (by omega) hs) (by simp) (by simp) ?_
   have p1:j0+1≤j0+1∧j0+1<l.length:=⟨d3X _,aF hV.fin p0.2 hs⟩;obtain ⟨j1,hj1⟩:∃j,j0+1=j:=⟨_,rfl⟩;rw [hj1] at Q1 p1 ⊢;simp;refine SW.a2n rfl (SW.xk ?_);simp;refine bY a4i ((a5P hV j1 p1.2)) (by simp) (by simp) (fun ns j2 x2=>?_) (fun n e hx=>by first|exact Q1.fail hx _|(simp;exact Q1.fail hx _)|(simp;exact fun s=>Q1.fail hx s));have Q2:=Q1.step x2;have p2:=a1j hV j1 ns j2 p1.2 x2;simp;refine bY (ds:=[.sl (strs [[46]])]) aD (aE l [[46]] j2 p2.2 (by omega) hV.fin (by simp)) (by simp [strs]) (by simp) (fun u3 j3 x3=>?_) (fun n e hx=>by first|exact Q2.fail hx _|(simp;exact Q2.fail hx _)|(simp;exact fun s=>Q2.fail hx s));have Q3:=Q2.step x3;have p3:=aA.exp hV.fin _ _ j2 u3 j3 p2.2 x3;simp;exact ⟨_,_,Q3.eq,by simp [List.replicate]⟩
 have Q0:=Q0.step x1;have p1:=c1Q hV j0 ns j1 p0.2 x1
 clear p0 x1
 have p0:j1≤j1∧j1<l.length:=⟨d3X _,p1.2⟩
 clear p1
 obtain ⟨j0,rfl⟩:∃j,j=j1:=⟨_,rfl⟩;refine SW.b4z (b7C l j0) (fun abs j=>c6r l (.sl (strs vs)) (.sl (ns.map jR)) (.sl (abs.map jR)) .aI j) ?_ fun abs j1 x1=>?_
 ·skip
  have Q0:=vP.mk (Q:=Q) (r0:=b7C l j0) rfl fun n e s h=>Q0.fail h s
  refine SW.mS (SW.xk ?_);simp [List.replicate];cases hs:aQ l j0 [60] with
  |false=>
   have Q1:=Q0.step (gA hs);rw [if_neg (by decide)] at Q1;refine aY (ds:=[.str [60]]) (d:= .d (.bool false)) aC (aO l j0 [60] p0.2 (by omega) hs) (by simp) (by simp) ?_
   simp;refine SW.a5F rfl (SW.xk ?_);simp;exact ⟨_,_,Q1.eq,by simp [List.replicate]⟩
  |true=>
   have Q1:=Q0.step (eZ hs);rw [if_pos rfl] at Q1;refine aY (ds:=[.str [60]]) (d:= .d (.bool true)) aC (aN l j0 [60] p0.2 (by omega) hs) (by simp) (by simp) ?_
   have p1:j0+1≤j0+1∧j0+1<l.length:=⟨d3X _,aF hV.fin p0.2 hs⟩;obtain ⟨j1,hj1⟩:∃j,j0+1=j:=⟨_,rfl⟩;rw [hj1] at Q1 p1 ⊢;simp;refine SW.a2n rfl (SW.xk ?_);simp;refine bY wU ((zH hV false j1 p1.2)) (by simp) (by simp) (fun xs j2 x2=>?_) (fun n e hx=>by first|exact Q1.fail hx _|(simp;exact Q1.fail hx _)|(simp;exact fun s=>Q1.fail hx s));have Q2:=Q1.step x2;have p2:=(aA.vars hV.fin false) j1 xs j2 p1.2 x2;have hxs:=c1W hV false j1 xs j2 p1.2 x2;simp;refine SW.wR (ι:={ k:Nat // k≤xs.length }) (fun k=>[(42,.d (.int .i64 k.1))]) (fun k=>[(1,.cells [.ptr 100000 0]),(2,.cells c6q),(3,.cells [.d (.sl (strs vs)),.d (.sl (ns.map jR)),.d (.sl ((xs.take k.1).map jR)),.d .aI,.d (.int .i64 0),.d (.str []),.d .aI,.d .aI,.d (.int .i64 0),.d (.str []),.d (.int .i64 0),.d .aI,.d .aI,.d .aI]),(100000,rdO l j2)]) (fun _=>[(161,[.c 3 2])]) (fun k=>xs.length-k.1) ⟨0,Nat.zero_le _⟩ (by simp) ?_
   rintro ⟨k,hk⟩;by_cases hlt:k<xs.length
   ·have hg:(xs.map jR)[k]? =some [.str xs[k].1,.str xs[k].2]:=by simp [hlt,jR]
    have hw:=bO (show k<9223372036854775807 by omega);have htk:(xs.map jR).take (k+1)=(xs.map jR).take k++[[.str xs[k].1,.str xs[k].2]]:=by rw [d3W (by simpa using hlt)];simp [jR]
    simp [hlt,hg,jR];refine pB ⟨fun x hx=>c1A hV xs x (List.mem_of_mem_take hx),by omega⟩ ?_
    simp [hw];exact bN.mk ⟨k+1,hlt⟩ (by simp [htk]) (by simp;omega)
   ·have htk:xs.take k=xs:=List.take_of_length_le (by omega);simp [hlt,htk];refine bY (ds:=[.sl (strs [[62],[46]])]) aD (aE l [[62],[46]] j2 p2.2 (by omega) hV.fin (by simp)) (by simp [strs]) (by simp) (fun u3 j3 x3=>?_) (fun n e hx=>by first|exact Q2.fail hx _|(simp;exact Q2.fail hx _)|(simp;exact fun s=>Q2.fail hx s));have Q3:=Q2.step x3;have p3:=aA.exp hV.fin _ _ j2 u3 j3 p2.2 x3;simp;exact ⟨_,_,Q3.eq,by simp [List.replicate]⟩
 have Q0:=Q0.step x1;have p1:=c1R hV j0 abs j1 p0.2 x1
 clear p0 x1
 have p0:j1≤j1∧j1<l.length:=⟨d3X _,p1.2⟩
 clear p1
 obtain ⟨j0,rfl⟩:∃j,j=j1:=⟨_,rfl⟩;refine SW.b4z (b4A rdP l j0) (fun bs j=>c6r l (.sl (strs vs)) (.sl (ns.map jR)) (.sl (abs.map jR)) (.sl (bs.map b5T)) j) ?_ fun bs j1 x1=>?_
 ·skip
  have Q0:=vP.mk (Q:=Q) (r0:=b4A rdP l j0) rfl fun n e s h=>Q0.fail h s
  refine SW.xk ?_
  simp [List.replicate];refine SW.wR (ι:={ x:List oZ×Nat×Nat // j0≤x.2.1∧x.2.1<l.length∧l.length<x.2.2+x.2.1∧x.1.length≤x.2.1∧eE (fun i=>aQ l i [98,111,117,110,100]) (c1N rdP l) x.2.2 x.1 x.2.1=b4A rdP l j0 }) (fun _=>[]) (fun x=>[(1,.cells [.ptr 100000 0]),(2,.cells c6q),(3,.cells [.d (.sl (strs vs)),.d (.sl (ns.map jR)),.d (.sl (abs.map jR)),.d (.sl (x.1.1.map b5T)),.d (.int .i64 0),.d (.str []),.d .aI,.d .aI,.d (.int .i64 0),.d (.str []),.d (.int .i64 0),.d .aI,.d .aI,.d .aI]),(100000,rdO l x.1.2.1)]) (fun _=>[(163,[.c 3 3])]) (fun x=>l.length-x.1.2.1) ⟨([],j0,l.length+2),d3X _,p0.2,by simp only;omega,by simp,rfl⟩ (by simp) ?_
  rintro ⟨⟨out,j3,g⟩,hb,hj3,hg,ho,hp⟩;simp only at hb hj3 hg ho hp;obtain ⟨g,rfl⟩:∃k,g=k+1:=⟨g-1,by omega⟩;have p3:j0≤j3∧j3<l.length:=⟨hb,hj3⟩;simp;cases hc:aQ l j3 [98,111,117,110,100] with
  |true=>
   have hn:=aF hV.fin hj3 hc;refine aY (ds:=[.str [98,111,117,110,100]]) (d:= .d (.bool true)) aC (aN l j3 [98,111,117,110,100] p3.2 (by omega) hc) (by simp) (by simp) ?_
   have p4:j3+1≤j3+1∧j3+1<l.length:=⟨d3X _,aF hV.fin p3.2 hc⟩;simp;refine jA [0] 3 [2] (.op 1 (.call [4,5,6,7] .none) (.call [1,4,5,6,7] .none)) (eK (sI bD rdP l (j3+1))) (by kernel_rfl) (by kernel_rfl) ?_
   simp;refine ⟨?_,?_⟩
   all_goals
    refine rE (i:=j3+1) (ds:=[]) b2e (b4y hV (j3+1) hn) (by simp) (by simp) (fun b j4 x4=>?_) (fun n e hx=>?_)
    ·have p4:=a5Q hV (j3+1) b j4 hn x4;have h0:aV l [[98,111,117,110,100]] j3= .ok () (j3+1):=(b1Q hc).trans rfl;have h1:c1N rdP l out j3= .ok (out++[b]) j4:=(bQ h0).trans ((bQ x4).trans rfl);rw [rZ hV hc h1] at hp;refine cO.mk ?_
     simp;refine dH (by first|omega|exact ⟨fun x _=>by rw [b7z];rfl,by omega⟩|(simp;omega)) ?_
     simp;exact bN.mk ⟨(out++[b],j4,g),by simp only;omega,p4.2,by simp only;omega,by simp;omega,hp⟩ (by simp [b7z]) (by simp;omega)
    ·have h0:aV l [[98,111,117,110,100]] j3= .ok () (j3+1):=(b1Q hc).trans rfl;have h1:c1N rdP l out j3= .bad n e:=(bQ h0).trans (eS hx);rw [mO hV hc h1] at hp;simp
     first|exact Q0.bad _ _ _ hp.symm|exact fun s=>Q0.bad _ _ s hp.symm
  |false=>
   rw [sA hV hc] at hp;refine aY (ds:=[.str [98,111,117,110,100]]) (d:= .d (.bool false)) aC (aO l j3 [98,111,117,110,100] p3.2 (by omega) hc) (by simp) (by simp) ?_
   simp;exact ⟨_,_,hp.symm,by simp [List.replicate]⟩
 have Q1:=Q0.step x1;have p1:=c1T hV j0 bs j1 p0.2 x1;refine SW.xk ?_
 simp [List.replicate];refine bY cG ((jO hV j1 p1.2)) (by simp) (by simp) (fun t j2 x2=>?_) (fun n e hx=>by first|exact Q1.fail hx _|(simp;exact Q1.fail hx _)|(simp;exact fun s=>Q1.fail hx s));have Q2:=Q1.step x2;have p2:=eR hV j1 t j2 p1.2 x2;simp;cases hs:aQ l j2 [109,101,116,114,105,99] with
 |false=>
  have Q3:=Q2.step (a:=[]) (j:=j2) ((bQ (gA hs)).trans rfl);refine aY (ds:=[.str [109,101,116,114,105,99]]) (d:= .d (.bool false)) aC (aO l j2 [109,101,116,114,105,99] p2.2 (by omega) hs) (by simp) (by simp) ?_
  simp;exact Q3.ok _ j2 _ _ rfl (.inr rfl) (by simp)
 |true=>
  have e1:c8i rdP l j2=gR l [44] (b9g rdP l (sX l (l.length+1) 0 (j2+1))) [] (j2+1):=(bQ (eZ hs)).trans rfl;refine aY (ds:=[.str [109,101,116,114,105,99]]) (d:= .d (.bool true)) aC (aN l j2 [109,101,116,114,105,99] p2.2 (by omega) hs) (by simp) (by simp) ?_
  have p3:j2+1≤j2+1∧j2+1<l.length:=⟨d3X _,aF hV.fin p2.2 hs⟩;obtain ⟨j3,hj3⟩:∃j,j2+1=j:=⟨_,rfl⟩;rw [hj3] at e1 p3 ⊢;simp;have heq:=a8g hV j3 p3.2;have hE:=a6u hV (l.length+1) 0 j3;refine aY (ds:=[]) a6c heq (by simp) (by simp) ?_
  generalize sX l (l.length+1) 0 j3=E at e1 hE ⊢;simp;have hone:=dR hV [44] (b9g rdP l E) (fun out i=>out.length≤i) 0 b2h (c1V hV vs ns abs bs t E) (fun a=>c1U hV E a) (fun a i _ hi h=>b6s hV vs ns abs bs t E hE a i hi h) (b9h hV E) (fun a i h=>by omega) [] j3 (by omega) p3.2 (by simp);refine eU.mk (tY cT hone [(100000,100000),(100001,3),(100002,1),(100003,6)] (fun a j hx=>?_) ?_ ?_ ?_ rfl rfl (fun ms j4 x4=>?_) (fun n e hx2=>Q2.fail (e1.trans hx2) _))
  ·simp [a9u,aJ,aP,aL,aK,aT,getKey]
  ·simp [a9u,aJ,aP,aL,aK,aT,getKey]
  ·simp [aM,aW,rk]
  ·simp [a9u,aM,aW,rk,cE,cL]
  ·have Q4:=Q2.step (e1.trans x4);simp [aU,a9u,aM,aW,rk,cE,cL,bH,eM,dZ,dC];exact Q4.ok _ j4 _ _ rfl (.inr rfl) (by simp)
end
end
section
open Go Go.VM
variable {G:GT}
theorem b2j:VM.Enters Tryz.prog 69:=VM.Enters.mk Tryz.func69 rfl
theorem a8i:VM.Enters Tryz.prog 115:=VM.Enters.mk Tryz.func115 rfl
theorem a9v:VM.Enters Tryz.prog 70:=VM.Enters.mk Tryz.func70 rfl
theorem a6d:VM.Enters Tryz.prog 118:=VM.Enters.mk Tryz.func118 rfl
theorem a6v (a:Nm×List Nm×gC):b3O a=[.str a.1,.sl (strs a.2.1),.int .i64 a.2.2.op,.str a.2.2.name,.int .i64 a.2.2.n,.sl (a.2.2.kids.map a1V),.sl (a.2.2.params.map a7w),.sl (a.2.2.alts.map b3O),.sl (a.2.2.types.map tyC)]:=by rw [b3O,dE]
theorem a1N (p:Nm×Ty):a7w p= .str p.1::tyD p.2:=by rw [a7w,cJ]
abbrev a8j:=Nm×List Nm×gC
section
variable {rdP:List Tok→Nat→Nat→kJ Pr} {l:List Tok} (hV:jX G rdP l)
include hV
section
variable {ex:Nat→bE gC} {low:Nat} (hex:∀i,low≤i→i<l.length→mX G 34 [] l i (ex 0 i) pK) (aex:∀k,aA l 1 (ex k))
include hex aex
def vQ (e:gC)(out:List a8j):List (Nat×aR):=[(100001,.cells [.ptr 100000 0]),(100002,.cells [.d (.int .i64 9),.d (.str []),.d (.int .i64 0),.d (.sl [a1V e]),.d (.sl []),.d (.sl (out.map b3O)),.d (.sl [])])]
abbrev c1X:List (TypeId×List VM.Loc):=[(91,[.c 100002 5])]
abbrev c6s (l:List Tok)(ex:Nat→bE gC)(out:List a8j):bE (List a8j):=do
 let c ← gM l
 let ns ← (fun i=>if aQ l i [40] then gD bD l i else .ok [] i:bE (List Nm))
 aV l [[45,62]]
 let b ← ex 0
 pure (out++[(c,ns,b)])
omit hex aex in
theorem b6t (e:gC):vL l K3 [.ptr 100001 0,.ptr 100002 0] (vQ e) c1X:=by
 constructor
 all_goals intros
 all_goals first
  |rfl
  |simp [vQ,aJ,aP,aL,aK,aT,getKey,aM,aW,cE,rk,cL,bH, *]
omit hex in
theorem a8k (out:List a8j):aA l 1 (c6s l ex out):=by
 refine (aA.title hV.fin).bl fun _=>aA.bl (fun i b j hi h=>?_) fun _=>((aA.exp hV.fin _ _).le (by omega)).bl fun _=>((aex 0).le (by omega)).bl fun _=>aA.bI _
 split at h
 ·exact ((aA.words hV.fin).le (by omega)) _ _ _ hi h
 ·cases h;omega
omit hex in
theorem b9i (a:List a8j)(i:Nat)(b:List a8j)(j:Nat)(hi:i<l.length)(h:a.length≤i)(hx:c6s l ex a i= .ok b j):b.length≤j:=by have h1:=a8k hV aex a i b j hi hx;obtain ⟨_,_,_,hx⟩:=bT hx;obtain ⟨_,_,_,hx⟩:=bT hx;obtain ⟨_,_,_,hx⟩:=bT hx;obtain ⟨_,_,_,hx⟩:=bT hx;cases hx;simp;omega
theorem b2k (e:gC)(out:List a8j)(i:Nat)(hlow:low≤i)(hi:i<l.length)(hout:out.length≤i):jG G 115 [.ptr 100001 0,.ptr 100002 0] (vQ e out) c1X l i (c6s l ex out i) (fun _=> .cF []) (vQ e):=by
 have hl:=hV.len;obtain ⟨j0,rfl⟩:∃j0,j0=i:=⟨_,rfl⟩;have p0:j0≤j0∧j0<l.length:=⟨d3X _,hi⟩;refine jG.cK Tryz.func115 rfl Tryz.ntmps115 rfl (by simp) ?_
 intro Q Q0;simp [vQ];refine bY eO (gI l j0 p0.2 (by omega)) (by simp) (by simp) (fun c j1 x1=>?_) (fun n e hx=>by first|exact Q0.fail hx _|(simp;exact Q0.fail hx _)|(simp;exact fun s=>Q0.fail hx s));have Q1:=Q0.step x1;have p1:=aA.title hV.fin j0 c j1 p0.2 x1;simp;have hb:=eY (G:=G) l j1 [40] p1.2 (by omega);refine aY (ds:=[.str [40]]) dV hb (by simp) (by simp) ?_
 cases hs:aQ l j1 [40] with
 |false=>
  have Q1:=Q1.step (a:=[]) (j:=j1) (by simp [hs]);simp;refine bY (ds:=[.sl (strs [[45,62]])]) aD (aE l [[45,62]] j1 p1.2 (by omega) hV.fin (by simp)) (by simp [strs]) (by simp) (fun u4 j4 x4=>?_) (fun n e hx=>by first|exact Q1.fail hx _|(simp;exact Q1.fail hx _)|(simp;exact fun s=>Q1.fail hx s));have Q4:=Q1.step x4;have p4:=aA.exp hV.fin _ _ j1 u4 j4 p1.2 x4;simp;refine bY bR ((hex j4 (by omega) p4.2)) (by simp) (by simp) (fun b j5 x5=>?_) (fun n e hx=>by first|exact Q4.fail hx _|(simp;exact Q4.fail hx _)|(simp;exact fun s=>Q4.fail hx s));have Q5:=Q4.step x5;have p5:=aex 0 j4 b j5 p4.2 x5;simp;refine wP (m:=5) (t:=27) (e:=91) (T:=30) (s:=18) (z:=21) (r:=22) (p:=23) (q:=20) (x:=19) (b:=24) (y:=1) (fd:=5) rfl rfl rfl rfl rfl (by kernel_rfl) (by kernel_rfl) rfl rfl ?_
  simp;refine ⟨_,_,_,_,_,_,_,_,_,by simp,rfl,rfl,?_,rfl,rfl,?_,by simp,rfl,rfl,rfl,rfl,by decide,rfl,?_⟩
  ·intro c hc
   first
    |(obtain ⟨y,_,rfl⟩:=List.mem_map.1 hc
      rw [a6v]
      rfl)
    |(simp only [d3O] at hc
      subst hc
      rfl)
  ·simp<;>omega
  exact Q5.ok _ j5 .normal _ rfl (.inl rfl) (by simp [vQ,a6v,rX])
 |true=>
  have e1:(fun i=>if aQ l i [40] then gD bD l i else .ok [] i:bE (List Nm)) j1=gD bD l j1:=by simp [hs]
  simp;refine bY zG (a0Y hV j1 p1.2) (by simp) (by simp) (fun ns j3 x3=>?_) (fun n e hx=>by first|exact Q1.fail (e1.trans hx) _|(simp;exact Q1.fail (e1.trans hx) _)|(simp;exact fun s=>Q1.fail (e1.trans hx) s));have Q3:=Q1.step (e1.trans x3);have p3:=aA.words hV.fin j1 ns j3 p1.2 x3;simp;refine bY (ds:=[.sl (strs [[45,62]])]) aD (aE l [[45,62]] j3 p3.2 (by omega) hV.fin (by simp)) (by simp [strs]) (by simp) (fun u4 j4 x4=>?_) (fun n e hx=>by first|exact Q3.fail hx _|(simp;exact Q3.fail hx _)|(simp;exact fun s=>Q3.fail hx s));have Q4:=Q3.step x4;have p4:=aA.exp hV.fin _ _ j3 u4 j4 p3.2 x4;simp;refine bY bR ((hex j4 (by omega) p4.2)) (by simp) (by simp) (fun b j5 x5=>?_) (fun n e hx=>by first|exact Q4.fail hx _|(simp;exact Q4.fail hx _)|(simp;exact fun s=>Q4.fail hx s));have Q5:=Q4.step x5;have p5:=aex 0 j4 b j5 p4.2 x5;simp;refine wP (m:=5) (t:=27) (e:=91) (T:=30) (s:=18) (z:=21) (r:=22) (p:=23) (q:=20) (x:=19) (b:=24) (y:=1) (fd:=5) rfl rfl rfl rfl rfl (by kernel_rfl) (by kernel_rfl) rfl rfl ?_
  simp;refine ⟨_,_,_,_,_,_,_,_,_,by simp,rfl,rfl,?_,rfl,rfl,?_,by simp,rfl,rfl,rfl,rfl,by decide,rfl,?_⟩
  ·intro c hc
   first
    |(obtain ⟨y,_,rfl⟩:=List.mem_map.1 hc
      rw [a6v]
      rfl)
    |(simp only [d3O] at hc
      subst hc
      rfl)
  ·simp<;>omega
  exact Q5.ok _ j5 .normal _ rfl (.inl rfl) (by simp [vQ,a6v,rX])
theorem b4B (i:Nat)(hlow:low≤i)(hi:i<l.length):mX G 69 [] l i (vE bD l ex i) pK:=by
 have hl:=hV.len;obtain ⟨j0,rfl⟩:∃j0,j0=i:=⟨_,rfl⟩;have p0:j0≤j0∧j0<l.length:=⟨d3X _,hi⟩;refine jG.cK Tryz.func69 rfl Tryz.ntmps69 rfl (by simp) ?_
 intro Q Q0;unfold vE at Q0;simp;refine bY bR ((hex j0 hlow p0.2)) (by simp) (by simp) (fun e j1 x1=>?_) (fun n e hx=>by first|exact Q0.fail hx _|(simp;exact Q0.fail hx _)|(simp;exact fun s=>Q0.fail hx s));have Q1:=Q0.step x1;have p1:=aex 0 j0 e j1 p0.2 x1;simp;refine kU.mk bV (b9b 9 e) ?_
 simp;refine bY (ds:=[.sl (strs [[111,102],[123]])]) aD (aE l [[111,102],[123]] j1 p1.2 (by omega) hV.fin (by simp)) (by simp [strs]) (by simp) (fun u2 j2 x2=>?_) (fun n e hx=>by first|exact Q1.fail hx _|(simp;exact Q1.fail hx _)|(simp;exact fun s=>Q1.fail hx s));have Q2:=Q1.step x2;have p2:=aA.exp hV.fin _ _ j1 u2 j2 p1.2 x2;simp;have hone:=dR hV [59] (c6s l ex) (fun out i=>out.length≤i) low a8i (b6t hV e) (fun a=>(a8k hV aex a).le (by omega)) (fun a i qM hi h=>b2k hV hex aex e a i qM hi h) (b9i hV aex) (fun a i h=>by omega) [] j2 (by omega) p2.2 (by simp);refine eU.mk (tY cT hone [(100000,100000),(100001,1),(100002,3)] (fun a j hx=>?_) ?_ ?_ ?_ rfl rfl (fun ws j3 x3=>?_) (fun n e hx2=>Q2.fail hx2 _))
 ·simp [vQ,aJ,aP,aL,aK,aT,getKey]
 ·simp [vQ,aJ,aP,aL,aK,aT,getKey]
 ·simp [aM,aW,rk]
 ·simp [vQ,aM,aW,rk,cE,cL]
 ·have Q3:=Q2.step x3;have p3:=aA.list hV.fin (fun a=>a8k hV aex a) [] j2 ws j3 p2.2 x3;simp [aU,vQ,aM,aW,rk,cE,cL,bH,eM,dZ,dC];refine bY (ds:=[.sl (strs [[125]])]) aD (aE l [[125]] j3 p3.2 (by omega) hV.fin (by simp)) (by simp [strs]) (by simp) (fun u4 j4 x4=>?_) (fun n e hx=>by first|exact Q3.fail hx _|(simp;exact Q3.fail hx _)|(simp;exact fun s=>Q3.fail hx s));have Q4:=Q3.step x4;have p4:=aA.exp hV.fin _ _ j3 u4 j4 p3.2 x4;simp;exact Q4.ok _ j4 _ _ rfl (.inr rfl) (by simp)
end
def a8l (out:List (Nm×Ty)):List (Nat×aR):=[(100001,.cells [.ptr 100000 0]),(100002,.cells [.d (.int .i64 6),.d (.str []),.d (.int .i64 0),.d (.sl []),.d (.sl (out.map a7w)),.d (.sl []),.d (.sl [])])]
abbrev d1Y:List (TypeId×List VM.Loc):=[(135,[.c 100002 4])]
abbrev c6t (rdP:List Tok→Nat→Nat→kJ Pr)(l:List Tok)(out:List (Nm×Ty)):bE (List (Nm×Ty)):=do
 let w ← cA bD l
 let b ← eC l [58]
 let t ← (if b then gW bD bW rdP l else pure rR)
 pure (out++[(w,t)])
theorem c1Y:vL l K3 [.ptr 100001 0,.ptr 100002 0] a8l d1Y:=by
 constructor
 all_goals intros
 all_goals first
  |rfl
  |simp [a8l,aJ,aP,aL,aK,aT,getKey,aM,aW,cE,rk,cL,bH, *]
theorem a8m (out:List (Nm×Ty)):aA l 1 (c6t rdP l out):=(aA.word hV.fin).bl fun _=>(aA.skip hV.fin _).bl fun _=>aA.bl (aA.ite ((eR hV).le (by omega)) (aA.bI _)) fun _=>aA.bI _
theorem b9j (a:List (Nm×Ty))(i:Nat)(b:List (Nm×Ty))(j:Nat)(hi:i<l.length)(h:a.length≤i)(hx:c6t rdP l a i= .ok b j):b.length≤j:=by have h1:=a8m hV a i b j hi hx;obtain ⟨_,_,_,hx⟩:=bT hx;obtain ⟨_,_,_,hx⟩:=bT hx;obtain ⟨_,_,_,hx⟩:=bT hx;cases hx;simp;omega
theorem b6u (out:List (Nm×Ty))(i:Nat)(hi:i<l.length)(hout:out.length≤i):jG G 118 [.ptr 100001 0,.ptr 100002 0] (a8l out) d1Y l i (c6t rdP l out i) (fun _=> .cF []) a8l:=by
 have hl:=hV.len;obtain ⟨j0,rfl⟩:∃j0,j0=i:=⟨_,rfl⟩;have p0:j0≤j0∧j0<l.length:=⟨d3X _,hi⟩;refine jG.cK Tryz.func118 rfl Tryz.ntmps118 rfl (by simp) ?_
 intro Q Q0;simp [a8l];refine bY cH (cR hV.kw l j0 p0.2 (by omega)) (by simp) (by simp) (fun c j1 x1=>?_) (fun n e hx=>by first|exact Q0.fail hx _|(simp;exact Q0.fail hx _)|(simp;exact fun s=>Q0.fail hx s));have Q1:=Q0.step x1;have p1:=aA.word hV.fin j0 c j1 p0.2 x1;simp;cases hs:aQ l j1 [58] with
 |false=>
  have Q2:=Q1.step (gA hs);rw [if_neg (by decide)] at Q2;refine aY (ds:=[.str [58]]) (d:= .d (.bool false)) aC (aO l j1 [58] p1.2 (by omega) hs) (by simp) (by simp) ?_
  simp;have Q3:=Q2.step (eV _ _);refine pB ⟨rfl,d3K.2 fun c hc=>?_,?_⟩ ?_
  ·obtain ⟨y,_,rfl⟩:=List.mem_map.1 hc;rw [a1N]
   rfl
  ·have hb:Tryz.prog.bytesOf 135≤1000:=by decide
   rw [List.length_map]
   calc (out.length+1)*(Tryz.prog.bytesOf 135+1)≤50001*1001:=Nat.mul_le_mul (by omega) (by omega)
    _≤140737488355328:=by decide
  simp;exact Q3.ok _ j1 .normal _ rfl (.inl rfl) (by simp [a8l,a1N,rR,kC,rX])
 |true=>
  have Q2:=Q1.step (eZ hs);rw [if_pos rfl] at Q2;refine aY (ds:=[.str [58]]) (d:= .d (.bool true)) aC (aN l j1 [58] p1.2 (by omega) hs) (by simp) (by simp) ?_
  have p2:j1+1≤j1+1∧j1+1<l.length:=⟨d3X _,aF hV.fin p1.2 hs⟩;obtain ⟨j2,hj2⟩:∃j2,j1+1=j2:=⟨_,rfl⟩;rw [hj2] at Q2 p2 ⊢;simp;refine bY cG ((jO hV j2 p2.2)) (by simp) (by simp) (fun t j3 x3=>?_) (fun n e hx=>by first|exact Q2.fail hx _|(simp;exact Q2.fail hx _)|(simp;exact fun s=>Q2.fail hx s));have Q3:=Q2.step x3;have p3:=eR hV j2 t j3 p2.2 x3;simp;refine pB ⟨rfl,d3K.2 fun c hc=>?_,?_⟩ ?_
  ·obtain ⟨y,_,rfl⟩:=List.mem_map.1 hc;rw [a1N]
   rfl
  ·have hb:Tryz.prog.bytesOf 135≤1000:=by decide
   rw [List.length_map]
   calc (out.length+1)*(Tryz.prog.bytesOf 135+1)≤50001*1001:=Nat.mul_le_mul (by omega) (by omega)
    _≤140737488355328:=by decide
  simp;exact Q3.ok _ j3 .normal _ rfl (.inl rfl) (by simp [a8l,a1N,rX])
section
variable {ex:Nat→bE gC} {low:Nat} (hex:∀i,low≤i→i<l.length→mX G 34 [] l i (ex 0 i) pK) (aex:∀k,aA l 1 (ex k))
include hex aex
theorem b2l (i:Nat)(hlow:low≤i)(hi:i<l.length):mX G 70 [] l i (a2Q bD bW rdP l ex i) pK:=by
 have hl:=hV.len;obtain ⟨j0,rfl⟩:∃j0,j0=i:=⟨_,rfl⟩;have p0:j0≤j0∧j0<l.length:=⟨d3X _,hi⟩;refine jG.cK Tryz.func70 rfl Tryz.ntmps70 rfl (by simp) ?_
 intro Q Q0;unfold a2Q at Q0;simp;refine bY (ds:=[.sl (strs [[40]])]) aD (aE l [[40]] j0 p0.2 (by omega) hV.fin (by simp)) (by simp [strs]) (by simp) (fun u1 j1 x1=>?_) (fun n e hx=>by first|exact Q0.fail hx _|(simp;exact Q0.fail hx _)|(simp;exact fun s=>Q0.fail hx s));have Q1:=Q0.step x1;have p1:=aA.exp hV.fin _ _ j0 u1 j1 p0.2 x1;simp;have hone:=dR hV [44] (c6t rdP l) (fun out i=>out.length≤i) 0 a6d (c1Y hV) (fun a=>(a8m hV a).le (by omega)) (fun a i qM hi h=>b6u hV a i hi h) (b9j hV) (fun a i h=>by omega) [] j1 (by omega) p1.2 (by simp);refine eU.mk (tY cT hone [(100000,100000),(100001,1),(100002,3)] (fun a j hx=>?_) ?_ ?_ ?_ rfl rfl (fun ws j2 x2=>?_) (fun n e hx2=>Q1.fail hx2 _))
 ·simp [a8l,aJ,aP,aL,aK,aT,getKey]
 ·simp [a8l,aJ,aP,aL,aK,aT,getKey]
 ·simp [aM,aW,rk]
 ·simp [a8l,aM,aW,rk,cE,cL]
 ·have Q2:=Q1.step x2;have p2:=aA.list hV.fin (fun a=>a8m hV a) [] j1 ws j2 p1.2 x2;simp [aU,a8l,aM,aW,rk,cE,cL,bH,eM,dZ,dC];refine bY (ds:=[.sl (strs [[41],[45,62]])]) aD (aE l [[41],[45,62]] j2 p2.2 (by omega) hV.fin (by simp)) (by simp [strs]) (by simp) (fun u3 j3 x3=>?_) (fun n e hx=>by first|exact Q2.fail hx _|(simp;exact Q2.fail hx _)|(simp;exact fun s=>Q2.fail hx s));have Q3:=Q2.step x3;have p3:=aA.exp hV.fin _ _ j2 u3 j3 p2.2 x3;simp;refine bY bR ((hex j3 (by omega) p3.2)) (by simp) (by simp) (fun e j4 x4=>?_) (fun n e hx=>by first|exact Q3.fail hx _|(simp;exact Q3.fail hx _)|(simp;exact fun s=>Q3.fail hx s));have Q4:=Q3.step x4;have p4:=aex 0 j3 e j4 p3.2 x4;simp;exact Q4.ok _ j4 _ _ rfl (.inr rfl) (by simp [dE])
end
end
end
section
open Go Go.VM
variable {G:GT}
theorem a6e:VM.Enters Tryz.prog 79:=VM.Enters.mk Tryz.func79 rfl
theorem wW:VM.Enters Tryz.prog 133:=VM.Enters.mk Tryz.func133 rfl
theorem a1X:VM.Enters Tryz.prog 134:=VM.Enters.mk Tryz.func134 rfl
section
variable {rdP:List Tok→Nat→Nat→kJ Pr} {l:List Tok} (hV:jX G rdP l)
include hV
def a9w (nm:Nm)(out:List Nm×List Ty):List (Nat×aR):=[(100001,.cells [.d (.str nm),.d (.sl (strs out.1)),.d (.sl (out.2.map tyC))]),(100002,.cells [.ptr 100000 0])]
abbrev d1Z:List (TypeId×List VM.Loc):=[(9,[.c 100001 1]),(45,[.c 100001 2])]
abbrev c6u (rdP:List Tok→Nat→Nat→kJ Pr)(l:List Tok)(out:List Nm×List Ty):bE (List Nm×List Ty):=do
 let w ← cA bD l
 aV l [[58]]
 let t ← gW bD bW rdP l
 pure (out.1++[w],out.2++[t])
theorem c1Z (nm:Nm):vL l K3 [.ptr 100001 0,.ptr 100002 0] (a9w nm) d1Z:=by
 constructor
 all_goals intros
 all_goals first
  |rfl
  |simp [a9w,aJ,aP,aL,aK,aT,getKey,aM,aW,cE,rk,cL,bH, *]
theorem a8n (out:List Nm×List Ty):aA l 1 (c6u rdP l out):=(aA.word hV.fin).bl fun _=>((aA.exp hV.fin _ _).le (by omega)).bl fun _=>((eR hV).le (by omega)).bl fun _=>aA.bI _
theorem b9k (a:List Nm×List Ty)(i:Nat)(b:List Nm×List Ty)(j:Nat)(hi:i<l.length)(h:a.1.length≤i∧a.2.length≤i)(hx:c6u rdP l a i= .ok b j):b.1.length≤j∧b.2.length≤j:=by have h1:=a8n hV a i b j hi hx;have h2:=b0D a i b j hx;omega
theorem b6v (nm:Nm)(out:List Nm×List Ty)(i:Nat)(hi:i<l.length)(hout:out.1.length≤i∧out.2.length≤i):jG G 134 [.ptr 100001 0,.ptr 100002 0] (a9w nm out) d1Z l i (c6u rdP l out i) (fun _=> .cF []) (a9w nm):=by
 have hl:=hV.len;obtain ⟨j0,rfl⟩:∃j0,j0=i:=⟨_,rfl⟩;have p0:j0≤j0∧j0<l.length:=⟨d3X _,hi⟩;refine jG.cK Tryz.func134 rfl Tryz.ntmps134 rfl (by simp) ?_
 intro Q Q0;simp [a9w];refine jA [0] 3 [2] (.op 1 (.call [4,5,6,7] .none) (.call [1,4,5,6,7] .none)) (eK (cA bD l j0)) (by kernel_rfl) (by kernel_rfl) ?_
 simp;refine ⟨?_,?_⟩
 all_goals
  refine rE cH (cR hV.kw l j0 p0.2 (by omega)) (by simp) (by simp) (fun w j1 x1=>?_) (fun n e hx=>by first|exact Q0.fail hx _|(simp;exact Q0.fail hx _)|(simp;exact fun s=>Q0.fail hx s));have Q1:=Q0.step x1;have p1:=aA.word hV.fin j0 w j1 p0.2 x1;refine cO.mk ?_
  simp;refine dH (by omega) ?_
  simp;refine bY (ds:=[.sl (strs [[58]])]) aD (aE l [[58]] j1 p1.2 (by omega) hV.fin (by simp)) (by simp [strs]) (by simp) (fun u2 j2 x2=>?_) (fun n e hx=>by first|exact Q1.fail hx _|(simp;exact Q1.fail hx _)|(simp;exact fun s=>Q1.fail hx s));have Q2:=Q1.step x2;have p2:=aA.exp hV.fin _ _ j1 u2 j2 p1.2 x2;simp;refine cV 6 (t:=28) (e:=45) (T:=147) (s:=13) (z:=17) (r:=18) (p:=19) (q:=16) (x:=15) (b:=20) (y:=0) (fd:=2) [0] 3 [2] (a0f 1 4 5) (eK (gW bD bW rdP l j2)) rfl rfl rfl rfl rfl (by kernel_rfl) (by kernel_rfl) rfl ?_
  simp
  repeat' apply And.intro
  all_goals
   refine rE cG ((jO hV j2 p2.2)) (by simp) (by simp) (fun t j3 x3=>?_) (fun n e hx=>by first|exact Q2.fail hx _|(simp;exact Q2.fail hx _)|(simp;exact fun s=>Q2.fail hx s));have Q3:=Q2.step x3;have p3:=eR hV j2 t j3 p2.2 x3;refine cO.mk ?_
   simp;refine ⟨_,_,_,_,_,_,_,_,_,by simp,rfl,rfl,?_,rfl,rfl,?_,by simp,rfl,rfl,rfl,rfl,by decide,rfl,?_⟩
   ·intro c hc
    first
     |(obtain ⟨y,_,rfl⟩:=List.mem_map.1 hc
       rw [cJ]
       rfl)
     |(simp only [d3O] at hc
       subst hc
       rfl)
   ·simp<;>omega
   exact Q3.ok _ j3 .normal _ rfl (.inl rfl) (by simp [a9w,cJ,xY])
def a3d (nm:Nm)(vs:List Nm)(ps:List zV)(out:List a2k):List (Nat×aR):=[(100001,.cells [.ptr 100000 0]),(100002,.cells [.d (.str nm),.d (.sl (strs vs)),.d (.sl (ps.map jR)),.d (.sl (out.map b0k))])]
abbrev d2a:List (TypeId×List VM.Loc):=[(147,[.c 100002 3])]
abbrev b9l (rdP:List Tok→Nat→Nat→kJ Pr)(l:List Tok)(out:List a2k):bE (List a2k):=do
 let c ← a5B bD bW rdP l
 pure (out++[c])
theorem b9m:aA l 1 (a5B bD bW rdP l):=aA.con hV.fin hV.tM.pred
theorem a8o (out:List a2k):aA l 1 (b9l rdP l out):=(b9m hV).bl fun _=>aA.bI _
theorem b0F (a:List a2k)(i:Nat)(b:List a2k)(j:Nat)(hi:i<l.length)(h:a.length≤i)(hx:b9l rdP l a i= .ok b j):b.length≤j:=by have h1:=a8o hV a i b j hi hx;obtain ⟨_,_,_,hx⟩:=bT hx;cases hx;simp;omega
theorem b4C (nm:Nm)(vs:List Nm)(ps:List zV):vL l K3 [.ptr 100001 0,.ptr 100002 0] (a3d nm vs ps) d2a:=by
 constructor
 all_goals intros
 all_goals first
  |rfl
  |simp [a3d,aJ,aP,aL,aK,aT,getKey,aM,aW,cE,rk,cL,bH, *]
theorem a8p (nm:Nm)(vs:List Nm)(ps:List zV)(out:List a2k)(i:Nat)(hi:i<l.length)(hout:out.length≤i):jG G 133 [.ptr 100001 0,.ptr 100002 0] (a3d nm vs ps out) d2a l i (b9l rdP l out i) (fun _=> .cF []) (a3d nm vs ps):=by
 have hl:=hV.len;obtain ⟨j0,rfl⟩:∃j0,j0=i:=⟨_,rfl⟩;have p0:j0≤j0∧j0<l.length:=⟨d3X _,hi⟩;refine jG.cK Tryz.func133 rfl Tryz.ntmps133 rfl (by simp) ?_
 intro Q Q0;unfold b9l a5B at Q0;have Q0:=Q0.assoc;simp [a3d];refine bY eO (gI l j0 p0.2 (by omega)) (by simp) (by simp) (fun c j1 x1=>?_) (fun n e hx=>by first|exact Q0.fail hx _|(simp;exact Q0.fail hx _)|(simp;exact fun s=>Q0.fail hx s));have Q1:=Q0.step x1;have p1:=aA.title hV.fin j0 c j1 p0.2 x1;have Q1:=Q1.assoc;simp;cases hs:aQ l j1 [40] with
 |false=>
  have Q2:=Q1.step (gA hs);rw [if_neg (by decide)] at Q2;have Q2:=Q2.step (eV _ _);refine aY (ds:=[.str [40]]) (d:= .d (.bool false)) aC (aO l j1 [40] p1.2 (by omega) hs) (by simp) (by simp) ?_
  simp;refine pB ⟨fun x _=>rfl,by omega⟩ ?_
  simp;exact Q2.ok _ j1 .normal _ rfl (.inl rfl) (by simp [a3d,b0k,rX])
 |true=>
  have Q2:=Q1.step (eZ hs);rw [if_pos rfl] at Q2;refine aY (ds:=[.str [40]]) (d:= .d (.bool true)) aC (aN l j1 [40] p1.2 (by omega) hs) (by simp) (by simp) ?_
  have p2:j1+1≤j1+1∧j1+1<l.length:=⟨d3X _,aF hV.fin p1.2 hs⟩;obtain ⟨j2,hj2⟩:∃j,j1+1=j:=⟨_,rfl⟩;rw [hj2] at Q2 p2 ⊢;have Q2:=Q2.assoc;simp;have hone:=dR hV [44] (c6u rdP l) (fun out i=>out.1.length≤i∧out.2.length≤i) 0 a1X (c1Z hV c) (fun a=>(a8n hV a).le (by omega)) (fun a i qM hi h=>b6v hV c a i hi h) (b9k hV) (fun a i h=>by omega) ([],[]) j2 (by omega) p2.2 (by simp);refine eU.mk (tY cT hone [(100000,100000),(100001,2),(100002,100001)] (fun a j hx=>?_) ?_ ?_ ?_ rfl rfl (fun ws j3 x3=>?_) (fun n e hx2=>Q2.fail hx2 _))
  ·simp [a9w,aJ,aP,aL,aK,aT,getKey]
  ·simp [a9w,aJ,aP,aL,aK,aT,getKey]
  ·simp [aM,aW,rk]
  ·simp [a9w,aM,aW,rk,cE,cL]
  ·have Q3:=Q2.step x3;have p3:=aA.list hV.fin (fun a=>a8n hV a) ([],[]) j2 ws j3 p2.2 x3;obtain ⟨ns,ts⟩:=ws;simp only at Q3;have Q3:=Q3.assoc;simp [aU,a9w,aM,aW,rk,cE,cL,bH,eM,dZ,dC];refine bY (ds:=[.sl (strs [[41]])]) aD (aE l [[41]] j3 p3.2 (by omega) hV.fin (by simp)) (by simp [strs]) (by simp) (fun u4 j4 x4=>?_) (fun n e hx=>by first|exact Q3.fail hx _|(simp;exact Q3.fail hx _)|(simp;exact fun s=>Q3.fail hx s));have Q4:=Q3.step x4;have p4:=aA.exp hV.fin _ _ j3 u4 j4 p3.2 x4;have Q4:=Q4.step (eV _ _);simp;refine pB ⟨fun x _=>rfl,by omega⟩ ?_
   simp;exact Q4.ok _ j4 .normal _ rfl (.inl rfl) (by simp [a3d,b0k])
theorem a8q (i:Nat)(hi:i<l.length):mX G 79 [] l i (yZ bD bW rdP l i) (fun d=> .d (.agg (a7x d))):=by
 have hl:=hV.len;obtain ⟨j0,rfl⟩:∃j0,j0=i:=⟨_,rfl⟩;have p0:j0≤j0∧j0<l.length:=⟨d3X _,hi⟩;refine jG.cK Tryz.func79 rfl Tryz.ntmps79 rfl (by simp) ?_
 intro Q Q0;unfold yZ at Q0;simp;refine bY eO (gI l j0 p0.2 (by omega)) (by simp) (by simp) (fun nm j1 x1=>?_) (fun n e hx=>by first|exact Q0.fail hx _|(simp;exact Q0.fail hx _)|(simp;exact fun s=>Q0.fail hx s));have Q1:=Q0.step x1;have p1:=aA.title hV.fin j0 nm j1 p0.2 x1;simp;refine SW.wR (ι:={ x:List Nm×Nat×Nat // j1≤x.2.1∧x.2.1<l.length∧l.length<x.2.2+x.2.1∧x.1.length≤x.2.1∧eE (fun i=>pF bD (aZ l i)) (tG l) x.2.2 x.1 x.2.1=pZ l (fun i=>pF bD (aZ l i)) (tG l) [] j1 }) (fun _=>[]) (fun x=>[(1,.cells [.ptr 100000 0]),(2,.cells [.d (.str []),.d .aI,.d .aI,.d .aI]),(3,.cells [.d (.str nm),.d (.sl (strs x.1.1)),.d .aI,.d .aI]),(100000,rdO l x.1.2.1)]) (fun _=>[(9,[.c 3 1])]) (fun x=>l.length-x.1.2.1) ⟨([],j1,l.length+2),d3X _,p1.2,by simp only;omega,by simp,rfl⟩ (by simp [strs]) ?_
 rintro ⟨⟨out,j3,g⟩,hb,hj3,hg,ho,hp⟩;simp only at hb hj3 hg ho hp;obtain ⟨g,rfl⟩:∃k,g=k+1:=⟨g-1,by omega⟩;have p3:j1≤j3∧j3<l.length:=⟨hb,hj3⟩;have ht:=cB (G:=G) l j3 j3 0 (by omega) (by omega) (by intro e;subst e;simp at hi) (by omega);simp;refine aY (i:=j3) (ds:=[.int .i64 0]) bJ ht (by simp) (by simp) ?_
 simp;refine kU.mk gH (jE hV.kw (aZ l j3)) ?_
 cases hc:pF bD (aZ l j3) with
 |true=>
  simp;refine jA [0] 3 [2] (.op 1 (.call [4,5,6,7] .none) (.call [1,4,5,6,7] .none)) (eK (cA bD l j3)) (by kernel_rfl) (by kernel_rfl) ?_
  simp;refine ⟨?_,?_⟩
  all_goals
   refine rE (i:=j3) (ds:=[]) cH (cR hV.kw l j3 hj3 (by omega)) (by simp) (by simp) (fun w2 j4 x4=>?_) (fun n e hx=>?_)
   ·have p4:=aA.word (kw:=bD) hV.fin j3 w2 j4 hj3 x4;have h1:tG l out j3= .ok (out++[w2]) j4:=(bQ x4).trans rfl;rw [rZ hV hc h1] at hp;refine cO.mk ?_
    simp;refine dH (by first|omega|(simp;omega)) ?_
    simp;exact bN.mk ⟨(out++[w2],j4,g),by simp only;omega,p4.2,by simp only;omega,by simp;omega,hp⟩ (by simp [xY]) (by simp;omega)
   ·have h1:tG l out j3= .bad n e:=eS hx;rw [mO hV hc h1] at hp;simp
    first|exact Q1.fail hp.symm _|exact fun s=>Q1.fail hp.symm s
 |false=>
  rw [sA hV hc] at hp;have Q3:=Q1.step hp.symm;simp;cases hs:aQ l j3 [60] with
  |false=>
   have Q4:=Q3.step (gA hs);rw [if_neg (by decide)] at Q4;have Q3:=Q4.step (eV _ _);refine aY (ds:=[.str [60]]) (d:= .d (.bool false)) aC (aO l j3 [60] p3.2 (by omega) hs) (by simp) (by simp) ?_
   simp;refine bY (ds:=[.sl (strs [[61]])]) aD (aE l [[61]] j3 p3.2 (by omega) hV.fin (by simp)) (by simp [strs]) (by simp) (fun u6 j6 x6=>?_) (fun n e hx=>by first|exact Q3.fail hx _|(simp;exact Q3.fail hx _)|(simp;exact fun s=>Q3.fail hx s));have Q6:=Q3.step x6;have p6:=aA.exp hV.fin _ _ j3 u6 j6 p3.2 x6;simp;have hone:=dR hV [124] (b9l rdP l) (fun out i=>out.length≤i) 0 wW (b4C hV nm out []) (fun a=>(a8o hV a).le (by omega)) (fun a i qM hi h=>a8p hV nm out [] a i hi h) (b0F hV) (fun a i h=>by omega) [] j6 (by omega) p6.2 (by simp);refine eU.mk (tY cT hone [(100000,100000),(100001,1),(100002,3)] (fun a j hx=>?_) ?_ ?_ ?_ rfl rfl (fun cs j7 x7=>?_) (fun n e hx2=>Q6.fail hx2 _))
   ·simp [a3d,aJ,aP,aL,aK,aT,getKey]
   ·simp [a3d,aJ,aP,aL,aK,aT,getKey]
   ·simp [aM,aW,rk]
   ·simp [a3d,aM,aW,rk,cE,cL]
   ·have Q7:=Q6.step x7;simp [aU,a3d,aM,aW,rk,cE,cL,bH,eM,dZ,dC];exact Q7.ok _ j7 _ _ rfl (.inr rfl) (by simp [a7x])
  |true=>
   have Q4:=Q3.step (eZ hs);rw [if_pos rfl] at Q4;refine aY (ds:=[.str [60]]) (d:= .d (.bool true)) aC (aN l j3 [60] p3.2 (by omega) hs) (by simp) (by simp) ?_
   have p4:j3+1≤j3+1∧j3+1<l.length:=⟨d3X _,aF hV.fin p3.2 hs⟩;obtain ⟨j4,hj4⟩:∃j,j3+1=j:=⟨_,rfl⟩;rw [hj4] at Q4 p4 ⊢;have Q4:=Q4.assoc;simp;refine bY wU ((zH hV false j4 p4.2)) (by simp) (by simp) (fun ps j5 x5=>?_) (fun n e hx=>by first|exact Q4.fail hx _|(simp;exact Q4.fail hx _)|(simp;exact fun s=>Q4.fail hx s));have Q5:=Q4.step x5;have p5:=(aA.vars hV.fin false) j4 ps j5 p4.2 x5;have Q5:=Q5.assoc;simp;refine bY (ds:=[.sl (strs [[62]])]) aD (aE l [[62]] j5 p5.2 (by omega) hV.fin (by simp)) (by simp [strs]) (by simp) (fun u8 j8 x8=>?_) (fun n e hx=>by first|exact Q5.fail hx _|(simp;exact Q5.fail hx _)|(simp;exact fun s=>Q5.fail hx s));have Q8:=Q5.step x8;have p8:=aA.exp hV.fin _ _ j5 u8 j8 p5.2 x8;have Q8:=Q8.step (eV _ _);simp;refine bY (ds:=[.sl (strs [[61]])]) aD (aE l [[61]] j8 p8.2 (by omega) hV.fin (by simp)) (by simp [strs]) (by simp) (fun u6 j6 x6=>?_) (fun n e hx=>by first|exact Q8.fail hx _|(simp;exact Q8.fail hx _)|(simp;exact fun s=>Q8.fail hx s));have Q6:=Q8.step x6;have p6:=aA.exp hV.fin _ _ j8 u6 j6 p8.2 x6;simp;have hone:=dR hV [124] (b9l rdP l) (fun out i=>out.length≤i) 0 wW (b4C hV nm out ps) (fun a=>(a8o hV a).le (by omega)) (fun a i qM hi h=>a8p hV nm out ps a i hi h) (b0F hV) (fun a i h=>by omega) [] j6 (by omega) p6.2 (by simp);refine eU.mk (tY cT hone [(100000,100000),(100001,1),(100002,3)] (fun a j hx=>?_) ?_ ?_ ?_ rfl rfl (fun cs j7 x7=>?_) (fun n e hx2=>Q6.fail hx2 _))
   ·simp [a3d,aJ,aP,aL,aK,aT,getKey]
   ·simp [a3d,aJ,aP,aL,aK,aT,getKey]
   ·simp [aM,aW,rk]
   ·simp [a3d,aM,aW,rk,cE,cL]
   ·have Q7:=Q6.step x7;simp [aU,a3d,aM,aW,rk,cE,cL,bH,eM,dZ,dC];exact Q7.ok _ j7 _ _ rfl (.inr rfl) (by simp [a7x])
end
end
section
open Go Go.VM
variable {G:GT}
theorem a9x:VM.Enters Tryz.prog 273:=VM.Enters.mk Tryz.func273 rfl
theorem b4D:VM.Enters Tryz.prog 264:=VM.Enters.mk Tryz.func264 rfl
section
variable {rdP:List Tok→Nat→Nat→kJ Pr} {l:List Tok} (hV:jX G rdP l) (hN:∀i, -9223372036854775807≤(aZ l i).n∧(aZ l i).n≤9223372036854775807)
include hV hN
section
variable {ex:Nat→bE gC} {low:Nat} (hex:∀i,low≤i→i<l.length→mX G 34 [] l i (ex 0 i) pK) (aex:∀k,aA l 1 (ex k))
include hex aex
theorem b2m (i:Nat)(hlow:low≤i+1)(hi:i<l.length):mX G 273 [] l i (rU bD bW rdP l ex i) pK:=by
 have hl:=hV.len;obtain ⟨j0,rfl⟩:∃j0,j0=i:=⟨_,rfl⟩;have p0:j0≤j0∧j0<l.length:=⟨d3X _,hi⟩;refine jG.cK Tryz.func273 rfl Tryz.ntmps273 rfl (by simp) ?_
 intro Q Q0;unfold rU at Q0;simp;refine bY (ds:=[.sl (strs [[40]])]) aD (aE l [[40]] j0 p0.2 (by omega) hV.fin (by simp)) (by simp [strs]) (by simp) (fun u1 j1 x1=>?_) (fun n e hx=>by first|exact Q0.fail hx _|(simp;exact Q0.fail hx _)|(simp;exact fun s=>Q0.fail hx s));have Q1:=Q0.step x1;have p1:=aA.exp hV.fin _ _ j0 u1 j1 p0.2 x1;simp;have hb:=eY (G:=G) l j1 [45] p1.2 (by omega);have ht1:=cB (G:=G) l j1 (j1+1) 1 (by omega) (by omega) (by intro e;subst e;simp at hi) (by omega);have ht2:=cB (G:=G) l j1 (j1+2) 2 (by omega) (by omega) (by intro e;subst e;simp at hi) (by omega);refine aY (ds:=[.str [45]]) dV hb (by simp) (by simp) ?_
 cases hs:aQ l j1 [45] with
 |false=>
  have Q1:=Q1.vX (by simp [hs]);simp;refine bY bR ((hex j1 (by omega) p1.2)) (by simp) (by simp) (fun e j2 x2=>?_) (fun n e hx=>by first|exact Q1.fail hx _|(simp;exact Q1.fail hx _)|(simp;exact fun s=>Q1.fail hx s));have Q2:=Q1.step x2;have p2:=aex 0 j1 e j2 p1.2 x2;simp;cases hc:aQ l j2 [58] with
  |false=>
   have Q3:=Q2.step (gA hc);rw [if_neg (by decide)] at Q3;refine aY (ds:=[.str [58]]) (d:= .d (.bool false)) aC (aO l j2 [58] p2.2 (by omega) hc) (by simp) (by simp) ?_
   simp;have Q2:=Q3.step (eV _ _);refine bY (ds:=[.sl (strs [[41]])]) aD (aE l [[41]] j2 p2.2 (by omega) hV.fin (by simp)) (by simp [strs]) (by simp) (fun u5 j5 x5=>?_) (fun n e hx=>by first|exact Q2.fail hx _|(simp;exact Q2.fail hx _)|(simp;exact fun s=>Q2.fail hx s));have Q5:=Q2.step x5;have p5:=aA.exp hV.fin _ _ j2 u5 j5 p2.2 x5;simp;exact Q5.ok _ j5 _ _ rfl (.inr rfl) (by simp [dE,cJ])
  |true=>
   have Q3:=Q2.step (eZ hc);rw [if_pos rfl] at Q3;refine aY (ds:=[.str [58]]) (d:= .d (.bool true)) aC (aN l j2 [58] p2.2 (by omega) hc) (by simp) (by simp) ?_
   have p3:j2+1≤j2+1∧j2+1<l.length:=⟨d3X _,aF hV.fin p2.2 hc⟩;obtain ⟨j3,hj3⟩:∃j,j2+1=j:=⟨_,rfl⟩;rw [hj3] at Q3 p3 ⊢;simp;have Q3:=Q3.assoc;refine jP 3 [2] (.op 0 (.op 1 (.call [4,5,6] .none) (.call [1,4,5,6] .none)) (.call [0,1,4,5,6] .none)) (eK (gW bD bW rdP l j3)) (by kernel_rfl) (by kernel_rfl) ?_
   simp
   repeat' apply And.intro
   all_goals
    refine rE cG ((jO hV j3 p3.2)) (by simp) (by simp) (fun t j4 x4=>?_) (fun n e hx=>by first|exact Q3.fail hx _|(simp;exact Q3.fail hx _)|(simp;exact fun s=>Q3.fail hx s));have Q4:=Q3.step x4;have p4:=eR hV j3 t j4 p3.2 x4;refine cO.mk ?_
    simp;have Q4:=Q4.step (eV _ _);refine bY (ds:=[.sl (strs [[41]])]) aD (aE l [[41]] j4 p4.2 (by omega) hV.fin (by simp)) (by simp [strs]) (by simp) (fun u5 j5 x5=>?_) (fun n e hx=>by first|exact Q4.fail hx _|(simp;exact Q4.fail hx _)|(simp;exact fun s=>Q4.fail hx s));have Q5:=Q4.step x5;have p5:=aA.exp hV.fin _ _ j4 u5 j5 p4.2 x5;simp;exact Q5.ok _ j5 _ _ rfl (.inr rfl) (by simp [dE,cJ])
 |true=>
  simp;refine aY (ds:=[.int .i64 1]) bJ ht1 (by simp) (by simp) ?_
  by_cases hk:(aZ l (j1+1)).kind=3
  ·simp [cC,hk];refine aY (ds:=[.int .i64 2]) bJ ht2 (by simp) (by simp) ?_
   simp;refine kU.mk gT (jN (aZ l (j1+2)) [41]) ?_
   cases hf:jL (aZ l (j1+2)) [41] with
   |false=>
    have Q1:=Q1.vX (by simp [hf]);simp;refine bY bR ((hex j1 (by omega) p1.2)) (by simp) (by simp) (fun e j2 x2=>?_) (fun n e hx=>by first|exact Q1.fail hx _|(simp;exact Q1.fail hx _)|(simp;exact fun s=>Q1.fail hx s));have Q2:=Q1.step x2;have p2:=aex 0 j1 e j2 p1.2 x2;simp;cases hc:aQ l j2 [58] with
    |false=>
     have Q3:=Q2.step (gA hc);rw [if_neg (by decide)] at Q3;refine aY (ds:=[.str [58]]) (d:= .d (.bool false)) aC (aO l j2 [58] p2.2 (by omega) hc) (by simp) (by simp) ?_
     simp;have Q2:=Q3.step (eV _ _);refine bY (ds:=[.sl (strs [[41]])]) aD (aE l [[41]] j2 p2.2 (by omega) hV.fin (by simp)) (by simp [strs]) (by simp) (fun u5 j5 x5=>?_) (fun n e hx=>by first|exact Q2.fail hx _|(simp;exact Q2.fail hx _)|(simp;exact fun s=>Q2.fail hx s));have Q5:=Q2.step x5;have p5:=aA.exp hV.fin _ _ j2 u5 j5 p2.2 x5;simp;exact Q5.ok _ j5 _ _ rfl (.inr rfl) (by simp [dE,cJ])
    |true=>
     have Q3:=Q2.step (eZ hc);rw [if_pos rfl] at Q3;refine aY (ds:=[.str [58]]) (d:= .d (.bool true)) aC (aN l j2 [58] p2.2 (by omega) hc) (by simp) (by simp) ?_
     have p3:j2+1≤j2+1∧j2+1<l.length:=⟨d3X _,aF hV.fin p2.2 hc⟩;obtain ⟨j3,hj3⟩:∃j,j2+1=j:=⟨_,rfl⟩;rw [hj3] at Q3 p3 ⊢;simp;have Q3:=Q3.assoc;refine jP 3 [2] (.op 0 (.op 1 (.call [4,5,6] .none) (.call [1,4,5,6] .none)) (.call [0,1,4,5,6] .none)) (eK (gW bD bW rdP l j3)) (by kernel_rfl) (by kernel_rfl) ?_
     simp
     repeat' apply And.intro
     all_goals
      refine rE cG ((jO hV j3 p3.2)) (by simp) (by simp) (fun t j4 x4=>?_) (fun n e hx=>by first|exact Q3.fail hx _|(simp;exact Q3.fail hx _)|(simp;exact fun s=>Q3.fail hx s));have Q4:=Q3.step x4;have p4:=eR hV j3 t j4 p3.2 x4;refine cO.mk ?_
      simp;have Q4:=Q4.step (eV _ _);refine bY (ds:=[.sl (strs [[41]])]) aD (aE l [[41]] j4 p4.2 (by omega) hV.fin (by simp)) (by simp [strs]) (by simp) (fun u5 j5 x5=>?_) (fun n e hx=>by first|exact Q4.fail hx _|(simp;exact Q4.fail hx _)|(simp;exact fun s=>Q4.fail hx s));have Q5:=Q4.step x5;have p5:=aA.exp hV.fin _ _ j4 u5 j5 p4.2 x5;simp;exact Q5.ok _ j5 _ _ rfl (.inr rfl) (by simp [dE,cJ])
   |true=>
    have Q1:=Q1.ifp (by simp [hs,hk,hf]);simp;refine aY (ds:=[.int .i64 1]) bJ ht1 (by simp) (by simp) ?_
    have hn:=hN (j1+1);have hw3:IntKind.i64.wrap ((j1:Int)+3)=((j1+3:Nat):Int):=by rw [wrap64 (by omega)];omega
    have hw4:IntKind.i64.wrap (-(aZ l (j1+1)).n)= -(aZ l (j1+1)).n:=wrap64 (by omega);simp [cC,hw3,hw4];exact Q1.ok _ (j1+3) _ _ rfl (.inr rfl) (by simp)
  ·have Q1:=Q1.vX (by simp [hk]);simp [cC,hk];refine bY bR ((hex j1 (by omega) p1.2)) (by simp) (by simp) (fun e j2 x2=>?_) (fun n e hx=>by first|exact Q1.fail hx _|(simp;exact Q1.fail hx _)|(simp;exact fun s=>Q1.fail hx s));have Q2:=Q1.step x2;have p2:=aex 0 j1 e j2 p1.2 x2;simp;cases hc:aQ l j2 [58] with
   |false=>
    have Q3:=Q2.step (gA hc);rw [if_neg (by decide)] at Q3;refine aY (ds:=[.str [58]]) (d:= .d (.bool false)) aC (aO l j2 [58] p2.2 (by omega) hc) (by simp) (by simp) ?_
    simp;have Q2:=Q3.step (eV _ _);refine bY (ds:=[.sl (strs [[41]])]) aD (aE l [[41]] j2 p2.2 (by omega) hV.fin (by simp)) (by simp [strs]) (by simp) (fun u5 j5 x5=>?_) (fun n e hx=>by first|exact Q2.fail hx _|(simp;exact Q2.fail hx _)|(simp;exact fun s=>Q2.fail hx s));have Q5:=Q2.step x5;have p5:=aA.exp hV.fin _ _ j2 u5 j5 p2.2 x5;simp;exact Q5.ok _ j5 _ _ rfl (.inr rfl) (by simp [dE,cJ])
   |true=>
    have Q3:=Q2.step (eZ hc);rw [if_pos rfl] at Q3;refine aY (ds:=[.str [58]]) (d:= .d (.bool true)) aC (aN l j2 [58] p2.2 (by omega) hc) (by simp) (by simp) ?_
    have p3:j2+1≤j2+1∧j2+1<l.length:=⟨d3X _,aF hV.fin p2.2 hc⟩;obtain ⟨j3,hj3⟩:∃j,j2+1=j:=⟨_,rfl⟩;rw [hj3] at Q3 p3 ⊢;simp;have Q3:=Q3.assoc;refine jP 3 [2] (.op 0 (.op 1 (.call [4,5,6] .none) (.call [1,4,5,6] .none)) (.call [0,1,4,5,6] .none)) (eK (gW bD bW rdP l j3)) (by kernel_rfl) (by kernel_rfl) ?_
    simp
    repeat' apply And.intro
    all_goals
     refine rE cG ((jO hV j3 p3.2)) (by simp) (by simp) (fun t j4 x4=>?_) (fun n e hx=>by first|exact Q3.fail hx _|(simp;exact Q3.fail hx _)|(simp;exact fun s=>Q3.fail hx s));have Q4:=Q3.step x4;have p4:=eR hV j3 t j4 p3.2 x4;refine cO.mk ?_
     simp;have Q4:=Q4.step (eV _ _);refine bY (ds:=[.sl (strs [[41]])]) aD (aE l [[41]] j4 p4.2 (by omega) hV.fin (by simp)) (by simp [strs]) (by simp) (fun u5 j5 x5=>?_) (fun n e hx=>by first|exact Q4.fail hx _|(simp;exact Q4.fail hx _)|(simp;exact fun s=>Q4.fail hx s));have Q5:=Q4.step x5;have p5:=aA.exp hV.fin _ _ j4 u5 j5 p4.2 x5;simp;exact Q5.ok _ j5 _ _ rfl (.inr rfl) (by simp [dE,cJ])
theorem b6w (i:Nat)(hlow:low≤i+1)(hi:i<l.length):mX G 264 [] l i (yV bD bW rdP l ex i) pK:=by
 have hl:=hV.len;obtain ⟨j0,rfl⟩:∃j0,j0=i:=⟨_,rfl⟩;have p0:j0≤j0∧j0<l.length:=⟨d3X _,hi⟩;have ht:=cB (G:=G) l j0 j0 0 (by omega) (by omega) (by intro e;subst e;simp at hi) (by omega);refine jG.cK Tryz.func264 rfl Tryz.ntmps264 rfl (by simp) ?_
 intro Q Q0;unfold yV at Q0;simp;refine aY (ds:=[.int .i64 0]) bJ ht (by simp) (by simp) ?_
 by_cases hk:(aZ l j0).kind=3
 ·have Q0:=Q0.ifp hk;have hw:=bO (show j0<9223372036854775807 by omega);simp [cC,hk,hw];exact Q0.ok _ (j0+1) _ _ rfl (.inr rfl) (by simp)
 have Q0:=Q0.vX hk;simp [cC,hk];cases h1:aQ l j0 [116,114,117,101] with
 |true=>
  have Q0:=Q0.ifp h1;refine aY (ds:=[.str [116,114,117,101]]) (d:= .d (.bool true)) aC (aN l j0 [116,114,117,101] p0.2 (by omega) h1) (by simp) (by simp) ?_
  have p1:j0+1≤j0+1∧j0+1<l.length:=⟨d3X _,aF hV.fin p0.2 h1⟩;simp;exact Q0.ok _ (j0+1) _ _ rfl (.inr rfl) (by simp)
 |false=>
 have Q0:=Q0.vX (by rw [h1];decide);refine aY (ds:=[.str [116,114,117,101]]) (d:= .d (.bool false)) aC (aO l j0 [116,114,117,101] p0.2 (by omega) h1) (by simp) (by simp) ?_
 simp;cases h2:aQ l j0 [102,97,108,115,101] with
 |true=>
  have Q0:=Q0.ifp h2;refine aY (ds:=[.str [102,97,108,115,101]]) (d:= .d (.bool true)) aC (aN l j0 [102,97,108,115,101] p0.2 (by omega) h2) (by simp) (by simp) ?_
  have p1:j0+1≤j0+1∧j0+1<l.length:=⟨d3X _,aF hV.fin p0.2 h2⟩;simp;exact Q0.ok _ (j0+1) _ _ rfl (.inr rfl) (by simp)
 |false=>
 have Q0:=Q0.vX (by rw [h2];decide);refine aY (ds:=[.str [102,97,108,115,101]]) (d:= .d (.bool false)) aC (aO l j0 [102,97,108,115,101] p0.2 (by omega) h2) (by simp) (by simp) ?_
 simp;cases h3:aQ l j0 [110,101,119] with
 |true=>
  have Q1:=Q0.ifp h3;refine aY (ds:=[.str [110,101,119]]) (d:= .d (.bool true)) aC (aN l j0 [110,101,119] p0.2 (by omega) h3) (by simp) (by simp) ?_
  have p1:j0+1≤j0+1∧j0+1<l.length:=⟨d3X _,aF hV.fin p0.2 h3⟩;obtain ⟨j1,hj1⟩:∃j,j0+1=j:=⟨_,rfl⟩;rw [hj1] at Q1 p1 ⊢;simp;refine bY a8b (b0E hV hex aex 22 j1 (by omega) p1.2) (by simp) (by simp) (fun t j h=>?_) (fun n e h=>by first|exact Q1.bad n e _ h|(simp;exact Q1.bad n e _ h)|(simp;exact fun s=>Q1.bad n e s h));simp;exact Q1.ok t j _ _ h (.inr rfl) (by simp)
 |false=>
 have Q0:=Q0.vX (by rw [h3];decide);refine aY (ds:=[.str [110,101,119]]) (d:= .d (.bool false)) aC (aO l j0 [110,101,119] p0.2 (by omega) h3) (by simp) (by simp) ?_
 simp;cases h4:aQ l j0 [103,101,116] with
 |true=>
  have Q1:=Q0.ifp h4;refine aY (ds:=[.str [103,101,116]]) (d:= .d (.bool true)) aC (aN l j0 [103,101,116] p0.2 (by omega) h4) (by simp) (by simp) ?_
  have p1:j0+1≤j0+1∧j0+1<l.length:=⟨d3X _,aF hV.fin p0.2 h4⟩;obtain ⟨j1,hj1⟩:∃j,j0+1=j:=⟨_,rfl⟩;rw [hj1] at Q1 p1 ⊢;simp;refine bY a8b (b0E hV hex aex 23 j1 (by omega) p1.2) (by simp) (by simp) (fun t j h=>?_) (fun n e h=>by first|exact Q1.bad n e _ h|(simp;exact Q1.bad n e _ h)|(simp;exact fun s=>Q1.bad n e s h));simp;exact Q1.ok t j _ _ h (.inr rfl) (by simp)
 |false=>
 have Q0:=Q0.vX (by rw [h4];decide);refine aY (ds:=[.str [103,101,116]]) (d:= .d (.bool false)) aC (aO l j0 [103,101,116] p0.2 (by omega) h4) (by simp) (by simp) ?_
 simp;cases h5:aQ l j0 [115,101,116] with
 |true=>
  have Q1:=Q0.ifp h5;refine aY (ds:=[.str [115,101,116]]) (d:= .d (.bool true)) aC (aN l j0 [115,101,116] p0.2 (by omega) h5) (by simp) (by simp) ?_
  have p1:j0+1≤j0+1∧j0+1<l.length:=⟨d3X _,aF hV.fin p0.2 h5⟩;obtain ⟨j1,hj1⟩:∃j,j0+1=j:=⟨_,rfl⟩;rw [hj1] at Q1 p1 ⊢;simp;refine bY (ds:=[.sl (strs [[40]])]) aD (aE l [[40]] j1 p1.2 (by omega) hV.fin (by simp)) (by simp [strs]) (by simp) (fun u2 j2 x2=>?_) (fun n e hx=>by first|exact Q1.fail hx _|(simp;exact Q1.fail hx _)|(simp;exact fun s=>Q1.fail hx s));have Q2:=Q1.step x2;have p2:=aA.exp hV.fin _ _ j1 u2 j2 p1.2 x2;simp;refine bY bR ((hex j2 (by omega) p2.2)) (by simp) (by simp) (fun x j3 x3=>?_) (fun n e hx=>by first|exact Q2.fail hx _|(simp;exact Q2.fail hx _)|(simp;exact fun s=>Q2.fail hx s));have Q3:=Q2.step x3;have p3:=aex 0 j2 x j3 p2.2 x3;simp;refine bY (ds:=[.sl (strs [[44]])]) aD (aE l [[44]] j3 p3.2 (by omega) hV.fin (by simp)) (by simp [strs]) (by simp) (fun u4 j4 x4=>?_) (fun n e hx=>by first|exact Q3.fail hx _|(simp;exact Q3.fail hx _)|(simp;exact fun s=>Q3.fail hx s));have Q4:=Q3.step x4;have p4:=aA.exp hV.fin _ _ j3 u4 j4 p3.2 x4;simp;refine bY bR ((hex j4 (by omega) p4.2)) (by simp) (by simp) (fun y j5 x5=>?_) (fun n e hx=>by first|exact Q4.fail hx _|(simp;exact Q4.fail hx _)|(simp;exact fun s=>Q4.fail hx s));have Q5:=Q4.step x5;have p5:=aex 0 j4 y j5 p4.2 x5;simp;refine bY (ds:=[.sl (strs [[41]])]) aD (aE l [[41]] j5 p5.2 (by omega) hV.fin (by simp)) (by simp [strs]) (by simp) (fun u6 j6 x6=>?_) (fun n e hx=>by first|exact Q5.fail hx _|(simp;exact Q5.fail hx _)|(simp;exact fun s=>Q5.fail hx s));have Q6:=Q5.step x6;have p6:=aA.exp hV.fin _ _ j5 u6 j6 p5.2 x6;simp;refine kU.mk bV (gO 24 x y) ?_
  simp;exact Q6.ok _ j6 _ _ rfl (.inr rfl) (by simp)
 |false=>
 have Q0:=Q0.vX (by rw [h5];decide);refine aY (ds:=[.str [115,101,116]]) (d:= .d (.bool false)) aC (aO l j0 [115,101,116] p0.2 (by omega) h5) (by simp) (by simp) ?_
 simp;refine kU.mk gH (jE hV.kw (aZ l j0)) ?_
 cases h6:pF bD (aZ l j0) with
 |true=>
  have Q0:=Q0.ifp h6;simp;refine bY (ds:=[]) cH (cR hV.kw l j0 hi (by omega)) (by simp) (by simp) (fun s j hx=>?_) (fun n e hx=>by unfold cA oI at hx;rw [if_pos h6] at hx;cases hx);have p1:=aA.word (kw:=bD) hV.fin _ _ _ p0.2 hx;unfold cA oI at hx;rw [if_pos h6] at hx;cases hx;have Q1:=Q0;obtain ⟨j1,hj1⟩:∃j,j0+1=j:=⟨_,rfl⟩;rw [hj1] at Q1 p1 ⊢;have hb1:=eY (G:=G) l j1 [91] p1.2 (by omega);have hb2:=eY (G:=G) l j1 [40] p1.2 (by omega);simp;refine aY (ds:=[.str [91]]) dV hb1 (by simp) (by simp) ?_
  cases h7:aQ l j1 [91] with
  |true=>have Q1:=Q1.vX (by simp [h7]);simp;refine bY tK ((vN hV j1 p1.2)) (by simp) (by simp) (fun ts j3 x3=>?_) (fun n e hx=>by first|exact Q1.fail hx _|(simp;exact Q1.fail hx _)|(simp;exact fun s=>Q1.fail hx s));have Q3:=Q1.step x3;have p3:=(aA.types hV.fin hV.tM.pred) j1 ts j3 p1.2 x3;simp;refine bY wV ((a3b hV hex aex j3 (by omega) p3.2)) (by simp) (by simp) (fun ks j4 x4=>?_) (fun n e hx=>by first|exact Q3.fail hx _|(simp;exact Q3.fail hx _)|(simp;exact fun s=>Q3.fail hx s));have Q4:=Q3.step x4;have p4:=(aA.mL hV.fin aex) j3 ks j4 p3.2 x4;simp;exact Q4.ok _ j4 _ _ rfl (.inr rfl) (by simp)
  |false=>
   simp;refine aY (ds:=[.str [40]]) dV hb2 (by simp) (by simp) ?_
   cases h8:aQ l j1 [40] with
   |true=>have Q1:=Q1.vX (by simp [h8]);simp;refine bY tK ((vN hV j1 p1.2)) (by simp) (by simp) (fun ts j3 x3=>?_) (fun n e hx=>by first|exact Q1.fail hx _|(simp;exact Q1.fail hx _)|(simp;exact fun s=>Q1.fail hx s));have Q3:=Q1.step x3;have p3:=(aA.types hV.fin hV.tM.pred) j1 ts j3 p1.2 x3;simp;refine bY wV ((a3b hV hex aex j3 (by omega) p3.2)) (by simp) (by simp) (fun ks j4 x4=>?_) (fun n e hx=>by first|exact Q3.fail hx _|(simp;exact Q3.fail hx _)|(simp;exact fun s=>Q3.fail hx s));have Q4:=Q3.step x4;have p4:=(aA.mL hV.fin aex) j3 ks j4 p3.2 x4;simp;exact Q4.ok _ j4 _ _ rfl (.inr rfl) (by simp)
   |false=>have Q1:=Q1.ifp (by simp [h7,h8]);simp;exact Q1.ok _ j1 _ _ rfl (.inr rfl) (by simp)
 |false=>
 have Q0:=Q0.vX (by rw [h6];decide);simp;by_cases hk2:(aZ l j0).kind=2
 ·have h7:pY (aZ l j0)=true:=by simp [pY,hk2]
  have Q0:=Q0.ifp h7;simp [hk2];refine bY (ds:=[]) eO (gI l j0 hi (by omega)) (by simp) (by simp) (fun s j hx=>?_) (fun n e hx=>by unfold gM oI at hx;rw [if_pos h7] at hx;cases hx);have p1:=aA.title hV.fin _ _ _ p0.2 hx;unfold gM oI at hx;rw [if_pos h7] at hx;cases hx;have Q1:=Q0;obtain ⟨j1,hj1⟩:∃j,j0+1=j:=⟨_,rfl⟩;rw [hj1] at Q1 p1 ⊢;simp;refine bY tK ((vN hV j1 p1.2)) (by simp) (by simp) (fun ts j3 x3=>?_) (fun n e hx=>by first|exact Q1.fail hx _|(simp;exact Q1.fail hx _)|(simp;exact fun s=>Q1.fail hx s));have Q3:=Q1.step x3;have p3:=(aA.types hV.fin hV.tM.pred) j1 ts j3 p1.2 x3;simp;have hb2:=eY (G:=G) l j3 [40] p3.2 (by omega);refine aY (ds:=[.str [40]]) dV hb2 (by simp) (by simp) ?_
  cases h8:aQ l j3 [40] with
  |false=>have Q4:=Q3.step (a:=[]) (j:=j3) (by simp [h8]);simp;exact Q4.ok _ j3 _ _ rfl (.inr rfl) (by simp)
  |true=>
   have e1:(fun j=>if aQ l j [40] then mF l ex j else .ok [] j:bE (List gC)) j3=mF l ex j3:=by simp [h8]
   simp;refine bY wV ((a3b hV hex aex j3 (by omega) p3.2)) (by simp) (by simp) (fun ks j4 x4=>?_) (fun n e hx=>by first|exact Q3.fail (e1.trans hx) _|(simp;exact Q3.fail (e1.trans hx) _)|(simp;exact fun s=>Q3.fail (e1.trans hx) s));have Q4:=Q3.step (e1.trans x4);have p4:=(aA.mL hV.fin aex) j3 ks j4 p3.2 x4;simp;exact Q4.ok _ j4 _ _ rfl (.inr rfl) (by simp)
 ·have h7:pY (aZ l j0)=false:=by simp [pY,hk2]
  have Q0:=Q0.vX (by rw [h7];decide);simp [hk2];refine bY a9x (b2m hV hN hex aex j0 (by omega) p0.2) (by simp) (by simp) (fun t j h=>?_) (fun n e h=>by first|exact Q0.bad n e _ h|(simp;exact Q0.bad n e _ h)|(simp;exact fun s=>Q0.bad n e s h));simp;exact Q0.ok t j _ _ h (.inr rfl) (by simp)
end
end
end
section
open Go Go.VM
variable {G:GT}
theorem vR:VM.Enters Tryz.prog 229:=VM.Enters.mk Tryz.func229 rfl
theorem qA:VM.Enters Tryz.prog 207:=VM.Enters.mk Tryz.func207 rfl
theorem a8r:VM.Enters Tryz.prog 191:=VM.Enters.mk Tryz.func191 rfl
theorem a8s:VM.Enters Tryz.prog 122:=VM.Enters.mk Tryz.func122 rfl
theorem b9n:VM.Enters Tryz.prog 73:=VM.Enters.mk Tryz.func73 rfl
section
variable {l:List Tok} {ops:List (Nm×Int)} {one:bE gC} {g:Nat} {e x:gC} {i j:Nat} {p:Nm×Int}
theorem uA (h:(ops.find? fun p=>aQ l i p.1)=none):eW l ops one (g+1) e i= .ok e i:=by rw [eW];simp only [h]
theorem qB (h:(ops.find? fun p=>aQ l i p.1)=some p)(h1:one (i+1)= .ok x j):eW l ops one (g+1) e i=eW l ops one g (jF p.2 [e,x]) j:=by rw [eW];simp only [h,h1]
theorem oO {n m:Int}(h:(ops.find? fun p=>aQ l i p.1)=some p)(h1:one (i+1)= .bad n m):eW l ops one (g+1) e i= .bad n m:=by rw [eW];simp only [h,h1]
end
section
variable {rdP:List Tok→Nat→Nat→kJ Pr} {l:List Tok} (hV:jX G rdP l) (hN:∀i, -9223372036854775807≤(aZ l i).n∧(aZ l i).n≤9223372036854775807)
include hV hN
section
variable {ex:Nat→bE gC} {low:Nat} (hex:∀i,low≤i→i<l.length→mX G 34 [] l i (ex 0 i) pK) (h3:∀i,low≤i→i<l.length→mX G 168 [] l i (ex 3 i) pK) (h7:∀i,low≤i→i<l.length→mX G 247 [] l i (ex 7 i) pK) (aex:∀k,aA l 1 (ex k))
include hex h3 h7 aex
omit h3 in
theorem a5R (i:Nat)(hlow:low≤i+1)(hi:i<l.length):mX G 247 [] l i (a3L bD bW rdP l ex i) pK:=by
 have hl:=hV.len;obtain ⟨j0,rfl⟩:∃j0,j0=i:=⟨_,rfl⟩;have p0:j0≤j0∧j0<l.length:=⟨d3X _,hi⟩;refine jG.cK Tryz.func247 rfl Tryz.ntmps247 rfl (by simp) ?_
 intro Q Q0;unfold a3L at Q0;simp;cases hs:aQ l j0 [45] with
 |true=>
  have Q1:=Q0.ifp hs;refine aY (ds:=[.str [45]]) (d:= .d (.bool true)) aC (aN l j0 [45] p0.2 (by omega) hs) (by simp) (by simp) ?_
  have p1:j0+1≤j0+1∧j0+1<l.length:=⟨d3X _,aF hV.fin p0.2 hs⟩;obtain ⟨j1,hj1⟩:∃j,j0+1=j:=⟨_,rfl⟩;rw [hj1] at Q1 p1 ⊢;simp;refine bY qY ((h7 j1 (by omega) p1.2)) (by simp) (by simp) (fun e j2 x2=>?_) (fun n e hx=>by first|exact Q1.fail hx _|(simp;exact Q1.fail hx _)|(simp;exact fun s=>Q1.fail hx s));have Q2:=Q1.step x2;have p2:=aex 7 j1 e j2 p1.2 x2;simp;refine kU.mk bV (a1M 15 e) ?_
  simp;exact Q2.ok _ j2 _ _ rfl (.inr rfl) (by simp)
 |false=>
  have Q0:=Q0.vX (by rw [hs];decide);refine aY (ds:=[.str [45]]) (d:= .d (.bool false)) aC (aO l j0 [45] p0.2 (by omega) hs) (by simp) (by simp) ?_
  simp;refine bY b4D (b6w hV hN hex aex j0 (by omega) p0.2) (by simp) (by simp) (fun t j h=>?_) (fun n e h=>by first|exact Q0.bad n e _ h|(simp;exact Q0.bad n e _ h)|(simp;exact fun s=>Q0.bad n e s h));simp;exact Q0.ok t j _ _ h (.inr rfl) (by simp)
omit h3 in
theorem a9y (i:Nat)(hlow:low≤i+1)(hi:i<l.length):mX G 229 [] l i (a3M bD bW rdP l ex i) pK:=by
 refine jG.cK Tryz.func229 rfl Tryz.ntmps229 rfl (by simp) ?_
 intro Q Q0;unfold a3M zW at Q0;have hl:=hV.len;obtain ⟨j0,rfl⟩:∃j0,j0=i:=⟨_,rfl⟩;have p0:j0≤j0∧j0<l.length:=⟨d3X _,hi⟩;generalize hone:a3L bD bW rdP l ex=one at *;have hcon:∀i,low≤i+1→i<l.length→mX G 247 [] l i (one i) pK:=by rw [← hone];exact a5R hV hN hex h7 aex
 have aone:aA l 1 one:=by
  first
   |assumption
   |(rw [← hone]
     exact aA.unG hV.fin aex hV.tM.pred)
 simp;refine bY qY ((hcon j0 (by omega) p0.2)) (by simp) (by simp) (fun e j1 x1=>?_) (fun n e hx=>by first|exact Q0.fail hx _|(simp;exact Q0.fail hx _)|(simp;exact fun s=>Q0.fail hx s));have Q1:=Q0.step x1;have p1:=aone j0 e j1 p0.2 x1;simp;refine SW.wR (ι:={ x:gC×Nat×Nat // j1≤x.2.1∧x.2.1<l.length∧l.length<x.2.2+x.2.1∧eW l [([42],12),([100,105,118],13),([109,111,100],14)] one x.2.2 x.1 x.2.1=eW l [([42],12),([100,105,118],13),([109,111,100],14)] one (l.length+2) e j1 }) (fun _=>[]) (fun x=>[(2,.cells [.d (.int .i64 0),.d (.str []),.d (.int .i64 0),.d .aI,.d .aI,.d .aI,.d .aI]),(3,.cells ((vO x.1.1).map .d)),(100000,rdO l x.1.2.1)]) (fun _=>[]) (fun x=>l.length-x.1.2.1) ⟨(e,j1,l.length+2),d3X _,p1.2,by simp only;omega,rfl⟩ (by simp) ?_
 rintro ⟨⟨e2,j2,g⟩,hb,hj2,hg,hp⟩;simp only at hb hj2 hg hp;obtain ⟨g,rfl⟩:∃k,g=k+1:=⟨g-1,by omega⟩;have p2:j1≤j2∧j2<l.length:=⟨hb,hj2⟩;simp;cases s1:aQ l j2 [42] with
 |true=>
  have hf:([([42],12),([100,105,118],13),([109,111,100],14)].find? fun p:Nm×Int=>aQ l j2 p.1)=some ([42],12):=by simp [s1]
  have hn:=aF hV.fin hj2 s1;refine aY (ds:=[.str [42]]) (d:= .d (.bool true)) aC (aN l j2 [42] p2.2 (by omega) s1) (by simp) (by simp) ?_
  simp;refine jP 2 [1] (.op 0 (.call [3,4,5] .none) (.call [0,3,4,5] .none)) (eK (one (j2+1))) (by kernel_rfl) (by kernel_rfl) ?_
  simp;refine ⟨?_,?_⟩
  all_goals
   refine rE (i:=j2+1) (ds:=[]) qY (hcon (j2+1) (by omega) hn) (by simp) (by simp) (fun x j3 x3=>?_) (fun n e hx=>?_)
   ·have p3:=aone (j2+1) x j3 hn x3;rw [qB hf x3] at hp;refine cO.mk ?_
    simp;refine aG.mk bV (gO 12 e2 x) ?_
    simp;exact bN.mk ⟨(jF 12 [e2,x],j3,g),by simp only;omega,p3.2,by simp only;omega,hp⟩ (by simp) (by simp;omega)
   ·rw [oO hf hx] at hp;simp
    first|exact Q1.bad _ _ _ hp.symm|exact fun s=>Q1.bad _ _ s hp.symm
 |false=>
 refine aY (ds:=[.str [42]]) (d:= .d (.bool false)) aC (aO l j2 [42] p2.2 (by omega) s1) (by simp) (by simp) ?_
 simp;cases s2:aQ l j2 [100,105,118] with
 |true=>
  have hf:([([42],12),([100,105,118],13),([109,111,100],14)].find? fun p:Nm×Int=>aQ l j2 p.1)=some ([100,105,118],13):=by simp [s1,s2]
  have hn:=aF hV.fin hj2 s2;refine aY (ds:=[.str [100,105,118]]) (d:= .d (.bool true)) aC (aN l j2 [100,105,118] p2.2 (by omega) s2) (by simp) (by simp) ?_
  simp;refine jP 2 [1] (.op 0 (.call [3,4,5] .none) (.call [0,3,4,5] .none)) (eK (one (j2+1))) (by kernel_rfl) (by kernel_rfl) ?_
  simp;refine ⟨?_,?_⟩
  all_goals
   refine rE (i:=j2+1) (ds:=[]) qY (hcon (j2+1) (by omega) hn) (by simp) (by simp) (fun x j3 x3=>?_) (fun n e hx=>?_)
   ·have p3:=aone (j2+1) x j3 hn x3;rw [qB hf x3] at hp;refine cO.mk ?_
    simp;refine aG.mk bV (gO 13 e2 x) ?_
    simp;exact bN.mk ⟨(jF 13 [e2,x],j3,g),by simp only;omega,p3.2,by simp only;omega,hp⟩ (by simp) (by simp;omega)
   ·rw [oO hf hx] at hp;simp
    first|exact Q1.bad _ _ _ hp.symm|exact fun s=>Q1.bad _ _ s hp.symm
 |false=>
 refine aY (ds:=[.str [100,105,118]]) (d:= .d (.bool false)) aC (aO l j2 [100,105,118] p2.2 (by omega) s2) (by simp) (by simp) ?_
 simp;cases s3:aQ l j2 [109,111,100] with
 |true=>
  have hf:([([42],12),([100,105,118],13),([109,111,100],14)].find? fun p:Nm×Int=>aQ l j2 p.1)=some ([109,111,100],14):=by simp [s1,s2,s3]
  have hn:=aF hV.fin hj2 s3;refine aY (ds:=[.str [109,111,100]]) (d:= .d (.bool true)) aC (aN l j2 [109,111,100] p2.2 (by omega) s3) (by simp) (by simp) ?_
  simp;refine jP 2 [1] (.op 0 (.call [3,4,5] .none) (.call [0,3,4,5] .none)) (eK (one (j2+1))) (by kernel_rfl) (by kernel_rfl) ?_
  simp;refine ⟨?_,?_⟩
  all_goals
   refine rE (i:=j2+1) (ds:=[]) qY (hcon (j2+1) (by omega) hn) (by simp) (by simp) (fun x j3 x3=>?_) (fun n e hx=>?_)
   ·have p3:=aone (j2+1) x j3 hn x3;rw [qB hf x3] at hp;refine cO.mk ?_
    simp;refine aG.mk bV (gO 14 e2 x) ?_
    simp;exact bN.mk ⟨(jF 14 [e2,x],j3,g),by simp only;omega,p3.2,by simp only;omega,hp⟩ (by simp) (by simp;omega)
   ·rw [oO hf hx] at hp;simp
    first|exact Q1.bad _ _ _ hp.symm|exact fun s=>Q1.bad _ _ s hp.symm
 |false=>
 refine aY (ds:=[.str [109,111,100]]) (d:= .d (.bool false)) aC (aO l j2 [109,111,100] p2.2 (by omega) s3) (by simp) (by simp) ?_
 have hf:([([42],12),([100,105,118],13),([109,111,100],14)].find? fun p:Nm×Int=>aQ l j2 p.1)=none:=by simp [s1,s2,s3]
 have Q2:=hp.symm.trans (uA hf);simp;exact Q1.ok _ j2 _ _ Q2 (.inr rfl) (by simp)
omit h3 in
theorem mP (i:Nat)(hlow:low≤i+1)(hi:i<l.length):mX G 207 [] l i (kM bD bW rdP l ex i) pK:=by
 refine jG.cK Tryz.func207 rfl Tryz.ntmps207 rfl (by simp) ?_
 intro Q Q0;unfold kM zW at Q0;have hl:=hV.len;obtain ⟨j0,rfl⟩:∃j0,j0=i:=⟨_,rfl⟩;have p0:j0≤j0∧j0<l.length:=⟨d3X _,hi⟩;generalize hone:a3M bD bW rdP l ex=one at *;have hcon:∀i,low≤i+1→i<l.length→mX G 229 [] l i (one i) pK:=by rw [← hone];exact a9y hV hN hex h7 aex
 have aone:aA l 1 one:=by
  first
   |assumption
   |(rw [← hone]
     exact aA.c1h hV.fin aex hV.tM.pred)
 simp;refine bY vR ((hcon j0 (by omega) p0.2)) (by simp) (by simp) (fun e j1 x1=>?_) (fun n e hx=>by first|exact Q0.fail hx _|(simp;exact Q0.fail hx _)|(simp;exact fun s=>Q0.fail hx s));have Q1:=Q0.step x1;have p1:=aone j0 e j1 p0.2 x1;simp;refine SW.wR (ι:={ x:gC×Nat×Nat // j1≤x.2.1∧x.2.1<l.length∧l.length<x.2.2+x.2.1∧eW l [([43],10),([45],11)] one x.2.2 x.1 x.2.1=eW l [([43],10),([45],11)] one (l.length+2) e j1 }) (fun _=>[]) (fun x=>[(2,.cells [.d (.int .i64 0),.d (.str []),.d (.int .i64 0),.d .aI,.d .aI,.d .aI,.d .aI]),(3,.cells ((vO x.1.1).map .d)),(100000,rdO l x.1.2.1)]) (fun _=>[]) (fun x=>l.length-x.1.2.1) ⟨(e,j1,l.length+2),d3X _,p1.2,by simp only;omega,rfl⟩ (by simp) ?_
 rintro ⟨⟨e2,j2,g⟩,hb,hj2,hg,hp⟩;simp only at hb hj2 hg hp;obtain ⟨g,rfl⟩:∃k,g=k+1:=⟨g-1,by omega⟩;have p2:j1≤j2∧j2<l.length:=⟨hb,hj2⟩;simp;cases s1:aQ l j2 [43] with
 |true=>
  have hf:([([43],10),([45],11)].find? fun p:Nm×Int=>aQ l j2 p.1)=some ([43],10):=by simp [s1]
  have hn:=aF hV.fin hj2 s1;refine aY (ds:=[.str [43]]) (d:= .d (.bool true)) aC (aN l j2 [43] p2.2 (by omega) s1) (by simp) (by simp) ?_
  simp;refine jP 2 [1] (.op 0 (.call [3,4,5] .none) (.call [0,3,4,5] .none)) (eK (one (j2+1))) (by kernel_rfl) (by kernel_rfl) ?_
  simp;refine ⟨?_,?_⟩
  all_goals
   refine rE (i:=j2+1) (ds:=[]) vR (hcon (j2+1) (by omega) hn) (by simp) (by simp) (fun x j3 x3=>?_) (fun n e hx=>?_)
   ·have p3:=aone (j2+1) x j3 hn x3;rw [qB hf x3] at hp;refine cO.mk ?_
    simp;refine aG.mk bV (gO 10 e2 x) ?_
    simp;exact bN.mk ⟨(jF 10 [e2,x],j3,g),by simp only;omega,p3.2,by simp only;omega,hp⟩ (by simp) (by simp;omega)
   ·rw [oO hf hx] at hp;simp
    first|exact Q1.bad _ _ _ hp.symm|exact fun s=>Q1.bad _ _ s hp.symm
 |false=>
 refine aY (ds:=[.str [43]]) (d:= .d (.bool false)) aC (aO l j2 [43] p2.2 (by omega) s1) (by simp) (by simp) ?_
 simp;cases s2:aQ l j2 [45] with
 |true=>
  have hf:([([43],10),([45],11)].find? fun p:Nm×Int=>aQ l j2 p.1)=some ([45],11):=by simp [s1,s2]
  have hn:=aF hV.fin hj2 s2;refine aY (ds:=[.str [45]]) (d:= .d (.bool true)) aC (aN l j2 [45] p2.2 (by omega) s2) (by simp) (by simp) ?_
  simp;refine jP 2 [1] (.op 0 (.call [3,4,5] .none) (.call [0,3,4,5] .none)) (eK (one (j2+1))) (by kernel_rfl) (by kernel_rfl) ?_
  simp;refine ⟨?_,?_⟩
  all_goals
   refine rE (i:=j2+1) (ds:=[]) vR (hcon (j2+1) (by omega) hn) (by simp) (by simp) (fun x j3 x3=>?_) (fun n e hx=>?_)
   ·have p3:=aone (j2+1) x j3 hn x3;rw [qB hf x3] at hp;refine cO.mk ?_
    simp;refine aG.mk bV (gO 11 e2 x) ?_
    simp;exact bN.mk ⟨(jF 11 [e2,x],j3,g),by simp only;omega,p3.2,by simp only;omega,hp⟩ (by simp) (by simp;omega)
   ·rw [oO hf hx] at hp;simp
    first|exact Q1.bad _ _ _ hp.symm|exact fun s=>Q1.bad _ _ s hp.symm
 |false=>
 refine aY (ds:=[.str [45]]) (d:= .d (.bool false)) aC (aO l j2 [45] p2.2 (by omega) s2) (by simp) (by simp) ?_
 have hf:([([43],10),([45],11)].find? fun p:Nm×Int=>aQ l j2 p.1)=none:=by simp [s1,s2]
 have Q2:=hp.symm.trans (uA hf);simp;exact Q1.ok _ j2 _ _ Q2 (.inr rfl) (by simp)
omit h3 in
theorem a9z (i:Nat)(hlow:low≤i+1)(hi:i<l.length):mX G 191 [] l i (a2R bD bW rdP l ex i) pK:=by
 have hl:=hV.len;obtain ⟨j0,rfl⟩:∃j0,j0=i:=⟨_,rfl⟩;have p0:j0≤j0∧j0<l.length:=⟨d3X _,hi⟩;refine jG.cK Tryz.func191 rfl Tryz.ntmps191 rfl (by simp) ?_
 intro Q Q0;unfold a2R at Q0;simp;refine bY qA ((mP hV hN hex h7 aex j0 (by omega) p0.2)) (by simp) (by simp) (fun e j1 x1=>?_) (fun n e hx=>by first|exact Q0.fail hx _|(simp;exact Q0.fail hx _)|(simp;exact fun s=>Q0.fail hx s));have Q1:=Q0.step x1;have p1:=aA.a5W hV.fin aex hV.tM.pred j0 e j1 p0.2 x1;simp;have hc:=mP hV hN hex h7 aex;cases hs1:aQ l j1 [61,61] with
 |true=>
  have Q2:=Q1.ifp hs1;refine aY (ds:=[.str [61,61]]) (d:= .d (.bool true)) aC (aN l j1 [61,61] p1.2 (by omega) hs1) (by simp) (by simp) ?_
  have p2:j1+1≤j1+1∧j1+1<l.length:=⟨d3X _,aF hV.fin p1.2 hs1⟩;obtain ⟨j2,hj2⟩:∃j,j1+1=j:=⟨_,rfl⟩;rw [hj2] at Q2 p2 ⊢;simp;refine jP 2 [1] (.op 0 (.call [3,4,5] .none) (.call [0,3,4,5] .none)) (eK (kM bD bW rdP l ex j2)) (by kernel_rfl) (by kernel_rfl) ?_
  simp;refine ⟨?_,?_⟩
  all_goals
   refine rE qA ((mP hV hN hex h7 aex j2 (by omega) p2.2)) (by simp) (by simp) (fun x j3 x3=>?_) (fun n e hx=>by first|exact Q2.fail hx _|(simp;exact Q2.fail hx _)|(simp;exact fun s=>Q2.fail hx s));have Q3:=Q2.step x3;have p3:=aA.a5W hV.fin aex hV.tM.pred j2 x j3 p2.2 x3;refine cO.mk ?_
   simp;refine aG.mk bV (gO 16 e x) ?_
   simp;exact Q3.ok _ j3 _ _ rfl (.inr rfl) (by simp)
 |false=>
 have Q1:=Q1.vX (by rw [hs1];decide);refine aY (ds:=[.str [61,61]]) (d:= .d (.bool false)) aC (aO l j1 [61,61] p1.2 (by omega) hs1) (by simp) (by simp) ?_
 simp;cases hs2:aQ l j1 [33,61] with
 |true=>
  have Q2:=Q1.ifp hs2;refine aY (ds:=[.str [33,61]]) (d:= .d (.bool true)) aC (aN l j1 [33,61] p1.2 (by omega) hs2) (by simp) (by simp) ?_
  have p2:j1+1≤j1+1∧j1+1<l.length:=⟨d3X _,aF hV.fin p1.2 hs2⟩;obtain ⟨j2,hj2⟩:∃j,j1+1=j:=⟨_,rfl⟩;rw [hj2] at Q2 p2 ⊢;simp;refine jP 2 [1] (.op 0 (.call [3,4,5,6,7] .none) (.call [0,3,4,5,6,7] .none)) (eK (kM bD bW rdP l ex j2)) (by kernel_rfl) (by kernel_rfl) ?_
  simp;refine ⟨?_,?_⟩
  all_goals
   refine rE qA ((mP hV hN hex h7 aex j2 (by omega) p2.2)) (by simp) (by simp) (fun x j3 x3=>?_) (fun n e hx=>by first|exact Q2.fail hx _|(simp;exact Q2.fail hx _)|(simp;exact fun s=>Q2.fail hx s));have Q3:=Q2.step x3;have p3:=aA.a5W hV.fin aex hV.tM.pred j2 x j3 p2.2 x3;refine cO.mk ?_
   simp;refine aG.mk bV (gO 16 e x) ?_
   simp;refine aG.mk bV (a1M 21 (jF 16 [e,x])) ?_
   simp;exact Q3.ok _ j3 _ _ rfl (.inr rfl) (by simp)
 |false=>
 have Q1:=Q1.vX (by rw [hs2];decide);refine aY (ds:=[.str [33,61]]) (d:= .d (.bool false)) aC (aO l j1 [33,61] p1.2 (by omega) hs2) (by simp) (by simp) ?_
 simp;have hc:=mP hV hN hex h7 aex;cases hs3:aQ l j1 [60] with
 |true=>
  have Q2:=Q1.ifp hs3;refine aY (ds:=[.str [60]]) (d:= .d (.bool true)) aC (aN l j1 [60] p1.2 (by omega) hs3) (by simp) (by simp) ?_
  have p2:j1+1≤j1+1∧j1+1<l.length:=⟨d3X _,aF hV.fin p1.2 hs3⟩;obtain ⟨j2,hj2⟩:∃j,j1+1=j:=⟨_,rfl⟩;rw [hj2] at Q2 p2 ⊢;simp;refine jP 2 [1] (.op 0 (.call [3,4,5] .none) (.call [0,3,4,5] .none)) (eK (kM bD bW rdP l ex j2)) (by kernel_rfl) (by kernel_rfl) ?_
  simp;refine ⟨?_,?_⟩
  all_goals
   refine rE qA ((mP hV hN hex h7 aex j2 (by omega) p2.2)) (by simp) (by simp) (fun x j3 x3=>?_) (fun n e hx=>by first|exact Q2.fail hx _|(simp;exact Q2.fail hx _)|(simp;exact fun s=>Q2.fail hx s));have Q3:=Q2.step x3;have p3:=aA.a5W hV.fin aex hV.tM.pred j2 x j3 p2.2 x3;refine cO.mk ?_
   simp;refine aG.mk bV (gO 17 e x) ?_
   simp;exact Q3.ok _ j3 _ _ rfl (.inr rfl) (by simp)
 |false=>
 have Q1:=Q1.vX (by rw [hs3];decide);refine aY (ds:=[.str [60]]) (d:= .d (.bool false)) aC (aO l j1 [60] p1.2 (by omega) hs3) (by simp) (by simp) ?_
 simp;have hc:=mP hV hN hex h7 aex;cases hs4:aQ l j1 [60,61] with
 |true=>
  have Q2:=Q1.ifp hs4;refine aY (ds:=[.str [60,61]]) (d:= .d (.bool true)) aC (aN l j1 [60,61] p1.2 (by omega) hs4) (by simp) (by simp) ?_
  have p2:j1+1≤j1+1∧j1+1<l.length:=⟨d3X _,aF hV.fin p1.2 hs4⟩;obtain ⟨j2,hj2⟩:∃j,j1+1=j:=⟨_,rfl⟩;rw [hj2] at Q2 p2 ⊢;simp;refine jP 2 [1] (.op 0 (.call [3,4,5] .none) (.call [0,3,4,5] .none)) (eK (kM bD bW rdP l ex j2)) (by kernel_rfl) (by kernel_rfl) ?_
  simp;refine ⟨?_,?_⟩
  all_goals
   refine rE qA ((mP hV hN hex h7 aex j2 (by omega) p2.2)) (by simp) (by simp) (fun x j3 x3=>?_) (fun n e hx=>by first|exact Q2.fail hx _|(simp;exact Q2.fail hx _)|(simp;exact fun s=>Q2.fail hx s));have Q3:=Q2.step x3;have p3:=aA.a5W hV.fin aex hV.tM.pred j2 x j3 p2.2 x3;refine cO.mk ?_
   simp;refine aG.mk bV (gO 18 e x) ?_
   simp;exact Q3.ok _ j3 _ _ rfl (.inr rfl) (by simp)
 |false=>
 have Q1:=Q1.vX (by rw [hs4];decide);refine aY (ds:=[.str [60,61]]) (d:= .d (.bool false)) aC (aO l j1 [60,61] p1.2 (by omega) hs4) (by simp) (by simp) ?_
 simp;cases hs5:aQ l j1 [62] with
 |true=>
  have Q2:=Q1.ifp hs5;refine aY (ds:=[.str [62]]) (d:= .d (.bool true)) aC (aN l j1 [62] p1.2 (by omega) hs5) (by simp) (by simp) ?_
  have p2:j1+1≤j1+1∧j1+1<l.length:=⟨d3X _,aF hV.fin p1.2 hs5⟩;obtain ⟨j2,hj2⟩:∃j,j1+1=j:=⟨_,rfl⟩;rw [hj2] at Q2 p2 ⊢;simp;refine jP 1 [0] (.op 2 (.call [3,4,5] .none) (.call [2,3,4,5] .none)) (eK (kM bD bW rdP l ex j2)) (by kernel_rfl) (by kernel_rfl) ?_
  simp;refine ⟨?_,?_⟩
  all_goals
   refine rE qA ((mP hV hN hex h7 aex j2 (by omega) p2.2)) (by simp) (by simp) (fun x j3 x3=>?_) (fun n e hx=>by first|exact Q2.fail hx _|(simp;exact Q2.fail hx _)|(simp;exact fun s=>Q2.fail hx s));have Q3:=Q2.step x3;have p3:=aA.a5W hV.fin aex hV.tM.pred j2 x j3 p2.2 x3;refine cO.mk ?_
   simp;refine aG.mk bV (gO 17 x e) ?_
   simp;exact Q3.ok _ j3 _ _ rfl (.inr rfl) (by simp)
 |false=>
 have Q1:=Q1.vX (by rw [hs5];decide);refine aY (ds:=[.str [62]]) (d:= .d (.bool false)) aC (aO l j1 [62] p1.2 (by omega) hs5) (by simp) (by simp) ?_
 simp;cases hs6:aQ l j1 [62,61] with
 |true=>
  have Q2:=Q1.ifp hs6;refine aY (ds:=[.str [62,61]]) (d:= .d (.bool true)) aC (aN l j1 [62,61] p1.2 (by omega) hs6) (by simp) (by simp) ?_
  have p2:j1+1≤j1+1∧j1+1<l.length:=⟨d3X _,aF hV.fin p1.2 hs6⟩;obtain ⟨j2,hj2⟩:∃j,j1+1=j:=⟨_,rfl⟩;rw [hj2] at Q2 p2 ⊢;simp;refine jP 1 [0] (.op 2 (.call [3,4,5] .none) (.call [2,3,4,5] .none)) (eK (kM bD bW rdP l ex j2)) (by kernel_rfl) (by kernel_rfl) ?_
  simp;refine ⟨?_,?_⟩
  all_goals
   refine rE qA ((mP hV hN hex h7 aex j2 (by omega) p2.2)) (by simp) (by simp) (fun x j3 x3=>?_) (fun n e hx=>by first|exact Q2.fail hx _|(simp;exact Q2.fail hx _)|(simp;exact fun s=>Q2.fail hx s));have Q3:=Q2.step x3;have p3:=aA.a5W hV.fin aex hV.tM.pred j2 x j3 p2.2 x3;refine cO.mk ?_
   simp;refine aG.mk bV (gO 18 x e) ?_
   simp;exact Q3.ok _ j3 _ _ rfl (.inr rfl) (by simp)
 |false=>
 have Q1:=Q1.vX (by rw [hs6];decide);refine aY (ds:=[.str [62,61]]) (d:= .d (.bool false)) aC (aO l j1 [62,61] p1.2 (by omega) hs6) (by simp) (by simp) ?_
 simp;exact Q1.ok _ j1 _ _ rfl (.inr rfl) (by simp)
theorem b0G (i:Nat)(hlow:low≤i+1)(hi:i<l.length):mX G 168 [] l i (yW bD bW rdP l ex i) pK:=by
 have hl:=hV.len;obtain ⟨j0,rfl⟩:∃j0,j0=i:=⟨_,rfl⟩;have p0:j0≤j0∧j0<l.length:=⟨d3X _,hi⟩;refine jG.cK Tryz.func168 rfl Tryz.ntmps168 rfl (by simp) ?_
 intro Q Q0;unfold yW at Q0;simp;cases hs:aQ l j0 [33] with
 |true=>
  have Q1:=Q0.ifp hs;refine aY (ds:=[.str [33]]) (d:= .d (.bool true)) aC (aN l j0 [33] p0.2 (by omega) hs) (by simp) (by simp) ?_
  have p1:j0+1≤j0+1∧j0+1<l.length:=⟨d3X _,aF hV.fin p0.2 hs⟩;obtain ⟨j1,hj1⟩:∃j,j0+1=j:=⟨_,rfl⟩;rw [hj1] at Q1 p1 ⊢;simp;refine bY a3a ((h3 j1 (by omega) p1.2)) (by simp) (by simp) (fun e j2 x2=>?_) (fun n e hx=>by first|exact Q1.fail hx _|(simp;exact Q1.fail hx _)|(simp;exact fun s=>Q1.fail hx s));have Q2:=Q1.step x2;have p2:=aex 3 j1 e j2 p1.2 x2;simp;refine kU.mk bV (a1M 21 e) ?_
  simp;exact Q2.ok _ j2 _ _ rfl (.inr rfl) (by simp)
 |false=>
  have Q0:=Q0.vX (by rw [hs];decide);refine aY (ds:=[.str [33]]) (d:= .d (.bool false)) aC (aO l j0 [33] p0.2 (by omega) hs) (by simp) (by simp) ?_
  simp;refine bY a8r (a9z hV hN hex h7 aex j0 (by omega) p0.2) (by simp) (by simp) (fun t j h=>?_) (fun n e h=>by first|exact Q0.bad n e _ h|(simp;exact Q0.bad n e _ h)|(simp;exact fun s=>Q0.bad n e s h));simp;exact Q0.ok t j _ _ h (.inr rfl) (by simp)
theorem b9o (i:Nat)(hlow:low≤i+1)(hi:i<l.length):mX G 122 [] l i (a7s bD bW rdP l ex i) pK:=by
 refine jG.cK Tryz.func122 rfl Tryz.ntmps122 rfl (by simp) ?_
 intro Q Q0;unfold a7s zW at Q0;have hl:=hV.len;obtain ⟨j0,rfl⟩:∃j0,j0=i:=⟨_,rfl⟩;have p0:j0≤j0∧j0<l.length:=⟨d3X _,hi⟩;generalize hone:yW bD bW rdP l ex=one at *;have hcon:∀i,low≤i+1→i<l.length→mX G 168 [] l i (one i) pK:=by rw [← hone];exact b0G hV hN hex h3 h7 aex
 have aone:aA l 1 one:=by
  first
   |assumption
   |(rw [← hone]
     exact aA.b1y hV.fin aex hV.tM.pred)
 simp;refine bY a3a ((hcon j0 (by omega) p0.2)) (by simp) (by simp) (fun e j1 x1=>?_) (fun n e hx=>by first|exact Q0.fail hx _|(simp;exact Q0.fail hx _)|(simp;exact fun s=>Q0.fail hx s));have Q1:=Q0.step x1;have p1:=aone j0 e j1 p0.2 x1;simp;refine SW.wR (ι:={ x:gC×Nat×Nat // j1≤x.2.1∧x.2.1<l.length∧l.length<x.2.2+x.2.1∧eW l [([38,38],19)] one x.2.2 x.1 x.2.1=eW l [([38,38],19)] one (l.length+2) e j1 }) (fun _=>[]) (fun x=>[(2,.cells [.d (.int .i64 0),.d (.str []),.d (.int .i64 0),.d .aI,.d .aI,.d .aI,.d .aI]),(3,.cells ((vO x.1.1).map .d)),(100000,rdO l x.1.2.1)]) (fun _=>[]) (fun x=>l.length-x.1.2.1) ⟨(e,j1,l.length+2),d3X _,p1.2,by simp only;omega,rfl⟩ (by simp) ?_
 rintro ⟨⟨e2,j2,g⟩,hb,hj2,hg,hp⟩;simp only at hb hj2 hg hp;obtain ⟨g,rfl⟩:∃k,g=k+1:=⟨g-1,by omega⟩;have p2:j1≤j2∧j2<l.length:=⟨hb,hj2⟩;simp;cases s1:aQ l j2 [38,38] with
 |true=>
  have hf:([([38,38],19)].find? fun p:Nm×Int=>aQ l j2 p.1)=some ([38,38],19):=by simp [s1]
  have hn:=aF hV.fin hj2 s1;refine aY (ds:=[.str [38,38]]) (d:= .d (.bool true)) aC (aN l j2 [38,38] p2.2 (by omega) s1) (by simp) (by simp) ?_
  simp;refine jP 2 [1] (.op 0 (.call [3,4,5] .none) (.call [0,3,4,5] .none)) (eK (one (j2+1))) (by kernel_rfl) (by kernel_rfl) ?_
  simp;refine ⟨?_,?_⟩
  all_goals
   refine rE (i:=j2+1) (ds:=[]) a3a (hcon (j2+1) (by omega) hn) (by simp) (by simp) (fun x j3 x3=>?_) (fun n e hx=>?_)
   ·have p3:=aone (j2+1) x j3 hn x3;rw [qB hf x3] at hp;refine cO.mk ?_
    simp;refine aG.mk bV (gO 19 e2 x) ?_
    simp;exact bN.mk ⟨(jF 19 [e2,x],j3,g),by simp only;omega,p3.2,by simp only;omega,hp⟩ (by simp) (by simp;omega)
   ·rw [oO hf hx] at hp;simp
    first|exact Q1.bad _ _ _ hp.symm|exact fun s=>Q1.bad _ _ s hp.symm
 |false=>
 refine aY (ds:=[.str [38,38]]) (d:= .d (.bool false)) aC (aO l j2 [38,38] p2.2 (by omega) s1) (by simp) (by simp) ?_
 have hf:([([38,38],19)].find? fun p:Nm×Int=>aQ l j2 p.1)=none:=by simp [s1]
 have Q2:=hp.symm.trans (uA hf);simp;exact Q1.ok _ j2 _ _ Q2 (.inr rfl) (by simp)
theorem b6x:aA l 1 (a7s bD bW rdP l ex):=aA.lvl hV.fin (aA.b1y hV.fin aex hV.tM.pred)
theorem c2a (i:Nat)(hlow:low≤i+1)(hi:i<l.length):mX G 73 [] l i (b3M bD bW rdP l ex i) pK:=by
 refine jG.cK Tryz.func73 rfl Tryz.ntmps73 rfl (by simp) ?_
 intro Q Q0;unfold b3M zW at Q0;have aor:=b6x hV hN hex h3 h7 aex;have hl:=hV.len;obtain ⟨j0,rfl⟩:∃j0,j0=i:=⟨_,rfl⟩;have p0:j0≤j0∧j0<l.length:=⟨d3X _,hi⟩;generalize hone:a7s bD bW rdP l ex=one at *;have hcon:∀i,low≤i+1→i<l.length→mX G 122 [] l i (one i) pK:=by rw [← hone];exact b9o hV hN hex h3 h7 aex
 have aone:aA l 1 one:=by
  first
   |assumption
   |(rw [← hone]
     exact (fun _ _ _=>aor) hV.fin aex hV.tM.pred)
 simp;refine bY a8s ((hcon j0 (by omega) p0.2)) (by simp) (by simp) (fun e j1 x1=>?_) (fun n e hx=>by first|exact Q0.fail hx _|(simp;exact Q0.fail hx _)|(simp;exact fun s=>Q0.fail hx s));have Q1:=Q0.step x1;have p1:=aone j0 e j1 p0.2 x1;simp;refine SW.wR (ι:={ x:gC×Nat×Nat // j1≤x.2.1∧x.2.1<l.length∧l.length<x.2.2+x.2.1∧eW l [([124,124],20)] one x.2.2 x.1 x.2.1=eW l [([124,124],20)] one (l.length+2) e j1 }) (fun _=>[]) (fun x=>[(2,.cells [.d (.int .i64 0),.d (.str []),.d (.int .i64 0),.d .aI,.d .aI,.d .aI,.d .aI]),(3,.cells ((vO x.1.1).map .d)),(100000,rdO l x.1.2.1)]) (fun _=>[]) (fun x=>l.length-x.1.2.1) ⟨(e,j1,l.length+2),d3X _,p1.2,by simp only;omega,rfl⟩ (by simp) ?_
 rintro ⟨⟨e2,j2,g⟩,hb,hj2,hg,hp⟩;simp only at hb hj2 hg hp;obtain ⟨g,rfl⟩:∃k,g=k+1:=⟨g-1,by omega⟩;have p2:j1≤j2∧j2<l.length:=⟨hb,hj2⟩;simp;cases s1:aQ l j2 [124,124] with
 |true=>
  have hf:([([124,124],20)].find? fun p:Nm×Int=>aQ l j2 p.1)=some ([124,124],20):=by simp [s1]
  have hn:=aF hV.fin hj2 s1;refine aY (ds:=[.str [124,124]]) (d:= .d (.bool true)) aC (aN l j2 [124,124] p2.2 (by omega) s1) (by simp) (by simp) ?_
  simp;refine jP 2 [1] (.op 0 (.call [3,4,5] .none) (.call [0,3,4,5] .none)) (eK (one (j2+1))) (by kernel_rfl) (by kernel_rfl) ?_
  simp;refine ⟨?_,?_⟩
  all_goals
   refine rE (i:=j2+1) (ds:=[]) a8s (hcon (j2+1) (by omega) hn) (by simp) (by simp) (fun x j3 x3=>?_) (fun n e hx=>?_)
   ·have p3:=aone (j2+1) x j3 hn x3;rw [qB hf x3] at hp;refine cO.mk ?_
    simp;refine aG.mk bV (gO 20 e2 x) ?_
    simp;exact bN.mk ⟨(jF 20 [e2,x],j3,g),by simp only;omega,p3.2,by simp only;omega,hp⟩ (by simp) (by simp;omega)
   ·rw [oO hf hx] at hp;simp
    first|exact Q1.bad _ _ _ hp.symm|exact fun s=>Q1.bad _ _ s hp.symm
 |false=>
 refine aY (ds:=[.str [124,124]]) (d:= .d (.bool false)) aC (aO l j2 [124,124] p2.2 (by omega) s1) (by simp) (by simp) ?_
 have hf:([([124,124],20)].find? fun p:Nm×Int=>aQ l j2 p.1)=none:=by simp [s1]
 have Q2:=hp.symm.trans (uA hf);simp;exact Q1.ok _ j2 _ _ Q2 (.inr rfl) (by simp)
end
end
end
end Go.Proofs.YtjpodcmhcenjjaaGreatDoor
section
namespace Go.VM
open Go Go.RowKit
section
variable {P:Program} {G:GT} {st:St}
theorem mG {all:Array Oper}{QQ:Exit→Act→World→Prop}{a a':Act}{w w':World}{o:Oper}{rest:List Oper}(hg:o.guard=none){v:Value}(hrun:(execOp a.eval o).run P w= .ok (.value v) w'∨((execOp a.eval o).run P w= .ok .skip w'∧v=Go.undef))(ha:a.put o.dst v=a')(h:wpList P all QQ rest a' w'):wpList P all QQ (o::rest) a w:=by
 have hw:∀y,Region.wanted o y=true:=fun y=>by unfold Region.wanted;rw [hg]
 unfold wpList;rw [if_pos (hw _)];left;unfold Oper.wp;rcases hrun with h1|⟨h1,rfl⟩
 ·rw [h1]
  show wpList P all QQ rest (a.put o.dst v) w'
  rw [ha];exact h
 ·rw [h1]
  show wpList P all QQ rest (a.put o.dst Go.undef) w'
  rw [ha];exact h
def d2b (P:Program)(G:GT)(t:TypeId)(x d s:Tmp)(j:Nat)(parts:Array (Nat×Operand))(Q:St→Prop)(st:St):Prop:=
 ∃(outB outA outS:Out) (k off:Nat),(s<st.tmps.length∧x<st.tmps.length∧d<st.tmps.length)∧a2y P G t parts st=some outB∧a4t P (some d) t (finish outB.st (some x) outB.v outB.act)=some outA∧pR P G t (.tmp d) (.tmp x) (finish outA.st (some d) outA.v outA.act)=some outS∧(finish outA.st (some d) outA.v outA.act).eval G (.tmp d)= .ptr k off∧outS.st.eval G (.tmp d)= .ptr k off∧(∃cs,getKey k (finish outA.st (some d) outA.v outA.act).H=some (.cells cs))∧
  (∀(o:Oper),o.op= .build t parts→∀base R μ a w,Rel P G base R μ st a w→∃cs:Array Value,(execOp a.eval o).run P w= .ok (.value (.agg cs)) w∧cs[j]? =some (a.eval (.tmp s))∧cs.size=P.cellsOf t)∧(getKey k outS.st.H).isSome=true∧Q { outS.st with own:=addAlias (.t s) (.c k (off+j)) outS.st.own }
theorem LW.d0u {all:Array Oper}{t:TypeId}{x d s:Tmp}{j:Nat}{parts:Array (Nat×Operand)}{y0 y1 y2:TypeId}{p0 p1 p2:String}{f0 f1 f2:Array Edge}{Q:Exit→St→Prop}(hne:x≠s∧x≠d∧d≠s)(hct:P.cellsOf t≠0)(h:d2b P G t x d s j parts (fun s'=>Q .normal s') st):
  LW P G all [⟨some x,.build t parts,y0,p0,f0,none⟩,⟨some d,.alloc t,y1,p1,f1,none⟩,⟨none,.store t (.tmp d) (.tmp x),y2,p2,f2,none⟩] st Q:=by
 unfold LW;intro base R μ a w hr QQ hk;obtain ⟨outB,outA,outS,k,off,k0,k1,kA,k2,k3,k4,⟨cs0,k5⟩,hraw,k6,k7⟩:=h;obtain ⟨cs,e0,e1,e2⟩:=hraw ⟨some x,.build t parts,y0,p0,f0,none⟩ rfl base R μ a w hr;obtain ⟨v,w0,R0,μ0,hrun,hr1,hv1,ha1,hs1⟩:=a9O (o:=⟨some x,.build t parts,y0,p0,f0,none⟩) rfl k1 base R μ a w hr;rw [e0] at hrun;have hv:v= .agg cs∧w0=w:=by
  rcases hrun with hrun|⟨hrun,_⟩
  ·cases hrun;exact ⟨rfl,rfl⟩
  ·cases hrun
 obtain ⟨rfl,rfl⟩:=hv;have hr2:=hr1.put (dst:=some x) hv1 ha1;generalize ha:a.put (some x) (.agg cs)=a0 at hr2;have hsa:s<a.tmps.size:=by rw [hr.size];exact k0.1
 have hxa:x<a.tmps.size:=by rw [hr.size];exact k0.2.1
 have hda:d<a.tmps.size:=by rw [hr.size];exact k0.2.2
 have hxv0:a0.eval (.tmp x)= .agg cs:=by rw [← ha];exact cY _ _ hxa
 have es0:a0.eval (.tmp s)=a.eval (.tmp s):=by rw [← ha];exact bL _ _ (Ne.symm hne.1)
 obtain ⟨vA,w1,R1,μ1,hrunA,hrA,hvA,haA,hsA⟩:=a9P (o:=⟨some d,.alloc t,y1,p1,f1,none⟩) rfl kA base R0 μ0 a0 w0 hr2;have hr2:=hrA.put (dst:=some d) hvA haA;generalize hb:a0.put (some d) vA=a1 at hr2;have hsa1:s<a1.tmps.size:=by rw [← hb,size_put, ← ha,size_put];exact hsa
 have es:a1.eval (.tmp s)=a.eval (.tmp s):=by rw [← hb,bL _ _ (Ne.symm hne.2.2)];exact es0
 have hxv:a1.eval (.tmp x)= .agg cs:=by rw [← hb,bL _ _ hne.2.1];exact hxv0
 obtain ⟨v2,w2,R2,μ2,hrun2,hr3,_,_,hs2⟩:=a1x (o:=⟨none,.store t (.tmp d) (.tmp x),y2,p2,f2,none⟩) rfl k2 base R1 μ1 a1 w1 hr2;obtain ⟨_,_,cur,T0,hh,hcz,_⟩:=hr2.eT k _ k5;have had:=hr2.dJ k3;have hcc:(Value.agg cs).cells=cs:=rfl;have k2':=k2;unfold pR at k2;rw [k3] at k2;split at k2;rotate_left
 ·cases k2
 rename_i k' off' ys hk' hys;cases hk';rw [k5] at k2;simp only at k2;split at k2;rotate_left
 ·cases k2
 rename_i hcd;have hvx:pP ((finish outA.st (some d) outA.v outA.act).eval G (.tmp x))=some ys:=hys;obtain ⟨hvs,hvc⟩:=a1w (hr2.eval (.tmp x)) hvx;rw [hxv,hcc] at hvs hvc;have hone:∀u∈cs.toList,u.oneCell'=true:=fun u hu=>by
  obtain ⟨i,hi⟩:=d3Y hu;have hil:i<ys.length:=by rw [← hvs];simpa using (d3I.1 hi).1
  obtain ⟨_,_,h2⟩:=hvc i ys[i] (by simp [hil]);have:cs.getD i undef=u:=by
   have:cs[i]? =some u:=by simpa using hi
   simp [d3J,this]
  rw [this] at h2;exact h2
 have hfit:off+cs.size≤cur.size:=by rw [hcz,hvs];omega
 have hst:=qV (P:=P) (a:=a1) (w:=w1) (o:=⟨none,.store t (.tmp d) (.tmp x),y2,p2,f2,none⟩) rfl had hh (by rw [hxv,hcc];exact e2) hct (by rw [hxv,hcc];exact hone) (by rw [hxv,hcc];exact hfit);rw [hxv,hcc] at hst;have hw2:w2=w1.setRow (μ1 k) (spl cur off cs.toList):=by
  rw [hst] at hrun2;rcases hrun2 with hrun2|⟨hrun2,_⟩
  ·cases hrun2
  ·cases hrun2;rfl
 have hμ:μ2 k=μ1 k:=by have h1:=hr3.dJ k4;rw [had] at h1;have h2:=(Addr.mk.inj (Option.some.inj (Value.pointer.inj h1))).1;exact h2.symm
 have hcell:∀u,w2.cell? ⟨μ2 k,off+j,none⟩=some u→u=a1.eval (.tmp s):=fun u hu=>by
  have hjl:j<cs.size:=(d3Q.1 e1).1;rw [hμ,hw2,cell_of_row _ _ _ _ T0 (0,0) (setRow_heap w1 (μ1 k) cur _ T0 _ hh),a3O (by simpa using hfit),if_neg (by omega),if_pos (by simp;omega),Nat.add_sub_cancel_left] at hu;have:cs.toList[j]? =some (a.eval (.tmp s)):=by simpa using e1
  rw [this] at hu;cases hu;exact es.symm
 have hr4:=hr3.alias (t:=s) (k:=k) (off:=off+j) (Option.isSome_iff_exists.1 k6) hsa1 hcell;refine mG rfl (.inl e0) ha ?_
 refine mG rfl hrunA hb ?_
 refine mG (w':=w2) rfl (.inr ⟨by rw [hw2];exact hst,rfl⟩) rfl ?_
 unfold wpList;exact hk _ _ _ _ R2 μ2 k7 hr4 ((hs1.trans hsA).trans hs2)
end
end Go.VM
end
namespace Go.Proofs.YtjpodcmhcenjjaaGreatDoor
section
open Go Go.VM
variable {G:GT}
theorem c2b {R:Nat→Nat→Prop}{w:World}{v:Value}{es:List (List D)}(h:V R w v (.sl es)):∃ao n c,v= .slice ao n c:=by
 cases h with
 |emp ao cap=>exact ⟨_,_,_,rfl⟩
 |sl b o n cap size es f h1 h2 h3 h4 h5 h6 h7=>exact ⟨_,_,_,rfl⟩
theorem b9p {a:Act}{w:World}{o:Oper}(ho:o.op= .build 30 #[(0,.const (.int .i64 25)),(1,.tmp 44),(3,.tmp 46)]){s:ByteArray}{a1:Option Addr}{n1 c1:Nat}(h2:a.eval (.tmp 44)= .string s)(h1:a.eval (.tmp 46)= .slice a1 n1 c1):
  (execOp a.eval o).run Tryz.prog w= .ok (.value (.agg #[.int .i64 25,.string s,.int .i64 0,.slice a1 n1 c1,.slice none 0 0,.slice none 0 0,.slice none 0 0])) w:=by
 have hz:(Tryz.prog.info? 30).bind (·.zero)=some (.agg #[.int .i64 0,.string ⟨#[]⟩,.int .i64 0,.slice none 0 0,.slice none 0 0,.slice none 0 0,.slice none 0 0]):=by kernel_rfl
 obtain ⟨i,hi,hz⟩:=d3V.1 hz;simp [execOp,ho,Instr.build,zeroValue,typeInfo,hi,hz];rw [h1,h2]
 rfl
section
variable {α:Type} {Q:Exit→St→Prop} {l:List Tok} {i:Nat} {enc:α→DV} {e:TypeId} {r:kJ α}
theorem d2M {f:FuncId}{ds:List D}{av:List DV}{st:St}{ls:List (Option VM.Loc)}{dst:Option Tmp}{KK:St→Prop}(he:VM.Enters Tryz.prog f)(hc:RdO G f ds l i e r enc)(hw:WkT av (.ptr 100000 0::ds.map .d))(hH:getKey 100000 st.H=some (rdO l i))(hok:∀a j,r= .ok a j→KK (aU K1 dst st st.own (enc a) (rH l j) [(e,[.t 0])]))(hbad:∀n e,r= .bad n e→Q (.panic (tX (jW n e))) (wN st))(hk:∀a,aP K1 (enc a)=true∧aW K1 (enc a)=enc a:=by intro a;exact ⟨rfl,rfl⟩):rI Tryz.prog G f av ls dst st KK Q (eK r):=by
 rw [← b4k (l:=l) (enc:=enc) (Y:=fun _=>[]) (own:=[(e,[.t 0])]) r];refine rI.mk he hc K1 (fun d H1 own1 hx=>?_) (fun v hx=>?_) ?_ ?_ rfl rfl (fun d H1 own1 hx=>?_) (fun v hx=>?_)
 ·cases r with
  |bad n e=>cases hx
  |ok a j=>cases hx;simp [aJ,aP,aL,aK,eF,aT,getKey,(hk a).1]
 ·simp [aJ,aP,aL,aK,eF,aT,getKey]
 ·simpa [aM,aW,rk,gS] using hw
 ·simp only [cE,rdO,List.append_nil,List.map_cons,List.map_nil,rk,if_true,cL,aM,aW,WkH,and_true];exact ⟨_,hH,by simp [WkO]⟩
 ·cases r with
  |bad n e=>cases hx
  |ok a j=>cases hx;exact hok a j rfl
 ·cases r with
  |bad n e=>cases hx;exact hbad n e rfl
  |ok a j=>cases hx
end
section
variable {rdP:List Tok→Nat→Nat→kJ Pr} {l:List Tok} (hV:jX G rdP l) (hN:∀i, -9223372036854775807≤(aZ l i).n∧(aZ l i).n≤9223372036854775807)
include hV hN
section
variable {ex:Nat→bE gC} {low:Nat} (hex:∀i,low≤i→i<l.length→mX G 34 [] l i (ex 0 i) pK) (h3:∀i,low≤i→i<l.length→mX G 168 [] l i (ex 3 i) pK) (h7:∀i,low≤i→i<l.length→mX G 247 [] l i (ex 7 i) pK) (aex:∀k,aA l 1 (ex k))
include hex h3 h7 aex
omit hN hex h3 h7 in
theorem b9q (i:Nat)(ks:List gC)(j:Nat)(hi:i<l.length)(h:mF l ex i= .ok ks j):ks.length≤j:=by unfold mF at h;obtain ⟨_,k1,h1,h⟩:=bT h;obtain ⟨es,k2,h2,h⟩:=bT h;obtain ⟨_,k3,h3,h⟩:=bT h;have a1:=aA.exp hV.fin _ _ i _ k1 hi h1;have a2:=oN hV (one:=b4v ex) (fun a p=>a.length≤p) (fun a p b q hp ha hab=>⟨a8c hV aex a p b q hp ha hab,(a4P hV aex a p b q hp hab).2⟩) (fun a p h=>by omega) _ _ _ _ _ a1.2 (by simp) h2;have a3:=aA.exp hV.fin _ _ k2 _ k3 a2.2 h3;cases h;omega
theorem b6y (i:Nat)(hlow:low≤i+1)(hi:i<l.length):mX G 34 [] l i (a7t bD bW rdP l ex i) pK:=by
 have hl:=hV.len;obtain ⟨j0,rfl⟩:∃j0,j0=i:=⟨_,rfl⟩;have p0:j0≤j0∧j0<l.length:=⟨d3X _,hi⟩;refine jG.a2g Tryz.func34 rfl Tryz.ntmps34 rfl (by simp) ?_
 intro Q Q0;unfold a7t at Q0;refine SW.mS (SW.xk ?_);simp;refine SW.mS (SW.c9Y ?_);refine SW.mS (SW.xk ?_);simp;cases s1:aQ l j0 [108,101,116] with
 |true=>
  have Q1:=Q0.ifp s1;refine aY (ds:=[.str [108,101,116]]) (d:= .d (.bool true)) aC (aN l j0 [108,101,116] p0.2 (by omega) s1) (by simp) (by simp) ?_
  have p1:j0+1≤j0+1∧j0+1<l.length:=⟨d3X _,aF hV.fin p0.2 s1⟩;obtain ⟨j1,hj1⟩:∃j,j0+1=j:=⟨_,rfl⟩;rw [hj1] at Q1 p1 ⊢;simp;refine SW.a2n rfl ?_
  refine SW.xk ?_
  simp;refine bY b6q (b9e hV hex aex j1 (by omega) p1.2) (by simp) (by simp) (fun t j h=>?_) (fun n e h=>by first|exact Q1.bad n e _ h|(simp;exact Q1.bad n e _ h)|(simp;exact fun s=>Q1.bad n e s h));simp;exact Q1.ok t j _ _ h (.inr rfl) (by simp)
 |false=>
 have Q0:=Q0.vX (by rw [s1];decide);refine aY (ds:=[.str [108,101,116]]) (d:= .d (.bool false)) aC (aO l j0 [108,101,116] p0.2 (by omega) s1) (by simp) (by simp) ?_
 simp;refine SW.a5F rfl ?_
 refine SW.mS (SW.xk ?_);simp;cases s2:aQ l j0 [105,102] with
 |true=>
  have Q1:=Q0.ifp s2;refine aY (ds:=[.str [105,102]]) (d:= .d (.bool true)) aC (aN l j0 [105,102] p0.2 (by omega) s2) (by simp) (by simp) ?_
  have p1:j0+1≤j0+1∧j0+1<l.length:=⟨d3X _,aF hV.fin p0.2 s2⟩;obtain ⟨j1,hj1⟩:∃j,j0+1=j:=⟨_,rfl⟩;rw [hj1] at Q1 p1 ⊢;simp;refine SW.a2n rfl ?_
  refine SW.xk ?_
  simp;refine bY bR ((hex j1 (by omega) p1.2)) (by simp) (by simp) (fun a j2 x2=>?_) (fun n e hx=>by first|exact Q1.fail hx _|(simp;exact Q1.fail hx _)|(simp;exact fun s=>Q1.fail hx s));have Q2:=Q1.step x2;have p2:=aex 0 j1 a j2 p1.2 x2;simp;refine bY (ds:=[.sl (strs [[116,104,101,110]])]) aD (aE l [[116,104,101,110]] j2 p2.2 (by omega) hV.fin (by simp)) (by simp [strs]) (by simp) (fun u3 j3 x3=>?_) (fun n e hx=>by first|exact Q2.fail hx _|(simp;exact Q2.fail hx _)|(simp;exact fun s=>Q2.fail hx s));have Q3:=Q2.step x3;have p3:=aA.exp hV.fin _ _ j2 u3 j3 p2.2 x3;simp;refine bY bR ((hex j3 (by omega) p3.2)) (by simp) (by simp) (fun b j4 x4=>?_) (fun n e hx=>by first|exact Q3.fail hx _|(simp;exact Q3.fail hx _)|(simp;exact fun s=>Q3.fail hx s));have Q4:=Q3.step x4;have p4:=aex 0 j3 b j4 p3.2 x4;simp;refine bY (ds:=[.sl (strs [[101,108,115,101]])]) aD (aE l [[101,108,115,101]] j4 p4.2 (by omega) hV.fin (by simp)) (by simp [strs]) (by simp) (fun u5 j5 x5=>?_) (fun n e hx=>by first|exact Q4.fail hx _|(simp;exact Q4.fail hx _)|(simp;exact fun s=>Q4.fail hx s));have Q5:=Q4.step x5;have p5:=aA.exp hV.fin _ _ j4 u5 j5 p4.2 x5;simp;refine jP 3 [2] (.op 0 (.op 1 (.call [4,5,6] .none) (.call [1,4,5,6] .none)) (.op 1 (.op 0 (.call [4,5,6] .none) (.call [0,4,5,6] .none)) (.call [0,1,4,5,6] .none))) (eK (ex 0 j5)) (by kernel_rfl) (by kernel_rfl) ?_
  simp
  repeat' apply And.intro
  all_goals
   refine rE bR ((hex j5 (by omega) p5.2)) (by simp) (by simp) (fun c j6 x6=>?_) (fun n e hx=>by first|exact Q5.fail hx _|(simp;exact Q5.fail hx _)|(simp;exact fun s=>Q5.fail hx s));have Q6:=Q5.step x6;have p6:=aex 0 j5 c j6 p5.2 x6;refine cO.mk ?_
   simp;refine aG.mk bV (b9c 8 a b c) ?_
   simp;exact Q6.ok _ j6 _ _ rfl (.inr rfl) (by simp)
 |false=>
 have Q0:=Q0.vX (by rw [s2];decide);refine aY (ds:=[.str [105,102]]) (d:= .d (.bool false)) aC (aO l j0 [105,102] p0.2 (by omega) s2) (by simp) (by simp) ?_
 simp;refine SW.a5F rfl ?_
 refine SW.mS (SW.xk ?_);simp;cases s3:aQ l j0 [99,97,115,101] with
 |true=>
  have Q1:=Q0.ifp s3;refine aY (ds:=[.str [99,97,115,101]]) (d:= .d (.bool true)) aC (aN l j0 [99,97,115,101] p0.2 (by omega) s3) (by simp) (by simp) ?_
  have p1:j0+1≤j0+1∧j0+1<l.length:=⟨d3X _,aF hV.fin p0.2 s3⟩;obtain ⟨j1,hj1⟩:∃j,j0+1=j:=⟨_,rfl⟩;rw [hj1] at Q1 p1 ⊢;simp;refine SW.a2n rfl ?_
  refine SW.xk ?_
  simp;refine bY b2j (b4B hV hex aex j1 (by omega) p1.2) (by simp) (by simp) (fun t j h=>?_) (fun n e h=>by first|exact Q1.bad n e _ h|(simp;exact Q1.bad n e _ h)|(simp;exact fun s=>Q1.bad n e s h));simp;exact Q1.ok t j _ _ h (.inr rfl) (by simp)
 |false=>
 have Q0:=Q0.vX (by rw [s3];decide);refine aY (ds:=[.str [99,97,115,101]]) (d:= .d (.bool false)) aC (aO l j0 [99,97,115,101] p0.2 (by omega) s3) (by simp) (by simp) ?_
 simp;refine SW.a5F rfl ?_
 refine SW.mS (SW.xk ?_);simp;cases s4:aQ l j0 [102,117,110] with
 |true=>
  have Q1:=Q0.ifp s4;refine aY (ds:=[.str [102,117,110]]) (d:= .d (.bool true)) aC (aN l j0 [102,117,110] p0.2 (by omega) s4) (by simp) (by simp) ?_
  have p1:j0+1≤j0+1∧j0+1<l.length:=⟨d3X _,aF hV.fin p0.2 s4⟩;obtain ⟨j1,hj1⟩:∃j,j0+1=j:=⟨_,rfl⟩;rw [hj1] at Q1 p1 ⊢;simp;refine SW.a2n rfl ?_
  refine SW.xk ?_
  simp;refine bY a9v (b2l hV hex aex j1 (by omega) p1.2) (by simp) (by simp) (fun t j h=>?_) (fun n e h=>by first|exact Q1.bad n e _ h|(simp;exact Q1.bad n e _ h)|(simp;exact fun s=>Q1.bad n e s h));simp;exact Q1.ok t j _ _ h (.inr rfl) (by simp)
 |false=>
 have Q0:=Q0.vX (by rw [s4];decide);refine aY (ds:=[.str [102,117,110]]) (d:= .d (.bool false)) aC (aO l j0 [102,117,110] p0.2 (by omega) s4) (by simp) (by simp) ?_
 simp;refine SW.a5F rfl ?_
 refine SW.mS (SW.xk ?_);simp;cases s5:aQ l j0 [117,115,101] with
 |true=>
  have Q1:=Q0.ifp s5;refine aY (ds:=[.str [117,115,101]]) (d:= .d (.bool true)) aC (aN l j0 [117,115,101] p0.2 (by omega) s5) (by simp) (by simp) ?_
  have p1:j0+1≤j0+1∧j0+1<l.length:=⟨d3X _,aF hV.fin p0.2 s5⟩;obtain ⟨j1,hj1⟩:∃j,j0+1=j:=⟨_,rfl⟩;rw [hj1] at Q1 p1 ⊢;simp;refine SW.a2n rfl ?_
  refine SW.mS (SW.lw ?_);refine LW.at 1 1 (eK (cA bD l j1)) rfl ⟨_,rfl⟩ ?_
  simp;refine rE (ds:=[]) cH (cR hV.kw l j1 p1.2 (by omega)) (by simp) (by simp) (fun nm j2 x2=>?_) (fun n e hx=>Q1.fail hx _);have Q2:=Q1.step x2;have p2:=aA.word hV.fin j1 nm j2 p1.2 x2;simp;refine LW.at 1 3 (eK (mF l ex j2)) rfl ⟨_,rfl⟩ ?_
  simp;refine d2M wV (a8d hV hex aex j2 (by omega) p2.2) (by simp) (by simp) (fun ks j3 x3=>?_) (fun n e hx=>Q2.fail hx _);have Q3:=Q2.step x3;have p3:=aA.mL hV.fin aex j2 ks j3 p2.2 x3;have hks:=b9q hV aex j2 ks j3 p2.2 x3;simp [aU,aM,aW,rk,cE,cL,bH,eM,dZ,dC];refine LW.d0u (s:=46) (j:=3) (by decide) (by decide+kernel) ?_
  refine ⟨_,_,_,_,_,by simp,rfl,rfl,rfl,rfl,rfl,⟨_,rfl⟩,?_,rfl,?_⟩
  ·intro o ho base R μ a w hr;obtain ⟨ao,n1,c1,hs1⟩:=c2b (hr.gF (x:= .tmp 46) rfl);have hs2:=(hr.gF (x:= .tmp 44) rfl).jT;exact ⟨_,b9p ho hs2 hs1,by rw [hs1];rfl,by kernel_rfl⟩
  refine SW.xk ?_
  simp [addAlias];refine bY (ds:=[.sl (strs [[105,110]])]) aD (aE l [[105,110]] j3 p3.2 (by omega) hV.fin (by simp)) (by simp [strs]) (by simp) (fun u4 j4 x4=>?_) (fun n e hx=>by first|exact Q3.fail hx _|(simp;exact Q3.fail hx _)|(simp;exact fun s=>Q3.fail hx s));have Q4:=Q3.step x4;have p4:=aA.exp hV.fin _ _ j3 u4 j4 p3.2 x4;simp;refine jA [0,2] 3 [] (.op 1 (.call [4,5,6,7] .none) (.call [1,4,5,6,7] .none)) (eK (ex 0 j4)) (by kernel_rfl) (by kernel_rfl) ?_
  simp;refine ⟨?_,?_⟩
  all_goals
   refine rE bR ((hex j4 (by omega) p4.2)) (by simp) (by simp) (fun b j5 x5=>?_) (fun n e hx=>by first|exact Q4.fail hx _|(simp;exact Q4.fail hx _)|(simp;exact fun s=>Q4.fail hx s));have Q5:=Q4.step x5;have p5:=aex 0 j4 b j5 p4.2 x5;refine cO.mk ?_
   simp;refine dH ⟨fun x _=>by rw [dE];rfl,by omega⟩ ?_
   simp;exact Q5.ok _ j5 _ _ rfl (.inr rfl) (by simp [dE])
 |false=>
 have Q0:=Q0.vX (by rw [s5];decide);refine aY (ds:=[.str [117,115,101]]) (d:= .d (.bool false)) aC (aO l j0 [117,115,101] p0.2 (by omega) s5) (by simp) (by simp) ?_
 simp;refine SW.a5F rfl ?_
 refine SW.xk ?_
 simp;refine SW.xk ?_
 simp;refine bY b9n (c2a hV hN hex h3 h7 aex j0 (by omega) p0.2) (by simp) (by simp) (fun t j h=>?_) (fun n e h=>by first|exact Q0.bad n e _ h|(simp;exact Q0.bad n e _ h)|(simp;exact fun s=>Q0.bad n e s h));simp;exact Q0.ok t j _ _ h (.inr rfl) (by simp)
end
theorem b0H:∀n,(∀i,i<l.length→l.length<n+i→mX G 34 [] l i (vF bD bW rdP l n 0 i) pK)∧(∀i,i<l.length→l.length<n+i→mX G 168 [] l i (vF bD bW rdP l n 3 i) pK)∧(∀i,i<l.length→l.length<n+i→mX G 247 [] l i (vF bD bW rdP l n 7 i) pK)
 |0=>⟨fun i hi h=>by omega,fun i hi h=>by omega,fun i hi h=>by omega⟩
 |n+1=>by
  obtain ⟨k0,k3,k7⟩:=b0H n;have aex:=aA.exF (kw:=bD) (andP:=bW) hV.fin hV.tM.pred n;refine ⟨fun i hi h=>?_,fun i hi h=>?_,fun i hi h=>?_⟩
  ·exact b6y hV hN (ex:=vF bD bW rdP l n) (low:=i+1) (fun i' h1 h2=>k0 i' h2 (by omega)) (fun i' h1 h2=>k3 i' h2 (by omega)) (fun i' h1 h2=>k7 i' h2 (by omega)) aex i (d3X _) hi
  ·exact b0G hV hN (ex:=vF bD bW rdP l n) (low:=i+1) (fun i' h1 h2=>k0 i' h2 (by omega)) (fun i' h1 h2=>k3 i' h2 (by omega)) (fun i' h1 h2=>k7 i' h2 (by omega)) aex i (d3X _) hi
  ·exact a5R hV hN (ex:=vF bD bW rdP l n) (low:=i+1) (fun i' h1 h2=>k0 i' h2 (by omega)) (fun i' h1 h2=>k7 i' h2 (by omega)) aex i (d3X _) hi
theorem wX (i:Nat)(hi:i<l.length):mX G 34 [] l i (a2S bD bW rdP l i) pK:=(b0H hV hN _).1 i hi (by omega)
omit hN in
theorem a3e:aA l 1 (a2S bD bW rdP l):=aA.expr hV.fin hV.tM.pred
end
end
section
open Go Go.VM
variable {G:GT}
theorem a1k:VM.Enters Tryz.prog 107:=VM.Enters.mk Tryz.func107 rfl
theorem zI:VM.Enters Tryz.prog 58:=VM.Enters.mk Tryz.func58 rfl
abbrev a6f (d:jJ):List D:= .str d.name:: .sl (strs d.params)::(vO d.body++ .int .i64 d.mode:: .bool d.typed::b2i d.sig)
theorem a4j (d:jJ):b1z d=a6f d:=by
 rw [b1z,dE,c6p]
 rfl
abbrev a6g:jJ:=⟨[],[],a0c,0,false,a5V⟩
abbrev d2N:Option jJ→DV:=fun o=> .cF [.agg (a6f (o.getD a6g)),.bool o.isSome]
section
variable {rdP:List Tok→Nat→Nat→kJ Pr} {l:List Tok} (hV:jX G rdP l) (hN:∀i, -9223372036854775807≤(aZ l i).n∧(aZ l i).n≤9223372036854775807)
include hV
theorem a3f (mode:Int)(i:Nat)(hi:i<l.length):mX G 107 [.int .i64 mode] l i (yX bD l mode i) (fun d=> .d (.agg (a6f d))):=by
 have hl:=hV.len;obtain ⟨j0,rfl⟩:∃j0,j0=i:=⟨_,rfl⟩;have p0:j0≤j0∧j0<l.length:=⟨d3X _,hi⟩;refine jG.cK Tryz.func107 rfl Tryz.ntmps107 rfl (by simp) ?_
 intro Q Q0;unfold yX at Q0;simp;refine bY cH (cR hV.kw l j0 p0.2 (by omega)) (by simp) (by simp) (fun nm j1 x1=>?_) (fun n e hx=>by first|exact Q0.fail hx _|(simp;exact Q0.fail hx _)|(simp;exact fun s=>Q0.fail hx s));have Q1:=Q0.step x1;have p1:=aA.word hV.fin j0 nm j1 p0.2 x1;simp;have hb:=eY (G:=G) l j1 [40] p1.2 (by omega);refine aY (ds:=[.str [40]]) dV hb (by simp) (by simp) ?_
 cases hs:aQ l j1 [40] with
 |false=>have Q2:=Q1.step (a:=[]) (j:=j1) (by simp [hs]);simp;exact Q2.ok _ j1 _ _ rfl (.inr rfl) (by simp [a0c,a5V,rR,kC])
 |true=>
  simp;have ht1:=cB (G:=G) l j1 (j1+1) 1 (by omega) (by omega) (by intro e;subst e;simp at hi) (by omega);refine aY (ds:=[.int .i64 1]) bJ ht1 (by simp) (by simp) ?_
  simp;refine kU.mk gT (jN (aZ l (j1+1)) [41]) ?_
  cases hf:jL (aZ l (j1+1)) [41] with
  |true=>
   have Q2:=Q1.step (a:=[]) (j:=j1+2) (by simp [hs,hf]);have hw2:IntKind.i64.wrap ((j1:Int)+2)=((j1+2:Nat):Int):=by rw [wrap64 (by omega)];omega
   simp [hw2];exact Q2.ok _ (j1+2) _ _ rfl (.inr rfl) (by simp [a0c,a5V,rR,kC])
  |false=>
   have e1:(fun i=>if aQ l i [40] then (if jL (aZ l (i+1)) [41] then .ok [] (i+2) else gD bD l i) else .ok [] i:bE (List Nm)) j1=gD bD l j1:=by simp [hs,hf]
   simp;refine bY zG (a0Y hV j1 p1.2) (by simp) (by simp) (fun ns j3 x3=>?_) (fun n e hx=>by first|exact Q1.fail (e1.trans hx) _|(simp;exact Q1.fail (e1.trans hx) _)|(simp;exact fun s=>Q1.fail (e1.trans hx) s));have Q3:=Q1.step (e1.trans x3);have p3:=aA.words hV.fin j1 ns j3 p1.2 x3;simp;exact Q3.ok _ j3 _ _ rfl (.inr rfl) (by simp [a0c,a5V,rR,kC])
theorem a4R:aA l 1 (zX bD bW rdP l):=aA.sig hV.fin hV.tM
include hN
theorem a1O (i:Nat)(hi:i<l.length):mX G 58 [] l i (vG bD bW rdP l i) d2N:=by
 have hl:=hV.len;obtain ⟨j0,rfl⟩:∃j0,j0=i:=⟨_,rfl⟩;have p0:j0≤j0∧j0<l.length:=⟨d3X _,hi⟩;refine jG.cK Tryz.func58 rfl Tryz.ntmps58 rfl (by simp) ?_
 intro Q Q0;unfold vG at Q0;simp;cases s1:aQ l j0 [100,101,102] with
 |true=>
  have Q1:=Q0.ifp s1;refine aY (ds:=[.str [100,101,102]]) (d:= .d (.bool true)) aC (aN l j0 [100,101,102] p0.2 (by omega) s1) (by simp) (by simp) ?_
  have p1:j0+1≤j0+1∧j0+1<l.length:=⟨d3X _,aF hV.fin p0.2 s1⟩;obtain ⟨j1,hj1⟩:∃j,j0+1=j:=⟨_,rfl⟩;rw [hj1] at Q1 p1 ⊢;simp;refine bY a1k ((a3f hV 0 j1 p1.2)) (by simp) (by simp) (fun d j2 x2=>?_) (fun n e hx=>by first|exact Q1.fail hx _|(simp;exact Q1.fail hx _)|(simp;exact fun s=>Q1.fail hx s));have Q2:=Q1.step x2;have p2:=(aA.head hV.fin 0) j1 d j2 p1.2 x2;simp;cases s2:aQ l j2 [58] with
  |false=>
   have Q3:=Q2.step (gA s2);rw [if_neg (by decide)] at Q3;refine aY (ds:=[.str [58]]) (d:= .d (.bool false)) aC (aO l j2 [58] p2.2 (by omega) s2) (by simp) (by simp) ?_
   simp;have Q2:=Q3.step (eV _ _);unfold yY at Q2;refine bY (ds:=[.sl (strs [[61]])]) aD (aE l [[61]] j2 p2.2 (by omega) hV.fin (by simp)) (by simp [strs]) (by simp) (fun u8 j8 x8=>?_) (fun n e hx=>by first|exact Q2.fail hx _|(simp;exact Q2.fail hx _)|(simp;exact fun s=>Q2.fail hx s));have Q8:=Q2.step x8;have p8:=aA.exp hV.fin _ _ j2 u8 j8 p2.2 x8;simp;refine bY bR ((wX hV hN j8 p8.2)) (by simp) (by simp) (fun e j9 x9=>?_) (fun n e hx=>by first|exact Q8.fail hx _|(simp;exact Q8.fail hx _)|(simp;exact fun s=>Q8.fail hx s));have Q9:=Q8.step x9;have p9:=a3e hV j8 e j9 p8.2 x9;simp;exact Q9.ok _ j9 _ _ rfl (.inr rfl) (by simp)
  |true=>
   have Q3:=Q2.step (eZ s2);rw [if_pos rfl] at Q3;refine aY (ds:=[.str [58]]) (d:= .d (.bool true)) aC (aN l j2 [58] p2.2 (by omega) s2) (by simp) (by simp) ?_
   have p3:j2+1≤j2+1∧j2+1<l.length:=⟨d3X _,aF hV.fin p2.2 s2⟩;obtain ⟨j3,hj3⟩:∃j,j2+1=j:=⟨_,rfl⟩;rw [hj3] at Q3 p3 ⊢;simp;have Q3:=Q3.assoc;refine bY a3c ((a4Q hV j3 p3.2)) (by simp) (by simp) (fun s j4 x4=>?_) (fun n e hx=>by first|exact Q3.fail hx _|(simp;exact Q3.fail hx _)|(simp;exact fun s=>Q3.fail hx s));have Q4:=Q3.step x4;have p4:=a4R hV j3 s j4 p3.2 x4;simp;have Q4:=Q4.step (eV _ _);unfold yY at Q4;refine bY (ds:=[.sl (strs [[61]])]) aD (aE l [[61]] j4 p4.2 (by omega) hV.fin (by simp)) (by simp [strs]) (by simp) (fun u8 j8 x8=>?_) (fun n e hx=>by first|exact Q4.fail hx _|(simp;exact Q4.fail hx _)|(simp;exact fun s=>Q4.fail hx s));have Q8:=Q4.step x8;have p8:=aA.exp hV.fin _ _ j4 u8 j8 p4.2 x8;simp;refine bY bR ((wX hV hN j8 p8.2)) (by simp) (by simp) (fun e j9 x9=>?_) (fun n e hx=>by first|exact Q8.fail hx _|(simp;exact Q8.fail hx _)|(simp;exact fun s=>Q8.fail hx s));have Q9:=Q8.step x9;have p9:=a3e hV j8 e j9 p8.2 x9;simp;exact Q9.ok _ j9 _ _ rfl (.inr rfl) (by simp)
 |false=>
 have Q0:=Q0.vX (by rw [s1];decide);refine aY (ds:=[.str [100,101,102]]) (d:= .d (.bool false)) aC (aO l j0 [100,101,102] p0.2 (by omega) s1) (by simp) (by simp) ?_
 simp;cases s2:aQ l j0 [97,115,115,117,109,101] with
 |true=>
  have Q1:=Q0.ifp s2;refine aY (ds:=[.str [97,115,115,117,109,101]]) (d:= .d (.bool true)) aC (aN l j0 [97,115,115,117,109,101] p0.2 (by omega) s2) (by simp) (by simp) ?_
  have p1:j0+1≤j0+1∧j0+1<l.length:=⟨d3X _,aF hV.fin p0.2 s2⟩;obtain ⟨j1,hj1⟩:∃j,j0+1=j:=⟨_,rfl⟩;rw [hj1] at Q1 p1 ⊢;simp;refine bY a1k ((a3f hV 1 j1 p1.2)) (by simp) (by simp) (fun d j2 x2=>?_) (fun n e hx=>by first|exact Q1.fail hx _|(simp;exact Q1.fail hx _)|(simp;exact fun s=>Q1.fail hx s));have Q2:=Q1.step x2;have p2:=(aA.head hV.fin 1) j1 d j2 p1.2 x2;simp;refine bY (ds:=[.sl (strs [[58]])]) aD (aE l [[58]] j2 p2.2 (by omega) hV.fin (by simp)) (by simp [strs]) (by simp) (fun u3 j3 x3=>?_) (fun n e hx=>by first|exact Q2.fail hx _|(simp;exact Q2.fail hx _)|(simp;exact fun s=>Q2.fail hx s));have Q3:=Q2.step x3;have p3:=aA.exp hV.fin _ _ j2 u3 j3 p2.2 x3;simp;refine bY a3c ((a4Q hV j3 p3.2)) (by simp) (by simp) (fun s j4 x4=>?_) (fun n e hx=>by first|exact Q3.fail hx _|(simp;exact Q3.fail hx _)|(simp;exact fun s=>Q3.fail hx s));have Q4:=Q3.step x4;have p4:=a4R hV j3 s j4 p3.2 x4;simp;exact Q4.ok _ j4 _ _ rfl (.inr rfl) (by simp)
 |false=>
 have Q0:=Q0.vX (by rw [s2];decide);refine aY (ds:=[.str [97,115,115,117,109,101]]) (d:= .d (.bool false)) aC (aO l j0 [97,115,115,117,109,101] p0.2 (by omega) s2) (by simp) (by simp) ?_
 simp;cases s3:aQ l j0 [114,101,102,108,101,99,116] with
 |true=>
  have Q1:=Q0.ifp s3;refine aY (ds:=[.str [114,101,102,108,101,99,116]]) (d:= .d (.bool true)) aC (aN l j0 [114,101,102,108,101,99,116] p0.2 (by omega) s3) (by simp) (by simp) ?_
  have p1:j0+1≤j0+1∧j0+1<l.length:=⟨d3X _,aF hV.fin p0.2 s3⟩;obtain ⟨j1,hj1⟩:∃j,j0+1=j:=⟨_,rfl⟩;rw [hj1] at Q1 p1 ⊢;simp;refine bY a1k ((a3f hV 2 j1 p1.2)) (by simp) (by simp) (fun d j2 x2=>?_) (fun n e hx=>by first|exact Q1.fail hx _|(simp;exact Q1.fail hx _)|(simp;exact fun s=>Q1.fail hx s));have Q2:=Q1.step x2;have p2:=(aA.head hV.fin 2) j1 d j2 p1.2 x2;simp;refine bY (ds:=[.sl (strs [[58]])]) aD (aE l [[58]] j2 p2.2 (by omega) hV.fin (by simp)) (by simp [strs]) (by simp) (fun u3 j3 x3=>?_) (fun n e hx=>by first|exact Q2.fail hx _|(simp;exact Q2.fail hx _)|(simp;exact fun s=>Q2.fail hx s));have Q3:=Q2.step x3;have p3:=aA.exp hV.fin _ _ j2 u3 j3 p2.2 x3;simp;refine bY a3c ((a4Q hV j3 p3.2)) (by simp) (by simp) (fun s j4 x4=>?_) (fun n e hx=>by first|exact Q3.fail hx _|(simp;exact Q3.fail hx _)|(simp;exact fun s=>Q3.fail hx s));have Q4:=Q3.step x4;have p4:=a4R hV j3 s j4 p3.2 x4;simp;unfold yY at Q4;refine bY (ds:=[.sl (strs [[61]])]) aD (aE l [[61]] j4 p4.2 (by omega) hV.fin (by simp)) (by simp [strs]) (by simp) (fun u8 j8 x8=>?_) (fun n e hx=>by first|exact Q4.fail hx _|(simp;exact Q4.fail hx _)|(simp;exact fun s=>Q4.fail hx s));have Q8:=Q4.step x8;have p8:=aA.exp hV.fin _ _ j4 u8 j8 p4.2 x8;simp;refine bY bR ((wX hV hN j8 p8.2)) (by simp) (by simp) (fun e j9 x9=>?_) (fun n e hx=>by first|exact Q8.fail hx _|(simp;exact Q8.fail hx _)|(simp;exact fun s=>Q8.fail hx s));have Q9:=Q8.step x9;have p9:=a3e hV j8 e j9 p8.2 x9;simp;exact Q9.ok _ j9 _ _ rfl (.inr rfl) (by simp)
 |false=>
 have Q0:=Q0.vX (by rw [s3];decide);refine aY (ds:=[.str [114,101,102,108,101,99,116]]) (d:= .d (.bool false)) aC (aO l j0 [114,101,102,108,101,99,116] p0.2 (by omega) s3) (by simp) (by simp) ?_
 simp;exact Q0.ok _ j0 _ _ rfl (.inr rfl) (by simp [a0c,a5V,rR,kC])
end
end
end Go.Proofs.YtjpodcmhcenjjaaGreatDoor
section
namespace Go.VM
open Go Go.RowKit
section
variable {P:Program} {G:GT} {st:St} {base:cM} {R:Nat→Nat→Prop} {μ:Nat→Nat} {a:Act} {w:World}
def a4k (P:Program)(G:GT)(f:FuncId)(d3F:List DV)(ls:List (Option Loc))(dst:Option Tmp)(st:St)(K:St→Prop)(Q:Exit→St→Prop):Prop:=∃x0,rI P G f d3F ls dst st K Q x0
theorem a4k.mk {f:FuncId}{d3F:List DV}{ls:List (Option Loc)}{dst:Option Tmp}{K:St→Prop}{Q:Exit→St→Prop}{x0:Bool}(h:rI P G f d3F ls dst st K Q x0):a4k P G f d3F ls dst st K Q:=⟨x0,h⟩
def a8t (P:Program)(G:GT)(all:Array Oper)(o:Oper)(st:St)(K:St→Prop)(Q:Exit→St→Prop):Prop:=
 match dT o all st.tmps with
 |some true=>
  match jH G o st with
  |some (f,ds)=>(∃r own,(Enters P f∧CS P G f ds r own)∧K (finish st o.dst r (a0s own)))∨∃s',(Enters P f∧jQ P G f (ds.map .d) (gE o) st o.dst s')∧K s'
  |none=>
   match dI G o st with
   |some (f,d3F)=>a4k P G f d3F (gE o) o.dst st K Q
   |none=>
    match gY P G o st with
    |some out=>K (finish out.st o.dst out.v (a3v false all o out.v out.act))
    |none=>False
 |some false=>K (finish st o.dst (.cF []) .no)
 |none=>False
theorem b4E {all:Array Oper}{o:Oper}{K:St→Prop}{Q:Exit→St→Prop}(h:a8t P G all o st K Q)(hr:Rel P G base R μ st a w){KK:Act→World→Prop}{QQ:Exit→Act→World→Prop}(hk:∀s v w' R' μ',K s→Rel P G base R' μ' s (a.put o.dst v) w'→Step base R w R' w'→KK (a.put o.dst v) w')(hq:∀c s w' R' μ',Q (.panic c) s→Rel P G base R' μ' s a w'→Step base R w R' w'→QQ (.panic c) a w'):if Region.wanted o (yielded all a.tmps) then o.wp P a w KK QQ∨(o.asks P a w∧LetsOut QQ) else KK (a.put o.dst Go.undef) w:=by
 have go:jZ P G false all o K st→if Region.wanted o (yielded all a.tmps) then o.wp P a w KK QQ∨(o.asks P a w∧LetsOut QQ) else KK (a.put o.dst Go.undef) w:=fun h1=>pM h1 hr hk
 unfold a8t at h;split at h
 ·rename_i hw;split at h
  ·rename_i f ds hc;refine go ?_
   unfold jZ;rw [hw,hc];rcases h with ⟨r,own,h1,h2⟩|⟨s',h1,h2⟩
   ·exact .inl ⟨r,own,h1,fun e=>Bool.noConfusion e,by simpa using h2⟩
   ·exact .inr ⟨by simp [mW],s',h1,h2⟩
  ·rename_i hc;split at h
   ·rename_i f d3F hH;obtain ⟨x0,h0⟩:=h;unfold rI at h0;obtain ⟨he,h1,h2⟩:=h0;cases x0 with
    |true=>
     obtain ⟨s',h3,h4⟩:=h1 rfl;refine go ?_
     unfold jZ;rw [hw,hc,hH];simp only [mW,Bool.false_and,wD,Bool.false_eq_true,if_false];exact ⟨s',⟨he,h3⟩,h4⟩
    |false=>obtain ⟨v,h3,h4⟩:=h2 rfl;rw [xP hr hw,if_pos rfl];exact .inl (a2V hH ⟨he,h3⟩ hr fun R' w' hs hb=>hq _ _ w' R' μ h4 (hr.a3T hs hb) hs)
   ·rename_i hH;split at h
    ·rename_i out hv;refine go ?_
     unfold jZ;rw [hw,hc,hH,hv];exact h
    ·exact h.elim
 ·rename_i hw;refine go ?_
  unfold jZ;rw [hw];exact h
 ·exact h.elim
inductive OT where
 |stop
 |none
 |op (i:Nat) (next more:OT)
def b4F (j:Nat):OT→Bool
 | .op i _ more=>i==j||b4F j more
 |_=>false
def okT (ops:Array Oper)(T:OT)(listed:Array Bool):Bool:=match T with
 | .stop=>Region.ready .any ops listed==[]
 |T=> !(Region.ready .any ops listed).isEmpty&&(Region.ready .any ops listed).all fun j=>b4F j T
def a5S (ops:Array Oper):OT→Nat→Array Bool→Bool
 | .stop,_,_=>true
 | .none,_,_=>true
 | .op _ _ _,0,_=>false
 | .op i next more,n+1,listed=>okT ops next (listed.setIfInBounds i true)&&a5S ops next n (listed.setIfInBounds i true)&&a5S ops more (n+1) listed
def VT (P:Program)(G:GT)(ops:Array Oper)(Q:Exit→St→Prop):OT→St→Prop
 | .stop,st=>Q .normal st
 | .none,_=>True
 | .op i next more,st=>(match ops[i]? with
  |some o=>a8t P G ops o st (VT P G ops Q next) Q
  |none=>False)∧VT P G ops Q more st
theorem c2c {ops:Array Oper}{Q:Exit→St→Prop}{i n:Nat}{listed:Array Bool}:∀(T:OT),a5S ops T (n+1) listed=true→b4F i T=true→VT P G ops Q T st→∃next,okT ops next (listed.setIfInBounds i true)=true∧a5S ops next n (listed.setIfInBounds i true)=true∧∃o,ops[i]? =some o∧a8t P G ops o st (VT P G ops Q next) Q
 | .stop,_,h,_=>by simp [b4F] at h
 | .none,_,h,_=>by simp [b4F] at h
 | .op j next more,ht,ha,hv=>by
  simp only [a5S,d3H] at ht;simp only [b4F,d3T,beq_iff_eq] at ha;simp only [VT] at hv;rcases ha with rfl|ha
  ·refine ⟨next,ht.1.1,ht.1.2,?_⟩;have:=hv.1;split at this
   ·rename_i o ho;exact ⟨o,ho,this⟩
   ·exact this.elim
  ·exact c2c more ht.2 ha hv.2
theorem c8j {ops:Array Oper}{Q:Exit→St→Prop}:∀(n:Nat) (T:OT) (listed:Array Bool) (st:St),okT ops T listed=true→a5S ops T n listed=true→VT P G ops Q T st→∀(base:cM) (R:Nat→Nat→Prop) (μ:Nat→Nat) (a:Act) (w:World),Rel P G base R μ st a w→
  ∀QQ:Exit→Act→World→Prop,(∀e s a' w' R' μ',Q e s→Rel P G base R' μ' s a' w'→Step base R w R' w'→QQ e a' w')→wpAny P .any ops QQ n listed a w
 |0,T,listed,st,ho,ht,hv,base,R,μ,a,w,hr,QQ,hk=>by
  cases T with
  |stop=>exact ⟨by simpa [okT] using ho,hk _ st a w R μ hv hr (.refl _ _ _)⟩
  |none=>simp only [okT,d3H,Bool.not_eq_true',List.isEmpty_eq_false_iff,d3K] at ho;obtain ⟨h1,h2⟩:=ho;obtain ⟨x,hx⟩:=List.exists_mem_of_ne_nil _ h1;have:=h2 x hx;simp [b4F] at this
  |op i next more=>simp [a5S] at ht
 |n+1,T,listed,st,ho,ht,hv,base,R,μ,a,w,hr,QQ,hk=>by
  cases T with
  |stop=>
   have hrd:Region.ready .any ops listed=[]:=by simpa [okT] using ho
   refine ⟨fun _=>hk _ st a w R μ hv hr (.refl _ _ _),fun i hi=>?_⟩;rw [hrd] at hi;cases hi
  |none=>simp only [okT,d3H,Bool.not_eq_true',List.isEmpty_eq_false_iff,d3K] at ho;obtain ⟨h1,h2⟩:=ho;obtain ⟨x,hx⟩:=List.exists_mem_of_ne_nil _ h1;have:=h2 x hx;simp [b4F] at this
  |op i0 next0 more0=>simp only [okT,d3H,Bool.not_eq_true',List.isEmpty_eq_false_iff,d3K] at ho;refine ⟨fun h=>(ho.1 h).elim,fun i hi=>?_⟩;obtain ⟨next,q1,q2,o,q3,q4⟩:=c2c _ ht (ho.2 i hi) hv;unfold wpOp;rw [q3];exact b4E q4 hr (fun s v w' R' μ' p1 p2 p3=>c8j n next _ s q1 q2 p1 base R' μ' _ w' p2 QQ fun e s a' w2 R2 μ2 k1 k2 k3=>hk e s a' w2 R2 μ2 k1 k2 (p3.trans k3)) fun c s w' R' μ' p1 p2 p3=>hk _ s a w' R' μ' p1 p2 p3
theorem b0I {id:Nat}{ops:Array Oper}{Q:Exit→St→Prop}(T:OT)(hm:P.follows .mixedOrders=true)(hB:(okT ops T (Array.replicate ops.size false)&&a5S ops T ops.size (Array.replicate ops.size false))=true)(h:VT P G ops Q T st):SW P G (.region id ops true) st Q:=by rw [d3H] at hB;intro base R μ a w hr;obtain ⟨hr',hs'⟩:=hr.drew;exact wp_region_any hm (c8j ops.size T _ st hB.1 hB.2 h base R μ a w.drew hr' _ fun e s a' w' R' μ' q1 q2 q3=>⟨s,R',μ',q1,q2,hs'.trans q3⟩)
attribute [simp] VT a8t
end
attribute [irreducible] a4k
end Go.VM
end
namespace Go.Proofs.YtjpodcmhcenjjaaGreatDoor
section
open Go Go.VM
variable {G:GT}
theorem b2n:VM.Enters Tryz.prog 80:=VM.Enters.mk Tryz.func80 rfl
theorem a8u:VM.Enters Tryz.prog 135:=VM.Enters.mk Tryz.func135 rfl
theorem a6h:VM.Enters Tryz.prog 81:=VM.Enters.mk Tryz.func81 rfl
abbrev c8k (x:a7n):List D:= .str x.cls::(tyD x.type++[.sl (x.vC.map jR),.sl (x.defs.map b1z)])
theorem c2d (x:a7n):b7m x=c8k x:=by
 rw [b7m,cJ]
 rfl
section
variable {rdP:List Tok→Nat→Nat→kJ Pr} {l:List Tok} (hV:jX G rdP l) (hN:∀i, -9223372036854775807≤(aZ l i).n∧(aZ l i).n≤9223372036854775807)
include hV
def clX (nm v:Nm)(out:List (Nm×Ty)):List (Nat×aR):=[(100001,.cells [.ptr 100000 0]),(100002,.cells [.d (.str nm),.d (.str v),.d (.sl (out.map a7w))])]
abbrev clO:List (TypeId×List VM.Loc):=[(148,[.c 100002 2])]
abbrev clM (rdP:List Tok→Nat→Nat→kJ Pr)(l:List Tok)(out:List (Nm×Ty)):bE (List (Nm×Ty)):=do
 let w ← cA bD l
 aV l [[58]]
 let t ← gW bD bW rdP l
 pure (out++[(w,t)])
theorem c6w (nm v:Nm):vL l K3 [.ptr 100001 0,.ptr 100002 0] (clX nm v) clO:=by
 constructor
 all_goals intros
 all_goals first
  |rfl
  |simp [clX,aJ,aP,aL,aK,aT,getKey,aM,aW,cE,rk,cL,bH, *]
theorem b7D (out:List (Nm×Ty)):aA l 1 (clM rdP l out):=(aA.word hV.fin).bl fun _=>((aA.exp hV.fin _ _).le (by omega)).bl fun _=>((eR hV).le (by omega)).bl fun _=>aA.bI _
theorem c2e (a:List (Nm×Ty))(i:Nat)(b:List (Nm×Ty))(j:Nat)(hi:i<l.length)(h:a.length≤i)(hx:clM rdP l a i= .ok b j):b.length≤j:=by have h1:=b7D hV a i b j hi hx;obtain ⟨_,_,_,hx⟩:=bT hx;obtain ⟨_,_,_,hx⟩:=bT hx;obtain ⟨_,_,_,hx⟩:=bT hx;cases hx;simp;omega
theorem b9r (nm v:Nm)(out:List (Nm×Ty))(i:Nat)(hi:i<l.length)(hout:out.length≤i):jG G 135 [.ptr 100001 0,.ptr 100002 0] (clX nm v out) clO l i (clM rdP l out i) (fun _=> .cF []) (clX nm v):=by
 have hl:=hV.len;obtain ⟨j0,rfl⟩:∃j0,j0=i:=⟨_,rfl⟩;have p0:j0≤j0∧j0<l.length:=⟨d3X _,hi⟩;refine jG.cK Tryz.func135 rfl Tryz.ntmps135 rfl (by simp) ?_
 intro Q Q0;simp [clX];refine bY cH (cR hV.kw l j0 p0.2 (by omega)) (by simp) (by simp) (fun w j1 x1=>?_) (fun n e hx=>by first|exact Q0.fail hx _|(simp;exact Q0.fail hx _)|(simp;exact fun s=>Q0.fail hx s));have Q1:=Q0.step x1;have p1:=aA.word hV.fin j0 w j1 p0.2 x1;simp;refine bY (ds:=[.sl (strs [[58]])]) aD (aE l [[58]] j1 p1.2 (by omega) hV.fin (by simp)) (by simp [strs]) (by simp) (fun u2 j2 x2=>?_) (fun n e hx=>by first|exact Q1.fail hx _|(simp;exact Q1.fail hx _)|(simp;exact fun s=>Q1.fail hx s));have Q2:=Q1.step x2;have p2:=aA.exp hV.fin _ _ j1 u2 j2 p1.2 x2;simp;refine jA [0,2] 4 [3] (.op 1 (.call [5,6,7,8,9] .none) (.call [1,5,6,7,8,9] .none)) (eK (gW bD bW rdP l j2)) (by kernel_rfl) (by kernel_rfl) ?_
 simp;refine ⟨?_,?_⟩
 all_goals
  refine rE cG ((jO hV j2 p2.2)) (by simp) (by simp) (fun t j3 x3=>?_) (fun n e hx=>by first|exact Q2.fail hx _|(simp;exact Q2.fail hx _)|(simp;exact fun s=>Q2.fail hx s));have Q3:=Q2.step x3;have p3:=eR hV j2 t j3 p2.2 x3;refine cO.mk ?_
  simp;refine dH ⟨rfl,d3K.2 fun c hc=>?_,?_⟩ ?_
  ·obtain ⟨y,_,rfl⟩:=List.mem_map.1 hc;rw [a1N]
   rfl
  ·have hb:Tryz.prog.bytesOf 148≤1000:=by decide
   rw [List.length_map]
   calc (out.length+1)*(Tryz.prog.bytesOf 148+1)≤50001*1001:=Nat.mul_le_mul (by omega) (by omega)
    _≤140737488355328:=by decide
  simp;exact Q3.ok _ j3 .normal _ rfl (.inl rfl) (by simp [clX,a1N])
def clT:OT:=(.op 0 (.op 1 (.op 2 (.op 3 (.op 4 (.op 5 (.op 6 .stop .none) .none) (.op 5 (.op 4 (.op 6 .stop .none) .none) .none)) (.op 5 (.op 3 (.op 4 (.op 6 .stop .none) .none) .none) .none)) (.op 5 (.op 2 (.op 3 (.op 4 (.op 6 .stop .none) .none) .none) .none) .none)) (.op 2 (.op 1 (.op 3 (.op 4 (.op 5 (.op 6 .stop .none) .none) (.op 5 (.op 4 (.op 6 .stop .none) .none) .none)) (.op 5 (.op 3 (.op 4 (.op 6 .stop .none) .none) .none) .none)) (.op 5 (.op 1 (.op 3 (.op 4 (.op 6 .stop .none) .none) .none) .none) .none)) (.op 5 (.op 1 (.op 2 (.op 3 (.op 4 (.op 6 .stop .none) .none) .none) .none) (.op 2 (.op 1 (.op 3 (.op 4 (.op 6 .stop .none) .none) .none) .none) .none)) .none))) (.op 2 (.op 0 (.op 1 (.op 3 (.op 4 (.op 5 (.op 6 .stop .none) .none) (.op 5 (.op 4 (.op 6 .stop .none) .none) .none)) (.op 5 (.op 3 (.op 4 (.op 6 .stop .none) .none) .none) .none)) (.op 5 (.op 1 (.op 3 (.op 4 (.op 6 .stop .none) .none) .none) .none) .none)) (.op 5 (.op 0 (.op 1 (.op 3 (.op 4 (.op 6 .stop .none) .none) .none) .none) .none) .none)) (.op 5 (.op 0 (.op 1 (.op 2 (.op 3 (.op 4 (.op 6 .stop .none) .none) .none) .none) (.op 2 (.op 1 (.op 3 (.op 4 (.op 6 .stop .none) .none) .none) .none) .none)) (.op 2 (.op 0 (.op 1 (.op 3 (.op 4 (.op 6 .stop .none) .none) .none) .none) .none) .none)) .none)))
abbrev d2c (l:List Tok):bE (Nm×Nm):=do
 let nm ← gM l
 let v ← cA bD l
 pure (nm,v)
theorem b4G (i:Nat)(hi:i<l.length):mX G 80 [] l i (tW bD bW rdP l i) (fun x=> .d (.agg (b3P x))):=by
 have hl:=hV.len;obtain ⟨j0,rfl⟩:∃j0,j0=i:=⟨_,rfl⟩;have p0:j0≤j0∧j0<l.length:=⟨d3X _,hi⟩;refine jG.a2g Tryz.func80 rfl Tryz.ntmps80 rfl (by simp) ?_
 intro Q Q0;unfold tW at Q0;refine SW.mS (SW.xk ?_);simp;refine SW.b4z (d2c l j0) (fun x j=>⟨.ptr 100000 0:: .ptr 1 0:: .ptr 2 0:: .ptr 3 0::List.replicate 12 .undef,[(1,.cells [.ptr 100000 0]),(2,.cells [.d (.str []),.d (.str []),.d .aI]),(3,.cells [.d (.str x.1),.d (.str x.2),.d .aI]),(100000,rdO l j)],[]⟩) ?_ fun x j2 hx=>?_
 ·refine b0I clT (by kernel_rfl) (by kernel_rfl) ?_
  simp [clT]
  repeat' apply And.intro
  all_goals
   refine a4k.mk (rE (ds:=[]) eO (gI l j0 p0.2 (by omega)) (by simp) (by simp) (fun nm j1 x1=>?_) (fun n e hx=>Q0.fail hx _));have Q1:=Q0.step x1;have p1:=aA.title hV.fin j0 nm j1 p0.2 x1;simp
   repeat' apply And.intro
   all_goals
    refine a4k.mk (rE (ds:=[]) cH (cR hV.kw l j1 p1.2 (by omega)) (by simp) (by simp) (fun v j2 x2=>?_) (fun n e hx=>Q1.fail hx _));have hr:d2c l j0= .ok (nm,v) j2:=(bQ x1).trans ((bQ x2).trans rfl);simp
    repeat' apply And.intro
    all_goals exact ⟨nm,v,j2,hr,by simp⟩
 obtain ⟨nm,v⟩:=x;obtain ⟨nm',j1,x1,hx⟩:=bT hx;obtain ⟨v',j2',x2,hx⟩:=bT hx;cases hx;have Q2:=(Q0.step x1).step x2;have p1:=aA.title hV.fin j0 nm j1 p0.2 x1;have p2:=aA.word (kw:=bD) hV.fin j1 v j2 p1.2 x2;refine SW.xk ?_
 simp [List.replicate];refine bY (ds:=[.sl (strs [[119,105,116,104]])]) aD (aE l [[119,105,116,104]] j2 p2.2 (by omega) hV.fin (by simp)) (by simp [strs]) (by simp) (fun u3 j3 x3=>?_) (fun n e hx=>by first|exact Q2.fail hx _|(simp;exact Q2.fail hx _)|(simp;exact fun s=>Q2.fail hx s));have Q3:=Q2.step x3;have p3:=aA.exp hV.fin _ _ j2 u3 j3 p2.2 x3;simp;have hone:=dR hV [44] (clM rdP l) (fun out i=>out.length≤i) 0 a8u (c6w hV nm v) (fun a=>(b7D hV a).le (by omega)) (fun a i qM hi h=>b9r hV nm v a i hi h) (c2e hV) (fun a i h=>by omega) [] j3 (by omega) p3.2 (by simp);refine eU.mk (tY cT hone [(100000,100000),(100001,1),(100002,3)] (fun a j hx=>?_) ?_ ?_ ?_ rfl rfl (fun ms j4 x4=>?_) (fun n e hx2=>Q3.fail hx2 _))
 ·simp [clX,aJ,aP,aL,aK,aT,getKey]
 ·simp [clX,aJ,aP,aL,aK,aT,getKey]
 ·simp [aM,aW,rk]
 ·simp [clX,aM,aW,rk,cE,cL]
 ·have Q4:=Q3.step x4;simp [aU,clX,aM,aW,rk,cE,cL,bH,eM,dZ,dC];exact Q4.ok _ j4 _ _ rfl (.inr rfl) (by simp [b3P])
include hN
abbrev a9A (rdP:List Tok→Nat→Nat→kJ Pr)(l:List Tok)(out:List jJ):bE (List jJ):=do
 let d ← vG bD bW rdP l
 aV l [[59]]
 pure (out++[d.getD a6g])
omit hN in
theorem a1P:aA l 0 (vG bD bW rdP l):=aA.b5S hV.fin hV.tM
theorem a8v (i:Nat)(hi:i<l.length):mX G 81 [] l i (a0L bD bW rdP l i) (fun x=> .d (.agg (c8k x))):=by
 have hl:=hV.len;obtain ⟨j0,rfl⟩:∃j0,j0=i:=⟨_,rfl⟩;have p0:j0≤j0∧j0<l.length:=⟨d3X _,hi⟩;refine jG.cK Tryz.func81 rfl Tryz.ntmps81 rfl (by simp) ?_
 intro Q Q0;unfold a0L at Q0;simp;refine bY eO (gI l j0 p0.2 (by omega)) (by simp) (by simp) (fun c j1 x1=>?_) (fun n e hx=>by first|exact Q0.fail hx _|(simp;exact Q0.fail hx _)|(simp;exact fun s=>Q0.fail hx s));have Q1:=Q0.step x1;have p1:=aA.title hV.fin j0 c j1 p0.2 x1;simp;refine bY a4g ((b2c hV j1 p1.2)) (by simp) (by simp) (fun t j2 x2=>?_) (fun n e hx=>by first|exact Q1.fail hx _|(simp;exact Q1.fail hx _)|(simp;exact fun s=>Q1.fail hx s));have Q2:=Q1.step x2;have p2:=(aA.zA hV.fin ((eR hV).le (by omega)) hV.tM.pred) j1 t j2 p1.2 x2;simp;cases hs:aQ l j2 [119,104,101,114,101] with
 |false=>
  have Q3:=Q2.step (gA hs);rw [if_neg (by decide)] at Q3;have Q2:=Q3.step (eV _ _);refine aY (ds:=[.str [119,104,101,114,101]]) (d:= .d (.bool false)) aC (aO l j2 [119,104,101,114,101] p2.2 (by omega) hs) (by simp) (by simp) ?_
  simp;refine bY (ds:=[.sl (strs [[123]])]) aD (aE l [[123]] j2 p2.2 (by omega) hV.fin (by simp)) (by simp [strs]) (by simp) (fun u5 j5 x5=>?_) (fun n e hx=>by first|exact Q2.fail hx _|(simp;exact Q2.fail hx _)|(simp;exact fun s=>Q2.fail hx s));have Q5:=Q2.step x5;have p5:=aA.exp hV.fin _ _ j2 u5 j5 p2.2 x5;simp;refine SW.wR (ι:={ x:List jJ×Nat×Nat // j5≤x.2.1∧x.2.1<l.length∧l.length<x.2.2+x.2.1∧x.1.length≤x.2.1∧eE (fun i=>aQ l i [100,101,102]) (a9A rdP l) x.2.2 x.1 x.2.1=pZ l (fun i=>aQ l i [100,101,102]) (a9A rdP l) [] j5 }) (fun _=>[]) (fun x=>[(2,.cells (.d (.str [])::((tyD rR).map .d++[.d .aI,.d .aI]))),(3,.cells (.d (.str c)::((tyD t).map .d++[.d (.sl (List.map jR [])),.d (.sl (x.1.1.map b1z))]))),(100000,rdO l x.1.2.1)]) (fun _=>[(70,[.c 3 11])]) (fun x=>l.length-x.1.2.1) ⟨([],j5,l.length+2),d3X _,p5.2,by simp only;omega,by simp,rfl⟩ (by simp [rR,kC]) ?_
  rintro ⟨⟨out,j6,g⟩,hb,hj6,hg,ho,hp⟩;simp only at hb hj6 hg ho hp;obtain ⟨g,rfl⟩:∃k,g=k+1:=⟨g-1,by omega⟩;have p6:j5≤j6∧j6<l.length:=⟨hb,hj6⟩;have hbb:=eY (G:=G) l j6 [100,101,102] p6.2 (by omega);simp;refine aY (i:=j6) (ds:=[.str [100,101,102]]) dV hbb (by simp) (by simp) ?_
  cases hc:aQ l j6 [100,101,102] with
  |true=>
   have E0:vP Q (eE (fun i=>aQ l i [100,101,102]) (a9A rdP l) (g+1) out j6) (eE (fun i=>aQ l i [100,101,102]) (a9A rdP l) (g+1) out j6):=⟨rfl,fun n e s h=>Q5.fail (hp.symm.trans h) s⟩;simp;refine bY (i:=j6) (ds:=[]) zI (a1O hV hN j6 hj6) (by simp) (by simp) (fun d j7 x7=>?_) (fun n e hx=>by simp;exact Q5.fail (hp.symm.trans (mO hV hc (eS hx))) _);have p7:=a1P hV j6 d j7 hj6 x7;simp;refine bY (ds:=[.sl (strs [[59]])]) aD (aE l [[59]] j7 p7.2 (by omega) hV.fin (by simp)) (by simp [strs]) (by simp) (fun u j8 x8=>?_) (fun n e hx=>by simp;exact Q5.fail (hp.symm.trans (mO hV hc ((bQ x7).trans (eS hx)))) _);have p8:=aA.exp hV.fin _ _ j7 u j8 p7.2 x8;have h1:a9A rdP l out j6= .ok (out++[d.getD a6g]) j8:=(bQ x7).trans ((bQ x8).trans rfl);rw [rZ hV hc h1] at hp;generalize d.getD a6g=D0 at hp ⊢;simp;refine pB (by first|omega|exact ⟨fun x _=>by rw [a4j];rfl,by omega⟩) ?_
   simp;exact bN.mk ⟨(out++[D0],j8,g),by simp only;omega,p8.2,by simp only;omega,by simp;omega,hp⟩ (by simp [a4j]) (by simp;omega)
  |false=>rw [sA hV hc] at hp;have Q6:=Q5.step hp.symm;simp;refine bY (ds:=[.sl (strs [[125]])]) aD (aE l [[125]] j6 p6.2 (by omega) hV.fin (by simp)) (by simp [strs]) (by simp) (fun u7 j7 x7=>?_) (fun n e hx=>by first|exact Q6.fail hx _|(simp;exact Q6.fail hx _)|(simp;exact fun s=>Q6.fail hx s));have Q7:=Q6.step x7;have p7:=aA.exp hV.fin _ _ j6 u7 j7 p6.2 x7;simp;exact Q7.ok _ j7 _ _ rfl (.inr rfl) (by simp)
 |true=>
  have Q3:=Q2.step (eZ hs);rw [if_pos rfl] at Q3;refine aY (ds:=[.str [119,104,101,114,101]]) (d:= .d (.bool true)) aC (aN l j2 [119,104,101,114,101] p2.2 (by omega) hs) (by simp) (by simp) ?_
  have p3:j2+1≤j2+1∧j2+1<l.length:=⟨d3X _,aF hV.fin p2.2 hs⟩;obtain ⟨j3,hj3⟩:∃j,j2+1=j:=⟨_,rfl⟩;rw [hj3] at Q3 p3 ⊢;simp;refine bY a4i ((a5P hV j3 p3.2)) (by simp) (by simp) (fun ns j4 x4=>?_) (fun n e hx=>by first|exact Q3.fail hx _|(simp;exact Q3.fail hx _)|(simp;exact fun s=>Q3.fail hx s));have Q4:=Q3.step x4;have p4:=(a1j hV) j3 ns j4 p3.2 x4;simp;refine bY (ds:=[.sl (strs [[123]])]) aD (aE l [[123]] j4 p4.2 (by omega) hV.fin (by simp)) (by simp [strs]) (by simp) (fun u5 j5 x5=>?_) (fun n e hx=>by first|exact Q4.fail hx _|(simp;exact Q4.fail hx _)|(simp;exact fun s=>Q4.fail hx s));have Q5:=Q4.step x5;have p5:=aA.exp hV.fin _ _ j4 u5 j5 p4.2 x5;simp;refine SW.wR (ι:={ x:List jJ×Nat×Nat // j5≤x.2.1∧x.2.1<l.length∧l.length<x.2.2+x.2.1∧x.1.length≤x.2.1∧eE (fun i=>aQ l i [100,101,102]) (a9A rdP l) x.2.2 x.1 x.2.1=pZ l (fun i=>aQ l i [100,101,102]) (a9A rdP l) [] j5 }) (fun _=>[]) (fun x=>[(2,.cells (.d (.str [])::((tyD rR).map .d++[.d .aI,.d .aI]))),(3,.cells (.d (.str c)::((tyD t).map .d++[.d (.sl (List.map jR ns)),.d (.sl (x.1.1.map b1z))]))),(100000,rdO l x.1.2.1)]) (fun _=>[(70,[.c 3 11])]) (fun x=>l.length-x.1.2.1) ⟨([],j5,l.length+2),d3X _,p5.2,by simp only;omega,by simp,rfl⟩ (by simp [rR,kC]) ?_
  rintro ⟨⟨out,j6,g⟩,hb,hj6,hg,ho,hp⟩;simp only at hb hj6 hg ho hp;obtain ⟨g,rfl⟩:∃k,g=k+1:=⟨g-1,by omega⟩;have p6:j5≤j6∧j6<l.length:=⟨hb,hj6⟩;have hbb:=eY (G:=G) l j6 [100,101,102] p6.2 (by omega);simp;refine aY (i:=j6) (ds:=[.str [100,101,102]]) dV hbb (by simp) (by simp) ?_
  cases hc:aQ l j6 [100,101,102] with
  |true=>
   have E0:vP Q (eE (fun i=>aQ l i [100,101,102]) (a9A rdP l) (g+1) out j6) (eE (fun i=>aQ l i [100,101,102]) (a9A rdP l) (g+1) out j6):=⟨rfl,fun n e s h=>Q5.fail (hp.symm.trans h) s⟩;simp;refine bY (i:=j6) (ds:=[]) zI (a1O hV hN j6 hj6) (by simp) (by simp) (fun d j7 x7=>?_) (fun n e hx=>by simp;exact Q5.fail (hp.symm.trans (mO hV hc (eS hx))) _);have p7:=a1P hV j6 d j7 hj6 x7;simp;refine bY (ds:=[.sl (strs [[59]])]) aD (aE l [[59]] j7 p7.2 (by omega) hV.fin (by simp)) (by simp [strs]) (by simp) (fun u j8 x8=>?_) (fun n e hx=>by simp;exact Q5.fail (hp.symm.trans (mO hV hc ((bQ x7).trans (eS hx)))) _);have p8:=aA.exp hV.fin _ _ j7 u j8 p7.2 x8;have h1:a9A rdP l out j6= .ok (out++[d.getD a6g]) j8:=(bQ x7).trans ((bQ x8).trans rfl);rw [rZ hV hc h1] at hp;generalize d.getD a6g=D0 at hp ⊢;simp;refine pB (by first|omega|exact ⟨fun x _=>by rw [a4j];rfl,by omega⟩) ?_
   simp;exact bN.mk ⟨(out++[D0],j8,g),by simp only;omega,p8.2,by simp only;omega,by simp;omega,hp⟩ (by simp [a4j]) (by simp;omega)
  |false=>rw [sA hV hc] at hp;have Q6:=Q5.step hp.symm;simp;refine bY (ds:=[.sl (strs [[125]])]) aD (aE l [[125]] j6 p6.2 (by omega) hV.fin (by simp)) (by simp [strs]) (by simp) (fun u7 j7 x7=>?_) (fun n e hx=>by first|exact Q6.fail hx _|(simp;exact Q6.fail hx _)|(simp;exact fun s=>Q6.fail hx s));have Q7:=Q6.step x7;have p7:=aA.exp hV.fin _ _ j6 u7 j7 p6.2 x7;simp;exact Q7.ok _ j7 _ _ rfl (.inr rfl) (by simp)
end
end
section
open Go Go.VM
variable {G:GT}
theorem a8w:VM.Enters Tryz.prog 82:=VM.Enters.mk Tryz.func82 rfl
theorem a4S:VM.Enters Tryz.prog 138:=VM.Enters.mk Tryz.func138 rfl
theorem b4H:VM.Enters Tryz.prog 83:=VM.Enters.mk Tryz.func83 rfl
theorem a8x:VM.Enters Tryz.prog 66:=VM.Enters.mk Tryz.func66 rfl
abbrev a1l:=Nm×List Nm×Pr
abbrev c8l (c:a1l):List D:= .str c.1:: .sl (strs c.2.1)::pW c.2.2
abbrev c8m (x:a7o):List D:= .str x.name:: .str x.data:: .str x.result:: .sl (x.cases.map c8l)::prD x.inv
theorem c2f (x:a7o):b3Q x=c8m x:=by
 rw [b3Q,eB]
 rfl
abbrev c8n (q:a7p):List D:= .str q.name:: .sl (q.vars.map jR)::prD q.body
theorem c2g (q:a7p):b7n q=c8n q:=by
 rw [b7n,eB]
 rfl
section
variable {rdP:List Tok→Nat→Nat→kJ Pr} {l:List Tok} (hV:jX G rdP l)
include hV
def a8y (nm dn sn:Nm)(out:List a1l):List (Nat×aR):=[(100001,.cells [.ptr 100000 0]),(100002,.cells [.d (.str nm),.d (.str dn),.d (.str sn),.d (.sl (out.map c8l)),.d (.int .i64 0),.d (.str []),.d (.int .i64 0),.d (.sl [])])]
abbrev d2d:List (TypeId×List VM.Loc):=[(151,[.c 100002 3])]
abbrev c6x (rdP:List Tok→Nat→Nat→kJ Pr)(l:List Tok)(out:List a1l):bE (List a1l):=do
 let c ← gM l
 let ns ← (fun i=>if aQ l i [40] then gD bD l i else .ok [] i:bE (List Nm))
 aV l [[61]]
 let p ← jM rdP l
 pure (out++[(c,ns,p)])
theorem c2h (nm dn sn:Nm):vL l K3 [.ptr 100001 0,.ptr 100002 0] (a8y nm dn sn) d2d:=by
 constructor
 all_goals intros
 all_goals first
  |rfl
  |simp [a8y,aJ,aP,aL,aK,aT,getKey,aM,aW,cE,rk,cL,bH, *]
theorem a8z (out:List a1l):aA l 1 (c6x rdP l out):=by
 refine (aA.title hV.fin).bl fun _=>aA.bl (fun i b j hi h=>?_) fun _=>((aA.exp hV.fin _ _).le (by omega)).bl fun _=>hV.tM.pred.bl fun _=>aA.bI _
 split at h
 ·exact ((aA.words hV.fin).le (by omega)) _ _ _ hi h
 ·cases h;omega
theorem b9s (a:List a1l)(i:Nat)(b:List a1l)(j:Nat)(hi:i<l.length)(h:a.length≤i)(hx:c6x rdP l a i= .ok b j):b.length≤j:=by have h1:=a8z hV a i b j hi hx;obtain ⟨_,_,_,hx⟩:=bT hx;obtain ⟨_,_,_,hx⟩:=bT hx;obtain ⟨_,_,_,hx⟩:=bT hx;obtain ⟨_,_,_,hx⟩:=bT hx;cases hx;simp;omega
theorem b6z (nm dn sn:Nm)(out:List a1l)(i:Nat)(hi:i<l.length)(hout:out.length≤i):jG G 138 [.ptr 100001 0,.ptr 100002 0] (a8y nm dn sn out) d2d l i (c6x rdP l out i) (fun _=> .cF []) (a8y nm dn sn):=by
 have hl:=hV.len;obtain ⟨j0,rfl⟩:∃j0,j0=i:=⟨_,rfl⟩;have p0:j0≤j0∧j0<l.length:=⟨d3X _,hi⟩;refine jG.cK Tryz.func138 rfl Tryz.ntmps138 rfl (by simp) ?_
 intro Q Q0;simp [a8y];refine bY eO (gI l j0 p0.2 (by omega)) (by simp) (by simp) (fun c j1 x1=>?_) (fun n e hx=>by first|exact Q0.fail hx _|(simp;exact Q0.fail hx _)|(simp;exact fun s=>Q0.fail hx s));have Q1:=Q0.step x1;have p1:=aA.title hV.fin j0 c j1 p0.2 x1;simp;have hb:=eY (G:=G) l j1 [40] p1.2 (by omega);refine aY (ds:=[.str [40]]) dV hb (by simp) (by simp) ?_
 cases hs:aQ l j1 [40] with
 |false=>
  have Q1:=Q1.step (a:=[]) (j:=j1) (by simp [hs]);simp;refine bY (ds:=[.sl (strs [[61]])]) aD (aE l [[61]] j1 p1.2 (by omega) hV.fin (by simp)) (by simp [strs]) (by simp) (fun u4 j4 x4=>?_) (fun n e hx=>by first|exact Q1.fail hx _|(simp;exact Q1.fail hx _)|(simp;exact fun s=>Q1.fail hx s));have Q4:=Q1.step x4;have p4:=aA.exp hV.fin _ _ j1 u4 j4 p1.2 x4;simp;refine bY kV (oK hV j4 p4.2) (by simp) (by simp) (fun p j5 x5=>?_) (fun n e hx=>by first|exact Q4.fail hx _|(simp;exact Q4.fail hx _)|(simp;exact fun s=>Q4.fail hx s));have Q5:=Q4.step x5;have p5:=hV.tM.pred j4 p j5 p4.2 x5;simp;refine pB (by first|omega|exact ⟨fun x _=>by rw [eB];rfl,by omega⟩) ?_
  simp;exact Q5.ok _ j5 .normal _ rfl (.inl rfl) (by simp [a8y,eB,rX])
 |true=>
  have e1:(fun i=>if aQ l i [40] then gD bD l i else .ok [] i:bE (List Nm)) j1=gD bD l j1:=by simp [hs]
  simp;refine bY zG (a0Y hV j1 p1.2) (by simp) (by simp) (fun ns j3 x3=>?_) (fun n e hx=>by first|exact Q1.fail (e1.trans hx) _|(simp;exact Q1.fail (e1.trans hx) _)|(simp;exact fun s=>Q1.fail (e1.trans hx) s));have Q3:=Q1.step (e1.trans x3);have p3:=aA.words hV.fin j1 ns j3 p1.2 x3;simp;refine bY (ds:=[.sl (strs [[61]])]) aD (aE l [[61]] j3 p3.2 (by omega) hV.fin (by simp)) (by simp [strs]) (by simp) (fun u4 j4 x4=>?_) (fun n e hx=>by first|exact Q3.fail hx _|(simp;exact Q3.fail hx _)|(simp;exact fun s=>Q3.fail hx s));have Q4:=Q3.step x4;have p4:=aA.exp hV.fin _ _ j3 u4 j4 p3.2 x4;simp;refine bY kV (oK hV j4 p4.2) (by simp) (by simp) (fun p j5 x5=>?_) (fun n e hx=>by first|exact Q4.fail hx _|(simp;exact Q4.fail hx _)|(simp;exact fun s=>Q4.fail hx s));have Q5:=Q4.step x5;have p5:=hV.tM.pred j4 p j5 p4.2 x5;simp;refine pB (by first|omega|exact ⟨fun x _=>by rw [eB];rfl,by omega⟩) ?_
  simp;exact Q5.ok _ j5 .normal _ rfl (.inl rfl) (by simp [a8y,eB,rX])
theorem a9B (i:Nat)(hi:i<l.length):mX G 82 [] l i (a0M bD rdP l i) (fun x=> .d (.agg (c8m x))):=by
 have hl:=hV.len;obtain ⟨j0,rfl⟩:∃j0,j0=i:=⟨_,rfl⟩;have p0:j0≤j0∧j0<l.length:=⟨d3X _,hi⟩;refine jG.cK Tryz.func82 rfl Tryz.ntmps82 rfl (by simp) ?_
 intro Q Q0;unfold a0M at Q0;simp;refine bY cH (cR hV.kw l j0 p0.2 (by omega)) (by simp) (by simp) (fun nm j1 x1=>?_) (fun n e hx=>by first|exact Q0.fail hx _|(simp;exact Q0.fail hx _)|(simp;exact fun s=>Q0.fail hx s));have Q1:=Q0.step x1;have p1:=aA.word hV.fin j0 nm j1 p0.2 x1;simp;refine bY (ds:=[.sl (strs [[58]])]) aD (aE l [[58]] j1 p1.2 (by omega) hV.fin (by simp)) (by simp [strs]) (by simp) (fun u2 j2 x2=>?_) (fun n e hx=>by first|exact Q1.fail hx _|(simp;exact Q1.fail hx _)|(simp;exact fun s=>Q1.fail hx s));have Q2:=Q1.step x2;have p2:=aA.exp hV.fin _ _ j1 u2 j2 p1.2 x2;simp;refine bY eO (gI l j2 p2.2 (by omega)) (by simp) (by simp) (fun dn j3 x3=>?_) (fun n e hx=>by first|exact Q2.fail hx _|(simp;exact Q2.fail hx _)|(simp;exact fun s=>Q2.fail hx s));have Q3:=Q2.step x3;have p3:=aA.title hV.fin j2 dn j3 p2.2 x3;simp;refine bY (ds:=[.sl (strs [[45,62]])]) aD (aE l [[45,62]] j3 p3.2 (by omega) hV.fin (by simp)) (by simp [strs]) (by simp) (fun u4 j4 x4=>?_) (fun n e hx=>by first|exact Q3.fail hx _|(simp;exact Q3.fail hx _)|(simp;exact fun s=>Q3.fail hx s));have Q4:=Q3.step x4;have p4:=aA.exp hV.fin _ _ j3 u4 j4 p3.2 x4;simp;refine bY wT (zF hV.kw l j4 p4.2 (by omega)) (by simp) (by simp) (fun sn j5 x5=>?_) (fun n e hx=>by first|exact Q4.fail hx _|(simp;exact Q4.fail hx _)|(simp;exact fun s=>Q4.fail hx s));have Q5:=Q4.step x5;have p5:=aA.sort hV.fin j4 sn j5 p4.2 x5;simp;refine bY (ds:=[.sl (strs [[123]])]) aD (aE l [[123]] j5 p5.2 (by omega) hV.fin (by simp)) (by simp [strs]) (by simp) (fun u6 j6 x6=>?_) (fun n e hx=>by first|exact Q5.fail hx _|(simp;exact Q5.fail hx _)|(simp;exact fun s=>Q5.fail hx s));have Q6:=Q5.step x6;have p6:=aA.exp hV.fin _ _ j5 u6 j6 p5.2 x6;simp;have hone:=dR hV [59] (c6x rdP l) (fun out i=>out.length≤i) 0 a4S (c2h hV nm dn sn) (fun a=>(a8z hV a).le (by omega)) (fun a i qM hi h=>b6z hV nm dn sn a i hi h) (b9s hV) (fun a i h=>by omega) [] j6 (by omega) p6.2 (by simp);refine eU.mk (tY cT hone [(100000,100000),(100001,1),(100002,3)] (fun a j hx=>?_) ?_ ?_ ?_ rfl rfl (fun cs j7 x7=>?_) (fun n e hx2=>Q6.fail hx2 _))
 ·simp [a8y,aJ,aP,aL,aK,aT,getKey]
 ·simp [a8y,aJ,aP,aL,aK,aT,getKey]
 ·simp [aM,aW,rk]
 ·simp [a8y,aM,aW,rk,cE,cL]
 ·have Q7:=Q6.step x7;have p7:=aA.list hV.fin (fun a=>a8z hV a) [] j6 cs j7 p6.2 x7;simp [aU,a8y,aM,aW,rk,cE,cL,bH,eM,dZ,dC];refine bY (ds:=[.sl (strs [[125]])]) aD (aE l [[125]] j7 p7.2 (by omega) hV.fin (by simp)) (by simp [strs]) (by simp) (fun u8 j8 x8=>?_) (fun n e hx=>by first|exact Q7.fail hx _|(simp;exact Q7.fail hx _)|(simp;exact fun s=>Q7.fail hx s));have Q8:=Q7.step x8;have p8:=aA.exp hV.fin _ _ j7 u8 j8 p7.2 x8;simp;cases hs:aQ l j8 [105,110,118,97,114,105,97,110,116] with
  |false=>
   have Q9:=Q8.step (gA hs);rw [if_neg (by decide)] at Q9;have Q9:=Q9.step (eV _ _);refine aY (ds:=[.str [105,110,118,97,114,105,97,110,116]]) (d:= .d (.bool false)) aC (aO l j8 [105,110,118,97,114,105,97,110,116] p8.2 (by omega) hs) (by simp) (by simp) ?_
   simp;exact Q9.ok _ j8 _ _ rfl (.inr rfl) (by simp [kC])
  |true=>
   have Q9:=Q8.step (eZ hs);rw [if_pos rfl] at Q9;refine aY (ds:=[.str [105,110,118,97,114,105,97,110,116]]) (d:= .d (.bool true)) aC (aN l j8 [105,110,118,97,114,105,97,110,116] p8.2 (by omega) hs) (by simp) (by simp) ?_
   have p9:j8+1≤j8+1∧j8+1<l.length:=⟨d3X _,aF hV.fin p8.2 hs⟩;obtain ⟨j9,hj9⟩:∃j,j8+1=j:=⟨_,rfl⟩;rw [hj9] at Q9 p9 ⊢;simp;refine bY kV (oK hV j9 p9.2) (by simp) (by simp) (fun p j10 x10=>?_) (fun n e hx=>by first|exact Q9.fail hx _|(simp;exact Q9.fail hx _)|(simp;exact fun s=>Q9.fail hx s));have Q10:=Q9.step x10;have p10:=hV.tM.pred j9 p j10 p9.2 x10;simp;exact Q10.ok _ j10 _ _ rfl (.inr rfl) (by simp)
theorem b6A (i:Nat)(hi:i<l.length):mX G 83 [] l i (a0N bD rdP l i) (fun x=> .d (.agg (c8n x))):=by
 have hl:=hV.len;obtain ⟨j0,rfl⟩:∃j0,j0=i:=⟨_,rfl⟩;have p0:j0≤j0∧j0<l.length:=⟨d3X _,hi⟩;refine jG.cK Tryz.func83 rfl Tryz.ntmps83 rfl (by simp) ?_
 intro Q Q0;unfold a0N at Q0;simp;refine bY cH (cR hV.kw l j0 p0.2 (by omega)) (by simp) (by simp) (fun nm j1 x1=>?_) (fun n e hx=>by first|exact Q0.fail hx _|(simp;exact Q0.fail hx _)|(simp;exact fun s=>Q0.fail hx s));have Q1:=Q0.step x1;have p1:=aA.word hV.fin j0 nm j1 p0.2 x1;simp;refine bY (ds:=[.sl (strs [[40]])]) aD (aE l [[40]] j1 p1.2 (by omega) hV.fin (by simp)) (by simp [strs]) (by simp) (fun u2 j2 x2=>?_) (fun n e hx=>by first|exact Q1.fail hx _|(simp;exact Q1.fail hx _)|(simp;exact fun s=>Q1.fail hx s));have Q2:=Q1.step x2;have p2:=aA.exp hV.fin _ _ j1 u2 j2 p1.2 x2;simp;refine bY wU ((zH hV true j2 p2.2)) (by simp) (by simp) (fun vs j3 x3=>?_) (fun n e hx=>by first|exact Q2.fail hx _|(simp;exact Q2.fail hx _)|(simp;exact fun s=>Q2.fail hx s));have Q3:=Q2.step x3;have p3:=(aA.vars hV.fin true) j2 vs j3 p2.2 x3;simp;refine bY (ds:=[.sl (strs [[41],[58]])]) aD (aE l [[41],[58]] j3 p3.2 (by omega) hV.fin (by simp)) (by simp [strs]) (by simp) (fun u4 j4 x4=>?_) (fun n e hx=>by first|exact Q3.fail hx _|(simp;exact Q3.fail hx _)|(simp;exact fun s=>Q3.fail hx s));have Q4:=Q3.step x4;have p4:=aA.exp hV.fin _ _ j3 u4 j4 p3.2 x4;simp;refine bY kV (oK hV j4 p4.2) (by simp) (by simp) (fun p j5 x5=>?_) (fun n e hx=>by first|exact Q4.fail hx _|(simp;exact Q4.fail hx _)|(simp;exact fun s=>Q4.fail hx s));have Q5:=Q4.step x5;have p5:=hV.tM.pred j4 p j5 p4.2 x5;simp;exact Q5.ok _ j5 _ _ rfl (.inr rfl) (by simp)
theorem b0J (i:Nat)(hi:i<l.length):mX G 66 [] l i (xU l i) (fun _=> .cF []):=by
 have hl:=hV.len;obtain ⟨j0,rfl⟩:∃j0,j0=i:=⟨_,rfl⟩;have p0:j0≤j0∧j0<l.length:=⟨d3X _,hi⟩;have ht:=cB (G:=G) l j0 j0 0 (by omega) (by omega) (by intro e;subst e;simp at hi) (by omega);refine jG.cK Tryz.func66 rfl Tryz.ntmps66 rfl (by simp) ?_
 intro Q Q0;unfold xU at Q0;simp;refine aY (ds:=[.int .i64 0]) bJ ht (by simp) (by simp) ?_
 by_cases hk:(aZ l j0).kind=0
 ·have Q0:=Q0.ifp hk;simp [cC,hk];exact Q0.ok _ j0 _ _ rfl (.inl rfl) (by simp)
 ·have Q0:=Q0.vX hk;simp [cC,hk];refine bY (ds:=[]) qJ (rY (α:=Unit) l j0 p0.2 (by omega) fun _=> .cF []) (by simp) (by simp) (fun a j hx=>by unfold dQ at hx;cases hx) (fun n e hx=>Q0.bad n e _ hx)
end
end
end Go.Proofs.YtjpodcmhcenjjaaGreatDoor
