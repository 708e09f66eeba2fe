/- Lemmas that the law of this claim needs (ZP PsH PsI PsJ PsK PsL PsM PsR PsS PsN PsU PsO PsP VmRB PsQ PsT VmRD PsV PsW). No condition. -/
import Derived.Test.YtjpodcmhcenjjaaGreatDoorOpc
import Derived.RangeFuncNested
import Derived.RangeFuncBound
import Derived.RangeFuncCalls
import Derived.RangeFuncLeaves
import Derived.Shelf.Abstract
import Derived.OwnWalkIn
import Derived.TacticsInMore
import Derived.LoopNIn
import Derived.LoopIn
set_option linter.unusedVariables false
set_option linter.unusedSimpArgs false
set_option linter.unusedSectionVars false
set_option maxRecDepth 100000
set_option maxHeartbeats 64000000
section
section
namespace Go.Proofs.YtjpodcmhcenjjaaGreatDoor
open Go Go.VM
def a5P:Pr:=⟨0,[],0,[]⟩
def b8m:Pr:=⟨2,[],1,[]⟩
def c8Y:Pr:=⟨2,[],0,[]⟩
instance:DecidableEq Pr:=fun a b=>if h:a2J a b=true then isTrue ((a4V a b).1 h) else isFalse fun e=>h ((a4V a b).2 e)
def a3h (p:Pr):Bool:=decide (p=a5P)||decide (p=b8m)
def uZ:Pr→List Pr
 |⟨op,nm,n,[a,b]⟩=>if op=15 then uZ a++uZ b else [⟨op,nm,n,[a,b]⟩]
 |⟨op,nm,n,l⟩=>if a3h ⟨op,nm,n,l⟩ then [] else [⟨op,nm,n,l⟩]
theorem b8n (nm:Nm)(n:Int)(a b:Pr):uZ ⟨15,nm,n,[a,b]⟩=uZ a++uZ b:=by rw [uZ,if_pos rfl]
theorem c1n {p:Pr}(h:a3h p=true):p.kids=[]:=by simp only [a3h,d7i,decide_eq_true_eq] at h;rcases h with rfl|rfl<;>rfl
theorem b3B {p:Pr}(h: ¬(p.op=15∧p.kids.length=2)):uZ p=if a3h p then [] else [p]:=by
 obtain ⟨op,nm,n,l⟩:=p
 match l,h with
 |[],_=>rw [uZ];simp
 |[a],_=>rw [uZ];simp
 |[a,b],h=>
  have h5: ¬op=15:=fun e=>h ⟨e,rfl⟩
  rw [uZ,if_neg h5];cases hv:a3h ⟨op,nm,n,[a,b]⟩ with
  |false=>simp
  |true=>have:=c1n hv;simp at this
 |a::b::c::r,_=>rw [uZ];simp
mutual
theorem b2b:∀p:Pr,(uZ p).length≤dF p
 |⟨op,nm,n,l⟩=>by
  by_cases h:op=15∧l.length=2
  ·match l,h with
   |[a,b],⟨h15,_⟩=>subst h15;rw [b8n];have h1:=b2b a;have h2:=b2b b;simp only [List.length_append,dF,eE];omega
  ·rw [b3B h];have:=b5G ⟨op,nm,n,l⟩;split<;>simp<;>omega
end
def d5b (ns:List Nm)(bys:List Pr)(op:Int)(nm:Nm):Option Pr:=if op=3∧0≤c3v nm ns 0 then bys[(c3v nm ns 0).toNat]? else none
mutual
def d3i (ns:List Nm) (bys:List Pr):Pr→Pr
 |⟨op,nm,n,l⟩=>match d5b ns bys op nm with
  |some u=>u
  |none=>⟨op,nm,n,b9M ns bys l⟩
def b9M (ns:List Nm) (bys:List Pr):List Pr→List Pr
 |[]=>[]
 |t::r=>d3i ns bys t::b9M ns bys r
end
mutual
def a9j:Pr→Nat
 |⟨_,_,_,l⟩=>qP l 0+1
def qP:List Pr→Nat→Nat
 |[],n=>n
 |t::r,n=>qP r (max n (a9j t))
end
theorem b9N (p:Pr):a9j p=qP p.kids 0+1:=by cases p;rfl
theorem b2c:∀(a b:List Pr) (n:Nat),qP (a++b) n=qP b (qP a n)
 |[],b,n=>by simp [qP]
 |t::a,b,n=>by simp only [List.cons_append,qP,b2c a b]
theorem a9k {l:List Pr}{i:Nat}(h:i<l.length)(n:Nat):qP (l.take (i+1)) n=max (qP (l.take i) n) (a9j l[i]):=by rw [d7l h,b2c];simp [qP]
mutual
theorem c8Z:∀p:Pr,a9j p≤dF p
 |⟨op,nm,n,l⟩=>by have:=a4W l 0;simp only [a9j,dF];omega
theorem a4W:∀(l:List Pr) (n:Nat),qP l n≤n+eE l
 |[],n=>by simp [qP]
 |t::r,n=>by have h1:=c8Z t;have h2:=a4W r (max n (a9j t));simp only [qP,eE];omega
end
theorem c1o:∀ {l:List Pr} {k:Pr},k∈l→dF k≤eE l
 |t::r,k,h=>by
  simp only [eE];rcases List.mem_cons.1 h with rfl|h
  ·omega
  ·have:=c1o h;omega
end Go.Proofs.YtjpodcmhcenjjaaGreatDoor
end
section
namespace Go.Proofs.YtjpodcmhcenjjaaGreatDoor
open Go Go.VM
variable {G:GT}
theorem c1p {α:Type}(f:α→List D){l:List α}{i:Nat}(h:i<l.length):List.take (i+1) (List.map f l)=List.take i (List.map f l)++[f l[i]]:=by have:=c3G f h;rw [List.map_take,List.map_take] at this;exact this
theorem c9a {α:Type}{f:α→List D}{k:Nat}(hf:∀a,(f a).length=k){l:List α}{i:Nat}:∀(x:List D),x∈List.take i (List.map f l)→x.length=k:=fun x hx=>by obtain ⟨t,_,rfl⟩:=List.mem_map.1 (List.mem_of_mem_take hx);exact hf t
abbrev prO (op:Int)(nm:Nm)(n:Int)(k:D):aY:= .cells [.d (.int .i64 op),.d (.str nm),.d (.int .i64 n),.d k]
theorem qX:VM.Enters Tryz.prog 128:=VM.Enters.mk Tryz.func128 rfl
theorem c1q:VM.Enters Tryz.prog 169:=VM.Enters.mk Tryz.func169 rfl
theorem c4c (l l':List Pr)(hN:eE l≤900000000)(ih:∀k∈l,∀u:Pr,dF k≤900000000→CS Tryz.prog G 128 [.agg (prD k),.agg (prD u)] (.d (.bool (a2J k u))) none):
  CH Tryz.prog G 169 ⟨[.d (.sl (l.map qR)),.d (.sl (l'.map qR)),.fn 128],[],[]⟩ ⟨[.d (.bool (c1m l l'))],[],[]⟩:=by
 have hl:=jX l;refine CH.bI Tryz.func169 rfl Tryz.ntmps169 rfl (by simp) ?_
 by_cases h3:l.length=l'.length
 ·have hq:c1m l l'=rV l l':=by simp [c1m,h3]
  simp [h3];refine SW.kJ (ι:={ i:Nat // i≤l.length∧rV (l.drop i) (l'.drop i)=rV l l' }) (fun i=>[(15,.d (.int .i64 i.1))]) (fun _=>[]) (fun _=>[]) (fun i=>l.length-i.1) ⟨0,by simp⟩ (by simp) ?_
  rintro ⟨i,hi,hR⟩
  try simp only at hi hR
  by_cases hlt:i<l.length
  ·have hlt':i<l'.length:=by omega
   have hg:=vO hlt;have hg':=vO hlt';have hw:=bO (show i<9223372036854775807 by omega);have hb2:=rJ hlt;have hb3:=kC l (i+1);rw [a9h hlt hlt'] at hR;simp [hlt',hlt,hg,hg'];refine ⟨mA.mk (by kernel_rfl),?_⟩;refine aH.mk qX (ih l[i] (List.getElem_mem hlt) l'[i] (by omega)) ?_
   cases hs:a2J l[i] l'[i]
   ·rw [hs,Bool.false_and] at hR;simp [hs,hq, ← hR]
   ·rw [hs,Bool.true_and] at hR;simp [hs];exact bQ.mk ⟨i+1,hlt,hR⟩ (by simp [hw]) (by simp;omega)
  ·have:i=l.length:=by omega
   subst this;rw [b2a] at hR;simp [hq, ← hR, ← h3]
 ·have h3': ¬((l.length:Int)=(l'.length:Int)):=by omega
  have hq:c1m l l'=false:=by simp [c1m,h3]
  simp [h3,h3',hq]
theorem vT:∀t u:Pr,dF t≤900000000→CS Tryz.prog G 128 [.agg (prD t),.agg (prD u)] (.d (.bool (a2J t u))) none:=by
 refine Pr.ind fun t ih=>?_
 obtain ⟨op,nm,n,l⟩:=t;intro u hN;obtain ⟨op',nm',n',l'⟩:=u;simp only at ih;have hn:=qH ⟨op,nm,n,l⟩;have hq:=b9L ⟨op,nm,n,l⟩ ⟨op',nm',n',l'⟩;simp only at hn hq;have hE:=c4c (G:=G) l l' (by omega) ih;have hA:(decide (l.length=l'.length)&&rV l l')=c1m l l':=rfl;rw [hA] at hq;refine CS.bI Tryz.func128 rfl Tryz.ntmps128 rfl ?_
 by_cases h1:op=op'
 ·by_cases h2:nm=nm'
  ·by_cases h4:n=n'
   ·simp only [h1,h2,h4,decide_true,Bool.true_and] at hq;simp [h1,h2,h4];refine eW.ro c1q hE [] (by simp) (by simp) (by simp) (by simp) (by simp) ?_
    simp [hq]
   ·simp only [h1,h2,h4,decide_true,decide_false,Bool.true_and,Bool.false_and] at hq;simp [h1,h2,h4,hq]
  ·simp only [h1,h2,decide_true,decide_false,Bool.true_and,Bool.false_and] at hq;simp [h1,h2,hq]
 ·simp only [h1,decide_false,Bool.false_and] at hq;simp [h1,hq]
theorem pG:VM.Enters Tryz.prog 170:=VM.Enters.mk Tryz.func170 rfl
def a1L (b:Bool):Pr:=if b then b8m else c8Y
theorem qM (b:Bool):CS Tryz.prog G 170 [.bool b] (.d (.agg (prD (a1L b)))) none:=by
 refine CS.bI Tryz.func170 rfl Tryz.ntmps170 rfl ?_
 cases b<;>simp [a1L,b8m,c8Y]
theorem b6e (a b:Pr):a2J a b=decide (a=b):=by rw [Bool.eq_iff_iff,a4V];simp
theorem b0N:VM.Enters Tryz.prog 171:=VM.Enters.mk Tryz.func171 rfl
theorem b3C (p:Pr)(h:dF p≤900000000):CS Tryz.prog G 171 [.agg (prD p)] (.d (.bool (a3h p))) none:=by
 have e1:=vT (G:=G) p a5P h;have e2:=vT (G:=G) p b8m h;rw [b6e] at e1 e2;refine CS.bI Tryz.func171 rfl Tryz.ntmps171 rfl ?_
 simp;refine ⟨mA.mk (by kernel_rfl),?_⟩;refine aH.mk qX (CS.args e1 (by simp [a5P])) ?_
 by_cases hz:p=a5P
 ·simp [hz,a3h]
 ·simp [hz,a3h];refine aH.mk pG (qM true) ?_
  simp;refine aH.mk qX (CS.args e2 (by simp [b8m,a1L])) ?_
  simp
theorem vB:VM.Enters Tryz.prog 172:=VM.Enters.mk Tryz.func172 rfl
theorem a9l:∀p:Pr,dF p≤900000000→CS Tryz.prog G 172 [.agg (prD p)] (.d (.agg (prD p))) none:=by
 refine Pr.ind fun p ih=>?_
 obtain ⟨op,nm,n,l⟩:=p;intro hN;simp only at ih;have hn:=qH ⟨op,nm,n,l⟩;simp only at hn;have hl:=jX l;refine CS.bI Tryz.func172 rfl Tryz.ntmps172 rfl ?_
 simp;refine SW.kJ (ι:={ i:Nat // i≤l.length }) (fun i=>[(16,.d (.int .i64 i.1))]) (fun i=>[(1,prO op nm n (.sl (l.map qR))),(2,prO 0 [] 0 .aM),(3,prO op nm n (.sl ((l.take i.1).map qR)))]) (fun _=>[(43,[.c 3 3])]) (fun i=>l.length-i.1) ⟨0,by simp⟩ (by simp) ?_
 rintro ⟨i,hi⟩;by_cases hlt:i<l.length
 ·have hg:=vO hlt;have hw:=bO (show i<9223372036854775807 by omega);have hs2:=c1p qR hlt;rw [eY] at hs2;have h4:∀(x:List D),x∈List.take i (List.map qR l)→x.length=4:=c9a (by simp);have hb2:=rJ hlt;have hb3:=kC l (i+1);simp [hlt,hg];refine ⟨mA.mk (by kernel_rfl),?_⟩;refine aH.mk vB (ih l[i] (List.getElem_mem hlt) (by omega)) ?_
  simp;refine eL ⟨h4,by omega⟩ ?_
  simp;exact bQ.mk ⟨i+1,hlt⟩ (by simp [hw,hs2]) (by simp;omega)
 ·have:i=l.length:=by omega
  subst this;simp
end Go.Proofs.YtjpodcmhcenjjaaGreatDoor
end
section
namespace Go.Proofs.YtjpodcmhcenjjaaGreatDoor
open Go Go.VM
variable {G:GT}
theorem b3D:VM.Enters Tryz.prog 223:=VM.Enters.mk Tryz.func223 rfl
theorem d1a (p:Pr):dF p≤900000000→CS Tryz.prog G 223 [.agg (prD p)] (.d (.int .i64 (a9j p))) none:=by
 revert p
 refine Pr.ind fun p ih=>?_
 obtain ⟨op,nm,n,l⟩:=p;intro hN;simp only at ih;have hn:=qH ⟨op,nm,n,l⟩;have hd:=b9N ⟨op,nm,n,l⟩;simp only at hn hd;have hl:=jX l;have hle:=a4W l 0;refine CS.bI Tryz.func223 rfl Tryz.ntmps223 rfl ?_
 simp;refine SW.kJ (ι:={ i:Nat // i≤l.length }) (fun i=>[(3,.d (.int .i64 (qP (l.take i.1) 0))),(9,.d (.int .i64 i.1))]) (fun _=>[(1,prO op nm n (.sl (l.map qR)))]) (fun _=>[]) (fun i=>l.length-i.1) ⟨0,by simp⟩ (by simp [qP]) ?_
 rintro ⟨i,hi⟩;by_cases hlt:i<l.length
 ·have hg:=vO hlt;have hw:=bO (show i<9223372036854775807 by omega);have hs:=a9k hlt 0;have hb2:=rJ hlt;have hb3:=kC l (i+1);simp [hlt,hg];refine aH.mk b3D (ih l[i] (List.getElem_mem hlt) (by omega)) ?_
  simp;exact bQ.mk ⟨i+1,hlt⟩ (by simp [hw,hs];split<;>omega) (by simp;omega)
 ·have:i=l.length:=by omega
  subst this;have hw:IntKind.i64.wrap ((qP l 0:Int)+1)=((qP l 0+1:Nat):Int):=bO (by omega);simp [hw,hd]
end Go.Proofs.YtjpodcmhcenjjaaGreatDoor
end
section
namespace Go.Proofs.YtjpodcmhcenjjaaGreatDoor
open Go Go.VM Go.RowKit Go.Shelf
attribute [local go_sem] Oper.semAt_some
structure bS (X:Nat→Prop) (W W':World):Prop where
 os:W'.os=W.os
 tape:W'.tape=W.tape
 output:W'.output=W.output
 size:W.heap.size≤W'.heap.size
 block:∀k,k<W.heap.size→ ¬X k→W'.heap[k]? =W.heap[k]?
theorem bS.refl (X:Nat→Prop)(W:World):bS X W W:=⟨rfl,rfl,rfl,d7m _,fun _ _ _=>rfl⟩
theorem bS.trans {X:Nat→Prop}{A B C:World}(h:bS X A B)(k:bS X B C):bS X A C:=
 ⟨k.os.trans h.os,k.tape.trans h.tape,k.output.trans h.output,Nat.le_trans h.size k.size,fun i hi hx=>(k.block i (Nat.lt_of_lt_of_le hi h.size) hx).trans (h.block i hi hx)⟩
abbrev NoX:Nat→Prop:=fun _=>False
theorem bS.up {X:Nat→Prop}{A B:World}(h:bS NoX A B):bS X A B:=⟨h.os,h.tape,h.output,h.size,fun k hk _=>h.block k hk fun e=>e⟩
theorem bS.cell {X:Nat→Prop}{A B:World}(h:bS X A B){b o:Nat}(hb:b<A.heap.size)(hx: ¬X b):B.cell? ⟨b,o,none⟩=A.cell? ⟨b,o,none⟩:=by unfold World.cell?;rw [h.block b hb hx]
theorem bS.alloc {X:Nat→Prop}{A B:World}(h:bS X A B)(o:Obj):bS X A (B.alloc o):=
 h.trans ⟨rfl,rfl,rfl,by simp,fun k hk _=>by
  show (B.heap.push o)[k]? =_
  rw [Array.getElem?_push,if_neg (by omega)]⟩
theorem c4d {R:Nat→Nat→Prop}{w:World}{v:Value}{p:Pr}(h:V R w v (.agg (qR p))):
  ∃(ao:Option Addr) (cap:Nat) (nm:ByteArray),v= .agg #[.int .i64 p.op,.string nm,.int .i64 p.n,.slice ao p.kids.length cap]∧
   ∀(i:Nat) (hi:i<p.kids.length),∃b o,ao=some ⟨b,o,none⟩∧∃f:Nat→Value,(∀j,j<4→R b (o+i*4+j)∧w.cell? ⟨b,o+i*4+j,none⟩=some (f j))∧V R w (.agg #[f 0,f 1,f 2,f 3]) (.agg (qR p.kids[i])):=by
 obtain ⟨op,nm,n,ks⟩:=p;rw [eY] at h;cases h with
 |agg cs _ h1 h2 h3=>
  obtain ⟨l⟩:=cs
  match l,h1 with
  |[c0,c1,c2,c3],_=>
   have g0:=h3 0 _ rfl;have g1:=h3 1 _ rfl;have g2:=h3 2 _ rfl;have g3:=h3 3 _ rfl;simp at g0 g1 g2 g3;obtain ⟨es,hes⟩:∃es,ks.map qR=es:=⟨_,rfl⟩;simp only [hes] at g3;cases g0;cases g1;cases g2;have hlen:es.length=ks.length:=by rw [← hes];simp
   cases g3 with
   |emp ao cap=>
    have h0:ks=[]:=by simpa using hes
    subst h0;exact ⟨ao,cap,_,rfl,fun i hi=>by simp at hi⟩
   |sl b o m cap size es f k1 k2 k3 k4 k5 k6 k7=>
    have hm:m=ks.length:=by omega
    subst hm;refine ⟨_,cap,_,rfl,fun i hi=>⟨b,o,rfl,f i,?_⟩⟩;simp only at hi;have hg:es[i]? =some (qR ks[i]):=by rw [← hes];simp [hi]
    have hs:size=4:=by have:=k4 _ (d7b hg);rw [eY] at this;simpa using this.symm
    subst hs;refine ⟨fun j hj=>k5 i j hi hj,?_⟩;have q:∀(j:Nat) (d:D),(qR ks[i])[j]? =some d→V R w (f i j) d:=fun j d hd=>k7 i j _ d hg hd
    have q1:∀(j:Nat) (d:D),(qR ks[i])[j]? =some d→d.one=true:=fun j d hd=>k6 i j _ d hg hd
    refine .agg _ _ (by rw [eY];rfl) q1 fun j d hd=>?_
    have hj:j<4:=by have:=(d6X.1 hd).1;rw [eY] at this;simpa using this
    have hv:=q j d hd
    match j,hj with
    |0,_=>exact hv
    |1,_=>exact hv
    |2,_=>exact hv
    |3,_=>exact hv
mutual
def a0q:Pr→List Pr
 |⟨op,nm,n,l⟩=>⟨op,nm,n,l⟩::mO l
def mO:List Pr→List Pr
 |[]=>[]
 |p::r=>a0q p++mO r
end
theorem a4X (p:Pr):a0q p=p::mO p.kids:=by cases p;rfl
theorem a5Q:∀a b:List Pr,mO (a++b)=mO a++mO b
 |[],b=>by simp [mO]
 |p::a,b=>by simp only [List.cons_append,mO,a5Q a b,List.append_assoc]
theorem b8o {l:List Pr}{i:Nat}(h:i<l.length):mO (l.take (i+1))=mO (l.take i)++a0q l[i]:=by rw [d7l h,a5Q];simp [mO]
theorem a6Y (l:List Pr)(i:Nat):mO l=mO (l.take i)++mO (l.drop i):=by rw [← a5Q,List.take_append_drop]
def Yields (P:Program)(L:List Pr)(l:Nat)(X:Nat→Prop)(R:Nat→Nat→Prop)(w0:World)(J Jx:List Pr→World→Prop):Prop:=
 ∀(m:Nat) (pre:List Pr) (v:Value) (p:Pr) (W:World),pre++[p] <+:L→V R w0 v (.agg (qR p))→bS X w0 W→J pre W→YieldAt Fence.wide m P l #[v] W fun e W'=>(e= .returned (.bool true)∧J (pre++[p]) W'∧bS X W W')∨(e= .returned (.bool false)∧Jx (pre++[p]) W'∧bS X W W')
theorem c4e (W:World)(cs:Array Value)(T:TypeId){j:Nat}{v:Value}(h:cs[j]? =some v):(W.alloc (.cells cs T)).cell? ⟨W.heap.size,j,none⟩=some v:=by unfold World.cell?;rw [World.alloc_heap_new];simp [h]
theorem c4f (L:List Pr)(l:Nat)(X:Nat→Prop)(R:Nat→Nat→Prop)(w0:World)(hX:∀b o,R b o→ ¬X b)(hR:∀b o,R b o→b<w0.heap.size)(hX2:∀k,X k→k<w0.heap.size)(J Jx:List Pr→World→Prop)(hJ:∀s A B,J s A→bS NoX A B→J s B)(hY:Yields Tryz.prog L l X R w0 J Jx):
  ∀(p:Pr) (n:Nat) (v:Value) (pre:List Pr) (W:World),dF p≤1000000→pre++a0q p <+:L→V R w0 v (.agg (qR p))→bS X w0 W→J pre W→
   CallsIn Fence.wide n Tryz.prog 238 #[v,.func (.yield l) #[] #[]] W fun e W'=>(e= .returned (.bool true)∧J (pre++a0q p) W'∧bS X W W')∨(e= .returned (.bool false)∧∃q,q <+:a0q p∧Jx (pre++q) W'∧bS X W W'):=by
 refine Pr.ind fun p ih=>?_
 intro n v pre W hN hL hv hW hJ0;have hN1:=qH p;have hN2:=jX p.kids;have hpk:∀(k:Nat) (h:k<p.kids.length),(pre++p::mO (p.kids.take k))++a0q p.kids[k] <+:L:=fun k h=>by refine List.IsPrefix.trans ⟨mO (p.kids.drop (k+1)),?_⟩ hL;rw [a4X p,a6Y p.kids k,d7j h];simp [mO]
 obtain ⟨ao,cap,nm,rfl,hk⟩:=c4d hv;have hJ1:=hJ _ _ (W.alloc (.cells #[.int .i64 p.op,.string nm,.int .i64 p.n,.slice ao p.kids.length cap] 43)) hJ0 ((bS.refl NoX W).alloc _);have hW1:=hW.alloc (.cells #[.int .i64 p.op,.string nm,.int .i64 p.n,.slice ao p.kids.length cap] 43);obtain ⟨fn,tmps,assign,body,hy,hYR⟩:=hY (n-1) pre _ p _ (((List.prefix_append_right_inj pre).2 ⟨mO p.kids,by rw [a4X];rfl⟩).trans hL) hv hW1 hJ1;refine callsIn_of_wp Tryz.func238 rfl trivial ?_ rfl
 simp only [Tryz.ntmps238,List.size_toArray,List.length_cons,List.length_nil,Nat.reduceAdd,Nat.reduceSub,Array.replicate_succ,Array.replicate_zero,List.push_toArray,List.append_toArray,List.nil_append,List.cons_append]
 gi_wp2
 refine ⟨fun h=>(by cases h),?_⟩;have hbx: ¬X W.heap.size:=fun h=>by have:=hX2 _ h;have:=hW.size;omega
 refine hYR.mono ?_
 rintro e W3 (⟨rfl,hJ3,hK3⟩|⟨rfl,hJ3,hK3⟩)
 ·have hWK:bS X W W3:=((bS.refl X W).alloc _).trans hK3;have hbox:W3.cell? ⟨W.heap.size,3,none⟩=some (.slice ao p.kids.length cap):=(hK3.cell (by simp) hbx).trans (c4e W _ _ rfl)
  gi_wp2
  gi_loopw [14] (fun i wr=>∃k:Nat,k≤p.kids.length∧i= .int .i64 k∧J (pre++p::mO (p.kids.take k)) wr∧bS X W wr) (fun i _=>p.kids.length-(intOf i).toNat)
  case atStart=>exact ⟨0,Nat.zero_le _,rfl,by simpa [mO] using hJ3,hWK⟩
  case round=>
   obtain ⟨k,hkl,rfl,hJk,hKk⟩:=hrel;by_cases hlt:k<p.kids.length
   ·obtain ⟨b,o,rfl,f,hf,hfv⟩:=hk k hlt;have hcx:∀j,j<4→wr.cell? ⟨b,o+k*4+j,none⟩=some (f j):=fun j hj=>((hW.trans hKk).cell (hR _ _ (hf j hj).1) (hX _ _ (hf j hj).1)).trans (hf j hj).2
    have h0:=hcx 0 (by omega);rw [Nat.add_zero] at h0;have h1:=hcx 1 (by omega);have h2:=hcx 2 (by omega);have h3:=hcx 3 (by omega);have hfv2:=hfv;have hb2:=rJ hlt;have hb3:=kC p.kids (k+1);obtain ⟨ao2,cap2,nm2,he,_⟩:=c4d hfv;simp only [Value.agg.injEq,Array.mk.injEq,List.cons.injEq,and_true] at he;obtain ⟨e0,e1,e2,e3⟩:=he;rw [e0] at h0;rw [e1] at h1;rw [e2] at h2;rw [e3] at h3;rw [e0,e1,e2,e3] at hfv2
    gi_wp2
    refine ⟨trivial,fun h=>(by cases h),(ih p.kids[k] (List.getElem_mem hlt) (n-1) _ _ _ (by omega) (hpk k hlt) hfv2 ((hW.trans hKk).alloc _) (hJ _ _ _ hJk ((bS.refl NoX wr).alloc _))).mono ?_⟩;rintro e W4 (⟨rfl,hJ4,hK4⟩|⟨rfl,q,hq,hJ4,hK4⟩)
    ·have hw64:RowKit.wrap64 ((k:Int)+1)=(k:Int)+1:=by unfold RowKit.wrap64;omega
     gi_wp2
     go_roundw
     case rel=>exact ⟨k+1,hlt,by simp [hw64],by rw [b8o hlt];simpa using hJ4,(hKk.alloc _).trans hK4⟩
     case measure=>simp [intOf,hw64];omega
    ·gi_wp2
     go_ret
     refine .inr ⟨rfl,p::mO (p.kids.take k)++q,?_,by simpa using hJ4,(hKk.alloc _).trans hK4⟩;rw [a4X,a6Y p.kids k,d7j hlt];obtain ⟨r,hr⟩:=hq;exact ⟨r++mO (p.kids.drop (k+1)),by simp [mO, ← hr]⟩
   ·obtain rfl:k=p.kids.length:=by omega
    gi_wp2
    go_ret
    exact .inl ⟨rfl,by rw [a4X];simpa using hJk,hKk⟩
 ·gi_wp2
  go_ret
  exact .inr ⟨rfl,[p],⟨mO p.kids,by rw [a4X];rfl⟩,hJ3,((bS.refl X W).alloc _).trans hK3⟩
end Go.Proofs.YtjpodcmhcenjjaaGreatDoor
end
section
namespace Go.Proofs.YtjpodcmhcenjjaaGreatDoor
open Go Go.VM Go.RowKit Go.Shelf
attribute [local go_sem] Oper.semAt_some
theorem c1r {G:GT}{R:Nat→Nat→Prop}{w0 w:World}(h:a2F G (uR w0.heap.size) R w0)(hs:w0.heap.size≤w.heap.size)(hR:∀b o,R b o→b<w0.heap.size)(hb:∀k,k<w0.heap.size→w.heap[k]? =w0.heap[k]?):a2F G (uR w.heap.size) R w:=by
 intro g cs hg;obtain ⟨h1,h2,arr,T,fr,h3,h4⟩:=h g cs hg;have hl:g<w0.heap.size:=by simpa [uR] using h2
 have hc:∀b o,R b o→w.cell? ⟨b,o,none⟩=w0.cell? ⟨b,o,none⟩:=fun b o hbo=>by unfold World.cell?;rw [hb b (hR b o hbo)]
 refine ⟨fun j d hj=>?_,by simp only [uR];omega,arr,T,fr,(hb g hl).trans h3,h4⟩;obtain ⟨a1,a2,v,a3,a4⟩:=h1 j d hj;exact ⟨a1,a2,v,(hc _ _ a2).trans a3,a4.step (fun _ _ h=>h) hc⟩
theorem bS.bJ {R R':Nat→Nat→Prop}{w w':World}(h:Step (uR w.heap.size) R w R' w'):bS NoX w w':=
 ⟨h.below.os,h.below.tape,h.below.output,h.below.size,fun k hk _=>h.below.block k (by simp only [uR];omega)⟩
theorem c9b {P:Program}{G:GT}{f:FuncId}{ds:List D}{k:IntKind}{z:Int}{own:Option TypeId}(h:CS P G f ds (.d (.int k z)) own){w:World}{R:Nat→Nat→Prop}{args:Array Value}(m:Nat)(hg:a2F G (uR w.heap.size) R w)(hR:∀b o,R b o→b<w.heap.size)(hs:args.size=ds.length)(hv:∀(i:Nat) (d:D),ds[i]? =some d→V R w (args.getD i undef) d):CallsIn Fence.wide m P f args w fun e w'=>e= .returned (.int k z)∧bS NoX w w':=
 callsIn_wide.2 ((h w R args hg hR hs hv).mono fun e w' ⟨v,R',he,hv',hst,_,_⟩=>by
  cases hv' id with
  |d v x hvx=>cases hvx;exact ⟨he,bS.bJ hst⟩)
theorem bS.weaken {X Y:Nat→Prop}{A B:World}(h:bS X A B)(hXY:∀k,X k→Y k):bS Y A B:=⟨h.os,h.tape,h.output,h.size,fun k hk hy=>h.block k hk fun hx=>hy (hXY k hx)⟩
theorem bS.putObj {X:Nat→Prop}(A:World){l:Nat}(hl:X l)(o:Obj):bS X A (A.putObj l o):=⟨rfl,rfl,rfl,by simp,fun k _ hx=>World.putObj_heap_other fun e=>hx (e▸hl)⟩
theorem a1M {X:Nat→Prop}{A B:World}(h:bS X A B)(hX:∀k,X k→A.heap.size≤k):bS NoX A B:=⟨h.os,h.tape,h.output,h.size,fun k hk _=>h.block k hk fun hx=>by have:=hX k hx;omega⟩
theorem b8p (L:List Pr)(l:Nat)(X:Nat→Prop)(R:Nat→Nat→Prop)(w0:World)(hX:∀b o,R b o→ ¬X b)(hR:∀b o,R b o→b<w0.heap.size)(hX2:∀k,X k→k<w0.heap.size)(J Jx:List Pr→World→Prop)(hJ:∀s A B,J s A→bS NoX A B→J s B)(hY:Yields Tryz.prog L l X R w0 J Jx)(p:Pr)(n:Nat)(c0 c1 c2 c3:Value)(W:World)(bx:Nat)(hbx:W.heap[bx]? =some (.cells #[c0,c1,c2,c3] 43 (0,0)))(hN:dF p≤1000000)(hL:a0q p=L)(hv:V R w0 (.agg #[c0,c1,c2,c3]) (.agg (qR p)))(hW:bS X w0 W)(hJ0:J [] W):
  CallsIn Fence.wide n Tryz.prog 237 #[.func (.yield l) #[] #[],.pointer (some ⟨bx,0,none⟩)] W fun e W'=>∃v,e= .returned v∧((J L W'∧bS X W W')∨∃q,q <+:L∧Jx q W'∧bS X W W'):=by
 have hvis:=c4f L l X R w0 hX hR hX2 J Jx hJ hY p (n-1) _ [] W hN (by rw [List.nil_append,hL];exact List.prefix_rfl) hv hW hJ0;obtain ⟨ao,cap,nm,he,_⟩:=c4d hv;simp only [Value.agg.injEq,Array.mk.injEq,List.cons.injEq,and_true] at he;obtain ⟨rfl,rfl,rfl,rfl⟩:=he;have e0:W.cell? ⟨bx,0,none⟩=some (.int .i64 p.op):=by unfold World.cell?;rw [hbx];rfl
 have e1:W.cell? ⟨bx,1,none⟩=some (.string nm):=by unfold World.cell?;rw [hbx];rfl
 have e2:W.cell? ⟨bx,2,none⟩=some (.int .i64 p.n):=by unfold World.cell?;rw [hbx];rfl
 have e3:W.cell? ⟨bx,3,none⟩=some (.slice ao p.kids.length cap):=by unfold World.cell?;rw [hbx];rfl
 refine callsIn_of_wp Tryz.func237 rfl trivial ?_ rfl
 simp only [Tryz.ntmps237,List.size_toArray,List.length_cons,List.length_nil,Nat.reduceAdd,Nat.reduceSub,Array.replicate_succ,Array.replicate_zero,List.push_toArray,List.append_toArray,List.nil_append,List.cons_append]
 gi_wp2
 refine ⟨trivial,fun h=>(by cases h),hvis.mono ?_⟩;rintro e W4 (⟨rfl,hJ4,hK4⟩|⟨rfl,q,hq,hJ4,hK4⟩)
 ·gi_wp2
  first|go_ret|go_ret2|go_end0
  rw [hL] at hJ4;exact ⟨_,rfl,.inl ⟨hJ4,hK4⟩⟩
 ·gi_wp2
  first|go_ret|go_ret2|go_end0
  rw [hL] at hq;exact ⟨_,rfl,.inr ⟨q,hq,hJ4,hK4⟩⟩
theorem c1s (n:Nat)(c0 c1 c2 c3:Value)(W:World):CallsIn Fence.wide n Tryz.prog 216 #[.agg #[c0,c1,c2,c3]] W fun e W'=>e= .returned (.func (.func 237) #[] #[.pointer (some ⟨W.heap.size,0,none⟩)])∧W'=W.alloc (.cells #[c0,c1,c2,c3] 43):=by
 refine callsIn_of_wp Tryz.func216 rfl trivial ?_ rfl
 simp only [Tryz.ntmps216,List.size_toArray,List.length_cons,List.length_nil,Nat.reduceAdd,Nat.reduceSub,Array.replicate_succ,Array.replicate_zero,List.push_toArray,List.append_toArray,List.nil_append,List.cons_append]
 gi_wp2
 first|go_ret|go_ret2|go_end0
 exact ⟨rfl,rfl⟩
theorem c4g (n:Nat){g:Operand}{ps:Array Tmp}{assign body:Code}{Q:Exit→Act→World→Prop}{a:Act}{W:World}{bx:Nat}{c0 c1 c2 c3:Value}(hg:a.eval g= .func (.func 237) #[] #[.pointer (some ⟨bx,0,none⟩)])(hbx:W.heap[bx]? =some (.cells #[c0,c1,c2,c3] 43 (0,0)))(hps:ps.size=1){R:Nat→Nat→Prop}{p:Pr}(hv:V R W (.agg #[c0,c1,c2,c3]) (.agg (qR p)))(hN:dF p≤1000000)(hR:∀b o,R b o→b<W.heap.size)(b1:Nat)(hb1:b1<W.heap.size)(hRb:∀b o,R b o→b≠b1)(hbb:bx≠b1)(I Ix:List Pr→World→Prop)(hI:∀s A B,I s A→(∀k,k<W.heap.size→B.heap[k]? =A.heap[k]?)→I s B)(hIx:∀s A B,Ix s A→(∀k,k<W.heap.size→B.heap[k]? =A.heap[k]?)→Ix s B)(h0:I [] W)(hround:∀(m l:Nat) (pre:List Pr) (q:Pr) (vq:Value) (W1:World),W.heap.size≤l→l<W1.heap.size→pre++[q] <+:a0q p→V R W vq (.agg (qR q))→bS (fun k=>k=b1) W W1→I pre W1→
   assign.wpIn (Fence.wide.inRound l) m Tryz.prog (Exit.then (fun a₁ w₁=>bS NoX W1 w₁∧∀w2,bS (fun k=>k=l) w₁ w2→body.wpIn (Fence.wide.inRound l) m Tryz.prog (fun e _ w3=>match e with
    | .normal=>bS (fun k=>k=b1) w2 w3∧I (pre++[q]) w3
    | .ret=>bS (fun k=>k=b1) w2 w3∧Ix (pre++[q]) w3
    |_=>False) a₁ w2) (fun _ _ _=>False)) { tmps:=(ps.zip #[vq]).foldl (fun t (p,v)=>t.setIfInBounds p v) a.tmps,defers:=[] } W1)(hdone:∀(D:Nat) (W':World),W.heap.size≤D→I (a0q p) W'→bS (fun k=>k=b1) W W'→W'.heap[D]? =some (.deferred (some []))→Q .normal { a with defers:={ target:= .collected D,args:= #[] }::a.defers } W')(hstop:∀(D:Nat) (pre:List Pr) (W':World),W.heap.size≤D→pre <+:a0q p→Ix pre W'→bS (fun k=>k=b1) W W'→W'.heap[D]? =some (.deferred (some []))→Q .ret { a with defers:={ target:= .collected D,args:= #[] }::a.defers } W'):
  (Code.rangeFunc g ps assign body).wpIn Fence.wide n Tryz.prog Q a W:=by
 refine wpIn_rangeFunc ?_
 intro fn hfn;rw [show Fence.wide.round=none from rfl];obtain ⟨rec,hrec⟩:∃rec:LoopState→Option Code→Loop,rec=fun st pe=>{ state:=st,pending:=pe,fn,tmps:=a.tmps,params:=ps,assign,body,defers:=W.heap.size }:=⟨_,rfl⟩
 obtain ⟨W1,hW1⟩:∃W1,(W.alloc (.deferred (some []))).alloc (.loop (rec .ready none))=W1:=⟨_,rfl⟩;have hL1:W1.heap[W.heap.size+1]? =some (.loop (rec .ready none)):=by rw [← hW1];have:=World.alloc_heap_new (W.alloc (.deferred (some []))) (.loop (rec .ready none));rwa [World.size_alloc] at this
 have hD1:W1.heap[W.heap.size]? =some (.deferred (some [])):=by rw [← hW1];exact (Below.heap_alloc _ _ _ (by simp)).trans (World.alloc_heap_new W _)
 have hK1:bS NoX W W1:=by rw [← hW1];exact ((bS.refl _ _).alloc _).alloc _
 have hs1:W1.heap.size=W.heap.size+2:=by rw [← hW1];simp
 have hI1:I [] W1:=hI _ _ _ h0 fun k hk=>hK1.block k hk id
 have hv1:V R W1 (.agg #[c0,c1,c2,c3]) (.agg (qR p)):=hv.step (fun _ _ h=>h) fun b o hbo=>hK1.cell (hR b o hbo) id
 have hfin:∀ {A:World},bS (fun k=>k=W.heap.size+1∨k=b1) W1 A→bS (fun k=>k=b1) W A:=fun h=>⟨h.os.trans hK1.os,h.tape.trans hK1.tape,h.output.trans hK1.output,Nat.le_trans hK1.size h.size,fun k hk hx=>(h.block k (by omega) (by rintro (e|e);(· omega);exact hx e)).trans (hK1.block k hk id)⟩
 refine ⟨W.heap.size+1,[{ target:= .collected W.heap.size,args:= #[] }],W1,{ target:= .fn (.func 237) #[.pointer (some ⟨bx,0,none⟩)],args:= #[.func (.yield (W.heap.size+1)) #[] #[]] },W1,237,
  #[.func (.yield (W.heap.size+1)) #[] #[],.pointer (some ⟨bx,0,none⟩)],W1,?_,?_,?_,?_,fun h=>(by cases h),?_⟩
 ·rw [← hW1,hrec];exact run_enterLoop_outer _ _ _ _ _
 ·simp only [resolve,hg];simp [go_sem]
 ·exact fun f' _=>trivial
 ·simp [invoke,go_sem,enters_of Tryz.func237 (by kernel_rfl) rfl]
 ·refine (b8p (a0q p) (W.heap.size+1) (fun k=>k=W.heap.size+1∨k=b1) R W1 (fun b o hbo=>by rintro (e|e);(· have:=hR b o hbo;omega);exact hRb b o hbo e) (fun b o hbo=>by have:=hR b o hbo;omega) (fun k hk=>by rcases hk with e|e<;>omega)
   (fun pre A=>I pre A∧A.heap[W.heap.size+1]? =some (.loop (rec .ready none))∧A.heap[W.heap.size]? =some (.deferred (some [])))
   (fun pre A=>Ix pre A∧A.heap[W.heap.size+1]? =some (.loop (rec .done (some .ret)))∧A.heap[W.heap.size]? =some (.deferred (some [])))
   ?hj ?hy p _ c0 c1 c2 c3 W1 bx ((hK1.block _ (d7f.1 hbx).1 id).trans hbx) hN rfl hv1 (bS.refl _ _) ⟨hI1,hL1,hD1⟩).mono ?_
  case hj=>rintro s A B ⟨hi,hl,hd⟩ hk;have hlt:W.heap.size+1<A.heap.size:=(d7f.1 hl).1;exact ⟨hI _ _ _ hi fun k hk'=>hk.block k (by omega) id,(hk.block _ hlt id).trans hl,(hk.block _ (by omega) id).trans hd⟩
  case hy=>
   rintro m pre vq q A hpre hvq hKA ⟨hi,hl,hd⟩;have hlt:W.heap.size+1<A.heap.size:=(d7f.1 hl).1;have hy:=run_yield (P:=Tryz.prog) (args:= #[vq]) hl (by rw [hrec];exact hps.symm);rw [hrec] at hy;refine ⟨fn,_,assign,body,hy,roundIn_of_wpIn hfn ?_⟩
   clear hy
   have hvW:V R W vq (.agg (qR q)):=hvq.step (fun _ _ h=>h) fun b o hbo=>(hK1.cell (hR b o hbo) id).symm
   refine wpIn_mono (hround m (W.heap.size+1) pre q vq A (by omega) hlt hpre hvW (hfin hKA) hi) ?_
   rintro e a1 w1 hq;cases e with
   |normal=>
    obtain ⟨hka,hbody⟩:=hq;have hl1:=(hka.block _ hlt id).trans hl;refine ⟨_,run_beginRound hl1 (by rw [hrec]),?_⟩;have hkb:bS (fun k=>k=W.heap.size+1) w1 (w1.putObj (W.heap.size+1) (.loop { rec .ready none with state:= .busy })):=bS.putObj (X:=fun k=>k=W.heap.size+1) _ rfl _;have hl2:(w1.putObj (W.heap.size+1) (.loop { rec .ready none with state:= .busy })).heap[W.heap.size+1]? =some (.loop { rec .ready none with state:= .busy }):=World.putObj_heap_same (d7f.1 hl1).1
    have hsz:=hka.size;refine wpIn_mono (hbody _ hkb) ?_
    have fin:∀(jump:Option Code) (w3:World),bS (fun k=>k=b1) (w1.putObj (W.heap.size+1) (.loop { rec .ready none with state:= .busy })) w3→
      (Instr.endRound (W.heap.size+1) jump).run Tryz.prog w3= .ok (.bool jump.isNone) (w3.putObj (W.heap.size+1) (.loop (rec (if jump.isNone then .ready else .done) jump)))∧
      (w3.putObj (W.heap.size+1) (.loop (rec (if jump.isNone then .ready else .done) jump))).heap[W.heap.size+1]? =some (.loop (rec (if jump.isNone then .ready else .done) jump))∧
      (w3.putObj (W.heap.size+1) (.loop (rec (if jump.isNone then .ready else .done) jump))).heap[W.heap.size]? =some (.deferred (some []))∧
      bS (fun k=>k=W.heap.size+1∨k=b1) A (w3.putObj (W.heap.size+1) (.loop (rec (if jump.isNone then .ready else .done) jump))):=fun jump w3 hk3=>by
     have hl3:=(hk3.block _ (by simp;omega) (by omega)).trans hl2;have:=run_endRound (P:=Tryz.prog) jump hl3;rw [hrec] at this ⊢;refine ⟨this,World.putObj_heap_same (d7f.1 hl3).1,?_,?_⟩
     ·refine (World.putObj_heap_other (by omega)).trans ((hk3.block _ (by simp;omega) (by omega)).trans ?_);exact (World.putObj_heap_other (by omega)).trans ((hka.block _ (by omega) id).trans hd)
     ·exact (hka.weaken fun _ h=>h.elim).trans ((hkb.weaken fun _ h=> .inl h).trans ((hk3.weaken fun _ h=> .inr h).trans (bS.putObj _ (.inl rfl) _)))
    rintro e a3 w3 hp;cases e with
    |normal=>obtain ⟨hk3,hi3⟩:=hp;obtain ⟨h1,h2,h3,h4⟩:=fin none w3 hk3;exact ⟨_,_,h1,.inl ⟨rfl,⟨hI _ _ _ hi3 fun k hk=>World.putObj_heap_other (by omega),h2,h3⟩,h4⟩⟩
    |ret=>obtain ⟨hk3,hi3⟩:=hp;obtain ⟨h1,h2,h3,h4⟩:=fin (some .ret) w3 hk3;exact ⟨_,_,h1,.inr ⟨rfl,⟨hIx _ _ _ hi3 fun k hk=>World.putObj_heap_other (by omega),h2,h3⟩,h4⟩⟩
    |exit id=>exact hp.elim
    |goto t=>exact hp.elim
    |panic ch=>exact hp.elim
    |outgrown=>exact hp.elim
   |ret=>exact hq.elim
   |exit id=>exact hq.elim
   |goto t=>exact hq.elim
   |panic ch=>exact hq.elim
   |outgrown=>exact hq.elim
  ·rintro e W2 ⟨v,rfl,(⟨⟨hi,hl,hd⟩,hK⟩|⟨pre,hpre,⟨hi,hl,hd⟩,hK⟩)⟩
   ·refine ⟨none,_,by have:=run_endLoop (P:=Tryz.prog) hl (by rw [hrec];simp);rw [hrec] at this;exact this,?_⟩;exact hdone _ _ (d7m _) (hI _ _ _ hi fun k hk=>World.putObj_heap_other (by omega)) (hfin (hK.trans (bS.putObj _ (.inl rfl) _))) ((World.putObj_heap_other (by omega)).trans hd)
   ·refine ⟨some .ret,_,by have:=run_endLoop (P:=Tryz.prog) hl (by rw [hrec];simp);rw [hrec] at this;exact this,?_⟩;exact wpIn_ret (hstop _ pre _ (d7m _) hpre (hIx _ _ _ hi fun k hk=>World.putObj_heap_other (by omega)) (hfin (hK.trans (bS.putObj _ (.inl rfl) _))) ((World.putObj_heap_other (by omega)).trans hd))
theorem a1N {W:World}{b:Nat}{v:Value}{T:TypeId}(h:W.heap[b]? =some (.cells #[v] T (0,0))):W.cell? ⟨b,0,none⟩=some v∧W.frozen? ⟨b,0,none⟩=false:=by unfold World.cell? World.frozen?;rw [h];simp
theorem vC {W:World}{b:Nat}{cs:Array Value}{T:TypeId}(h:W.heap[b]? =some (.cells cs T (0,0)))(j:Nat)(v:Value)(hj:cs[j]? =some v):W.cell? ⟨b,j,none⟩=some v:=by unfold World.cell?;rw [h];simp [hj]
theorem b3E {W:World}{b:Nat}{v:Value}{T:TypeId}(h:W.heap[b]? =some (.cells #[v] T (0,0)))(u:Value):(W.setCell ⟨b,0,none⟩ u).heap[b]? =some (.cells #[u] T (0,0)):=by
 obtain ⟨hlt,hh⟩:=d7f.1 h
 show (W.heap.modify b _)[b]? =_
 rw [d7o (by rw [Array.size_modify];exact hlt),Array.getElem_modify_self,hh];simp
theorem bS.set {X:Nat→Prop}(A:World){b:Nat}(hl:X b)(u:Value):bS X A (A.setCell ⟨b,0,none⟩ u):=⟨rfl,rfl,rfl,by show A.heap.size≤(A.heap.modify _ _).size;rw [Array.size_modify];exact d7m _,fun k _ hx=>Below.heap_setCell A ⟨b,0,none⟩ u k fun e=>hx (by rw [show k=b from e];exact hl)⟩
def a0r (e:Pr→Int):List Pr→Int
 |[]=>0
 |p::r=>if e p=0 then a0r e r else e p
theorem a6Z {e:Pr→Int}:∀ {l:List Pr},(∀q∈l,e q=0)→a0r e l=0
 |[],_=>rfl
 |p::r,h=>by rw [a0r,if_pos (h p (by simp))];exact a6Z fun q hq=>h q (by simp [hq])
theorem b2d {e:Pr→Int}{p:Pr}:∀ {l r:List Pr},(∀q∈l,e q=0)→e p≠0→a0r e (l++p::r)=e p
 |[],r,_,hp=>by simp [a0r,hp]
 |q::l,r,h,hp=>by rw [List.cons_append,a0r,if_pos (h q (by simp))];exact b2d (fun q hq=>h q (by simp [hq])) hp
def b3F (e:Pr→Int)(p:Pr):Int:=if 400<dF p then 7 else if 40<a9j p then 8 else a0r e (a0q p)
theorem b0O {G:GT}(e:Pr→Int)(p:Pr)(hN:dF p≤1000000)(hNod:CS Tryz.prog G 214 [.agg (qR p)] (.d (.int .i64 (dF p))) none)(hDep:CS Tryz.prog G 215 [.agg (qR p)] (.d (.int .i64 (a9j p))) none)(hnode:∀q∈a0q p,CS Tryz.prog G 217 [.agg (qR q)] (.d (.int .i64 (e q))) none):CS Tryz.prog G 199 [.agg (qR p)] (.d (.int .i64 (b3F e p))) none:=by
 refine CS.b9y fun w R args hg hR hs hv=>?_
 have ha:args= #[args.getD 0 undef]:=by
  obtain ⟨l⟩:=args
  match l,hs with
  |[a],_=>rfl
 have hv0:=hv 0 _ rfl;rw [ha];generalize args.getD 0 undef=v at hv0
 clear hv ha hs args
 obtain ⟨ao,cap,nm,rfl,hk⟩:=c4d hv0;refine (callsIn_wide (n:=10)).1 (callsIn_of_wp_marks Tryz.func199 rfl trivial ?_ rfl);simp only [Tryz.ntmps199,List.size_toArray,List.length_cons,List.length_nil,Nat.reduceAdd,Nat.reduceSub,Array.replicate_succ,Array.replicate_zero,List.push_toArray,List.append_toArray,List.nil_append,List.cons_append];have xL:∀ {f:FuncId} {z:Int} (m:Nat) (q:Pr) (vq:Value) (W:World),CS Tryz.prog G f [.agg (qR q)] (.d (.int .i64 z)) none→V R w vq (.agg (qR q))→bS NoX w W→
   CallsIn Fence.wide m Tryz.prog f #[vq] W fun e w'=>e= .returned (.int .i64 z)∧bS NoX W w':=fun m q vq W hc hvq hW=>by
  refine c9b hc (R:=R) m (c1r hg hW.size hR fun k hk=>hW.block k hk id) (fun b o hbo=>Nat.lt_of_lt_of_le (hR b o hbo) hW.size) rfl fun i d hd=>?_
  match i,hd with
  |0,hd=>cases hd;exact hvq.step (fun _ _ h=>h) fun b o hbo=>hW.cell (hR b o hbo) id
 gi_wp2
 obtain ⟨W2,hW2⟩:∃W2,(w.alloc (.cells #[.int .i64 p.op,.string nm,.int .i64 p.n,.slice ao p.kids.length cap] 43)).alloc (.cells #[.int .i64 0] 31)=W2:=⟨_,rfl⟩;have hK2:bS NoX w W2:=by rw [← hW2];exact ((bS.refl _ _).alloc _).alloc _
 have hs2:W2.heap.size=w.heap.size+2:=by rw [← hW2];simp
 have hB2:W2.heap[w.heap.size+1]? =some (.cells #[.int .i64 0] 31 (0,0)):=by rw [← hW2];have:=World.alloc_heap_new (w.alloc (.cells #[.int .i64 p.op,.string nm,.int .i64 p.n,.slice ao p.kids.length cap] 43)) (.cells #[.int .i64 0] 31);rwa [World.size_alloc] at this
 have hA2:W2.heap[w.heap.size]? =some (.cells #[.int .i64 p.op,.string nm,.int .i64 p.n,.slice ao p.kids.length cap] 43 (0,0)):=by rw [← hW2];exact (Below.heap_alloc _ _ _ (by simp)).trans (World.alloc_heap_new w _)
 rw [hW2];refine ⟨trivial,(xL _ p _ _ hNod hv0 hK2).mono ?_⟩;rintro _ W3 ⟨rfl,hK3⟩;have hB3:=(hK3.block _ (by omega) id).trans hB2;have hA3:=(hK3.block _ (by omega) id).trans hA2;have hs3:=hK3.size;obtain ⟨hc3,hf3⟩:=a1N hB3;have q0:=(vC hA3 0 _ rfl);have q1:=(vC hA3 1 _ rfl);have q2:=(vC hA3 2 _ rfl);have q3:=(vC hA3 3 _ rfl);have fin:∀ {W:World} {z:Int} {K:World},K.heap[w.heap.size+1]? =some (.cells #[.int .i64 z] 31 (0,0))→bS NoX w W→z=b3F e p→∃v,Ending.returned (.int .i64 z)= .returned v∧V R W v (.int .i64 (b3F e p))∧Below w.heap.size w W:=fun h hk hz=>⟨_,rfl,hz▸ .int _ _,⟨hk.os,hk.tape,hk.output,hk.size,fun k h'=>hk.block k h' id⟩⟩
 by_cases h1:400<dF p
 ·gi_wp2
  have hS:=b3E hB3 (.int .i64 7);have hc:=(a1N hS).1;exact ⟨_,by simp [results,Tryz.f199,go_sem,hc],fin hS (a1M (((hK2.trans hK3).weaken fun _ h=>h.elim).trans (bS.set (X:=fun k=>k=w.heap.size+1) _ rfl _)) (by intro k hk;omega)) (by simp [b3F,h1])⟩
 ·gi_wp2
  refine ⟨trivial,(xL _ p _ _ hDep hv0 (hK2.trans hK3)).mono ?_⟩;rintro _ W4 ⟨rfl,hK4⟩;have hs4:=hK4.size;have hB4:=(hK4.block _ (by omega) id).trans hB3;have hA4:=(hK4.block _ (by omega) id).trans hA3;obtain ⟨hc4,hf4⟩:=a1N hB4;have r0:=(vC hA4 0 _ rfl);have r1:=(vC hA4 1 _ rfl);have r2:=(vC hA4 2 _ rfl);have r3:=(vC hA4 3 _ rfl);have hKw4:=(hK2.trans hK3).trans hK4;by_cases h2:40<a9j p
  ·gi_wp2
   have hS:=b3E hB4 (.int .i64 8);have hc:=(a1N hS).1;exact ⟨_,by simp [results,Tryz.f199,go_sem,hc],fin hS (a1M ((hKw4.weaken fun _ h=>h.elim).trans (bS.set (X:=fun k=>k=w.heap.size+1) _ rfl _)) (by intro k hk;omega)) (by simp [b3F,h1,h2])⟩
  ·gi_wp2
   refine ⟨trivial,(c1s _ _ _ _ _ _).mono ?_⟩;rintro _ W5 ⟨rfl,rfl⟩
   gi_wp2
   obtain ⟨W5,hW5⟩:∃W5,W4.alloc (.cells #[.int .i64 p.op,.string nm,.int .i64 p.n,.slice ao p.kids.length cap] 43)=W5:=⟨_,rfl⟩;have hK5:bS NoX W4 W5:=by rw [← hW5];exact (bS.refl _ _).alloc _
   have hB5:=(hK5.block _ (by omega) id).trans hB4;have hA5:W5.heap[W4.heap.size]? =some (.cells #[.int .i64 p.op,.string nm,.int .i64 p.n,.slice ao p.kids.length cap] 43 (0,0)):=by rw [← hW5];exact World.alloc_heap_new _ _
   have hs5:W5.heap.size=W4.heap.size+1:=by rw [← hW5];simp
   have hKw5:=hKw4.trans hK5;rw [hW5];refine c4g 10 (W:=W5) (R:=R) (p:=p) rfl hA5 rfl (hv0.step (fun _ _ h=>h) fun b o hbo=>hKw5.cell (hR b o hbo) id) hN (fun b o hbo=>by have:=hR b o hbo;omega) (w.heap.size+1) (by omega) (fun b o hbo=>by have:=hR b o hbo;omega) (by omega)
    (fun pre A=>A.heap[w.heap.size+1]? =some (.cells #[.int .i64 0] 31 (0,0))∧∀q∈pre,e q=0)
    (fun pre A=>∃pre' q,pre=pre'++[q]∧(∀x∈pre',e x=0)∧e q≠0∧A.heap[w.heap.size+1]? =some (.cells #[.int .i64 (e q)] 31 (0,0)))
    (fun s A B h hk=>⟨(hk _ (by omega)).trans h.1,h.2⟩) (fun s A B ⟨pre',q,h1,h2,h3,h4⟩ hk=>⟨pre',q,h1,h2,h3,(hk _ (by omega)).trans h4⟩) ⟨hB5,by simp⟩ ?hround ?hdone ?hstop
   case hround=>
    rintro m l pre q vq W6 hl hl6 hpre hvq hK6 ⟨hB6,hz⟩;obtain ⟨ao2,cap2,nm2,rfl,_⟩:=c4d hvq;have hqm:q∈a0q p:=hpre.subset (by simp);have hvw:V R w _ (.agg (qR q)):=hvq.step (fun _ _ h=>h) fun b o hbo=>(hKw5.cell (hR b o hbo) id).symm
    gi_wp2
    refine ⟨(bS.refl _ _).alloc _,fun w2 hk2=>?_⟩;have hA7:=(hk2.block W6.heap.size (by simp) (by omega)).trans (World.alloc_heap_new _ _);have hs6:=hK6.size;have hB7:=((hk2.block (w.heap.size+1) (by simp;omega) (by omega)).trans (Below.heap_alloc _ _ _ (by omega))).trans hB6;have hs7:=hk2.size;simp only [World.size_alloc] at hs7;have hKw7:bS NoX w w2:=a1M (X:=fun k=>k=w.heap.size+1∨k=l) ((hKw5.weaken fun _ h=>h.elim).trans ((hK6.weaken fun _ h=> .inl h).trans (((bS.refl _ _).alloc _).trans (hk2.weaken fun _ h=> .inr h)))) (by rintro k (hk|hk)<;>omega);have t0:=(vC hA7 0 _ rfl);have t1:=(vC hA7 1 _ rfl);have t2:=(vC hA7 2 _ rfl);have t3:=(vC hA7 3 _ rfl)
    gi_wp2
    refine ⟨trivial,fun h=>(by cases h),(CallsIn.inRound l (xL _ q _ _ (hnode q hqm) hvw hKw7)).mono ?_⟩;rintro _ W8 ⟨rfl,hK8⟩;have hB8:=(hK8.block _ (by omega) id).trans hB7;obtain ⟨hc8,hf8⟩:=a1N hB8;by_cases he:e q=0
    ·gi_wp2
     have hall:∀x,x∈pre∨x=q→e x=0:=fun x hx=>hx.elim (hz x) fun hx=>by subst hx;exact he
     first|exact hall|exact ⟨hK8.up,hall⟩|exact ⟨hK8.up,hB8,hall⟩
    ·gi_wp2
     have hS:=b3E hB8 (.int .i64 (e q));exact ⟨hK8.up.trans (bS.set (X:=fun k=>k=w.heap.size+1) _ rfl _),pre,q,⟨rfl,rfl⟩,hz,he,hS⟩
   case hdone=>
    rintro D W' hD ⟨hB',hz⟩ hK' hD';obtain ⟨hc',hf'⟩:=a1N hB'
    gi_wp2
    have hS:=b3E hB' (.int .i64 0);have hDs:=((bS.set (X:=fun k=>k=w.heap.size+1) W' rfl (.int .i64 0)).block D (d7f.1 hD').1 (by omega)).trans hD';refine ⟨by simp,.inl ⟨_,_,rfl,run_takeDeferred hDs,?_⟩⟩;have hS2:=(World.putObj_heap_other (r:=D) (o:= .deferred none) (show w.heap.size+1≠D by omega)).trans hS;have hc:=(a1N hS2).1;exact ⟨_,by simp [results,Tryz.f199,go_sem,hc],fin hS2 (a1M (X:=fun k=>k=w.heap.size+1∨k=D) ((hKw5.weaken fun _ h=>h.elim).trans ((hK'.weaken fun _ h=> .inl h).trans ((bS.set (X:=fun k=>k=w.heap.size+1∨k=D) _ (.inl rfl) _).trans (bS.putObj _ (.inr rfl) _)))) (by rintro k (hk|hk)<;>omega)) (by simp [b3F,h1,h2,a6Z hz])⟩
   case hstop=>
    rintro D pre W' hD hpre ⟨pre',q,rfl,hz,hq,hB'⟩ hK' hD'
    gi_wp2
    refine ⟨by simp,.inl ⟨_,_,rfl,run_takeDeferred hD',?_⟩⟩;have hS2:=(World.putObj_heap_other (r:=D) (o:= .deferred none) (show w.heap.size+1≠D by omega)).trans hB';have hc:=(a1N hS2).1;have hfe:a0r e (a0q p)=e q:=by obtain ⟨r,hr⟩:=hpre;rw [← hr,List.append_assoc];exact b2d hz hq
    exact ⟨_,by simp [results,Tryz.f199,go_sem,hc],fin hS2 (a1M (X:=fun k=>k=w.heap.size+1∨k=D) ((hKw5.weaken fun _ h=>h.elim).trans ((hK'.weaken fun _ h=> .inl h).trans (bS.putObj _ (.inr rfl) _))) (by rintro k (hk|hk)<;>omega)) (by simp [b3F,h1,h2,hfe])⟩
end Go.Proofs.YtjpodcmhcenjjaaGreatDoor
end
section
namespace Go.Proofs.YtjpodcmhcenjjaaGreatDoor
open Go Go.VM
variable {G:GT}
def a7n (op:Int):Bool:=decide (op=3)||(decide (op=4)||decide (op=5))
def rL (op:Int):Int:=if op=1∨op=2∨op=3 then 0 else if op=4∨op=5 then 1 else if op=9∨op=14 then 1 else 2
def yC (op:Int):Int:=if op=1∨op=2∨op=3 then 0 else if op=4∨op=5 then 24 else if op=9∨op=14 then 1 else 2
def b9O (l:List Pr):Int:=match l with
 |[]=>1
 |k::_=>k.op
def a7a (op:Int)(nm:Nm):Bool:=(decide (op=3)&&decide (nm=[118]))||(decide (op=4)&&(decide (nm=[116,97,103])||decide (nm=[118,97,108])))
def a3M (op:Int)(nm:Nm)(n:Int)(len:Int):Bool:=(!a7n op&& !decide (nm=[]))||(!decide (op=1)&& !decide (op=2)&& !decide (n=0))||decide (len<rL op)||decide (yC op<len)
def a0s (op n:Int):Bool:=(decide (op=1)&& !inB n)||(decide (op=2)&& !decide (n=0)&& !decide (n=1))
def b2e (p:Pr):Int:=
 if p.op<1∨18<p.op then 1
 else if a3M p.op p.name p.n p.kids.length then 1
 else if a0s p.op p.n then 2
 else if a7n p.op&& !zC p.name&& !a7a p.op p.name then 3
 else if p.op=8∧b9O p.kids≠1 then 6
 else 0
theorem mP:VM.Enters Tryz.prog 240:=VM.Enters.mk Tryz.func240 rfl
theorem oO (op:Int):CS Tryz.prog G 240 [.int .i64 op] (.d (.bool (a7n op))) none:=by
 refine CS.bI Tryz.func240 rfl Tryz.ntmps240 rfl ?_
 by_cases h3:op=3
 ·simp [h3,a7n]
 ·by_cases h4:op=4
  ·simp [h4,a7n]
  ·simp [h3,h4,a7n]
theorem b0P:VM.Enters Tryz.prog 239:=VM.Enters.mk Tryz.func239 rfl
theorem b3G (op:Int):CS Tryz.prog G 239 [.int .i64 op] (.cM [.int .i64 (rL op),.int .i64 (yC op)]) none:=by
 refine CS.bI Tryz.func239 rfl Tryz.ntmps239 rfl ?_
 by_cases h1:op=1
 ·simp [h1,rL,yC]
 by_cases h2:op=2
 ·simp [h2,rL,yC]
 by_cases h3:op=3
 ·simp [h3,rL,yC]
 by_cases h4:op=4
 ·simp [h4,rL,yC]
 by_cases h5:op=5
 ·simp [h5,rL,yC]
 by_cases h9:op=9
 ·simp [h9,rL,yC]
 by_cases h14:op=14
 ·simp [h14,rL,yC]
 ·simp [h1,h2,h3,h4,h5,h9,h14,rL,yC]
theorem c1t {op:Int}(h:a7n op=true):op=3∨op=4∨op=5:=by simpa [a7n] using h
theorem c1u {op:Int}(h:a7n op=false): ¬op=3∧ ¬op=4∧ ¬op=5:=by simpa [a7n] using h
theorem b3H (hG:G 1=some dV)(p:Pr)(hlen:p.kids.length≤900000000):CS Tryz.prog G 217 [.agg (prD p)] (.d (.int .i64 (b2e p))) none:=by
 obtain ⟨op,nm,n,l⟩:=p;simp only at hlen;have hm:b2e ⟨op,nm,n,l⟩=if op<1∨18<op then 1 else if a3M op nm n l.length then 1 else if a0s op n then 2 else if a7n op&& !zC nm&& !a7a op nm then 3 else if op=8∧b9O l≠1 then 6 else 0:=rfl
 refine CS.bI Tryz.func217 rfl Tryz.ntmps217 rfl ?_
 by_cases a1:op<1
 ·simp [a1] at hm;simp [a1,hm]
 by_cases a2:18<op
 ·simp [a2] at hm;simp [a1,a2,hm]
 rw [if_neg (by omega)] at hm;simp [a1,a2];refine aH.mk b0P (b3G op) ?_
 simp;refine aH.mk mP (oO op) ?_
 cases hn:a7n op
 ·obtain ⟨n3,n4,n5⟩:=c1u hn;by_cases b1:nm=[];rotate_left
  ·have b1':nm.isEmpty=false:=by cases nm<;>simp at b1 ⊢
   simp [a3M,hn,b1] at hm;simp (maxSteps:=4000000) [hn,b1,b1',hm]
  subst b1;by_cases o1:op=1
  ·subst o1;have el:rL 1=0:=rfl;have em:yC 1=0:=rfl;by_cases k0:l=[];rotate_left
   ·have kl:0<l.length:=List.length_pos_iff.2 k0;have kl': ¬((l.length:Int)<0):=by omega
    simp [a3M,hn,el,em,kl,kl'] at hm;simp (maxSteps:=4000000) [hn,el,em,kl,kl',hm]
   subst k0;simp [a3M,hn,el,em] at hm;simp (maxSteps:=4000000) [hn,el,em];refine aH.mk b5z (b9A n) ?_
   cases hi:inB n
   ·simp [a0s,hi] at hm;simp [hm]
   ·simp [a0s,hi] at hm;simp;refine aH.mk mP (oO 1) ?_
    simp (maxSteps:=4000000) [hn,hm]
  by_cases o2:op=2
  ·subst o2;have el:rL 2=0:=rfl;have em:yC 2=0:=rfl;by_cases k0:l=[];rotate_left
   ·have kl:0<l.length:=List.length_pos_iff.2 k0;have kl': ¬((l.length:Int)<0):=by omega
    simp [a3M,hn,el,em,kl,kl'] at hm;simp (maxSteps:=4000000) [hn,el,em,kl,kl',hm]
   subst k0;simp [a3M,hn,el,em] at hm;by_cases c0:n=0
   ·simp [a0s,c0] at hm;simp (maxSteps:=4000000) [hn,el,em,c0];refine aH.mk mP (oO 2) ?_
    simp (maxSteps:=4000000) [hn,hm]
   ·by_cases c1:n=1
    ·simp [a0s,c1] at hm;simp (maxSteps:=4000000) [hn,el,em,c1];refine aH.mk mP (oO 2) ?_
     simp (maxSteps:=4000000) [hn,hm]
    ·simp [a0s,c0,c1] at hm;simp (maxSteps:=4000000) [hn,el,em,c0,c1,hm]
  by_cases c0:n=0;rotate_left
  ·simp [a3M,hn,o1,o2,c0] at hm;simp (maxSteps:=4000000) [hn,o1,o2,c0,hm]
  subst c0;by_cases d1:(l.length:Int)<rL op
  ·simp [a3M,hn,d1] at hm;simp (maxSteps:=4000000) [hn,o1,o2,d1,hm]
  by_cases d2:yC op<(l.length:Int)
  ·simp [a3M,hn,d1,d2] at hm;simp (maxSteps:=4000000) [hn,o1,o2,d1,d2,hm]
  simp [a3M,a0s,hn,o1,o2,d1,d2] at hm;simp (maxSteps:=4000000) [hn,o1,o2,d1,d2];refine aH.mk mP (oO op) ?_
  by_cases o8:op=8
  ·subst o8;have el:rL 8=2:=rfl
   match l,d1 with
   |[],d1=>exact absurd (by rw [el];simp) d1
   |k::r,d1=>
    by_cases e1:k.op=1
    ·simp [b9O,e1] at hm;simp (maxSteps:=4000000) [hn,e1,hm]
    ·simp [b9O,e1] at hm;simp (maxSteps:=4000000) [hn,e1,hm]
  ·simp [o8] at hm;simp (maxSteps:=4000000) [hn,o8,hm]
 ·have ho:=c1t hn;have o1: ¬op=1:=by omega
  have o2: ¬op=2:=by omega
  have o8: ¬op=8:=by omega
  by_cases c0:n=0;rotate_left
  ·simp [a3M,hn,o1,o2,c0] at hm;simp (maxSteps:=4000000) [hn,o1,o2,c0,hm]
  subst c0;by_cases d1:(l.length:Int)<rL op
  ·simp [a3M,hn,d1] at hm;simp (maxSteps:=4000000) [hn,o1,o2,d1,hm]
  by_cases d2:yC op<(l.length:Int)
  ·simp [a3M,hn,d1,d2] at hm;simp (maxSteps:=4000000) [hn,o1,o2,d1,d2,hm]
  simp [a3M,a0s,hn,o1,o2,o8,d1,d2] at hm;simp (maxSteps:=4000000) [hn,o1,o2,d1,d2];refine aH.mk mP (oO op) ?_
  simp [hn];refine aH.mk b7R (c0T hG nm) ?_
  cases hc:zC nm;rotate_left
  ·simp [hc] at hm;simp [a7L,o8,hm]
  simp [hc] at hm;simp [a7L];by_cases o3:op=3
  ·subst o3;by_cases v1:nm=[118]
   ·simp [a7a,v1] at hm;simp [v1,hm]
   ·simp [a7a,v1] at hm;simp [v1,hm]
  by_cases o4:op=4
  ·subst o4;by_cases v1:nm=[116,97,103]
   ·simp [a7a,v1] at hm;simp [v1,hm]
   ·by_cases v2:nm=[118,97,108]
    ·simp [a7a,v2] at hm;simp [v2,hm]
    ·simp [a7a,v1,v2] at hm;simp [v1,v2,hm]
  ·simp [a7a,o3,o4] at hm;simp [o3,o4,hm]
theorem a9m:VM.Enters Tryz.prog 214:=VM.Enters.mk Tryz.func214 rfl
theorem b0Q (p:Pr):dF p≤900000000→CS Tryz.prog G 214 [.agg (prD p)] (.d (.int .i64 (dF p))) none:=by
 revert p
 refine Pr.ind fun p ih=>?_
 obtain ⟨op,nm,n,l⟩:=p;intro hN;simp only at ih;have hn:=qH ⟨op,nm,n,l⟩;simp only at hn;have hl:=jX l;refine CS.bI Tryz.func214 rfl Tryz.ntmps214 rfl ?_
 simp;refine SW.kJ (ι:={ i:Nat // i≤l.length }) (fun i=>[(3,.d (.int .i64 (1+eE (l.take i.1):Nat))),(9,.d (.int .i64 i.1))]) (fun _=>[(1,prO op nm n (.sl (l.map qR)))]) (fun _=>[]) (fun i=>l.length-i.1) ⟨0,by simp⟩ (by simp [eE]) ?_
 rintro ⟨i,hi⟩;by_cases hlt:i<l.length
 ·have hg:=vO hlt;have hw:=bO (show i<9223372036854775807 by omega);have hb2:=rJ hlt;have hb3:=kC l (i+1);have hw2:IntKind.i64.wrap (((1+eE (l.take i):Nat):Int)+(dF l[i]:Int))=((1+eE (l.take (i+1)):Nat):Int):=by rw [wrap64 (by omega),hb2];omega
  simp [hlt,hg];refine aH.mk a9m (ih l[i] (List.getElem_mem hlt) (by omega)) ?_
  simp;exact bQ.mk ⟨i+1,hlt⟩ (by simp at hw2;simp [hw,hw2]) (by simp;omega)
 ·have:i=l.length:=by omega
  subst this;simp [hn]
theorem a9n:VM.Enters Tryz.prog 215:=VM.Enters.mk Tryz.func215 rfl
theorem b0R (p:Pr):dF p≤900000000→CS Tryz.prog G 215 [.agg (prD p)] (.d (.int .i64 (a9j p))) none:=by
 revert p
 refine Pr.ind fun p ih=>?_
 obtain ⟨op,nm,n,l⟩:=p;intro hN;simp only at ih;have hn:=qH ⟨op,nm,n,l⟩;have hd:=b9N ⟨op,nm,n,l⟩;simp only at hn hd;have hl:=jX l;have hle:=a4W l 0;refine CS.bI Tryz.func215 rfl Tryz.ntmps215 rfl ?_
 simp;refine SW.kJ (ι:={ i:Nat // i≤l.length }) (fun i=>[(3,.d (.int .i64 (qP (l.take i.1) 0))),(9,.d (.int .i64 i.1))]) (fun _=>[(1,prO op nm n (.sl (l.map qR)))]) (fun _=>[]) (fun i=>l.length-i.1) ⟨0,by simp⟩ (by simp [qP]) ?_
 rintro ⟨i,hi⟩;by_cases hlt:i<l.length
 ·have hg:=vO hlt;have hw:=bO (show i<9223372036854775807 by omega);have hs:=a9k hlt 0;have hb2:=rJ hlt;have hb3:=kC l (i+1);simp [hlt,hg];refine aH.mk a9n (ih l[i] (List.getElem_mem hlt) (by omega)) ?_
  simp;exact bQ.mk ⟨i+1,hlt⟩ (by simp [hw,hs];split<;>omega) (by simp;omega)
 ·have:i=l.length:=by omega
  subst this;have hw:IntKind.i64.wrap ((qP l 0:Int)+1)=((qP l 0+1:Nat):Int):=bO (by omega);simp [hw,hd]
mutual
theorem b6f:∀(p q:Pr),q∈a0q p→dF q≤dF p
 |⟨op,nm,n,l⟩,q,h=>by
  simp only [a0q,List.mem_cons] at h;rcases h with rfl|h
  ·exact d7m _
  ·have:=b2f l q h;simp only [dF];omega
theorem b2f:∀(l:List Pr) (q:Pr),q∈mO l→dF q≤eE l
 |[],q,h=>by simp [mO] at h
 |t::r,q,h=>by
  simp only [mO,List.mem_append] at h;simp only [eE];rcases h with h|h
  ·have:=b6f t q h;omega
  ·have:=b2f r q h;omega
end
def a5R (p:Pr):Int:=b3F b2e p
theorem a9o:VM.Enters Tryz.prog 199:=VM.Enters.mk Tryz.func199 rfl
theorem b0S (hG:G 1=some dV)(p:Pr)(hN:dF p≤1000000):CS Tryz.prog G 199 [.agg (prD p)] (.d (.int .i64 (a5R p))) none:=by
 have h:=b0O (G:=G) b2e p hN (by have:=b0Q (G:=G) p (by omega);rwa [eY]) (by have:=b0R (G:=G) p (by omega);rwa [eY]) (fun q hq=>by
  have h1:=b6f p q hq;have h2:=qH q;have h3:=jX q.kids;have:=b3H hG q (by omega)
  rwa [eY])
 rwa [eY] at h
end Go.Proofs.YtjpodcmhcenjjaaGreatDoor
end
end
namespace Go.Proofs.YtjpodcmhcenjjaaGreatDoor
section
open Go Go.VM
variable {G:GT}
def b0T (p:Pr)(s:Pr×Bool):Option (Pr×Bool):=if a3h p then some s else if a2J p (a1L false) then none else if s.2 then some (⟨15,[],0,[s.1,p]⟩,true) else some (p,true)
def a9p:List Pr→Pr×Bool→Pr
 |[],s=>s.1
 |p::r,s=>match b0T p s with
  |none=>a1L false
  |some s=>a9p r s
def bE (a b:Pr):Pr:=a9p [a,b] (a1L true,false)
theorem b3I:VM.Enters Tryz.prog 129:=VM.Enters.mk Tryz.func129 rfl
theorem a9q (b:Bool):dF (a1L b)=1:=by cases b<;>simp [a1L,b8m,c8Y,dF,eE]
theorem c4h (op:Int)(a b:Pr):dF ⟨op,[],0,[a,b]⟩=dF a+dF b+1:=by simp [dF,eE];omega
theorem b6g (L:List Pr)(hL:∀p∈L,dF p≤1000000)(hl:L.length≤1000):CS Tryz.prog G 129 [.sl (L.map qR)] (.d (.agg (prD (a9p L (a1L true,false))))) none:=by
 generalize hR:a9p L (a1L true,false)=R;refine CS.bI Tryz.func129 rfl Tryz.ntmps129 rfl ?_
 simp;refine aH.mk pG (qM true) ?_
 simp;refine SW.kJ (ι:={ x:Nat×Pr×Bool // x.1≤L.length∧a9p (L.drop x.1) x.2=R }) (fun x=>[(4,.d (.bool x.1.2.2)),(10,.d (.int .i64 x.1.1))]) (fun x=>[(2,.cells [.d (.int .i64 0),.d (.str []),.d (.int .i64 0),.d .aM]),(3,.cells ((prD x.1.2.1).map .d))]) (fun _=>[]) (fun x=>L.length-x.1.1) ⟨(0,a1L true,false),by simpa using hR⟩ (by simp) ?_
 rintro ⟨⟨k,out,some⟩,hk,hp⟩;simp only at hk hp;by_cases hlt:k<L.length
 ·have hg:(L.map qR)[k]? = .some (qR L[k]):=by simp [hlt]
  have hw:=bO (show k<9223372036854775807 by omega);have hd:L.drop k=L[k]::L.drop (k+1):=d7j hlt;have hb:=hL L[k] (List.getElem_mem hlt);rw [hd] at hp;obtain ⟨p,hP⟩:∃p,L[k]=p:=⟨_,rfl⟩;rw [hP] at hg hd hb hp;have hv:=b3C (G:=G) p (by omega);have hs:=vT (G:=G) p (a1L false) (by omega);have hc:=a9l (G:=G) p (by omega);simp only [a9p,b0T] at hp;simp [hlt,hP];refine aH.mk b0N hv ?_
  cases h1:a3h p with
  |true=>rw [h1] at hp;simp;exact bQ.mk ⟨(k+1,out,some),hlt,by simpa using hp⟩ (by simp [hw]) (by simp;omega)
  |false=>
   rw [h1] at hp;simp;refine ⟨mA.mk (by kernel_rfl),?_⟩;refine aH.mk pG (qM false) ?_
   simp;refine aH.mk qX hs ?_
   cases h2:a2J p (a1L false) with
   |true=>
    rw [h2] at hp;simp at hp;simp;refine aH.mk pG (qM false) ?_
    simp [← hp]
   |false=>
    rw [h2] at hp;cases some with
    |true=>
     simp;refine ⟨mA.mk (by kernel_rfl),?_⟩;refine aH.mk vB hc ?_
     simp;exact bQ.mk ⟨(k+1,⟨15,[],0,[out,p]⟩,true),hlt,by simpa using hp⟩ (by simp [hw]) (by simp;omega)
    |false=>
     simp;refine aH.mk vB hc ?_
     simp;exact bQ.mk ⟨(k+1,p,true),hlt,by simpa using hp⟩ (by simp [hw]) (by simp;omega)
 ·have hd:L.drop k=[]:=List.drop_eq_nil_of_le (by omega);rw [hd] at hp;simp only [a9p] at hp;simp [hlt, ← hp]
end
section
open Go Go.VM
variable {G:GT}
abbrev a7o:Ty→DV:=fun t=> .d (.agg (tyD t))
abbrev d6c:Option Ty→DV:=fun o=> .cM [.agg (tyD (o.getD oL)),.bool o.isSome]
theorem a7b:VM.Enters Tryz.prog 74:=VM.Enters.mk Tryz.func74 rfl
theorem a7p:VM.Enters Tryz.prog 123:=VM.Enters.mk Tryz.func123 rfl
theorem a1O:VM.Enters Tryz.prog 77:=VM.Enters.mk Tryz.func77 rfl
theorem cN:VM.Enters Tryz.prog 39:=VM.Enters.mk Tryz.func39 rfl
theorem a4Y:VM.Enters Tryz.prog 124:=VM.Enters.mk Tryz.func124 rfl
section
variable {rdP:List Tok→Nat→Nat→kY Pr} {l:List Tok} (hV:kQ G rdP l)
include hV
theorem a9r (i:Nat)(hi:i<l.length):pF G 74 [] l i (gI aX l i) d6c:=by
 have hl:=hV.len;have ht:=cI (G:=G) l i i 0 (by omega) (by omega) (by intro e;subst e;simp at hi) (by omega);obtain ⟨j0,rfl⟩:∃j0,j0=i:=⟨_,rfl⟩;have p0:j0≤j0∧j0<l.length:=⟨d7m _,hi⟩;refine kF.cV Tryz.func74 rfl Tryz.ntmps74 rfl (by simp) ?_
 intro Q Q0;simp;cases h1:aI l j0 [73,110,116] with
 |true=>
  refine bG (ds:=[.str [73,110,116]]) (d:= .d (.bool true)) aD (aU l j0 [73,110,116] p0.2 (by omega) h1) (by simp) (by simp) ?_
  have p1:j0+1≤j0+1∧j0+1<l.length:=⟨d7m _,aF hV.fin p0.2 h1⟩;simp;exact Q0.ok _ (j0+1) _ _ (by unfold gI;rw [if_pos h1]) (.inr rfl) (by simp [psT,kS])
 |false=>
 refine bG (ds:=[.str [73,110,116]]) (d:= .d (.bool false)) aD (aV l j0 [73,110,116] p0.2 (by omega) h1) (by simp) (by simp) ?_
 simp;cases h2:aI l j0 [66,111,111,108] with
 |true=>
  refine bG (ds:=[.str [66,111,111,108]]) (d:= .d (.bool true)) aD (aU l j0 [66,111,111,108] p0.2 (by omega) h2) (by simp) (by simp) ?_
  have p1:j0+1≤j0+1∧j0+1<l.length:=⟨d7m _,aF hV.fin p0.2 h2⟩;simp;exact Q0.ok _ (j0+1) _ _ (by unfold gI;rw [if_neg (by rw [h1];decide),if_pos h2]) (.inr rfl) (by simp [psT,kS])
 |false=>
 refine bG (ds:=[.str [66,111,111,108]]) (d:= .d (.bool false)) aD (aV l j0 [66,111,111,108] p0.2 (by omega) h2) (by simp) (by simp) ?_
 simp;cases h3:aI l j0 [67,101,108,108] with
 |true=>
  refine bG (ds:=[.str [67,101,108,108]]) (d:= .d (.bool true)) aD (aU l j0 [67,101,108,108] p0.2 (by omega) h3) (by simp) (by simp) ?_
  have p1:j0+1≤j0+1∧j0+1<l.length:=⟨d7m _,aF hV.fin p0.2 h3⟩;simp;exact Q0.ok _ (j0+1) _ _ (by unfold gI;rw [if_neg (by rw [h1];decide),if_neg (by rw [h2];decide),if_pos h3]) (.inr rfl) (by simp [psT,kS])
 |false=>
 refine bG (ds:=[.str [67,101,108,108]]) (d:= .d (.bool false)) aD (aV l j0 [67,101,108,108] p0.2 (by omega) h3) (by simp) (by simp) ?_
 simp;refine bG (ds:=[.int .i64 0]) bP ht (by simp) (by simp) ?_
 simp;refine kP.mk jF (kD hV.kw (aJ l j0)) ?_
 cases h4:gU aX (aJ l j0) with
 |true=>simp;refine cF (ds:=[]) cO (dI hV.kw l j0 hi (by omega)) (by simp) (by simp) (fun s j hx=>?_) (fun n e hx=>by unfold bL mK at hx;rw [if_pos h4] at hx;cases hx);unfold bL mK at hx;rw [if_pos h4] at hx;cases hx;simp;exact Q0.ok _ (j0+1) _ _ (by unfold gI;rw [if_neg (by rw [h1];decide),if_neg (by rw [h2];decide),if_neg (by rw [h3];decide),if_pos h4]) (.inr rfl) (by simp [psT,kS])
 |false=>simp;exact Q0.ok none j0 _ _ (by unfold gI;rw [if_neg (by rw [h1];decide),if_neg (by rw [h2];decide),if_neg (by rw [h3];decide),if_neg (by rw [h4];decide)]) (.inr rfl) (by simp [oL,kS])
theorem a9s (i:Nat)(hi:i<l.length):CH Tryz.prog G 123 ⟨[.ptr 100000 0],rH l i,[]⟩ ⟨[.d (.bool (a8J aX l i))],rH l i,[]⟩:=by
 have hl:=hV.len;have ht:=cI (G:=G) l i i 0 (by omega) (by omega) (by intro e;subst e;simp at hi) (by omega);have hb:=gZ (G:=G) l i [123] hi (by omega);have hc:=gZ (G:=G) l i [40] hi (by omega);have hw:=kD hV.kw (aJ l i);unfold a8J;refine CH.bI Tryz.func123 rfl Tryz.ntmps123 rfl (by simp) ?_
 simp;refine b3y (i:=i) (ds:=[.int .i64 0]) bP ht (by simp) (by simp) (by simp) ?_
 generalize aJ l i=T at ht hw ⊢;obtain ⟨k,x,n,ln⟩:=T;simp [cJ];refine aH.mk jF hw ?_
 cases h1:gU aX ⟨k,x,n,ln⟩ with
 |true=>simp
 |false=>
  by_cases h2:k=2
  ·simp [h2,kT]
  ·simp [h2,kT];refine b3y (i:=i) (ds:=[.str [123]]) eT hb (by simp) (by simp) (by simp) ?_
   cases h3:aI l i [123] with
   |true=>simp
   |false=>
    simp;refine b3y (i:=i) (ds:=[.str [40]]) eT hc (by simp) (by simp) (by simp) ?_
    simp
def TyI (t:Ty)(i j:Nat):Prop:=(t.pred.op=0→t.pred=a5P)∧dF t.pred+i≤j+1
section
variable {ty:aS Ty} {low:Nat} (hty:∀i,low≤i→i<l.length→pF G 39 [] l i (ty i) a7o) (aty:aA l 0 ty) (ity:∀i t j,i<l.length→ty i= .ok t j→TyI t i j)
include hty aty ity
theorem a3i (i:Nat)(hlow:low≤i+1)(hi:i<l.length):pF G 77 [] l i (oU bE rdP l ty i) a7o:=by
 have hl:=hV.len;obtain ⟨j0,rfl⟩:∃j0,j0=i:=⟨_,rfl⟩;have p0:j0≤j0∧j0<l.length:=⟨d7m _,hi⟩;refine kF.cV Tryz.func77 rfl Tryz.ntmps77 rfl (by simp) ?_
 intro Q Q0;unfold oU at Q0;simp;refine cF (ds:=[.sl (strs [[123],[118],[58]])]) aE (aG l [[123],[118],[58]] j0 p0.2 (by omega) hV.fin (by simp)) (by simp [strs]) (by simp) (fun u1 j1 x1=>?_) (fun n e hx=>by first|exact Q0.fail hx _|(simp;exact Q0.fail hx _)|(simp;exact fun s=>Q0.fail hx s));have Q1:=Q0.step x1;have p1:=aA.exp hV.fin _ _ j0 u1 j1 p0.2 x1;simp;refine cF cN ((hty j1 (by omega) p1.2)) (by simp) (by simp) (fun t j2 x2=>?_) (fun n e hx=>by first|exact Q1.fail hx _|(simp;exact Q1.fail hx _)|(simp;exact fun s=>Q1.fail hx s));have Q2:=Q1.step x2;have p2:=aty j1 t j2 p1.2 x2;have it:=ity j1 t j2 p1.2 x2;obtain ⟨op,nm,args,ns,p,ps⟩:=t;simp only at Q2;simp;by_cases h6:op=6
 ·rw [if_pos h6] at Q2;simp [h6];refine cF (ds:=[]) rU (tI (α:=Ty) l j2 p2.2 (by omega) fun _=> .cM []) (by simp) (by simp) (fun a j hx=>by unfold cQ at hx;cases hx) (fun n e hx=>Q2.bad n e _ hx)
 rw [if_neg h6] at Q2;simp [h6];refine cF (ds:=[.sl (strs [[124]])]) aE (aG l [[124]] j2 p2.2 (by omega) hV.fin (by simp)) (by simp [strs]) (by simp) (fun u3 j3 x3=>?_) (fun n e hx=>by first|exact Q2.fail hx _|(simp;exact Q2.fail hx _)|(simp;exact fun s=>Q2.fail hx s));have Q3:=Q2.step x3;have p3:=aA.exp hV.fin _ _ j2 u3 j3 p2.2 x3;simp;refine cF mV (pV hV j3 p3.2) (by simp) (by simp) (fun q j4 x4=>?_) (fun n e hx=>by first|exact Q3.fail hx _|(simp;exact Q3.fail hx _)|(simp;exact fun s=>Q3.fail hx s));have Q4:=Q3.step x4;have p4:=hV.pJ.pred j3 q j4 p3.2 x4;simp;refine cF (ds:=[.sl (strs [[125]])]) aE (aG l [[125]] j4 p4.2 (by omega) hV.fin (by simp)) (by simp [strs]) (by simp) (fun u5 j5 x5=>?_) (fun n e hx=>by first|exact Q4.fail hx _|(simp;exact Q4.fail hx _)|(simp;exact fun s=>Q4.fail hx s));have Q5:=Q4.step x5;have p5:=aA.exp hV.fin _ _ j4 u5 j5 p4.2 x5;simp;have hq:=hV.nod _ _ _ _ p3.2 x4;have hs:=vT (G:=G) p a5P (by have:=it.2;simp only at this;omega);refine kP.mk qX (CS.args hs (by simp [a5P])) ?_
 rw [b6e];have h0:=it.1;simp only at h0;by_cases hz:p=a5P
 ·subst hz;simp;exact Q5.ok _ j5 _ _ rfl (.inr rfl) (by simp [a5P])
 ·have hop: ¬p.op=0:=fun e=>hz (h0 e)
  have ha:=b6g (G:=G) [p,q] (by intro x hx;have h1:=it.2;simp only at h1;simp only [List.mem_cons,List.not_mem_nil,or_false] at hx;rcases hx with rfl|rfl<;>omega) (by simp)
  simp [hz];refine kP.mk b3I (by simpa using ha) ?_
  simp;exact Q5.ok _ j5 _ _ rfl (.inr rfl) (by simp [hop,bE])
theorem a7c (i:Nat)(hlow:low≤i+1)(hi:i<l.length):pF G 124 [] l i (eG aX bE rdP l ty i) a7o:=by
 have hl:=hV.len;obtain ⟨j0,rfl⟩:∃j0,j0=i:=⟨_,rfl⟩;have p0:j0≤j0∧j0<l.length:=⟨d7m _,hi⟩;have ht:=cI (G:=G) l j0 j0 0 (by omega) (by omega) (by intro e;subst e;simp at hi) (by omega);refine kF.cV Tryz.func124 rfl Tryz.ntmps124 rfl (by simp) ?_
 intro Q Q0;unfold eG at Q0;simp;refine cF a7b (a9r hV j0 hi) (by simp) (by simp) (fun o j1 x1=>?_) (fun n e hx=>by first|exact Q0.fail hx _|(simp;exact Q0.fail hx _)|(simp;exact fun s=>Q0.fail hx s));have Q1:=Q0.step x1;have p1:=aA.base hV.fin j0 o j1 p0.2 x1;cases o with
 |some t=>obtain ⟨op,nm,args,ns,p,ps⟩:=t;simp;exact Q1.ok _ j1 _ _ rfl (.inr rfl) (by simp)
 |none=>
 have hj:=rS x1;subst hj;simp only at Q1;simp [oL,kS];refine bG (ds:=[.int .i64 0]) bP ht (by simp) (by simp) ?_
 cases hti:kT (aJ l j1) with
 |true=>
  rw [hti,if_pos rfl] at Q1;have hk:(aJ l j1).kind=2:=by simpa [kT] using hti
  have htt:=jG (G:=G) l j1 p1.2 (by omega);have hx:eQ l j1= .ok (aJ l j1).text (j1+1):=by unfold eQ mK;rw [if_pos hti]
  generalize aJ l j1=T at Q1 hk hx ⊢;obtain ⟨k,x,n,ln⟩:=T;simp only at hk;subst hk;simp [cJ];refine cF (ds:=[]) gO htt (by simp) (by simp) (fun s j h=>?_) (fun n e h=>by rw [hx] at h;cases h);rw [hx] at h;cases h;simp;exact Q1.ok _ (j1+1) _ _ rfl (.inr rfl) (by simp [psT,kS])
 |false=>
  rw [hti,if_neg (by decide)] at Q1;have hk: ¬(aJ l j1).kind=2:=by simpa [kT] using hti
  generalize aJ l j1=T at hk ⊢;obtain ⟨k,x,n,ln⟩:=T;simp only at hk;simp [cJ,hk];have hb:=gZ (G:=G) l j1 [123] p1.2 (by omega);refine bG (ds:=[.str [123]]) eT hb (by simp) (by simp) ?_
  cases hs:aI l j1 [123] with
  |true=>rw [hs,if_pos rfl] at Q1;simp;refine cF (ds:=[]) a1O (a3i hV hty aty ity j1 hlow p1.2) (by simp) (by simp) (fun t j h=>?_) (fun n e h=>Q1.bad n e _ h);simp;exact Q1.ok t j _ _ h (.inr rfl) (by simp)
  |false=>rw [hs,if_neg (by decide)] at Q1;simp;refine cF (ds:=[.sl (strs [[40]])]) aE (aG l [[40]] j1 p1.2 (by omega) hV.fin (by simp)) (by simp [strs]) (by simp) (fun u2 j2 x2=>?_) (fun n e hx=>by first|exact Q1.fail hx _|(simp;exact Q1.fail hx _)|(simp;exact fun s=>Q1.fail hx s));have Q2:=Q1.step x2;have p2:=aA.exp hV.fin _ _ j1 u2 j2 p1.2 x2;simp;refine cF cN ((hty j2 (by omega) p2.2)) (by simp) (by simp) (fun t j3 x3=>?_) (fun n e hx=>by first|exact Q2.fail hx _|(simp;exact Q2.fail hx _)|(simp;exact fun s=>Q2.fail hx s));have Q3:=Q2.step x3;have p3:=aty j2 t j3 p2.2 x3;simp;refine cF (ds:=[.sl (strs [[41]])]) aE (aG l [[41]] j3 p3.2 (by omega) hV.fin (by simp)) (by simp [strs]) (by simp) (fun u4 j4 x4=>?_) (fun n e hx=>by first|exact Q3.fail hx _|(simp;exact Q3.fail hx _)|(simp;exact fun s=>Q3.fail hx s));have Q4:=Q3.step x4;have p4:=aA.exp hV.fin _ _ j3 u4 j4 p3.2 x4;simp;exact Q4.ok t j4 _ _ rfl (.inr rfl) (by simp)
end
end
end
section
open Go Go.VM
variable {G:GT}
theorem b6h:VM.Enters Tryz.prog 75:=VM.Enters.mk Tryz.func75 rfl
theorem b0U:VM.Enters Tryz.prog 125:=VM.Enters.mk Tryz.func125 rfl
section
variable {rdP:List Tok→Nat→Nat→kY Pr} {l:List Tok} (hV:kQ G rdP l)
include hV
def a3j (nm:Nm)(args:List Ty)(out:List Pr):List (Nat×aY):=[(100001,.cells [.ptr 100000 0]),(100002,.cells [.d (.int .i64 4),.d (.str nm),.d (.sl (args.map tyC)),.d (.sl []),.d (.int .i64 0),.d (.str []),.d (.int .i64 0),.d (.sl []),.d (.sl (out.map qR))])]
abbrev d1b:List (TypeId×List VM.Loc):=[(43,[.c 100002 8])]
abbrev b6i (rdP:List Tok→Nat→Nat→kY Pr)(l:List Tok)(out:List Pr):aS (List Pr):=do
 aL l [[118],[46]]
 let p ← dH rdP l
 pure (out++[p])
theorem b6j (nm:Nm)(args:List Ty)(out:List Pr)(i:Nat)(hi:i<l.length)(hout:out.length≤i):kF G 125 [.ptr 100001 0,.ptr 100002 0] (a3j nm args out) d1b l i (b6i rdP l out i) (fun _=> .cM []) (a3j nm args):=by
 have hl:=hV.len;obtain ⟨j0,rfl⟩:∃j0,j0=i:=⟨_,rfl⟩;have p0:j0≤j0∧j0<l.length:=⟨d7m _,hi⟩;refine kF.cV Tryz.func125 rfl Tryz.ntmps125 rfl (by simp) ?_
 intro Q Q0;simp [a3j];refine cF (ds:=[.sl (strs [[118],[46]])]) aE (aG l [[118],[46]] j0 p0.2 (by omega) hV.fin (by simp)) (by simp [strs]) (by simp) (fun u1 j1 x1=>?_) (fun n e hx=>by first|exact Q0.fail hx _|(simp;exact Q0.fail hx _)|(simp;exact fun s=>Q0.fail hx s));have Q1:=Q0.step x1;have p1:=aA.exp hV.fin _ _ j0 u1 j1 p0.2 x1;simp;refine dS 6 (t:=41) (e:=43) (T:=45) (s:=6) (z:=10) (r:=11) (p:=12) (q:=9) (x:=8) (b:=13) (y:=1) (fd:=5) [0] 3 [2] (a0T 1 4 5) (gK (dH rdP l j1)) rfl rfl rfl rfl rfl (by kernel_rfl) (by kernel_rfl) rfl ?_
 simp
 repeat' apply And.intro
 all_goals
  refine sO mV (pV hV j1 p1.2) (by simp) (by simp) (fun q j2 x2=>?_) (fun n e hx=>by first|exact Q1.fail hx _|(simp;exact Q1.fail hx _)|(simp;exact fun s=>Q1.fail hx s));have Q2:=Q1.step x2;have p2:=hV.pJ.pred j1 q j2 p1.2 x2;refine dA.mk ?_
  simp
 all_goals
  refine ⟨_,_,_,_,_,_,_,_,_,by simp,rfl,rfl,?_,rfl,rfl,?_,by simp,rfl,rfl,rfl,rfl,by decide,rfl,?_⟩
  ·intro c hc
   first
    |(obtain ⟨y,_,rfl⟩:=List.mem_map.1 hc
      rw [eY]
      rfl)
    |(simp only [d7d] at hc
      subst hc
      rfl)
  ·simp<;>omega
  exact Q2.ok _ j2 .normal _ rfl (.inl rfl) (by simp [a3j,eY])
theorem c1v (nm:Nm)(args:List Ty):wY l K3 [.ptr 100001 0,.ptr 100002 0] (a3j nm args) d1b:=by
 constructor
 all_goals intros
 all_goals first
  |rfl
  |simp [a3j,aN,aW,aR,aQ,bA,getKey,aT,bC,cL,rk,cW,bN, *]
theorem c1w (a:List Pr)(i:Nat)(b:List Pr)(j:Nat)(h:b6i rdP l a i= .ok b j):b.length=a.length+1:=by
 simp only [b6i,eF] at h
 repeat' split at h
 all_goals first|cases h|skip
 all_goals simp
theorem a5S (out:List Pr):aA l 1 (b6i rdP l out):=(aA.exp hV.fin _ _).bl fun _=>hV.pJ.pred.bl fun _=>aA.aO _
theorem tJ {α:Type}{c:Nat→Bool}{one:α→aS α}{g:Nat}{a b:α}{i j:Nat}(hc:c i=true)(h:one a i= .ok b j):dK c one (g+1) a i=dK c one g b j:=by rw [dK];simp only [hc,if_true,h]
theorem oP {α:Type}{c:Nat→Bool}{one:α→aS α}{g:Nat}{a:α}{i:Nat}{n e:Int}(hc:c i=true)(h:one a i= .bad n e):dK c one (g+1) a i= .bad n e:=by rw [dK];simp only [hc,if_true,h]
theorem tK {α:Type}{c:Nat→Bool}{one:α→aS α}{g:Nat}{a:α}{i:Nat}(hc:c i=false):dK c one (g+1) a i= .ok a i:=by rw [dK];simp only [hc,Bool.false_eq_true,if_false]
section
variable {ty:aS Ty} {low:Nat} (hty:∀i,low≤i→i<l.length→pF G 39 [] l i (ty i) a7o) (aty:aA l 0 ty) (ity:∀i t j,i<l.length→ty i= .ok t j→TyI t i j)
include hty aty ity
abbrev c9c (rdP:List Tok→Nat→Nat→kY Pr)(l:List Tok)(ty:aS Ty)(out:List Ty):aS (List Ty):=do let t ← eG aX bE rdP l ty;pure (out++[t])
theorem b8q (i:Nat)(hlow:low≤i+1)(hi:i<l.length):pF G 75 [] l i (oF aX bE rdP l ty i) a7o:=by
 have hl:=hV.len;obtain ⟨j0,rfl⟩:∃j0,j0=i:=⟨_,rfl⟩;have p0:j0≤j0∧j0<l.length:=⟨d7m _,hi⟩;refine kF.cV Tryz.func75 rfl Tryz.ntmps75 rfl (by simp) ?_
 intro Q Q0;unfold oF at Q0;simp;refine cF gO (jG l j0 p0.2 (by omega)) (by simp) (by simp) (fun nm j1 x1=>?_) (fun n e hx=>by first|exact Q0.fail hx _|(simp;exact Q0.fail hx _)|(simp;exact fun s=>Q0.fail hx s));have Q1:=Q0.step x1;have p1:=aA.title hV.fin j0 nm j1 p0.2 x1;simp;refine SW.vG (ι:={ x:List Ty×Nat×Nat // j1≤x.2.1∧x.2.1<l.length∧l.length<x.2.2+x.2.1∧x.1.length≤x.2.1∧dK (a8J aX l) (c9c rdP l ty) x.2.2 x.1 x.2.1=oT l (a8J aX l) (c9c rdP l ty) [] j1 }) (fun _=>[]) (fun x=>[(1,.cells [.ptr 100000 0]),(2,.cells [.d (.int .i64 0),.d (.str []),.d .aM,.d .aM,.d (.int .i64 0),.d (.str []),.d (.int .i64 0),.d .aM,.d .aM]),(3,.cells [.d (.int .i64 4),.d (.str nm),.d (.sl (x.1.1.map tyC)),.d .aM,.d (.int .i64 0),.d (.str []),.d (.int .i64 0),.d .aM,.d .aM]),(100000,rdO l x.1.2.1)]) (fun _=>[(45,[.c 3 2])]) (fun x=>l.length-x.1.2.1) ⟨([],j1,l.length+2),d7m _,p1.2,by simp only;omega,by simp,rfl⟩ (by simp) ?_
 rintro ⟨⟨out,j2,g⟩,hb,hj2,hg,ho,hp⟩;simp only at hb hj2 hg ho hp;obtain ⟨g,rfl⟩:∃k,g=k+1:=⟨g-1,by omega⟩;simp;refine bG (i:=j2) (ds:=[]) a7p (a9s hV j2 hj2) (by simp) (by simp) ?_
 by_cases hc:a8J aX l j2=true
 ·simp [hc];refine dS 6 (t:=28) (e:=45) (T:=45) (s:=10) (z:=14) (r:=15) (p:=16) (q:=13) (x:=12) (b:=17) (y:=3) (fd:=2) [0] 3 [2] (a0T 1 4 5) (gK (eG aX bE rdP l ty j2)) rfl rfl rfl rfl rfl (by kernel_rfl) (by kernel_rfl) rfl ?_
  simp
  repeat' apply And.intro
  all_goals
   refine sO (ds:=[]) a4Y (a7c hV hty aty ity j2 (by omega) hj2) (by simp) (by simp) (fun t j3 x3=>?_) (fun n e hx=>?_)
   ·have p3:=aA.tF hV.fin aty hV.pJ.pred j2 t j3 hj2 x3;have h1:c9c rdP l ty out j2= .ok (out++[t]) j3:=(bF x3).trans rfl;rw [tJ hV hc h1] at hp;refine dA.mk ?_
    simp;refine ⟨_,_,_,_,_,_,_,_,_,by simp,rfl,rfl,?_,rfl,rfl,?_,by simp,rfl,rfl,rfl,rfl,by decide,rfl,?_⟩
    ·intro c hc
     first
      |(obtain ⟨y,_,rfl⟩:=List.mem_map.1 hc
        rw [cP]
        rfl)
      |(simp only [d7d] at hc
        subst hc
        rfl)
    ·simp<;>omega
    refine bQ.mk ⟨(out++[t],j3,g),by simp only;omega,p3.2,by simp only;omega,by simp;omega,hp⟩ (by simp [cP]) (by simp;omega)
   ·have h1:c9c rdP l ty out j2= .bad n e:=gT hx;rw [oP hV hc h1] at hp;simp;exact fun s=>Q1.fail hp.symm s
 ·have hc:=Bool.eq_false_iff.2 hc;rw [tK hV hc] at hp;have Q2:=Q1.step hp.symm;have p2:j1≤j2∧j2<l.length:=⟨hb,hj2⟩;simp [hc];cases hs:aI l j2 [60] with
  |false=>
   have Q3:=Q2.step (hU hs);rw [if_neg (by decide)] at Q3;refine bG (ds:=[.str [60]]) (d:= .d (.bool false)) aD (aV l j2 [60] p2.2 (by omega) hs) (by simp) (by simp) ?_
   simp;exact Q3.ok _ j2 _ _ rfl (.inr rfl) (by simp [psT,kS])
  |true=>
   have Q3:=Q2.step (hM hs);rw [if_pos rfl] at Q3;refine bG (ds:=[.str [60]]) (d:= .d (.bool true)) aD (aU l j2 [60] p2.2 (by omega) hs) (by simp) (by simp) ?_
   have p3:j2+1≤j2+1∧j2+1<l.length:=⟨d7m _,aF hV.fin p2.2 hs⟩;obtain ⟨j3,hj3⟩:∃j3,j2+1=j3:=⟨_,rfl⟩;rw [hj3] at Q3 p3 ⊢;simp;have hone:=eO hV [44] (b6i rdP l) (fun out i=>out.length≤i) 0 b0U (c1v hV nm out) (fun a=>(a5S hV a).le (by omega)) (fun a i _ hi h=>b6j hV nm out a i hi h) (fun a i b j hi h hx=>by have h1:=a5S hV a i b j hi hx;have h2:=c1w hV a i b j hx;omega) (fun a i h=>by omega) [] j3 (by omega) p3.2 (by simp)
   refine gW.mk (vR dQ hone [(100000,100000),(100001,1),(100002,3)] (fun a j hx=>?_) ?_ ?_ ?_ rfl rfl (fun ws j4 x4=>?_) (fun n e hx2=>Q3.fail hx2 _))
   ·simp [a3j,aN,aW,aR,aQ,bA,getKey]
   ·simp [a3j,aN,aW,aR,aQ,bA,getKey]
   ·simp [aT,bC,rk]
   ·simp [a3j,aT,bC,rk,cL,cW]
   ·have Q4:=Q3.step x4;have p4:=aA.list hV.fin (fun a=>a5S hV a) [] j3 ws j4 p3.2 x4;simp [bB,a3j,aT,bC,rk,cL,cW,bN,gM,eX,eA];refine cF (ds:=[.sl (strs [[62]])]) aE (aG l [[62]] j4 p4.2 (by omega) hV.fin (by simp)) (by simp [strs]) (by simp) (fun u5 j5 x5=>?_) (fun n e hx=>by first|exact Q4.fail hx _|(simp;exact Q4.fail hx _)|(simp;exact fun s=>Q4.fail hx s));have Q5:=Q4.step x5;have p5:=aA.exp hV.fin _ _ j4 u5 j5 p4.2 x5;simp;exact Q5.ok _ j5 _ _ rfl (.inr rfl) (by simp [psT,kS])
end
end
end
section
open Go Go.VM
variable {G:GT}
theorem b8r:VM.Enters Tryz.prog 78:=VM.Enters.mk Tryz.func78 rfl
theorem b3J:VM.Enters Tryz.prog 130:=VM.Enters.mk Tryz.func130 rfl
theorem b3K:VM.Enters Tryz.prog 131:=VM.Enters.mk Tryz.func131 rfl
section
variable {rdP:List Tok→Nat→Nat→kY Pr} {l:List Tok} (hV:kQ G rdP l)
include hV
def xG (out:List Nm×List Ty):List (Nat×aY):=[(100001,.cells [.d (.int .i64 6),.d (.str []),.d (.sl (out.2.map tyC)),.d (.sl (strs out.1)),.d (.int .i64 0),.d (.str []),.d (.int .i64 0),.d (.sl []),.d (.sl [])]),(100002,.cells [.ptr 100000 0])]
abbrev d3j:List (TypeId×List VM.Loc):=[(45,[.c 100001 2]),(9,[.c 100001 3])]
abbrev a1P (l:List Tok)(ty:aS Ty)(out:List Nm×List Ty):aS (List Nm×List Ty):=do
 let w ← bL aX l
 aL l [[58]]
 let t ← ty
 pure (out.1++[w],out.2++[t])
abbrev a0O (ty:aS Ty)(out:List Nm×List Ty):aS (List Nm×List Ty):=do
 let t ← ty
 pure (out.1,out.2++[t])
theorem pW {α:Type}{c:Nm}{one:α→aS α}(I:α→Nat→Prop)(h1:∀a i b j,i<l.length→I a i→one a i= .ok b j→I b j∧j<l.length)(hm:∀a i,I a i→I a (i+1)):∀(g:Nat) (a:α) (i:Nat) (b:α) (j:Nat),i<l.length→I a i→gV l c one g a i= .ok b j→I b j∧j<l.length
 |0,a,i,b,j,_,_,h=>by unfold gV at h;cases h
 |g+1,a,i,b,j,hi,ha,h=>by
  unfold gV at h;split at h
  ·cases h
  ·rename_i b' j' ho;have k1:=h1 a i b' j' hi ha ho;split at h
   ·rename_i hs;exact pW I h1 hm g b' (j'+1) b j (aF hV.fin k1.2 hs) (hm _ _ k1.1) h
   ·cases h;exact k1
theorem b6k:wY l K3 [.ptr 100001 0,.ptr 100002 0] xG d3j:=by
 constructor
 all_goals intros
 all_goals first
  |rfl
  |simp [xG,aN,aW,aR,aQ,bA,getKey,aT,bC,cL,rk,cW,bN, *]
omit hV in
theorem b2g {ty:aS Ty}(a:List Nm×List Ty)(i:Nat)(b:List Nm×List Ty)(j:Nat)(h:a1P l ty a i= .ok b j):b.1.length=a.1.length+1∧b.2.length=a.2.length+1:=by
 simp only [a1P,eF] at h
 repeat' split at h
 all_goals first|cases h|skip
 all_goals simp
omit hV in
theorem c1x {ty:aS Ty}(a:List Nm×List Ty)(i:Nat)(b:List Nm×List Ty)(j:Nat)(h:a0O ty a i= .ok b j):b.1=a.1∧b.2.length=a.2.length+1:=by
 simp only [a0O,eF] at h
 repeat' split at h
 all_goals first|cases h|skip
 all_goals simp
section
variable {ty:aS Ty} {low:Nat} (hty:∀i,low≤i→i<l.length→pF G 39 [] l i (ty i) a7o) (aty:aA l 1 ty)
include hty aty
theorem b8s (out:List Nm×List Ty)(i:Nat)(hlow:low≤i)(hi:i<l.length)(hout:out.1.length≤i∧out.2.length≤i):kF G 130 [.ptr 100001 0,.ptr 100002 0] (xG out) d3j l i (a1P l ty out i) (fun _=> .cM []) xG:=by
 have hl:=hV.len;obtain ⟨j0,rfl⟩:∃j0,j0=i:=⟨_,rfl⟩;have p0:j0≤j0∧j0<l.length:=⟨d7m _,hi⟩;refine kF.cV Tryz.func130 rfl Tryz.ntmps130 rfl (by simp) ?_
 intro Q Q0;simp [xG];refine jY [0] 3 [2] (.op 1 (.call [4,5,6,7] .none) (.call [1,4,5,6,7] .none)) (gK (bL aX l j0)) (by kernel_rfl) (by kernel_rfl) ?_
 simp;refine ⟨?_,?_⟩
 all_goals
  refine sO cO (dI hV.kw l j0 p0.2 (by omega)) (by simp) (by simp) (fun w j1 x1=>?_) (fun n e hx=>by first|exact Q0.fail hx _|(simp;exact Q0.fail hx _)|(simp;exact fun s=>Q0.fail hx s));have Q1:=Q0.step x1;have p1:=aA.word hV.fin j0 w j1 p0.2 x1;refine dA.mk ?_
  simp;refine eL (by omega) ?_
  simp;refine cF (ds:=[.sl (strs [[58]])]) aE (aG l [[58]] j1 p1.2 (by omega) hV.fin (by simp)) (by simp [strs]) (by simp) (fun u2 j2 x2=>?_) (fun n e hx=>by first|exact Q1.fail hx _|(simp;exact Q1.fail hx _)|(simp;exact fun s=>Q1.fail hx s));have Q2:=Q1.step x2;have p2:=aA.exp hV.fin _ _ j1 u2 j2 p1.2 x2;simp;refine dS 6 (t:=28) (e:=45) (T:=45) (s:=13) (z:=17) (r:=18) (p:=19) (q:=16) (x:=15) (b:=20) (y:=0) (fd:=2) [0] 3 [2] (a0T 1 4 5) (gK (ty j2)) rfl rfl rfl rfl rfl (by kernel_rfl) (by kernel_rfl) rfl ?_
  simp
  repeat' apply And.intro
  all_goals
   refine sO cN ((hty j2 (by omega) p2.2)) (by simp) (by simp) (fun t j3 x3=>?_) (fun n e hx=>by first|exact Q2.fail hx _|(simp;exact Q2.fail hx _)|(simp;exact fun s=>Q2.fail hx s));have Q3:=Q2.step x3;have p3:=aty j2 t j3 p2.2 x3;refine dA.mk ?_
   simp;refine ⟨_,_,_,_,_,_,_,_,_,by simp,rfl,rfl,?_,rfl,rfl,?_,by simp,rfl,rfl,rfl,rfl,by decide,rfl,?_⟩
   ·intro c hc
    first
     |(obtain ⟨y,_,rfl⟩:=List.mem_map.1 hc
       rw [cP]
       rfl)
     |(simp only [d7d] at hc
       subst hc
       rfl)
   ·simp<;>omega
   exact Q3.ok _ j3 .normal _ rfl (.inl rfl) (by simp [xG,cP,zI])
theorem b8t (out:List Nm×List Ty)(i:Nat)(hlow:low≤i)(hi:i<l.length)(hout:out.1.length≤i∧out.2.length≤i):kF G 131 [.ptr 100001 0,.ptr 100002 0] (xG out) d3j l i (a0O ty out i) (fun _=> .cM []) xG:=by
 have hl:=hV.len;obtain ⟨j2,rfl⟩:∃j2,j2=i:=⟨_,rfl⟩;have p2:j2≤j2∧j2<l.length:=⟨d7m _,hi⟩;refine kF.cV Tryz.func131 rfl Tryz.ntmps131 rfl (by simp) ?_
 intro Q Q2;simp [xG];refine dS 6 (t:=28) (e:=45) (T:=45) (s:=3) (z:=7) (r:=8) (p:=9) (q:=6) (x:=5) (b:=10) (y:=0) (fd:=2) [0] 3 [2] (a0T 1 4 5) (gK (ty j2)) rfl rfl rfl rfl rfl (by kernel_rfl) (by kernel_rfl) rfl ?_
 simp
 repeat' apply And.intro
 all_goals
  refine sO cN ((hty j2 (by omega) p2.2)) (by simp) (by simp) (fun t j3 x3=>?_) (fun n e hx=>by first|exact Q2.fail hx _|(simp;exact Q2.fail hx _)|(simp;exact fun s=>Q2.fail hx s));have Q3:=Q2.step x3;have p3:=aty j2 t j3 p2.2 x3;refine dA.mk ?_
  simp;refine ⟨_,_,_,_,_,_,_,_,_,by simp,rfl,rfl,?_,rfl,rfl,?_,by simp,rfl,rfl,rfl,rfl,by decide,rfl,?_⟩
  ·intro c hc
   first
    |(obtain ⟨y,_,rfl⟩:=List.mem_map.1 hc
      rw [cP]
      rfl)
    |(simp only [d7d] at hc
      subst hc
      rfl)
  ·simp<;>omega
  exact Q3.ok _ j3 .normal _ rfl (.inl rfl) (by simp [xG,cP])
theorem a5T (out:List Nm×List Ty):aA l 1 (a1P l ty out):=(aA.word hV.fin).bl fun _=>((aA.exp hV.fin _ _).le (by omega)).bl fun _=>(aty.le (by omega)).bl fun _=>aA.aO _
omit hV in
theorem a2w (out:List Nm×List Ty):aA l 1 (a0O ty out):=aty.bl fun _=>aA.aO _
theorem a9t (a:List Nm×List Ty)(i:Nat)(b:List Nm×List Ty)(j:Nat)(hi:i<l.length)(h:a.1.length≤i∧a.2.length≤i)(hx:a1P l ty a i= .ok b j):(b.1.length≤j∧b.2.length≤j)∧j<l.length:=by have h1:=a5T hV hty aty a i b j hi hx;have h2:=b2g a i b j hx;omega
omit hV in
theorem a3N (a:List Nm×List Ty)(i:Nat)(b:List Nm×List Ty)(j:Nat)(hi:i<l.length)(h:a.1.length≤i∧a.2.length≤i)(hx:a0O ty a i= .ok b j):(b.1.length≤j∧b.2.length≤j)∧j<l.length:=by have h1:=a2w hty aty a i b j hi hx;have h2:=c1x a i b j hx;rw [h2.1];omega
theorem c1y (i:Nat)(hlow:low≤i+1)(hi:i<l.length):pF G 78 [] l i (qS aX l ty i) a7o:=by
 have hl:=hV.len;obtain ⟨j0,rfl⟩:∃j0,j0=i:=⟨_,rfl⟩;have p0:j0≤j0∧j0<l.length:=⟨d7m _,hi⟩;refine kF.cV Tryz.func78 rfl Tryz.ntmps78 rfl (by simp) ?_
 intro Q Q0;unfold qS at Q0;simp;refine cF (ds:=[.sl (strs [[40]])]) aE (aG l [[40]] j0 p0.2 (by omega) hV.fin (by simp)) (by simp [strs]) (by simp) (fun u1 j1 x1=>?_) (fun n e hx=>by first|exact Q0.fail hx _|(simp;exact Q0.fail hx _)|(simp;exact fun s=>Q0.fail hx s));have Q1:=Q0.step x1;have p1:=aA.exp hV.fin _ _ j0 u1 j1 p0.2 x1;simp;have ht:=cI (G:=G) l j1 j1 0 (by omega) (by omega) (by intro e;subst e;simp at hi) (by omega);have ht1:=cI (G:=G) l j1 (j1+1) 1 (by omega) (by omega) (by intro e;subst e;simp at hi) (by omega);refine bG (ds:=[.int .i64 0]) bP ht (by simp) (by simp) ?_
 simp;refine kP.mk jF (kD hV.kw (aJ l j1)) ?_
 have hK:∀(b:Bool),(gU aX (aJ l j1)&&cU (aJ l (j1+1)) [58])=b→((fun i=>if gU aX (aJ l i)&&cU (aJ l (i+1)) [58] then dT l [44] (a1P l ty) ([],[]) i else dT l [44] (a0O ty) ([],[]) i:aS (List Nm×List Ty)) j1)=if b then dT l [44] (a1P l ty) ([],[]) j1 else dT l [44] (a0O ty) ([],[]) j1:=fun b hb=>by simp only [hb]
 have hone1:=eO hV [44] (a1P l ty) (fun out i=>out.1.length≤i∧out.2.length≤i) low b3J (b6k hV) (fun a=>(a5T hV hty aty a).le (by omega)) (fun a i rY hi h=>b8s hV hty aty a i rY hi h) (fun a i b j hi h hx=>(a9t hV hty aty a i b j hi h hx).1) (fun a i h=>by omega) ([],[]) j1 (by omega) p1.2 (by simp);have hone2:=eO hV [44] (a0O ty) (fun out i=>out.1.length≤i∧out.2.length≤i) low b3K (b6k hV) (fun a=>(a2w hty aty a).le (by omega)) (fun a i rY hi h=>b8t hV hty aty a i rY hi h) (fun a i b j hi h hx=>(a3N hty aty a i b j hi h hx).1) (fun a i h=>by omega) ([],[]) j1 (by omega) p1.2 (by simp);cases hw:gU aX (aJ l j1) with
 |false=>
  have hx:=hK false (by rw [hw];rfl);rw [if_neg (by decide)] at hx;simp;refine gW.mk (vR dQ hone2 [(100000,100000),(100001,3),(100002,1)] (fun a j hx=>?_) ?_ ?_ ?_ rfl rfl (fun ws j2 x2=>?_) (fun n e hx2=>Q1.fail (hx.trans hx2) _))
  ·simp [xG,aN,aW,aR,aQ,bA,getKey]
  ·simp [xG,aN,aW,aR,aQ,bA,getKey]
  ·simp [aT,bC,rk]
  ·simp [xG,aT,bC,rk,cL,cW]
  ·have Q2:=Q1.step (hx.trans x2);have p2:=aA.list hV.fin (fun a=>a2w hty aty a) ([],[]) j1 ws j2 p1.2 x2;have hlen:ws.1.length≤50000∧ws.2.length≤50000:=by have:=pW hV (one:=a0O ty) (fun a i=>a.1.length≤i∧a.2.length≤i) (a3N hty aty) (fun a i h=>by omega) _ _ _ _ _ p1.2 (by simp) x2;omega
   simp [bB,xG,aT,bC,rk,cL,cW,bN,gM,eX,eA];obtain ⟨ns,ts⟩:=ws;simp only at Q2 hlen;refine cF (ds:=[.sl (strs [[41]])]) aE (aG l [[41]] j2 p2.2 (by omega) hV.fin (by simp)) (by simp [strs]) (by simp) (fun u3 j3 x3=>?_) (fun n e hx=>by first|exact Q2.fail hx _|(simp;exact Q2.fail hx _)|(simp;exact fun s=>Q2.fail hx s));have Q3:=Q2.step x3;have p3:=aA.exp hV.fin _ _ j2 u3 j3 p2.2 x3;simp;by_cases hn:ns.length=0
   ·have hn0:ns=[]:=List.eq_nil_of_length_eq_zero hn;subst hn0;by_cases h1:ts.length=1
    ·obtain ⟨t,rfl⟩:=List.length_eq_one_iff.1 h1;have hb:=gZ (G:=G) l j3 [45,62] p3.2 (by omega);simp;refine bG (ds:=[.str [45,62]]) eT hb (by simp) (by simp) ?_
     cases hs:aI l j3 [45,62] with
     |false=>have Q3:=Q3.ifp (by simp [hs]);simp;exact Q3.ok _ j3 _ _ rfl (.inr rfl) (by simp [cP])
     |true=>
      have Q3:=Q3.xF (by simp [hs]);simp;refine cF (ds:=[.sl (strs [[45,62]])]) aE (aG l [[45,62]] j3 p3.2 (by omega) hV.fin (by simp)) (by simp [strs]) (by simp) (fun u4 j4 x4=>?_) (fun n e hx=>by first|exact Q3.fail hx _|(simp;exact Q3.fail hx _)|(simp;exact fun s=>Q3.fail hx s));have Q4:=Q3.step x4;have p4:=aA.exp hV.fin _ _ j3 u4 j4 p3.2 x4;simp;refine dS 6 (t:=28) (e:=45) (T:=45) (s:=48) (z:=52) (r:=53) (p:=54) (q:=51) (x:=50) (b:=55) (y:=3) (fd:=2) [0] 3 [2] (a0T 1 4 5) (gK (ty j4)) rfl rfl rfl rfl rfl (by kernel_rfl) (by kernel_rfl) rfl ?_
      simp
      repeat' apply And.intro
      all_goals
       refine sO cN ((hty j4 (by omega) p4.2)) (by simp) (by simp) (fun t5 j5 x5=>?_) (fun n e hx=>by first|exact Q4.fail hx _|(simp;exact Q4.fail hx _)|(simp;exact fun s=>Q4.fail hx s));have Q5:=Q4.step x5;have p5:=aty j4 t5 j5 p4.2 x5;refine dA.mk ?_
       simp;refine ⟨_,_,_,_,_,_,_,_,_,by simp,rfl,rfl,?_,rfl,rfl,?_,by simp,rfl,rfl,rfl,rfl,by decide,rfl,?_⟩
       ·intro c hc
        first
         |(obtain ⟨y,_,rfl⟩:=List.mem_map.1 hc
           rw [cP]
           rfl)
         |(simp only [d7d] at hc
           subst hc
           rfl)
       ·simp<;>omega
       simp;exact Q5.ok _ j5 _ _ rfl (.inr rfl) (by simp [psT,kS,cP])
    ·have Q3:=Q3.xF (by simp [h1]);simp [h1];refine cF (ds:=[.sl (strs [[45,62]])]) aE (aG l [[45,62]] j3 p3.2 (by omega) hV.fin (by simp)) (by simp [strs]) (by simp) (fun u4 j4 x4=>?_) (fun n e hx=>by first|exact Q3.fail hx _|(simp;exact Q3.fail hx _)|(simp;exact fun s=>Q3.fail hx s));have Q4:=Q3.step x4;have p4:=aA.exp hV.fin _ _ j3 u4 j4 p3.2 x4;simp;refine dS 6 (t:=28) (e:=45) (T:=45) (s:=48) (z:=52) (r:=53) (p:=54) (q:=51) (x:=50) (b:=55) (y:=3) (fd:=2) [0] 3 [2] (a0T 1 4 5) (gK (ty j4)) rfl rfl rfl rfl rfl (by kernel_rfl) (by kernel_rfl) rfl ?_
     simp
     repeat' apply And.intro
     all_goals
      refine sO cN ((hty j4 (by omega) p4.2)) (by simp) (by simp) (fun t5 j5 x5=>?_) (fun n e hx=>by first|exact Q4.fail hx _|(simp;exact Q4.fail hx _)|(simp;exact fun s=>Q4.fail hx s));have Q5:=Q4.step x5;have p5:=aty j4 t5 j5 p4.2 x5;refine dA.mk ?_
      simp;refine ⟨_,_,_,_,_,_,_,_,_,by simp,rfl,rfl,?_,rfl,rfl,?_,by simp,rfl,rfl,rfl,rfl,by decide,rfl,?_⟩
      ·intro c hc
       first
        |(obtain ⟨y,_,rfl⟩:=List.mem_map.1 hc
          rw [cP]
          rfl)
        |(simp only [d7d] at hc
          subst hc
          rfl)
      ·simp<;>omega
      simp;exact Q5.ok _ j5 _ _ rfl (.inr rfl) (by simp [psT,kS,cP])
   ·have Q3:=Q3.xF (by simp [hn]);have hn': ¬(ns.length:Int)=0:=by omega
    have hn2: ¬ns=[]:=fun e=>hn (by rw [e];rfl)
    simp [hn,hn',hn2];refine cF (ds:=[.sl (strs [[45,62]])]) aE (aG l [[45,62]] j3 p3.2 (by omega) hV.fin (by simp)) (by simp [strs]) (by simp) (fun u4 j4 x4=>?_) (fun n e hx=>by first|exact Q3.fail hx _|(simp;exact Q3.fail hx _)|(simp;exact fun s=>Q3.fail hx s));have Q4:=Q3.step x4;have p4:=aA.exp hV.fin _ _ j3 u4 j4 p3.2 x4;simp;refine dS 6 (t:=28) (e:=45) (T:=45) (s:=48) (z:=52) (r:=53) (p:=54) (q:=51) (x:=50) (b:=55) (y:=3) (fd:=2) [0] 3 [2] (a0T 1 4 5) (gK (ty j4)) rfl rfl rfl rfl rfl (by kernel_rfl) (by kernel_rfl) rfl ?_
    simp
    repeat' apply And.intro
    all_goals
     refine sO cN ((hty j4 (by omega) p4.2)) (by simp) (by simp) (fun t5 j5 x5=>?_) (fun n e hx=>by first|exact Q4.fail hx _|(simp;exact Q4.fail hx _)|(simp;exact fun s=>Q4.fail hx s));have Q5:=Q4.step x5;have p5:=aty j4 t5 j5 p4.2 x5;refine dA.mk ?_
     simp;refine ⟨_,_,_,_,_,_,_,_,_,by simp,rfl,rfl,?_,rfl,rfl,?_,by simp,rfl,rfl,rfl,rfl,by decide,rfl,?_⟩
     ·intro c hc
      first
       |(obtain ⟨y,_,rfl⟩:=List.mem_map.1 hc
         rw [cP]
         rfl)
       |(simp only [d7d] at hc
         subst hc
         rfl)
     ·simp<;>omega
     simp;exact Q5.ok _ j5 _ _ rfl (.inr rfl) (by simp [psT,kS,cP])
 |true=>
  simp;refine bG (ds:=[.int .i64 1]) bP ht1 (by simp) (by simp) ?_
  simp;refine kP.mk jQ (kM (aJ l (j1+1)) [58]) ?_
  cases hf:cU (aJ l (j1+1)) [58] with
  |false=>
   have hx:=hK false (by rw [hw,hf];rfl);rw [if_neg (by decide)] at hx;simp;refine gW.mk (vR dQ hone2 [(100000,100000),(100001,3),(100002,1)] (fun a j hx=>?_) ?_ ?_ ?_ rfl rfl (fun ws j2 x2=>?_) (fun n e hx2=>Q1.fail (hx.trans hx2) _))
   ·simp [xG,aN,aW,aR,aQ,bA,getKey]
   ·simp [xG,aN,aW,aR,aQ,bA,getKey]
   ·simp [aT,bC,rk]
   ·simp [xG,aT,bC,rk,cL,cW]
   ·have Q2:=Q1.step (hx.trans x2);have p2:=aA.list hV.fin (fun a=>a2w hty aty a) ([],[]) j1 ws j2 p1.2 x2;have hlen:ws.1.length≤50000∧ws.2.length≤50000:=by have:=pW hV (one:=a0O ty) (fun a i=>a.1.length≤i∧a.2.length≤i) (a3N hty aty) (fun a i h=>by omega) _ _ _ _ _ p1.2 (by simp) x2;omega
    simp [bB,xG,aT,bC,rk,cL,cW,bN,gM,eX,eA];obtain ⟨ns,ts⟩:=ws;simp only at Q2 hlen;refine cF (ds:=[.sl (strs [[41]])]) aE (aG l [[41]] j2 p2.2 (by omega) hV.fin (by simp)) (by simp [strs]) (by simp) (fun u3 j3 x3=>?_) (fun n e hx=>by first|exact Q2.fail hx _|(simp;exact Q2.fail hx _)|(simp;exact fun s=>Q2.fail hx s));have Q3:=Q2.step x3;have p3:=aA.exp hV.fin _ _ j2 u3 j3 p2.2 x3;simp;by_cases hn:ns.length=0
    ·have hn0:ns=[]:=List.eq_nil_of_length_eq_zero hn;subst hn0;by_cases h1:ts.length=1
     ·obtain ⟨t,rfl⟩:=List.length_eq_one_iff.1 h1;have hb:=gZ (G:=G) l j3 [45,62] p3.2 (by omega);simp;refine bG (ds:=[.str [45,62]]) eT hb (by simp) (by simp) ?_
      cases hs:aI l j3 [45,62] with
      |false=>have Q3:=Q3.ifp (by simp [hs]);simp;exact Q3.ok _ j3 _ _ rfl (.inr rfl) (by simp [cP])
      |true=>
       have Q3:=Q3.xF (by simp [hs]);simp;refine cF (ds:=[.sl (strs [[45,62]])]) aE (aG l [[45,62]] j3 p3.2 (by omega) hV.fin (by simp)) (by simp [strs]) (by simp) (fun u4 j4 x4=>?_) (fun n e hx=>by first|exact Q3.fail hx _|(simp;exact Q3.fail hx _)|(simp;exact fun s=>Q3.fail hx s));have Q4:=Q3.step x4;have p4:=aA.exp hV.fin _ _ j3 u4 j4 p3.2 x4;simp;refine dS 6 (t:=28) (e:=45) (T:=45) (s:=48) (z:=52) (r:=53) (p:=54) (q:=51) (x:=50) (b:=55) (y:=3) (fd:=2) [0] 3 [2] (a0T 1 4 5) (gK (ty j4)) rfl rfl rfl rfl rfl (by kernel_rfl) (by kernel_rfl) rfl ?_
       simp
       repeat' apply And.intro
       all_goals
        refine sO cN ((hty j4 (by omega) p4.2)) (by simp) (by simp) (fun t5 j5 x5=>?_) (fun n e hx=>by first|exact Q4.fail hx _|(simp;exact Q4.fail hx _)|(simp;exact fun s=>Q4.fail hx s));have Q5:=Q4.step x5;have p5:=aty j4 t5 j5 p4.2 x5;refine dA.mk ?_
        simp;refine ⟨_,_,_,_,_,_,_,_,_,by simp,rfl,rfl,?_,rfl,rfl,?_,by simp,rfl,rfl,rfl,rfl,by decide,rfl,?_⟩
        ·intro c hc
         first
          |(obtain ⟨y,_,rfl⟩:=List.mem_map.1 hc
            rw [cP]
            rfl)
          |(simp only [d7d] at hc
            subst hc
            rfl)
        ·simp<;>omega
        simp;exact Q5.ok _ j5 _ _ rfl (.inr rfl) (by simp [psT,kS,cP])
     ·have Q3:=Q3.xF (by simp [h1]);simp [h1];refine cF (ds:=[.sl (strs [[45,62]])]) aE (aG l [[45,62]] j3 p3.2 (by omega) hV.fin (by simp)) (by simp [strs]) (by simp) (fun u4 j4 x4=>?_) (fun n e hx=>by first|exact Q3.fail hx _|(simp;exact Q3.fail hx _)|(simp;exact fun s=>Q3.fail hx s));have Q4:=Q3.step x4;have p4:=aA.exp hV.fin _ _ j3 u4 j4 p3.2 x4;simp;refine dS 6 (t:=28) (e:=45) (T:=45) (s:=48) (z:=52) (r:=53) (p:=54) (q:=51) (x:=50) (b:=55) (y:=3) (fd:=2) [0] 3 [2] (a0T 1 4 5) (gK (ty j4)) rfl rfl rfl rfl rfl (by kernel_rfl) (by kernel_rfl) rfl ?_
      simp
      repeat' apply And.intro
      all_goals
       refine sO cN ((hty j4 (by omega) p4.2)) (by simp) (by simp) (fun t5 j5 x5=>?_) (fun n e hx=>by first|exact Q4.fail hx _|(simp;exact Q4.fail hx _)|(simp;exact fun s=>Q4.fail hx s));have Q5:=Q4.step x5;have p5:=aty j4 t5 j5 p4.2 x5;refine dA.mk ?_
       simp;refine ⟨_,_,_,_,_,_,_,_,_,by simp,rfl,rfl,?_,rfl,rfl,?_,by simp,rfl,rfl,rfl,rfl,by decide,rfl,?_⟩
       ·intro c hc
        first
         |(obtain ⟨y,_,rfl⟩:=List.mem_map.1 hc
           rw [cP]
           rfl)
         |(simp only [d7d] at hc
           subst hc
           rfl)
       ·simp<;>omega
       simp;exact Q5.ok _ j5 _ _ rfl (.inr rfl) (by simp [psT,kS,cP])
    ·have Q3:=Q3.xF (by simp [hn]);have hn': ¬(ns.length:Int)=0:=by omega
     have hn2: ¬ns=[]:=fun e=>hn (by rw [e];rfl)
     simp [hn,hn',hn2];refine cF (ds:=[.sl (strs [[45,62]])]) aE (aG l [[45,62]] j3 p3.2 (by omega) hV.fin (by simp)) (by simp [strs]) (by simp) (fun u4 j4 x4=>?_) (fun n e hx=>by first|exact Q3.fail hx _|(simp;exact Q3.fail hx _)|(simp;exact fun s=>Q3.fail hx s));have Q4:=Q3.step x4;have p4:=aA.exp hV.fin _ _ j3 u4 j4 p3.2 x4;simp;refine dS 6 (t:=28) (e:=45) (T:=45) (s:=48) (z:=52) (r:=53) (p:=54) (q:=51) (x:=50) (b:=55) (y:=3) (fd:=2) [0] 3 [2] (a0T 1 4 5) (gK (ty j4)) rfl rfl rfl rfl rfl (by kernel_rfl) (by kernel_rfl) rfl ?_
     simp
     repeat' apply And.intro
     all_goals
      refine sO cN ((hty j4 (by omega) p4.2)) (by simp) (by simp) (fun t5 j5 x5=>?_) (fun n e hx=>by first|exact Q4.fail hx _|(simp;exact Q4.fail hx _)|(simp;exact fun s=>Q4.fail hx s));have Q5:=Q4.step x5;have p5:=aty j4 t5 j5 p4.2 x5;refine dA.mk ?_
      simp;refine ⟨_,_,_,_,_,_,_,_,_,by simp,rfl,rfl,?_,rfl,rfl,?_,by simp,rfl,rfl,rfl,rfl,by decide,rfl,?_⟩
      ·intro c hc
       first
        |(obtain ⟨y,_,rfl⟩:=List.mem_map.1 hc
          rw [cP]
          rfl)
        |(simp only [d7d] at hc
          subst hc
          rfl)
      ·simp<;>omega
      simp;exact Q5.ok _ j5 _ _ rfl (.inr rfl) (by simp [psT,kS,cP])
  |true=>
   have hx:=hK true (by rw [hw,hf];rfl);rw [if_pos rfl] at hx;simp;refine gW.mk (vR dQ hone1 [(100000,100000),(100001,3),(100002,1)] (fun a j hx=>?_) ?_ ?_ ?_ rfl rfl (fun ws j2 x2=>?_) (fun n e hx2=>Q1.fail (hx.trans hx2) _))
   ·simp [xG,aN,aW,aR,aQ,bA,getKey]
   ·simp [xG,aN,aW,aR,aQ,bA,getKey]
   ·simp [aT,bC,rk]
   ·simp [xG,aT,bC,rk,cL,cW]
   ·have Q2:=Q1.step (hx.trans x2);have p2:=aA.list hV.fin (fun a=>a5T hV hty aty a) ([],[]) j1 ws j2 p1.2 x2;have hlen:ws.1.length≤50000∧ws.2.length≤50000:=by have:=pW hV (one:=a1P l ty) (fun a i=>a.1.length≤i∧a.2.length≤i) (a9t hV hty aty) (fun a i h=>by omega) _ _ _ _ _ p1.2 (by simp) x2;omega
    simp [bB,xG,aT,bC,rk,cL,cW,bN,gM,eX,eA];obtain ⟨ns,ts⟩:=ws;simp only at Q2 hlen;refine cF (ds:=[.sl (strs [[41]])]) aE (aG l [[41]] j2 p2.2 (by omega) hV.fin (by simp)) (by simp [strs]) (by simp) (fun u3 j3 x3=>?_) (fun n e hx=>by first|exact Q2.fail hx _|(simp;exact Q2.fail hx _)|(simp;exact fun s=>Q2.fail hx s));have Q3:=Q2.step x3;have p3:=aA.exp hV.fin _ _ j2 u3 j3 p2.2 x3;simp;by_cases hn:ns.length=0
    ·have hn0:ns=[]:=List.eq_nil_of_length_eq_zero hn;subst hn0;by_cases h1:ts.length=1
     ·obtain ⟨t,rfl⟩:=List.length_eq_one_iff.1 h1;have hb:=gZ (G:=G) l j3 [45,62] p3.2 (by omega);simp;refine bG (ds:=[.str [45,62]]) eT hb (by simp) (by simp) ?_
      cases hs:aI l j3 [45,62] with
      |false=>have Q3:=Q3.ifp (by simp [hs]);simp;exact Q3.ok _ j3 _ _ rfl (.inr rfl) (by simp [cP])
      |true=>
       have Q3:=Q3.xF (by simp [hs]);simp;refine cF (ds:=[.sl (strs [[45,62]])]) aE (aG l [[45,62]] j3 p3.2 (by omega) hV.fin (by simp)) (by simp [strs]) (by simp) (fun u4 j4 x4=>?_) (fun n e hx=>by first|exact Q3.fail hx _|(simp;exact Q3.fail hx _)|(simp;exact fun s=>Q3.fail hx s));have Q4:=Q3.step x4;have p4:=aA.exp hV.fin _ _ j3 u4 j4 p3.2 x4;simp;refine dS 6 (t:=28) (e:=45) (T:=45) (s:=48) (z:=52) (r:=53) (p:=54) (q:=51) (x:=50) (b:=55) (y:=3) (fd:=2) [0] 3 [2] (a0T 1 4 5) (gK (ty j4)) rfl rfl rfl rfl rfl (by kernel_rfl) (by kernel_rfl) rfl ?_
       simp
       repeat' apply And.intro
       all_goals
        refine sO cN ((hty j4 (by omega) p4.2)) (by simp) (by simp) (fun t5 j5 x5=>?_) (fun n e hx=>by first|exact Q4.fail hx _|(simp;exact Q4.fail hx _)|(simp;exact fun s=>Q4.fail hx s));have Q5:=Q4.step x5;have p5:=aty j4 t5 j5 p4.2 x5;refine dA.mk ?_
        simp;refine ⟨_,_,_,_,_,_,_,_,_,by simp,rfl,rfl,?_,rfl,rfl,?_,by simp,rfl,rfl,rfl,rfl,by decide,rfl,?_⟩
        ·intro c hc
         first
          |(obtain ⟨y,_,rfl⟩:=List.mem_map.1 hc
            rw [cP]
            rfl)
          |(simp only [d7d] at hc
            subst hc
            rfl)
        ·simp<;>omega
        simp;exact Q5.ok _ j5 _ _ rfl (.inr rfl) (by simp [psT,kS,cP])
     ·have Q3:=Q3.xF (by simp [h1]);simp [h1];refine cF (ds:=[.sl (strs [[45,62]])]) aE (aG l [[45,62]] j3 p3.2 (by omega) hV.fin (by simp)) (by simp [strs]) (by simp) (fun u4 j4 x4=>?_) (fun n e hx=>by first|exact Q3.fail hx _|(simp;exact Q3.fail hx _)|(simp;exact fun s=>Q3.fail hx s));have Q4:=Q3.step x4;have p4:=aA.exp hV.fin _ _ j3 u4 j4 p3.2 x4;simp;refine dS 6 (t:=28) (e:=45) (T:=45) (s:=48) (z:=52) (r:=53) (p:=54) (q:=51) (x:=50) (b:=55) (y:=3) (fd:=2) [0] 3 [2] (a0T 1 4 5) (gK (ty j4)) rfl rfl rfl rfl rfl (by kernel_rfl) (by kernel_rfl) rfl ?_
      simp
      repeat' apply And.intro
      all_goals
       refine sO cN ((hty j4 (by omega) p4.2)) (by simp) (by simp) (fun t5 j5 x5=>?_) (fun n e hx=>by first|exact Q4.fail hx _|(simp;exact Q4.fail hx _)|(simp;exact fun s=>Q4.fail hx s));have Q5:=Q4.step x5;have p5:=aty j4 t5 j5 p4.2 x5;refine dA.mk ?_
       simp;refine ⟨_,_,_,_,_,_,_,_,_,by simp,rfl,rfl,?_,rfl,rfl,?_,by simp,rfl,rfl,rfl,rfl,by decide,rfl,?_⟩
       ·intro c hc
        first
         |(obtain ⟨y,_,rfl⟩:=List.mem_map.1 hc
           rw [cP]
           rfl)
         |(simp only [d7d] at hc
           subst hc
           rfl)
       ·simp<;>omega
       simp;exact Q5.ok _ j5 _ _ rfl (.inr rfl) (by simp [psT,kS,cP])
    ·have Q3:=Q3.xF (by simp [hn]);have hn': ¬(ns.length:Int)=0:=by omega
     have hn2: ¬ns=[]:=fun e=>hn (by rw [e];rfl)
     simp [hn,hn',hn2];refine cF (ds:=[.sl (strs [[45,62]])]) aE (aG l [[45,62]] j3 p3.2 (by omega) hV.fin (by simp)) (by simp [strs]) (by simp) (fun u4 j4 x4=>?_) (fun n e hx=>by first|exact Q3.fail hx _|(simp;exact Q3.fail hx _)|(simp;exact fun s=>Q3.fail hx s));have Q4:=Q3.step x4;have p4:=aA.exp hV.fin _ _ j3 u4 j4 p3.2 x4;simp;refine dS 6 (t:=28) (e:=45) (T:=45) (s:=48) (z:=52) (r:=53) (p:=54) (q:=51) (x:=50) (b:=55) (y:=3) (fd:=2) [0] 3 [2] (a0T 1 4 5) (gK (ty j4)) rfl rfl rfl rfl rfl (by kernel_rfl) (by kernel_rfl) rfl ?_
     simp
     repeat' apply And.intro
     all_goals
      refine sO cN ((hty j4 (by omega) p4.2)) (by simp) (by simp) (fun t5 j5 x5=>?_) (fun n e hx=>by first|exact Q4.fail hx _|(simp;exact Q4.fail hx _)|(simp;exact fun s=>Q4.fail hx s));have Q5:=Q4.step x5;have p5:=aty j4 t5 j5 p4.2 x5;refine dA.mk ?_
      simp;refine ⟨_,_,_,_,_,_,_,_,_,by simp,rfl,rfl,?_,rfl,rfl,?_,by simp,rfl,rfl,rfl,rfl,by decide,rfl,?_⟩
      ·intro c hc
       first
        |(obtain ⟨y,_,rfl⟩:=List.mem_map.1 hc
          rw [cP]
          rfl)
        |(simp only [d7d] at hc
          subst hc
          rfl)
      ·simp<;>omega
      simp;exact Q5.ok _ j5 _ _ rfl (.inr rfl) (by simp [psT,kS,cP])
end
end
end
section
open Go Go.VM
variable {G:GT}
theorem vD:VM.Enters Tryz.prog 272:=VM.Enters.mk Tryz.func272 rfl
theorem a4Z:VM.Enters Tryz.prog 282:=VM.Enters.mk Tryz.func282 rfl
section
variable {rdP:List Tok→Nat→Nat→kY Pr} {l:List Tok} (hV:kQ G rdP l)
include hV
section
variable {ty:aS Ty} {low:Nat} (hty:∀i,low≤i→i<l.length→pF G 39 [] l i (ty i) a7o) (aty:aA l 1 ty) (ity:∀i t j,i<l.length→ty i= .ok t j→TyI t i j)
include hty aty ity
theorem c1z (i:Nat)(hlow:low≤i+1)(hi:i<l.length):pF G 39 [] l i (oV aX bE rdP l ty i) a7o:=by
 have hl:=hV.len;obtain ⟨j0,rfl⟩:∃j0,j0=i:=⟨_,rfl⟩;have p0:j0≤j0∧j0<l.length:=⟨d7m _,hi⟩;have ht:=cI (G:=G) l j0 j0 0 (by omega) (by omega) (by intro e;subst e;simp at hi) (by omega);refine kF.cV Tryz.func39 rfl Tryz.ntmps39 rfl (by simp) ?_
 intro Q Q0;unfold oV at Q0;simp;refine cF a7b (a9r hV j0 hi) (by simp) (by simp) (fun o j1 x1=>?_) (fun n e hx=>by first|exact Q0.fail hx _|(simp;exact Q0.fail hx _)|(simp;exact fun s=>Q0.fail hx s));have Q1:=Q0.step x1;have p1:=aA.base hV.fin j0 o j1 p0.2 x1;cases o with
 |some t=>obtain ⟨op,nm,args,ns,p,ps⟩:=t;simp;exact Q1.ok _ j1 _ _ rfl (.inr rfl) (by simp)
 |none=>
 have hj:=rS x1;subst hj;simp only at Q1;simp [oL,kS];refine bG (ds:=[.int .i64 0]) bP ht (by simp) (by simp) ?_
 cases hti:kT (aJ l j1) with
 |true=>
  rw [hti,if_pos rfl] at Q1;have hk:(aJ l j1).kind=2:=by simpa [kT] using hti
  generalize aJ l j1=T at hk ⊢;obtain ⟨k,x,n,ln⟩:=T;simp only at hk;subst hk;simp [cJ];refine cF (ds:=[]) b6h (b8q hV hty (aty.le (by omega)) ity j1 hlow p1.2) (by simp) (by simp) (fun t j h=>?_) (fun n e h=>Q1.bad n e _ h);simp;exact Q1.ok t j _ _ h (.inr rfl) (by simp)
 |false=>
  rw [hti,if_neg (by decide)] at Q1;have hk: ¬(aJ l j1).kind=2:=by simpa [kT] using hti
  generalize aJ l j1=T at hk ⊢;obtain ⟨k,x,n,ln⟩:=T;simp only at hk;simp [cJ,hk];have hb:=gZ (G:=G) l j1 [123] p1.2 (by omega);refine bG (ds:=[.str [123]]) eT hb (by simp) (by simp) ?_
  cases hs:aI l j1 [123] with
  |true=>rw [hs,if_pos rfl] at Q1;simp;refine cF (ds:=[]) a1O (a3i hV hty (aty.le (by omega)) ity j1 hlow p1.2) (by simp) (by simp) (fun t j h=>?_) (fun n e h=>Q1.bad n e _ h);simp;exact Q1.ok t j _ _ h (.inr rfl) (by simp)
  |false=>rw [hs,if_neg (by decide)] at Q1;simp;refine cF (ds:=[]) b8r (c1y hV hty aty j1 hlow p1.2) (by simp) (by simp) (fun t j h=>?_) (fun n e h=>Q1.bad n e _ h);simp;exact Q1.ok t j _ _ h (.inr rfl) (by simp)
end
theorem a9u (op:Int)(nm:Nm)(args:List Ty)(ns:List Nm)(ps:List Pr){i j:Nat}(h:i≤j):TyI ⟨op,nm,args,ns,kS,ps⟩ i j:=by refine ⟨fun _=>rfl,?_⟩;simp [kS,dF,eE];omega
theorem b9Q {p q:Pr}{s r:Pr×Bool}(hp:p.op≠0)(hs:s.1.op≠0)(h:b0T p s=some r):r.1.op≠0:=by
 unfold b0T at h;split at h
 ·cases h;exact hs
 split at h
 ·cases h
 split at h
 ·cases h;simp
 ·cases h;exact hp
theorem b3L (b:Bool):(a1L b).op≠0:=by cases b<;>simp [a1L,b8m,c8Y]
theorem c9d {a b:Pr}(ha:a.op≠0)(hb:b.op≠0):(bE a b).op≠0:=by
 unfold bE a9p;cases h1:b0T a (a1L true,false) with
 |none=>exact b3L hV false
 |some s=>
  have k1:=b9Q hV (q:=a) ha (b3L hV true) h1;simp only [a9p];cases h2:b0T b s with
  |none=>exact b3L hV false
  |some r=>exact b9Q hV (q:=b) hb k1 h2
theorem c4i {a b:Pr}:dF (bE a b)≤dF a+dF b+1:=by
 have pos:∀p:Pr,1≤dF p:=fun p=>by cases p;simp [dF]
 have ha:=pos a;have hb:=pos b;unfold bE a9p;cases h1:b0T a (a1L true,false) with
 |none=>simp only [a9q];omega
 |some s=>
  have k1:dF s.1≤dF a∧(s.2=false→dF s.1=1):=by
   unfold b0T at h1;split at h1
   ·cases h1;simp only [a9q];exact ⟨ha,fun _=>trivial⟩
   split at h1
   ·cases h1
   simp only [Bool.false_eq_true,if_false,d7c] at h1;subst h1;exact ⟨d7m _,fun h=>by cases h⟩
  simp only [a9p];cases h2:b0T b s with
  |none=>simp only [a9q];omega
  |some r=>
   simp only;unfold b0T at h2;split at h2
   ·cases h2;omega
   split at h2
   ·cases h2
   split at h2
   ·cases h2;simp only [c4h];omega
   ·cases h2;simp only;omega
omit hV in
theorem bW {α β:Type}{x:aS α}{f:α→aS β}{i j:Nat}{b:β}(h:(x >>=f) i= .ok b j):∃a k,x i= .ok a k∧f a k= .ok b j:=by
 rw [eF] at h;cases hx:x i with
 |bad n e=>rw [hx] at h;cases h
 |ok a k=>rw [hx] at h;exact ⟨a,k,rfl,h⟩
theorem c1A {ty:aS Ty}(i:Nat)(t:Ty)(j:Nat)(h:oF aX bE rdP l ty i= .ok t j):t.pred=kS:=by
 unfold oF at h;obtain ⟨nm,k1,_,h⟩:=bW h;obtain ⟨args,k2,_,h⟩:=bW h;obtain ⟨b,k3,_,h⟩:=bW h;cases b with
 |true=>rw [if_pos rfl] at h;obtain ⟨ps,k4,_,h⟩:=bW h;obtain ⟨_,k5,_,h⟩:=bW h;cases h;rfl
 |false=>rw [if_neg (by decide)] at h;cases h;rfl
theorem b6l {ty:aS Ty}(aty:aA l 1 ty)(ity:∀i t j,i<l.length→ty i= .ok t j→TyI t i j)(i:Nat)(t:Ty)(j:Nat)(hi:i<l.length)(h:oU bE rdP l ty i= .ok t j):TyI t i j:=by
 unfold oU at h;obtain ⟨_,k1,h1,h⟩:=bW h;obtain ⟨t1,k2,h2,h⟩:=bW h;have a1:=aA.exp hV.fin _ _ i _ k1 hi h1;have a2:=aty k1 t1 k2 a1.2 h2;have i2:=ity k1 t1 k2 a1.2 h2;split at h
 ·unfold cQ at h;cases h
 obtain ⟨_,k3,h3,h⟩:=bW h;obtain ⟨p,k4,h4,h⟩:=bW h;obtain ⟨_,k5,h5,h⟩:=bW h;have a3:=aA.exp hV.fin _ _ k2 _ k3 a2.2 h3;have a4:=hV.pJ.pred k3 p k4 a3.2 h4;have a5:=aA.exp hV.fin _ _ k4 _ k5 a4.2 h5;have hp:=hV.nod k3 _ p k4 a3.2 h4;cases h;unfold TyI at i2 ⊢;simp only;by_cases hz:t1.pred.op=0
 ·rw [if_pos hz];exact ⟨fun h=>(hp.2 h).elim,by omega⟩
 ·rw [if_neg hz];have hn:=c4i hV (a:=t1.pred) (b:=p);exact ⟨fun h=>(c9d hV hz hp.2 h).elim,by omega⟩
theorem c4j {ty:aS Ty}(aty:aA l 1 ty)(ity:∀i t j,i<l.length→ty i= .ok t j→TyI t i j)(i:Nat)(t:Ty)(j:Nat)(hi:i<l.length)(h:qS aX l ty i= .ok t j):TyI t i j:=by
 have hadv:=aA.b7Z (kw:=aX) hV.fin (aty.le (by omega)) hV.pJ.pred i t j hi h;unfold qS at h;obtain ⟨_,k1,h1,h⟩:=bW h;obtain ⟨⟨ns,ts⟩,k2,h2,h⟩:=bW h;obtain ⟨_,k3,h3,h⟩:=bW h;have a1:=aA.exp hV.fin _ _ i _ k1 hi h1;simp only at h2 h3 h;have hI:∀(x:aS (List Nm×List Ty)),(∀(I:List Nm×List Ty→Nat→Prop),I ([],[]) k1→(∀a p b q,p<l.length→k1≤p→I a p→(a1P l ty a p= .ok b q∨a0O ty a p= .ok b q)→I b q∧q<l.length∧k1≤q)→(∀a p,I a p→I a (p+1))→x k1= .ok (ns,ts) k2→I (ns,ts) k2∧k2<l.length)→x k1= .ok (ns,ts) k2→(∀t∈ts,(t.pred.op=0→t.pred=a5P)∧dF t.pred+k1≤k2+1)∧k2<l.length:=fun x hx hx2=>by
  refine hx (fun a p=>∀t∈a.2,(t.pred.op=0→t.pred=a5P)∧dF t.pred+k1≤p+1) (by simp) (fun a p b q hp hk ha hab=>?_) (fun a p ha t ht=>by have:=ha t ht;exact ⟨this.1,by omega⟩) hx2;have key:∀t q',∀p',p≤p'→p'<l.length→ty p'= .ok t q'→(t.pred.op=0→t.pred=a5P)∧dF t.pred+k1≤q'+1∧q'<l.length∧p≤q':=fun t q' p' h1 h2 h3=>by have b1:=ity p' t q' h2 h3;have b2:=aty p' t q' h2 h3;exact ⟨b1.1,by have:=b1.2;omega,b2.2,by omega⟩
  rcases hab with hab|hab
  ·obtain ⟨w,m1,e1,hab⟩:=bW hab;obtain ⟨_,m2,e2,hab⟩:=bW hab;obtain ⟨t',m3,e3,hab⟩:=bW hab;have c1:=aA.word (kw:=aX) hV.fin p w m1 hp e1;have c2:=aA.exp hV.fin _ _ m1 _ m2 c1.2 e2;have c3:=key t' m3 m2 (by omega) c2.2 e3;cases hab;refine ⟨fun t ht=>?_,c3.2.2.1,by omega⟩;simp only [List.mem_append,d7d] at ht;rcases ht with ht|rfl
   ·have:=ha t ht;exact ⟨this.1,by omega⟩
   ·exact ⟨c3.1,c3.2.1⟩
  ·obtain ⟨t',m3,e3,hab⟩:=bW hab;have c3:=key t' m3 p (d7m _) hp e3;cases hab;refine ⟨fun t ht=>?_,c3.2.2.1,by omega⟩;simp only [List.mem_append,d7d] at ht;rcases ht with ht|rfl
   ·have:=ha t ht;exact ⟨this.1,by omega⟩
   ·exact ⟨c3.1,c3.2.1⟩
 have hA:(∀t∈ts,(t.pred.op=0→t.pred=a5P)∧dF t.pred+k1≤k2+1)∧k2<l.length:=by
  split at h2
  ·refine hI _ (fun I h0 hs hm hx=>?_) h2;have:=pW hV (one:=a1P l ty) (fun a p=>k1≤p∧I a p) (fun a p b q hp ha hab=>by have:=hs a p b q hp ha.1 ha.2 (.inl hab);exact ⟨⟨this.2.2,this.1⟩,this.2.1⟩) (fun a p h=>⟨by omega,hm a p h.2⟩) _ _ _ _ _ a1.2 ⟨d7m _,h0⟩ hx
   exact ⟨this.1.2,this.2⟩
  ·refine hI _ (fun I h0 hs hm hx=>?_) h2;have:=pW hV (one:=a0O ty) (fun a p=>k1≤p∧I a p) (fun a p b q hp ha hab=>by have:=hs a p b q hp ha.1 ha.2 (.inr hab);exact ⟨⟨this.2.2,this.1⟩,this.2.1⟩) (fun a p h=>⟨by omega,hm a p h.2⟩) _ _ _ _ _ a1.2 ⟨d7m _,h0⟩ hx
   exact ⟨this.1.2,this.2⟩
 have a3:=aA.exp hV.fin _ _ k2 _ k3 hA.2 h3;split at h
 ·rename_i hc;simp only [d6W,decide_eq_true_eq] at hc;obtain ⟨t',rfl⟩:=List.length_eq_one_iff.1 hc.1.2;cases h;have:=hA.1 t' (by simp);simp only [List.headD_cons];exact ⟨this.1,by omega⟩
 ·obtain ⟨_,k4,h4,h⟩:=bW h;obtain ⟨t',k5,h5,h⟩:=bW h;cases h;exact a9u hV _ _ _ _ _ (by omega)
theorem c4k {ty:aS Ty}(aty:aA l 1 ty)(ity:∀i t j,i<l.length→ty i= .ok t j→TyI t i j)(i:Nat)(t:Ty)(j:Nat)(hi:i<l.length)(h:oV aX bE rdP l ty i= .ok t j):TyI t i j:=by
 have hadv:=aA.c1a (kw:=aX) (andP:=bE) hV.fin (aty.le (by omega)) hV.pJ.pred i t j hi h;unfold oV at h;rw [eF] at h;cases hb:gI aX l i with
 |bad n e=>rw [hb] at h;cases h
 |ok o k=>
  rw [hb] at h;cases o with
  |some t'=>
   simp only [gA] at h;cases h;unfold gI at hb
   repeat' split at hb
   all_goals first|(cases hb;exact a9u hV _ _ _ _ _ (by omega))|cases hb
  |none=>
   have:=rS hb;subst this;simp only at h;split at h
   ·have hp:=c1A hV _ t j h;obtain ⟨op,nm,args,ns,p,ps⟩:=t;simp only at hp;subst hp;exact a9u hV _ _ _ _ _ (by omega)
   ·split at h
    ·exact b6l hV aty ity _ t j hi h
    ·exact c4j hV aty ity _ t j hi h
theorem a5a:∀n i t j,i<l.length→kZ aX bE rdP l n i= .ok t j→TyI t i j
 |0,i,t,j,_,h=>by unfold kZ at h;cases h
 |n+1,i,t,j,hi,h=>c4k hV (aA.a4E hV.fin hV.pJ.pred n) (a5a n) i t j hi h
theorem a9v:∀n i,i<l.length→l.length<n+i→pF G 39 [] l i (kZ aX bE rdP l n i) a7o
 |0,i,hi,h=>by omega
 |n+1,i,hi,h=>c1z hV (ty:=kZ aX bE rdP l n) (low:=i+1) (fun i' h1 h2=>a9v n i' h2 (by omega)) (aA.a4E hV.fin hV.pJ.pred n) (a5a hV n) i (d7m _) hi
theorem kN (i:Nat)(hi:i<l.length):pF G 39 [] l i (cK aX bE rdP l i) a7o:=a9v hV _ i hi (by omega)
theorem gR:aA l 1 (cK aX bE rdP l):=aA.vF hV.fin hV.pJ.pred
theorem c1B (i:Nat)(t:Ty)(j:Nat)(hi:i<l.length)(h:cK aX bE rdP l i= .ok t j):TyI t i j:=a5a hV _ i t j hi h
theorem b3M (i:Nat)(hi:i<l.length):pF G 124 [] l i (eG aX bE rdP l (cK aX bE rdP l) i) a7o:=a7c hV (low:=0) (fun i _ h=>kN hV i h) ((gR hV).le (by omega)) (c1B hV) i (by omega) hi
def yQ (out:List Ty):List (Nat×aY):=[(100001,.cells [.d (.sl (out.map tyC))]),(100002,.cells [.ptr 100000 0])]
abbrev c4l:List (TypeId×List VM.Loc):=[(45,[.c 100001 0])]
abbrev b3N (rdP:List Tok→Nat→Nat→kY Pr)(l:List Tok)(out:List Ty):aS (List Ty):=do let t ← cK aX bE rdP l;pure (out++[t])
theorem b8u:wY l K3 [.ptr 100001 0,.ptr 100002 0] yQ c4l:=by
 constructor
 all_goals intros
 all_goals first
  |rfl
  |simp [yQ,aN,aW,aR,aQ,bA,getKey,aT,bC,cL,rk,cW,bN, *]
theorem a9w (out:List Ty):aA l 1 (b3N rdP l out):=(gR hV).bl fun _=>aA.aO _
theorem b6m (a:List Ty)(i:Nat)(b:List Ty)(j:Nat)(hi:i<l.length)(h:a.length≤i)(hx:b3N rdP l a i= .ok b j):b.length≤j:=by obtain ⟨t,k,h1,h2⟩:=bW hx;have:=gR hV i t k hi h1;cases h2;simp;omega
theorem a7q (out:List Ty)(i:Nat)(hi:i<l.length)(hout:out.length≤i):kF G 282 [.ptr 100001 0,.ptr 100002 0] (yQ out) c4l l i (b3N rdP l out i) (fun _=> .cM []) yQ:=by
 have hl:=hV.len;obtain ⟨j0,rfl⟩:∃j0,j0=i:=⟨_,rfl⟩;have p0:j0≤j0∧j0<l.length:=⟨d7m _,hi⟩;refine kF.cV Tryz.func282 rfl Tryz.ntmps282 rfl (by simp) ?_
 intro Q Q0;simp [yQ];refine a4R 5 (t:=28) (e:=45) (s:=2) (z:=6) (r:=7) (p:=8) (q:=5) (x:=4) (b:=0) [] 2 [1] (a0T 0 3 4) (gK (cK aX bE rdP l j0)) rfl rfl rfl rfl (by kernel_rfl) (by kernel_rfl) rfl ?_
 simp
 repeat' apply And.intro
 all_goals
  refine sO cN ((kN hV j0 p0.2)) (by simp) (by simp) (fun t j1 x1=>?_) (fun n e hx=>by first|exact Q0.fail hx _|(simp;exact Q0.fail hx _)|(simp;exact fun s=>Q0.fail hx s));have Q1:=Q0.step x1;have p1:=gR hV j0 t j1 p0.2 x1;refine dA.mk ?_
  simp;refine ⟨_,_,_,_,_,by simp,rfl,rfl,?_,rfl,rfl,?_,by simp,rfl,rfl,rfl,?_⟩
  ·intro c hc
   first
    |(obtain ⟨y,_,rfl⟩:=List.mem_map.1 hc
      rw [cP]
      rfl)
    |(simp only [d7d] at hc
      subst hc
      rfl)
  ·simp<;>omega
  exact Q1.ok _ j1 .normal _ rfl (.inl rfl) (by simp [yQ,cP])
theorem wZ (i:Nat)(hi:i<l.length):pF G 272 [] l i (oG aX bE rdP l i) (fun ts=> .d (.sl (ts.map tyC))):=by
 have hl:=hV.len;obtain ⟨j0,rfl⟩:∃j0,j0=i:=⟨_,rfl⟩;have p0:j0≤j0∧j0<l.length:=⟨d7m _,hi⟩;refine kF.cV Tryz.func272 rfl Tryz.ntmps272 rfl (by simp) ?_
 intro Q Q0;unfold oG at Q0;simp;cases hs:aI l j0 [91] with
 |false=>
  have Q1:=Q0.step (hU hs);rw [if_neg (by decide)] at Q1;refine bG (ds:=[.str [91]]) (d:= .d (.bool false)) aD (aV l j0 [91] p0.2 (by omega) hs) (by simp) (by simp) ?_
  simp;exact Q1.ok _ j0 _ _ rfl (.inr rfl) (by simp)
 |true=>
  have Q1:=Q0.step (hM hs);rw [if_pos rfl] at Q1;refine bG (ds:=[.str [91]]) (d:= .d (.bool true)) aD (aU l j0 [91] p0.2 (by omega) hs) (by simp) (by simp) ?_
  have p1:j0+1≤j0+1∧j0+1<l.length:=⟨d7m _,aF hV.fin p0.2 hs⟩;obtain ⟨j1,hj1⟩:∃j1,j0+1=j1:=⟨_,rfl⟩;rw [hj1] at Q1 p1 ⊢;simp;have hone:=eO hV [44] (b3N rdP l) (fun out i=>out.length≤i) 0 a4Z (b8u hV) (fun a=>(a9w hV a).le (by omega)) (fun a i _ hi h=>a7q hV a i hi h) (b6m hV) (fun a i h=>by omega) [] j1 (by omega) p1.2 (by simp);refine gW.mk (vR dQ hone [(100000,100000),(100001,3),(100002,1)] (fun a j hx=>?_) ?_ ?_ ?_ rfl rfl (fun ws j2 x2=>?_) (fun n e hx2=>Q1.fail hx2 _))
  ·simp [yQ,aN,aW,aR,aQ,bA,getKey]
  ·simp [yQ,aN,aW,aR,aQ,bA,getKey]
  ·simp [aT,bC,rk]
  ·simp [yQ,aT,bC,rk,cL,cW]
  ·have Q2:=Q1.step x2;have p2:=aA.list hV.fin (a9w hV) [] j1 ws j2 p1.2 x2;simp [bB,yQ,aT,bC,rk,cL,cW,bN,gM,eX,eA];refine cF (ds:=[.sl (strs [[93]])]) aE (aG l [[93]] j2 p2.2 (by omega) hV.fin (by simp)) (by simp [strs]) (by simp) (fun u3 j3 x3=>?_) (fun n e hx=>by first|exact Q2.fail hx _|(simp;exact Q2.fail hx _)|(simp;exact fun s=>Q2.fail hx s));have Q3:=Q2.step x3;have p3:=aA.exp hV.fin _ _ j2 u3 j3 p2.2 x3;simp;exact Q3.ok _ j3 _ _ rfl (.inr rfl) (by simp)
end
end
section
open Go Go.VM
variable {G:GT}
abbrev rM (e:bY):List D:=[.int .i64 e.op,.str e.name,.int .i64 e.n,.sl (e.kids.map wW),.sl (e.params.map a1z),.sl (e.alts.map a7l),.sl (e.types.map tyC)]
abbrev qY:bY→DV:=fun e=> .d (.agg (rM e))
@[simp] theorem d5P (o:Int)(ks:List bY):(bV o ks).op=o:=rfl
@[simp] theorem d4u (o:Int)(ks:List bY):(bV o ks).name=[]:=rfl
@[simp] theorem d6d (o:Int)(ks:List bY):(bV o ks).n=0:=rfl
@[simp] theorem d4v (o:Int)(ks:List bY):(bV o ks).kids=ks:=rfl
@[simp] theorem d1c (o:Int)(ks:List bY):(bV o ks).params=[]:=rfl
@[simp] theorem d4w (o:Int)(ks:List bY):(bV o ks).alts=[]:=rfl
@[simp] theorem d3k (o:Int)(ks:List bY):(bV o ks).types=[]:=rfl
theorem cD:VM.Enters Tryz.prog 68:=VM.Enters.mk Tryz.func68 rfl
theorem bZ:VM.Enters Tryz.prog 34:=VM.Enters.mk Tryz.func34 rfl
theorem a3O:VM.Enters Tryz.prog 168:=VM.Enters.mk Tryz.func168 rfl
theorem sJ:VM.Enters Tryz.prog 247:=VM.Enters.mk Tryz.func247 rfl
theorem yD:VM.Enters Tryz.prog 72:=VM.Enters.mk Tryz.func72 rfl
theorem b0V:VM.Enters Tryz.prog 121:=VM.Enters.mk Tryz.func121 rfl
theorem b8v:VM.Enters Tryz.prog 67:=VM.Enters.mk Tryz.func67 rfl
theorem a9x:VM.Enters Tryz.prog 271:=VM.Enters.mk Tryz.func271 rfl
theorem a1Q (o:Int)(ks:List bY):CS Tryz.prog G 68 [.int .i64 o,.sl (ks.map wW)] (.d (.agg (rM (bV o ks)))) none:=by
 refine CS.res (r':= .d (.agg [.int .i64 o,.str [],.int .i64 0,.sl (ks.map wW),.aM,.aM,.aM])) ?_ (by simp)
 refine CS.bI Tryz.func68 rfl Tryz.ntmps68 rfl ?_
 simp
theorem c1C (o:Int)(a:bY):CS Tryz.prog G 68 [.int .i64 o,.sl [rM a]] (.d (.agg [.int .i64 o,.str [],.int .i64 0,.sl [wW a],.aM,.aM,.aM])) none:=by
 rw [dG];refine CS.bI Tryz.func68 rfl Tryz.ntmps68 rfl ?_
 simp
theorem a2x (o:Int)(a:bY):CS Tryz.prog G 68 [.int .i64 o,.sl [rM a]] (.d (.agg (rM (bV o [a])))) none:=by
 have:=a1Q (G:=G) o [a]
 rwa [List.map_cons,List.map_nil,dG] at this
theorem jN (o:Int)(a b:bY):CS Tryz.prog G 68 [.int .i64 o,.sl [rM a,rM b]] (.d (.agg (rM (bV o [a,b])))) none:=by
 have:=a1Q (G:=G) o [a,b]
 rwa [List.map_cons,List.map_cons,List.map_nil,dG a,dG b] at this
theorem c1D (o:Int)(a b c:bY):CS Tryz.prog G 68 [.int .i64 o,.sl [rM a,rM b,rM c]] (.d (.agg (rM (bV o [a,b,c])))) none:=by
 have:=a1Q (G:=G) o [a,b,c]
 rwa [List.map_cons,List.map_cons,List.map_cons,List.map_nil,dG a,dG b,dG c] at this
theorem b6n {α β γ:Type}(x:aS α)(f:α→aS β)(g:β→aS γ)(i:Nat):((x >>=f) >>=g) i=(x >>=fun a=>f a >>=g) i:=by
 rw [eF,eF,eF];cases x i with
 |ok a j=>simp only [eF]
 |bad n e=>rfl
theorem uL.assoc {α β γ:Type}{Q:Exit→St→Prop}{rs:List ResultVar}{l:List Tok}{enc:γ→DV}{Y:γ→List (Nat×aY)}{own:List (TypeId×List VM.Loc)}{x:aS α}{f:α→aS β}{g:β→aS γ}{i:Nat}(h:uL Q rs l enc Y own (((x >>=f) >>=g) i)):uL Q rs l enc Y own ((x >>=fun a=>f a >>=g) i):=by rwa [b6n] at h
theorem CH.drop {P:Program}{f:FuncId}{s0:St}{d:DV}{H1:List (Nat×aY)}{own1:List (TypeId×List VM.Loc)}(h:CH P G f s0 ⟨[d],H1,own1⟩):CH P G f s0 ⟨[d],H1,[]⟩:=fun base R μ args w hr=>(h base R μ args w hr).mono fun e w' ⟨v,R',μ',he,hr',hs⟩=>⟨v,R',μ',he,⟨hr'.defers,hr'.size,hr'.tmps,hr'.gL,hr'.inj,fun c hc=>(by cases hc),by obtain ⟨vs,hvs⟩:=hr'.own;obtain ⟨vs',hv',_⟩:=a1m hr' [] own1 vs ⟨hvs.len,hvs.one,hvs.apart⟩ rfl;exact ⟨vs',hv'.len,fun i c v hc hv=>⟨(hv'.one i c v hc hv).dR,(hv'.one i c v hc hv).own,(hv'.one i c v hc hv).keys⟩,hv'.apart⟩,hr'.rX,hr'.mY,hr'.base,hr'.pass⟩,hs⟩
abbrev RdO (G:GT){α:Type}(f:FuncId)(ds:List D)(l:List Tok)(i:Nat)(e:TypeId)(r:kY α)(enc:α→DV):Prop:=CX Tryz.prog G f ⟨.ptr 100000 0::ds.map .d,rH l i,[]⟩ (rdE l enc (fun _=>[]) [(e,[.t 0])] r)
theorem RdO.m {α:Type}{f:FuncId}{ds:List D}{l:List Tok}{i:Nat}{e:TypeId}{r:kY α}{enc:α→DV}(h:RdO G f ds l i e r enc):pF G f ds l i r enc:=by
 cases r with
 |ok a j=>exact CH.drop h
 |bad n x=>exact h
section
variable {β:Type} {Q:Exit→St→Prop} {rs:List ResultVar} {l:List Tok} {i:Nat} {enc:β→DV} {e:TypeId} {r:kY β}
theorem RdO.cV {f:FuncId}{fn:Func}{c:Code}{k:Nat}{ds:List D}(hf:Tryz.prog.funcs[f]? =some fn)(hb:fn.body=some c)(hn:fn.ntmps=k)(hrs:fn.results.toList=rs)(h:∀Q:Exit→St→Prop,uL Q rs l enc (fun _=>[]) [(e,[.t 0])] r→XK Tryz.prog G [.code c] .normal ⟨.ptr 100000 0::ds.map .d++List.replicate (k-(.ptr 100000 0::ds.map .d:List DV).length) (.cM []),rH l i,[]⟩ Q):RdO G f ds l i e r enc:=by
 refine CX.b3q hf hb hn hrs rfl fun Q h1 h2=>SW.xk (h Q ⟨fun a j e s hr he hs=>?_,fun n e s hr=>?_⟩)
 ·subst hr;exact h1 _ _ _ e s rfl he hs
 ·subst hr;exact h2 _ s rfl
end
section
variable {rdP:List Tok→Nat→Nat→kY Pr} {l:List Tok} (hV:kQ G rdP l)
include hV
section
variable {ex:Nat→aS bY} {low:Nat} (hex:∀i,low≤i→i<l.length→pF G 34 [] l i (ex 0 i) qY) (aex:∀k,aA l 1 (ex k))
include hex aex
def a3k (out:List bY):List (Nat×aY):=[(100001,.cells [.d (.sl (out.map wW))]),(100002,.cells [.ptr 100000 0])]
abbrev d1d:List (TypeId×List VM.Loc):=[(30,[.c 100001 0])]
abbrev b6o (ex:Nat→aS bY)(out:List bY):aS (List bY):=do let e ← ex 0;pure (out++[e])
omit hex aex in
theorem c1E:wY l K3 [.ptr 100001 0,.ptr 100002 0] a3k d1d:=by
 constructor
 all_goals intros
 all_goals first
  |rfl
  |simp [a3k,aN,aW,aR,aQ,bA,getKey,aT,bC,cL,rk,cW,bN, *]
omit hex in
theorem a5U (out:List bY):aA l 1 (b6o ex out):=(aex 0).bl fun _=>aA.aO _
omit hex in
theorem a9y (a:List bY)(i:Nat)(b:List bY)(j:Nat)(hi:i<l.length)(h:a.length≤i)(hx:b6o ex a i= .ok b j):b.length≤j:=by obtain ⟨t,k,h1,h2⟩:=bW hx;have:=aex 0 i t k hi h1;cases h2;simp;omega
theorem b6p (out:List bY)(i:Nat)(hlow:low≤i)(hi:i<l.length)(hout:out.length≤i):kF G 121 [.ptr 100001 0,.ptr 100002 0] (a3k out) d1d l i (b6o ex out i) (fun _=> .cM []) a3k:=by
 have hl:=hV.len;obtain ⟨j0,rfl⟩:∃j0,j0=i:=⟨_,rfl⟩;have p0:j0≤j0∧j0<l.length:=⟨d7m _,hi⟩;refine kF.cV Tryz.func121 rfl Tryz.ntmps121 rfl (by simp) ?_
 intro Q Q0;simp [a3k];refine a4R 5 (t:=25) (e:=30) (s:=2) (z:=6) (r:=7) (p:=8) (q:=5) (x:=4) (b:=0) [] 2 [1] (a0T 0 3 4) (gK (ex 0 j0)) rfl rfl rfl rfl (by kernel_rfl) (by kernel_rfl) rfl ?_
 simp
 repeat' apply And.intro
 all_goals
  refine sO bZ ((hex j0 hlow p0.2)) (by simp) (by simp) (fun t j1 x1=>?_) (fun n e hx=>by first|exact Q0.fail hx _|(simp;exact Q0.fail hx _)|(simp;exact fun s=>Q0.fail hx s));have Q1:=Q0.step x1;have p1:=aex 0 j0 t j1 p0.2 x1;refine dA.mk ?_
  simp;refine ⟨_,_,_,_,_,by simp,rfl,rfl,?_,rfl,rfl,?_,by simp,rfl,rfl,rfl,?_⟩
  ·intro c hc
   first
    |(obtain ⟨y,_,rfl⟩:=List.mem_map.1 hc
      rw [dG]
      rfl)
    |(simp only [d7d] at hc
      subst hc
      rfl)
  ·simp<;>omega
  exact Q1.ok _ j1 .normal _ rfl (.inl rfl) (by simp [a3k,dG])
theorem a9z (i:Nat)(hlow:low≤i+1)(hi:i<l.length):RdO G 72 [] l i 30 (eR l ex i) (fun es=> .d (.sl (es.map wW))):=by
 have hl:=hV.len;obtain ⟨j0,rfl⟩:∃j0,j0=i:=⟨_,rfl⟩;have p0:j0≤j0∧j0<l.length:=⟨d7m _,hi⟩;refine RdO.cV Tryz.func72 rfl Tryz.ntmps72 rfl ?_
 intro Q Q0;unfold eR at Q0;simp;refine cF (ds:=[.sl (strs [[40]])]) aE (aG l [[40]] j0 p0.2 (by omega) hV.fin (by simp)) (by simp [strs]) (by simp) (fun u1 j1 x1=>?_) (fun n e hx=>by first|exact Q0.fail hx _|(simp;exact Q0.fail hx _)|(simp;exact fun s=>Q0.fail hx s));have Q1:=Q0.step x1;have p1:=aA.exp hV.fin _ _ j0 u1 j1 p0.2 x1;simp;have hone:=eO hV [44] (b6o ex) (fun out i=>out.length≤i) low b0V (c1E hV) (fun a=>(a5U hV aex a).le (by omega)) (fun a i rY hi h=>b6p hV hex aex a i rY hi h) (a9y hV aex) (fun a i h=>by omega) [] j1 (by omega) p1.2 (by simp);refine gW.mk (vR dQ hone [(100000,100000),(100001,3),(100002,1)] (fun a j hx=>?_) ?_ ?_ ?_ rfl rfl (fun ws j2 x2=>?_) (fun n e hx2=>Q1.fail hx2 _))
 ·simp [a3k,aN,aW,aR,aQ,bA,getKey]
 ·simp [a3k,aN,aW,aR,aQ,bA,getKey]
 ·simp [aT,bC,rk]
 ·simp [a3k,aT,bC,rk,cL,cW]
 ·have Q2:=Q1.step x2;have p2:=aA.list hV.fin (fun a=>a5U hV aex a) [] j1 ws j2 p1.2 x2;simp [bB,a3k,aT,bC,rk,cL,cW,bN,gM,eX,eA];refine cF (ds:=[.sl (strs [[41]])]) aE (aG l [[41]] j2 p2.2 (by omega) hV.fin (by simp)) (by simp [strs]) (by simp) (fun u3 j3 x3=>?_) (fun n e hx=>by first|exact Q2.fail hx _|(simp;exact Q2.fail hx _)|(simp;exact fun s=>Q2.fail hx s));have Q3:=Q2.step x3;have p3:=aA.exp hV.fin _ _ j2 u3 j3 p2.2 x3;simp;exact Q3.ok _ j3 _ _ rfl (.inr rfl) (by simp)
theorem a3P (i:Nat)(hlow:low≤i+1)(hi:i<l.length):pF G 72 [] l i (eR l ex i) (fun es=> .d (.sl (es.map wW))):=(a9z hV hex aex i hlow hi).m
theorem b2h (op:Int)(i:Nat)(hlow:low≤i+1)(hi:i<l.length):pF G 271 [.int .i64 op] l i (tD l ex op i) qY:=by
 have hl:=hV.len;obtain ⟨j0,rfl⟩:∃j0,j0=i:=⟨_,rfl⟩;have p0:j0≤j0∧j0<l.length:=⟨d7m _,hi⟩;refine kF.cV Tryz.func271 rfl Tryz.ntmps271 rfl (by simp) ?_
 intro Q Q0;unfold tD at Q0;simp;refine cF (ds:=[.sl (strs [[40]])]) aE (aG l [[40]] j0 p0.2 (by omega) hV.fin (by simp)) (by simp [strs]) (by simp) (fun u1 j1 x1=>?_) (fun n e hx=>by first|exact Q0.fail hx _|(simp;exact Q0.fail hx _)|(simp;exact fun s=>Q0.fail hx s));have Q1:=Q0.step x1;have p1:=aA.exp hV.fin _ _ j0 u1 j1 p0.2 x1;simp;refine cF bZ ((hex j1 (by omega) p1.2)) (by simp) (by simp) (fun e j2 x2=>?_) (fun n e hx=>by first|exact Q1.fail hx _|(simp;exact Q1.fail hx _)|(simp;exact fun s=>Q1.fail hx s));have Q2:=Q1.step x2;have p2:=aex 0 j1 e j2 p1.2 x2;simp;refine cF (ds:=[.sl (strs [[41]])]) aE (aG l [[41]] j2 p2.2 (by omega) hV.fin (by simp)) (by simp [strs]) (by simp) (fun u3 j3 x3=>?_) (fun n e hx=>by first|exact Q2.fail hx _|(simp;exact Q2.fail hx _)|(simp;exact fun s=>Q2.fail hx s));have Q3:=Q2.step x3;have p3:=aA.exp hV.fin _ _ j2 u3 j3 p2.2 x3;simp;refine kP.mk cD (a2x op e) ?_
 simp;exact Q3.ok _ j3 _ _ rfl (.inr rfl) (by simp)
theorem c1F (i:Nat)(hlow:low≤i+1)(hi:i<l.length):pF G 67 [] l i (uV aX bE rdP l ex i) qY:=by
 have hl:=hV.len;obtain ⟨j0,rfl⟩:∃j0,j0=i:=⟨_,rfl⟩;have p0:j0≤j0∧j0<l.length:=⟨d7m _,hi⟩;refine kF.cV Tryz.func67 rfl Tryz.ntmps67 rfl (by simp) ?_
 intro Q Q0;unfold uV at Q0;simp;refine cF cO (dI hV.kw l j0 p0.2 (by omega)) (by simp) (by simp) (fun nm j1 x1=>?_) (fun n e hx=>by first|exact Q0.fail hx _|(simp;exact Q0.fail hx _)|(simp;exact fun s=>Q0.fail hx s));have Q1:=Q0.step x1;have p1:=aA.word hV.fin j0 nm j1 p0.2 x1;simp;cases hs:aI l j1 [58] with
 |false=>
  have Q2:=Q1.step (hU hs);rw [if_neg (by decide)] at Q2;refine bG (ds:=[.str [58]]) (d:= .d (.bool false)) aD (aV l j1 [58] p1.2 (by omega) hs) (by simp) (by simp) ?_
  simp;have Q1:=Q2.step (gA _ _);refine cF (ds:=[.sl (strs [[61]])]) aE (aG l [[61]] j1 p1.2 (by omega) hV.fin (by simp)) (by simp [strs]) (by simp) (fun u4 j4 x4=>?_) (fun n e hx=>by first|exact Q1.fail hx _|(simp;exact Q1.fail hx _)|(simp;exact fun s=>Q1.fail hx s));have Q4:=Q1.step x4;have p4:=aA.exp hV.fin _ _ j1 u4 j4 p1.2 x4;simp;refine cF bZ ((hex j4 (by omega) p4.2)) (by simp) (by simp) (fun x j5 x5=>?_) (fun n e hx=>by first|exact Q4.fail hx _|(simp;exact Q4.fail hx _)|(simp;exact fun s=>Q4.fail hx s));have Q5:=Q4.step x5;have p5:=aex 0 j4 x j5 p4.2 x5;simp;refine cF (ds:=[.sl (strs [[105,110]])]) aE (aG l [[105,110]] j5 p5.2 (by omega) hV.fin (by simp)) (by simp [strs]) (by simp) (fun u6 j6 x6=>?_) (fun n e hx=>by first|exact Q5.fail hx _|(simp;exact Q5.fail hx _)|(simp;exact fun s=>Q5.fail hx s));have Q6:=Q5.step x6;have p6:=aA.exp hV.fin _ _ j5 u6 j6 p5.2 x6;simp;refine jY [1] 2 [] (.op 0 (.call [3,4,5] .none) (.call [0,3,4,5] .none)) (gK (ex 0 j6)) (by kernel_rfl) (by kernel_rfl) ?_
  simp;refine ⟨?_,?_⟩
  all_goals
   refine sO bZ ((hex j6 (by omega) p6.2)) (by simp) (by simp) (fun y j7 x7=>?_) (fun n e hx=>by first|exact Q6.fail hx _|(simp;exact Q6.fail hx _)|(simp;exact fun s=>Q6.fail hx s));have Q7:=Q6.step x7;have p7:=aex 0 j6 y j7 p6.2 x7;refine dA.mk ?_
   simp;exact Q7.ok _ j7 _ _ rfl (.inr rfl) (by simp [dG,cP])
 |true=>
  have Q2:=Q1.step (hM hs);rw [if_pos rfl] at Q2;refine bG (ds:=[.str [58]]) (d:= .d (.bool true)) aD (aU l j1 [58] p1.2 (by omega) hs) (by simp) (by simp) ?_
  have p2:j1+1≤j1+1∧j1+1<l.length:=⟨d7m _,aF hV.fin p1.2 hs⟩;obtain ⟨j2,hj2⟩:∃j2,j1+1=j2:=⟨_,rfl⟩;rw [hj2] at Q2 p2 ⊢;simp;have Q2:=Q2.assoc;refine cF cN ((kN hV j2 p2.2)) (by simp) (by simp) (fun t j3 x3=>?_) (fun n e hx=>by first|exact Q2.fail hx _|(simp;exact Q2.fail hx _)|(simp;exact fun s=>Q2.fail hx s));have Q3:=Q2.step x3;have p3:=gR hV j2 t j3 p2.2 x3;simp;have Q3:=Q3.step (gA _ _);refine cF (ds:=[.sl (strs [[61]])]) aE (aG l [[61]] j3 p3.2 (by omega) hV.fin (by simp)) (by simp [strs]) (by simp) (fun u4 j4 x4=>?_) (fun n e hx=>by first|exact Q3.fail hx _|(simp;exact Q3.fail hx _)|(simp;exact fun s=>Q3.fail hx s));have Q4:=Q3.step x4;have p4:=aA.exp hV.fin _ _ j3 u4 j4 p3.2 x4;simp;refine cF bZ ((hex j4 (by omega) p4.2)) (by simp) (by simp) (fun x j5 x5=>?_) (fun n e hx=>by first|exact Q4.fail hx _|(simp;exact Q4.fail hx _)|(simp;exact fun s=>Q4.fail hx s));have Q5:=Q4.step x5;have p5:=aex 0 j4 x j5 p4.2 x5;simp;refine cF (ds:=[.sl (strs [[105,110]])]) aE (aG l [[105,110]] j5 p5.2 (by omega) hV.fin (by simp)) (by simp [strs]) (by simp) (fun u6 j6 x6=>?_) (fun n e hx=>by first|exact Q5.fail hx _|(simp;exact Q5.fail hx _)|(simp;exact fun s=>Q5.fail hx s));have Q6:=Q5.step x6;have p6:=aA.exp hV.fin _ _ j5 u6 j6 p5.2 x6;simp;refine jY [1] 2 [] (.op 0 (.call [3,4,5] .none) (.call [0,3,4,5] .none)) (gK (ex 0 j6)) (by kernel_rfl) (by kernel_rfl) ?_
  simp;refine ⟨?_,?_⟩
  all_goals
   refine sO bZ ((hex j6 (by omega) p6.2)) (by simp) (by simp) (fun y j7 x7=>?_) (fun n e hx=>by first|exact Q6.fail hx _|(simp;exact Q6.fail hx _)|(simp;exact fun s=>Q6.fail hx s));have Q7:=Q6.step x7;have p7:=aex 0 j6 y j7 p6.2 x7;refine dA.mk ?_
   simp;exact Q7.ok _ j7 _ _ rfl (.inr rfl) (by simp [dG,cP])
end
end
end
section
open Go Go.VM
variable {G:GT}
theorem a5b:VM.Enters Tryz.prog 136:=VM.Enters.mk Tryz.func136 rfl
theorem a9A:VM.Enters Tryz.prog 174:=VM.Enters.mk Tryz.func174 rfl
theorem b3O:VM.Enters Tryz.prog 152:=VM.Enters.mk Tryz.func152 rfl
theorem a7r:VM.Enters Tryz.prog 153:=VM.Enters.mk Tryz.func153 rfl
abbrev d5c (b:qI):List D:= .str b.name:: .sl (b.vars.map kU)::(prD b.hyp++prD b.goal)
theorem b9R (b:qI):b8b b=d5c b:=by
 rw [b8b,eY,eY]
 rfl
section
variable {rdP:List Tok→Nat→Nat→kY Pr} {l:List Tok} (hV:kQ G rdP l)
include hV
def yR (out:List psV):List (Nat×aY):=[(100001,.cells [.ptr 100000 0]),(100002,.cells [.d (.sl (out.map kU))])]
abbrev c4m:List (TypeId×List VM.Loc):=[(181,[.c 100002 0])]
abbrev b3P (l:List Tok)(out:List psV):aS (List psV):=do
 let c ← eQ l
 let w ← bL aX l
 pure (out++[(c,w)])
theorem b8w:wY l K3 [.ptr 100001 0,.ptr 100002 0] yR c4m:=by
 constructor
 all_goals intros
 all_goals first
  |rfl
  |simp [yR,aN,aW,aR,aQ,bA,getKey,aT,bC,cL,rk,cW,bN, *]
theorem a9B (out:List psV):aA l 1 (b3P l out):=(aA.title hV.fin).bl fun _=>((aA.word hV.fin).le (by omega)).bl fun _=>aA.aO _
theorem b6q (a:List psV)(i:Nat)(b:List psV)(j:Nat)(hi:i<l.length)(h:a.length≤i)(hx:b3P l a i= .ok b j):b.length≤j:=by have h1:=a9B hV a i b j hi hx;obtain ⟨_,_,_,hx⟩:=bW hx;obtain ⟨_,_,_,hx⟩:=bW hx;cases hx;simp;omega
theorem b3Q (out:List psV)(i:Nat)(hi:i<l.length)(hout:out.length≤i):kF G 174 [.ptr 100001 0,.ptr 100002 0] (yR out) c4m l i (b3P l out i) (fun _=> .cM []) yR:=by
 have hl:=hV.len;obtain ⟨j0,rfl⟩:∃j0,j0=i:=⟨_,rfl⟩;have p0:j0≤j0∧j0<l.length:=⟨d7m _,hi⟩;refine kF.cV Tryz.func174 rfl Tryz.ntmps174 rfl (by simp) ?_
 intro Q Q0;simp [yR];refine cF gO (jG l j0 p0.2 (by omega)) (by simp) (by simp) (fun c j1 x1=>?_) (fun n e hx=>by first|exact Q0.fail hx _|(simp;exact Q0.fail hx _)|(simp;exact fun s=>Q0.fail hx s));have Q1:=Q0.step x1;have p1:=aA.title hV.fin j0 c j1 p0.2 x1;simp;refine jY [1] 3 [2] (.op 0 (.call [4,5,6,7] .none) (.call [0,4,5,6,7] .none)) (gK (bL aX l j1)) (by kernel_rfl) (by kernel_rfl) ?_
 simp;refine ⟨?_,?_⟩
 all_goals
  refine sO cO (dI hV.kw l j1 p1.2 (by omega)) (by simp) (by simp) (fun w j2 x2=>?_) (fun n e hx=>by first|exact Q1.fail hx _|(simp;exact Q1.fail hx _)|(simp;exact fun s=>Q1.fail hx s));have Q2:=Q1.step x2;have p2:=aA.word hV.fin j1 w j2 p1.2 x2;refine dA.mk ?_
  simp;refine eL (by first|omega|(simp [kU];omega)) ?_
  simp;exact Q2.ok _ j2 _ _ rfl (.inl rfl) (by simp [yR,a2v hV])
theorem a7d (i:Nat)(hi:i<l.length):pF G 136 [] l i (tT aX l i) (fun ws=> .d (.sl (ws.map kU))):=by
 have hl:=hV.len;refine kF.cV Tryz.func136 rfl Tryz.ntmps136 rfl (by simp) ?_
 intro Q Q0;unfold tT at Q0;simp;have hone:=eO hV [44] (b3P l) (fun out i=>out.length≤i) 0 a9A (b8w hV) (fun a=>(a9B hV a).le (by omega)) (fun a i _ hi h=>b3Q hV a i hi h) (b6q hV) (fun a i h=>by omega) [] i (by omega) hi (by simp);refine gW.mk (vR dQ hone [(100000,100000),(100001,1),(100002,3)] (fun a j hx=>?_) ?_ ?_ ?_ rfl rfl (fun ws j2 hx2=>?_) (fun n e hx2=>Q0.bad n e _ hx2))
 ·simp [yR,aN,aW,aR,aQ,bA,getKey]
 ·simp [yR,aN,aW,aR,aQ,bA,getKey]
 ·simp [aT,bC,rk]
 ·simp [yR,aT,bC,rk,cL,cW]
 ·simp [bB,yR,aT,bC,rk,cL,cW,bN,gM,eX,eA];exact Q0.ok _ j2 _ _ hx2 (.inr rfl) (by simp)
theorem b6r (i:Nat)(hi:i<l.length):pF G 152 [] l i (tU aX rdP l i) (fun b=> .d (.agg (d5c b))):=by
 have hl:=hV.len;obtain ⟨j0,rfl⟩:∃j0,j0=i:=⟨_,rfl⟩;have p0:j0≤j0∧j0<l.length:=⟨d7m _,hi⟩;refine kF.cV Tryz.func152 rfl Tryz.ntmps152 rfl (by simp) ?_
 intro Q Q0;unfold tU at Q0;simp;refine cF cO (dI hV.kw l j0 p0.2 (by omega)) (by simp) (by simp) (fun nm j1 x1=>?_) (fun n e hx=>by first|exact Q0.fail hx _|(simp;exact Q0.fail hx _)|(simp;exact fun s=>Q0.fail hx s));have Q1:=Q0.step x1;have p1:=aA.word hV.fin j0 nm j1 p0.2 x1;simp;refine cF (ds:=[.sl (strs [[40]])]) aE (aG l [[40]] j1 p1.2 (by omega) hV.fin (by simp)) (by simp [strs]) (by simp) (fun u2 j2 x2=>?_) (fun n e hx=>by first|exact Q1.fail hx _|(simp;exact Q1.fail hx _)|(simp;exact fun s=>Q1.fail hx s));have Q2:=Q1.step x2;have p2:=aA.exp hV.fin _ _ j1 u2 j2 p1.2 x2;simp;refine cF yB ((a0p hV false j2 p2.2)) (by simp) (by simp) (fun vs j3 x3=>?_) (fun n e hx=>by first|exact Q2.fail hx _|(simp;exact Q2.fail hx _)|(simp;exact fun s=>Q2.fail hx s));have Q3:=Q2.step x3;have p3:=(aA.vars hV.fin false) j2 vs j3 p2.2 x3;simp;refine cF (ds:=[.sl (strs [[41]])]) aE (aG l [[41]] j3 p3.2 (by omega) hV.fin (by simp)) (by simp [strs]) (by simp) (fun u4 j4 x4=>?_) (fun n e hx=>by first|exact Q3.fail hx _|(simp;exact Q3.fail hx _)|(simp;exact fun s=>Q3.fail hx s));have Q4:=Q3.step x4;have p4:=aA.exp hV.fin _ _ j3 u4 j4 p3.2 x4;simp;refine cF mV (pV hV j4 p4.2) (by simp) (by simp) (fun p j5 x5=>?_) (fun n e hx=>by first|exact Q4.fail hx _|(simp;exact Q4.fail hx _)|(simp;exact fun s=>Q4.fail hx s));have Q5:=Q4.step x5;have p5:=hV.pJ.pred j4 p j5 p4.2 x5;simp;refine cF (ds:=[.sl (strs [[45,62]])]) aE (aG l [[45,62]] j5 p5.2 (by omega) hV.fin (by simp)) (by simp [strs]) (by simp) (fun u6 j6 x6=>?_) (fun n e hx=>by first|exact Q5.fail hx _|(simp;exact Q5.fail hx _)|(simp;exact fun s=>Q5.fail hx s));have Q6:=Q5.step x6;have p6:=aA.exp hV.fin _ _ j5 u6 j6 p5.2 x6;simp;refine cF mV (pV hV j6 p6.2) (by simp) (by simp) (fun q j7 x7=>?_) (fun n e hx=>by first|exact Q6.fail hx _|(simp;exact Q6.fail hx _)|(simp;exact fun s=>Q6.fail hx s));have Q7:=Q6.step x7;have p7:=hV.pJ.pred j6 q j7 p6.2 x7;simp;refine cF (ds:=[.sl (strs [[46]])]) aE (aG l [[46]] j7 p7.2 (by omega) hV.fin (by simp)) (by simp [strs]) (by simp) (fun u8 j8 x8=>?_) (fun n e hx=>by first|exact Q7.fail hx _|(simp;exact Q7.fail hx _)|(simp;exact fun s=>Q7.fail hx s));have Q8:=Q7.step x8;have p8:=aA.exp hV.fin _ _ j7 u8 j8 p7.2 x8;simp;exact Q8.ok _ j8 _ _ rfl (.inr rfl) (by simp)
omit hV in
theorem a1R (t:Tok):(cJ t).length=4:=rfl
theorem d3m {g:Nat}{d:Int}{i:Nat}(hi:i<l.length)(h:cU (aJ l i) [40]=true):uJ l (g+1) d i=uJ l g (d+1) (i+1):=by rw [uJ,if_pos hi,if_pos h]
theorem d3n {g:Nat}{d:Int}{i:Nat}(hi:i<l.length)(h0:cU (aJ l i) [40]=false)(h:cU (aJ l i) [41]=true):uJ l (g+1) d i=uJ l g (d-1) (i+1):=by rw [uJ,if_pos hi,if_neg (by rw [h0];decide),if_pos h]
theorem d3o {g:Nat}{d:Int}{i:Nat}(hi:i<l.length)(h0:cU (aJ l i) [40]=false)(h1:cU (aJ l i) [41]=false):uJ l (g+1) d i=if cU (aJ l i) [61]&&decide (d≤0) then i else uJ l g d (i+1):=by rw [uJ,if_pos hi,if_neg (by rw [h0];decide),if_neg (by rw [h1];decide)]
theorem d3p {g:Nat}{d:Int}{i:Nat}(hi: ¬i<l.length):uJ l (g+1) d i=l.length:=by rw [uJ,if_neg hi]
theorem a7O:∀(g:Nat) (d:Int) (i:Nat),uJ l g d i≤l.length
 |0,d,i=>by unfold uJ;omega
 |g+1,d,i=>by
  unfold uJ;split
  ·split
   ·exact a7O g _ _
   ·split
    ·exact a7O g _ _
    ·split
     ·omega
     ·exact a7O g _ _
  ·omega
theorem a9C (i:Nat)(hi:i<l.length):CH Tryz.prog G 153 ⟨[.ptr 100000 0],rH l i,[]⟩ ⟨[.d (.int .i64 (uJ l (l.length+1) 0 i))],rH l i,[]⟩:=by
 have hl:=hV.len;generalize hR:uJ l (l.length+1) 0 i=R;refine CH.bI Tryz.func153 rfl Tryz.ntmps153 rfl (by simp) ?_
 simp;refine SW.kJ (ι:={ x:Int×Nat×Nat // i≤x.2.1∧x.2.1≤l.length∧l.length<x.2.2+x.2.1∧(-(x.2.1:Int)≤x.1∧x.1≤x.2.1)∧uJ l x.2.2 x.1 x.2.1=R }) (fun x=>[(3,.d (.int .i64 x.1.1)),(4,.d (.int .i64 x.1.2.1))]) (fun _=>rH l i) (fun _=>[]) (fun x=>l.length-x.1.2.1) ⟨(0,i,l.length+1),d7m _,by simp only;omega,by simp only;omega,by simp only;omega,hR⟩ (by simp) ?_
 rintro ⟨⟨d,k,g⟩,h1,h2,h3,h4,hp⟩;simp only at h1 h2 h3 h4 hp;obtain ⟨g,rfl⟩:∃k,g=k+1:=⟨g-1,by omega⟩;by_cases hk:k<l.length
 ·have hT:aJ l k=l[k]:=by simp [aJ,hk]
  have hw:=bO (show k<9223372036854775807 by omega);have hd1:IntKind.i64.wrap (d+1)=d+1:=wrap64 (by omega);have hd2:IntKind.i64.wrap (d-1)=d-1:=wrap64 (by omega);simp [hk,a1R];refine aH.mk jQ (kM l[k] [40]) ?_
  cases e1:cU l[k] [40] with
  |true=>rw [d3m hV hk (by rw [hT];exact e1)] at hp;simp [hd1,hw];exact bQ.mk ⟨(d+1,k+1,g),by simp only;omega,by simp only;omega,by simp only;omega,by simp only;omega,hp⟩ (by simp) (by simp;omega)
  |false=>
   simp [hk,a1R];refine aH.mk jQ (kM l[k] [41]) ?_
   cases e2:cU l[k] [41] with
   |true=>rw [d3n hV hk (by rw [hT];exact e1) (by rw [hT];exact e2)] at hp;simp [hd2,hw];exact bQ.mk ⟨(d-1,k+1,g),by simp only;omega,by simp only;omega,by simp only;omega,by simp only;omega,hp⟩ (by simp) (by simp;omega)
   |false=>
    rw [d3o hV hk (by rw [hT];exact e1) (by rw [hT];exact e2),hT] at hp;simp [hk,a1R];refine aH.mk jQ (kM l[k] [61]) ?_
    cases e3:cU l[k] [61] with
    |true=>
     by_cases hd:d≤0
     ·rw [e3,if_pos (by simp [hd])] at hp;subst hp;simp [hd]
     ·rw [e3,if_neg (by simp [hd])] at hp;simp [hd,hw];exact bQ.mk ⟨(d,k+1,g),by simp only;omega,by simp only;omega,by simp only;omega,by simp only;omega,hp⟩ (by simp) (by simp;omega)
    |false=>rw [e3,if_neg (by simp)] at hp;simp [hw];exact bQ.mk ⟨(d,k+1,g),by simp only;omega,by simp only;omega,by simp only;omega,by simp only;omega,hp⟩ (by simp) (by simp;omega)
 ·rw [d3p hV hk] at hp;subst hp;simp [hk,a1R]
end
end
section
open Go Go.VM
variable {G:GT}
theorem a3Q:VM.Enters Tryz.prog 108:=VM.Enters.mk Tryz.func108 rfl
theorem b3R:VM.Enters Tryz.prog 154:=VM.Enters.mk Tryz.func154 rfl
theorem SW.b6s {P:Program}{α:Type}{b c:Code}{st:St}{Q:Exit→St→Prop}(r:kY α)(st':α→Nat→St)(h1:SW P G b st fun e s=>match e with
  | .normal=>∃v j,r= .ok v j∧vM s (st' v j)
  |e=>Q e s)(h2:∀v j,r= .ok v j→SW P G c (st' v j) Q):SW P G (.seq b c) st Q:=SW.oW (SW.mono (fun e s h=>by
 cases e with
 |normal=>obtain ⟨v,j,hr,hw⟩:=h;exact SW.yK hw (h2 v j hr)
 |_=>exact h) h1)
structure xA (Q:Exit→St→Prop) {α:Type} (r0 r:kY α):Prop where
 eq:r0=r
 bad:∀n e s,r0= .bad n e→Q (.panic (vQ (mB n e))) s
section
variable {α β:Type} {Q:Exit→St→Prop} {i j:Nat} {n e:Int} {a:α} {r0:kY β}
theorem xA.step {x:aS α}{f:α→aS β}(h:xA Q r0 ((x >>=f) i))(hx:x i= .ok a j):xA Q r0 (f a j):=⟨h.eq.trans (bF hx),h.bad⟩
theorem xA.fail {x:aS α}{f:α→aS β}(h:xA Q r0 ((x >>=f) i))(hx:x i= .bad n e)(s:St):Q (.panic (vQ (mB n e))) s:=h.bad _ _ _ (h.eq.trans (gT hx))
end
theorem c1G {α β γ:Type}(x:aS α)(f:α→aS β)(g:β→aS γ):((x >>=f) >>=g)=(x >>=fun a=>f a >>=g):=funext fun i=>b6n x f g i
section
variable {rdP:List Tok→Nat→Nat→kY Pr} {l:List Tok} (hV:kQ G rdP l)
include hV
abbrev b3S (s:b1K):List D:= .sl (strs s.vars):: .sl (s.wU.map kU):: .sl (s.abs.map kU):: .sl (s.bounds.map b8b)::(tyD s.type++[.sl (s.b3e.map qR)])
omit hV in
theorem c9e (s:b1K):c8G s=b3S s:=by
 rw [c8G,cP]
 rfl
abbrev b9S (l:List Tok):aS (List Nm):=do
 let b ← cR l [102,111,114,97,108,108]
 if b then do
  let w ← bL aX l
  let ws ← oT l (fun i=>gU aX (aJ l i)) (uY l) [w]
  aL l [[46]]
  pure ws
 else pure []
abbrev b9T (l:List Tok):aS (List psV):=do
 let b ← cR l [119,104,101,114,101]
 if b then do
  let ns ← tT aX l
  aL l [[46]]
  pure ns
 else pure []
abbrev b9U (l:List Tok):aS (List psV):=do
 let b ← cR l [60]
 if b then do
  let ns ← tC aX l false
  aL l [[62],[46]]
  pure ns
 else pure []
abbrev c4n (rdP:List Tok→Nat→Nat→kY Pr)(l:List Tok)(out:List qI):aS (List qI):=do
 aL l [[98,111,117,110,100]]
 let b ← tU aX rdP l
 pure (out++[b])
abbrev b6t (rdP:List Tok→Nat→Nat→kY Pr)(l:List Tok):aS (List qI):=oT l (fun i=>aI l i [98,111,117,110,100]) (c4n rdP l) []
abbrev c1H (rdP:List Tok→Nat→Nat→kY Pr)(l:List Tok)(E:Nat)(out:List Pr):aS (List Pr):=do
 let p ← (fun j=>rdP l j E:aS Pr)
 pure (out++[p])
abbrev d1e (rdP:List Tok→Nat→Nat→kY Pr)(l:List Tok):aS (List Pr):=do
 let b ← cR l [109,101,116,114,105,99]
 if b then (fun i=>dT l [44] (c1H rdP l (uJ l (l.length+1) 0 i)) [] i) else pure []
omit hV in
theorem c4o:a0K aX bE rdP l=(do
  let vs ← b9S l
  let ns ← b9T l
  let abs ← b9U l
  let bs ← b6t rdP l
  let t ← cK aX bE rdP l
  let ms ← d1e rdP l
  pure ⟨vs,ns,abs,bs,t,ms⟩):=by
 unfold a0K;simp only [c1G]
theorem c4p:aA l 0 (b9S l):=(aA.skip hV.fin _).bl fun _=>aA.ite (((aA.word hV.fin).le (by omega)).bl fun _=>(aA.many (fun a=>((aA.word hV.fin).le (by omega)).bl fun _=>aA.aO _) _).bl fun _=>((aA.exp hV.fin _ _).le (by omega)).bl fun _=>aA.aO _) (aA.aO _)
theorem a1S:aA l 1 (tT aX l):=aA.wU hV.fin
theorem c4q:aA l 0 (b9T l):=(aA.skip hV.fin _).bl fun _=>aA.ite (((a1S hV).le (by omega)).bl fun _=>((aA.exp hV.fin _ _).le (by omega)).bl fun _=>aA.aO _) (aA.aO _)
theorem c4r:aA l 0 (b9U l):=(aA.skip hV.fin _).bl fun _=>aA.ite (((aA.vars hV.fin false).le (by omega)).bl fun _=>((aA.exp hV.fin _ _).le (by omega)).bl fun _=>aA.aO _) (aA.aO _)
theorem a7e:aA l 1 (tU aX rdP l):=aA.bound hV.fin hV.pJ.pred
theorem c4s (out:List qI):aA l 1 (c4n rdP l out):=(aA.exp hV.fin _ _).bl fun _=>((a7e hV).le (by omega)).bl fun _=>aA.aO _
theorem c4t:aA l 0 (b6t rdP l):=aA.many (fun a=>(c4s hV a).le (by omega)) _
theorem a9D (E:Nat):aA l 0 (fun j=>rdP l j E:aS Pr):=fun i p j hi hx=>hV.pJ E i p j hi hx
theorem c4u (E:Nat)(out:List Pr):aA l 0 (c1H rdP l E out):=(a9D hV E).bl fun _=>aA.aO _
theorem c1I (E:Nat)(a:List Pr)(i:Nat)(b:List Pr)(j:Nat)(hi:i<l.length)(h:a.length≤i)(hx:c1H rdP l E a i= .ok b j):b.length≤j:=by
 obtain ⟨p,k,h1,h2⟩:=bW hx;have h3:=(hV.nod i E p k hi h1).1;have pos:1≤dF p:=by cases p;simp [dF]
 cases h2;simp;omega
def b0W (vs:List Nm)(ns abs:List psV)(bs:List qI)(t:Ty)(E:Nat)(out:List Pr):List (Nat×aY):=[(100001,.cells (.d (.sl (strs vs)):: .d (.sl (ns.map kU)):: .d (.sl (abs.map kU)):: .d (.sl (bs.map b8b))::((tyD t).map .d++[.d (.sl (out.map qR))]))),(100002,.cells [.ptr 100000 0]),(100003,.cells [.d (.int .i64 E)])]
abbrev d5d:List (TypeId×List VM.Loc):=[(43,[.c 100001 13])]
theorem c4v (vs:List Nm)(ns abs:List psV)(bs:List qI)(t:Ty)(E:Nat):wY l K4 [.ptr 100001 0,.ptr 100002 0,.ptr 100003 0] (b0W vs ns abs bs t E) d5d:=by
 constructor
 all_goals intros
 all_goals first
  |rfl
  |simp [b0W,aN,aW,aR,aQ,bA,getKey,aT,bC,cL,rk,cW,bN, *]
theorem b8x (vs:List Nm)(ns abs:List psV)(bs:List qI)(t:Ty)(E:Nat)(hE:E≤l.length)(out:List Pr)(i:Nat)(hi:i<l.length)(hout:out.length≤i):kF G 154 [.ptr 100001 0,.ptr 100002 0,.ptr 100003 0] (b0W vs ns abs bs t E out) d5d l i (c1H rdP l E out i) (fun _=> .cM []) (b0W vs ns abs bs t E):=by
 have hl:=hV.len;obtain ⟨j0,rfl⟩:∃j0,j0=i:=⟨_,rfl⟩;have p0:j0≤j0∧j0<l.length:=⟨d7m _,hi⟩;refine kF.cV Tryz.func154 rfl Tryz.ntmps154 rfl (by simp) ?_
 intro Q Q0;simp [b0W];refine dS 7 (t:=41) (e:=43) (T:=68) (s:=4) (z:=9) (r:=10) (p:=11) (q:=8) (x:=7) (b:=12) (y:=0) (fd:=5) [0] 4 [2,3] (a0T 1 5 6) (gK (rdP l j0 E)) rfl rfl rfl rfl rfl (by kernel_rfl) (by kernel_rfl) rfl ?_
 simp
 repeat' apply And.intro
 all_goals
  refine sO a3g ((hV.bef j0 E p0.2 hE)) (by simp) (by simp) (fun q j1 x1=>?_) (fun n e hx=>by first|exact Q0.fail hx _|(simp;exact Q0.fail hx _)|(simp;exact fun s=>Q0.fail hx s));have Q1:=Q0.step x1;have p1:=(a9D hV E) j0 q j1 p0.2 x1;refine dA.mk ?_
  simp;refine ⟨_,_,_,_,_,_,_,_,_,by simp,rfl,rfl,?_,rfl,rfl,?_,by simp,rfl,rfl,rfl,rfl,by decide,rfl,?_⟩
  ·intro c hc
   first
    |(obtain ⟨y,_,rfl⟩:=List.mem_map.1 hc
      rw [eY]
      rfl)
    |(simp only [d7d] at hc
      subst hc
      rfl)
  ·simp<;>omega
  exact Q1.ok _ j1 .normal _ rfl (.inl rfl) (by simp [b0W,eY])
abbrev c9f:List DV:=[.d .aM,.d .aM,.d .aM,.d .aM,.d (.int .i64 0),.d (.str []),.d .aM,.d .aM,.d (.int .i64 0),.d (.str []),.d (.int .i64 0),.d .aM,.d .aM,.d .aM]
abbrev c9g (l:List Tok)(a b c d:D)(j:Nat):St:=⟨.ptr 100000 0:: .ptr 1 0:: .ptr 2 0:: .ptr 3 0::List.replicate 76 .undef,[(1,.cells [.ptr 100000 0]),(2,.cells c9f),(3,.cells [.d a,.d b,.d c,.d d,.d (.int .i64 0),.d (.str []),.d .aM,.d .aM,.d (.int .i64 0),.d (.str []),.d (.int .i64 0),.d .aM,.d .aM,.d .aM]),(100000,rdO l j)],[]⟩
theorem c4w (v:Bool)(i:Nat)(xs:List psV)(j:Nat)(hi:i<l.length)(h:tC aX l v i= .ok xs j):xs.length≤j:=by unfold tC at h;exact (pW hV (one:=b1X l v) (fun a p=>a.length≤p) (fun a p b q hp ha hab=>by have h1:=a5O hV v a p b q hp hab;have h2:=b1Y hV v a p b q hab;omega) (fun a p h=>by omega) _ _ _ _ _ hi (by simp) h).1
theorem a5V (i:Nat)(hi:i<l.length):pF G 108 [] l i (a0K aX bE rdP l i) (fun s=> .d (.agg (b3S s))):=by
 have hl:=hV.len;obtain ⟨j0,rfl⟩:∃j0,j0=i:=⟨_,rfl⟩;have p0:j0≤j0∧j0<l.length:=⟨d7m _,hi⟩;refine kF.a2W Tryz.func108 rfl Tryz.ntmps108 rfl (by simp) ?_
 intro Q Q0;rw [c4o] at Q0;refine SW.oW (SW.xk ?_);simp;refine SW.oW (SW.xk ?_);simp;refine SW.b6s (b9S l j0) (fun vs j=>c9g l (.sl (strs vs)) .aM .aM .aM j) ?_ fun vs j1 x1=>?_
 ·skip
  have Q0:=xA.mk (Q:=Q) (r0:=b9S l j0) rfl fun n e s h=>Q0.fail h s
  refine SW.oW (SW.xk ?_);simp;cases hs:aI l j0 [102,111,114,97,108,108] with
  |false=>
   have Q1:=Q0.step (hU hs);rw [if_neg (by decide)] at Q1;refine bG (ds:=[.str [102,111,114,97,108,108]]) (d:= .d (.bool false)) aD (aV l j0 [102,111,114,97,108,108] p0.2 (by omega) hs) (by simp) (by simp) ?_
   simp;refine SW.a6T rfl (SW.xk ?_);simp;exact ⟨_,_,Q1.eq,by simp [List.replicate]⟩
  |true=>
   have Q1:=Q0.step (hM hs);rw [if_pos rfl] at Q1;refine bG (ds:=[.str [102,111,114,97,108,108]]) (d:= .d (.bool true)) aD (aU l j0 [102,111,114,97,108,108] p0.2 (by omega) hs) (by simp) (by simp) ?_
   have p1:j0+1≤j0+1∧j0+1<l.length:=⟨d7m _,aF hV.fin p0.2 hs⟩;obtain ⟨j1,hj1⟩:∃j,j0+1=j:=⟨_,rfl⟩;rw [hj1] at Q1 p1 ⊢;simp;refine SW.a3c rfl (SW.xk ?_);simp;refine jY [0] 3 [2] (.op 1 (.call [4,5,6,7] .none) (.call [1,4,5,6,7] .none)) (gK (bL aX l j1)) (by kernel_rfl) (by kernel_rfl) ?_
   simp;refine ⟨?_,?_⟩
   all_goals
    refine sO cO (dI hV.kw l j1 p1.2 (by omega)) (by simp) (by simp) (fun w j2 x2=>?_) (fun n e hx=>by first|exact Q1.fail hx _|(simp;exact Q1.fail hx _)|(simp;exact fun s=>Q1.fail hx s));have Q2:=Q1.step x2;have p2:=aA.word hV.fin j1 w j2 p1.2 x2;refine dA.mk ?_
    simp;refine SW.vG (ι:={ x:List Nm×Nat×Nat // j2≤x.2.1∧x.2.1<l.length∧l.length<x.2.2+x.2.1∧x.1.length≤x.2.1∧dK (fun i=>gU aX (aJ l i)) (uY l) x.2.2 x.1 x.2.1=oT l (fun i=>gU aX (aJ l i)) (uY l) [w] j2 }) (fun _=>[]) (fun x=>[(1,.cells [.ptr 100000 0]),(2,.cells c9f),(3,.cells [.d (.sl (strs x.1.1)),.d .aM,.d .aM,.d .aM,.d (.int .i64 0),.d (.str []),.d .aM,.d .aM,.d (.int .i64 0),.d (.str []),.d (.int .i64 0),.d .aM,.d .aM,.d .aM]),(100000,rdO l x.1.2.1)]) (fun _=>[(9,[.c 3 0])]) (fun x=>l.length-x.1.2.1) ⟨([w],j2,l.length+2),d7m _,p2.2,by simp only;omega,by simp only [List.length_singleton];omega,rfl⟩ (by simp [strs]) ?_
    rintro ⟨⟨out,j3,g⟩,hb,hj3,hg,ho,hp⟩;simp only at hb hj3 hg ho hp;obtain ⟨g,rfl⟩:∃k,g=k+1:=⟨g-1,by omega⟩;have p3:j2≤j3∧j3<l.length:=⟨hb,hj3⟩;have ht:=cI (G:=G) l j3 j3 0 (by omega) (by omega) (by intro e;subst e;simp at hi) (by omega);simp;refine bG (i:=j3) (ds:=[.int .i64 0]) bP ht (by simp) (by simp) ?_
    simp;refine kP.mk jF (kD hV.kw (aJ l j3)) ?_
    cases hc:gU aX (aJ l j3) with
    |true=>
     simp;refine jY [0] 3 [2] (.op 1 (.call [4,5,6,7] .none) (.call [1,4,5,6,7] .none)) (gK (bL aX l j3)) (by kernel_rfl) (by kernel_rfl) ?_
     simp;refine ⟨?_,?_⟩
     all_goals
      refine sO (i:=j3) (ds:=[]) cO (dI hV.kw l j3 hj3 (by omega)) (by simp) (by simp) (fun w2 j4 x4=>?_) (fun n e hx=>?_)
      ·have p4:=aA.word (kw:=aX) hV.fin j3 w2 j4 hj3 x4;have h1:uY l out j3= .ok (out++[w2]) j4:=(bF x4).trans rfl;rw [tJ hV hc h1] at hp;refine dA.mk ?_
       simp;refine eL (by first|omega|(simp;omega)) ?_
       simp;exact bQ.mk ⟨(out++[w2],j4,g),by simp only;omega,p4.2,by simp only;omega,by simp;omega,hp⟩ (by simp [zI]) (by simp;omega)
      ·have h1:uY l out j3= .bad n e:=gT hx;rw [oP hV hc h1] at hp;simp
       first|exact Q2.fail hp.symm _|exact fun s=>Q2.fail hp.symm s
    |false=>rw [tK hV hc] at hp;have Q3:=Q2.step hp.symm;simp;refine cF (ds:=[.sl (strs [[46]])]) aE (aG l [[46]] j3 p3.2 (by omega) hV.fin (by simp)) (by simp [strs]) (by simp) (fun u4 j4 x4=>?_) (fun n e hx=>by first|exact Q3.fail hx _|(simp;exact Q3.fail hx _)|(simp;exact fun s=>Q3.fail hx s));have Q4:=Q3.step x4;have p4:=aA.exp hV.fin _ _ j3 u4 j4 p3.2 x4;simp;exact ⟨_,_,Q4.eq,by simp [List.replicate]⟩
 have Q0:=Q0.step x1;have p1:=c4p hV j0 vs j1 p0.2 x1
 clear p0 x1
 have p0:j1≤j1∧j1<l.length:=⟨d7m _,p1.2⟩
 clear p1 hi
 obtain ⟨j0,rfl⟩:∃j,j=j1:=⟨_,rfl⟩;refine SW.b6s (b9T l j0) (fun ns j=>c9g l (.sl (strs vs)) (.sl (ns.map kU)) .aM .aM j) ?_ fun ns j1 x1=>?_
 ·skip
  have Q0:=xA.mk (Q:=Q) (r0:=b9T l j0) rfl fun n e s h=>Q0.fail h s
  refine SW.oW (SW.xk ?_);simp [List.replicate];cases hs:aI l j0 [119,104,101,114,101] with
  |false=>
   have Q1:=Q0.step (hU hs);rw [if_neg (by decide)] at Q1;refine bG (ds:=[.str [119,104,101,114,101]]) (d:= .d (.bool false)) aD (aV l j0 [119,104,101,114,101] p0.2 (by omega) hs) (by simp) (by simp) ?_
   simp;refine SW.a6T rfl (SW.xk ?_);simp;exact ⟨_,_,Q1.eq,by simp [List.replicate]⟩
  |true=>
   have Q1:=Q0.step (hM hs);rw [if_pos rfl] at Q1;refine bG (ds:=[.str [119,104,101,114,101]]) (d:= .d (.bool true)) aD (aU l j0 [119,104,101,114,101] p0.2 (by omega) hs) (by simp) (by simp) ?_
   have p1:j0+1≤j0+1∧j0+1<l.length:=⟨d7m _,aF hV.fin p0.2 hs⟩;obtain ⟨j1,hj1⟩:∃j,j0+1=j:=⟨_,rfl⟩;rw [hj1] at Q1 p1 ⊢;simp;refine SW.a3c rfl (SW.xk ?_);simp;refine cF a5b ((a7d hV j1 p1.2)) (by simp) (by simp) (fun ns j2 x2=>?_) (fun n e hx=>by first|exact Q1.fail hx _|(simp;exact Q1.fail hx _)|(simp;exact fun s=>Q1.fail hx s));have Q2:=Q1.step x2;have p2:=a1S hV j1 ns j2 p1.2 x2;simp;refine cF (ds:=[.sl (strs [[46]])]) aE (aG l [[46]] j2 p2.2 (by omega) hV.fin (by simp)) (by simp [strs]) (by simp) (fun u3 j3 x3=>?_) (fun n e hx=>by first|exact Q2.fail hx _|(simp;exact Q2.fail hx _)|(simp;exact fun s=>Q2.fail hx s));have Q3:=Q2.step x3;have p3:=aA.exp hV.fin _ _ j2 u3 j3 p2.2 x3;simp;exact ⟨_,_,Q3.eq,by simp [List.replicate]⟩
 have Q0:=Q0.step x1;have p1:=c4q hV j0 ns j1 p0.2 x1
 clear p0 x1
 have p0:j1≤j1∧j1<l.length:=⟨d7m _,p1.2⟩
 clear p1
 obtain ⟨j0,rfl⟩:∃j,j=j1:=⟨_,rfl⟩;refine SW.b6s (b9U l j0) (fun abs j=>c9g l (.sl (strs vs)) (.sl (ns.map kU)) (.sl (abs.map kU)) .aM j) ?_ fun abs j1 x1=>?_
 ·skip
  have Q0:=xA.mk (Q:=Q) (r0:=b9U l j0) rfl fun n e s h=>Q0.fail h s
  refine SW.oW (SW.xk ?_);simp [List.replicate];cases hs:aI l j0 [60] with
  |false=>
   have Q1:=Q0.step (hU hs);rw [if_neg (by decide)] at Q1;refine bG (ds:=[.str [60]]) (d:= .d (.bool false)) aD (aV l j0 [60] p0.2 (by omega) hs) (by simp) (by simp) ?_
   simp;refine SW.a6T rfl (SW.xk ?_);simp;exact ⟨_,_,Q1.eq,by simp [List.replicate]⟩
  |true=>
   have Q1:=Q0.step (hM hs);rw [if_pos rfl] at Q1;refine bG (ds:=[.str [60]]) (d:= .d (.bool true)) aD (aU l j0 [60] p0.2 (by omega) hs) (by simp) (by simp) ?_
   have p1:j0+1≤j0+1∧j0+1<l.length:=⟨d7m _,aF hV.fin p0.2 hs⟩;obtain ⟨j1,hj1⟩:∃j,j0+1=j:=⟨_,rfl⟩;rw [hj1] at Q1 p1 ⊢;simp;refine SW.a3c rfl (SW.xk ?_);simp;refine cF yB ((a0p hV false j1 p1.2)) (by simp) (by simp) (fun xs j2 x2=>?_) (fun n e hx=>by first|exact Q1.fail hx _|(simp;exact Q1.fail hx _)|(simp;exact fun s=>Q1.fail hx s));have Q2:=Q1.step x2;have p2:=(aA.vars hV.fin false) j1 xs j2 p1.2 x2;have hxs:=c4w hV false j1 xs j2 p1.2 x2;simp;refine SW.vG (ι:={ k:Nat // k≤xs.length }) (fun k=>[(42,.d (.int .i64 k.1))]) (fun k=>[(1,.cells [.ptr 100000 0]),(2,.cells c9f),(3,.cells [.d (.sl (strs vs)),.d (.sl (ns.map kU)),.d (.sl ((xs.take k.1).map kU)),.d .aM,.d (.int .i64 0),.d (.str []),.d .aM,.d .aM,.d (.int .i64 0),.d (.str []),.d (.int .i64 0),.d .aM,.d .aM,.d .aM]),(100000,rdO l j2)]) (fun _=>[(161,[.c 3 2])]) (fun k=>xs.length-k.1) ⟨0,Nat.zero_le _⟩ (by simp) ?_
   rintro ⟨k,hk⟩;by_cases hlt:k<xs.length
   ·have hg:(xs.map kU)[k]? =some [.str xs[k].1,.str xs[k].2]:=by simp [hlt,kU]
    have hw:=bO (show k<9223372036854775807 by omega);have htk:(xs.map kU).take (k+1)=(xs.map kU).take k++[[.str xs[k].1,.str xs[k].2]]:=by rw [d7l (by simpa using hlt)];simp [kU]
    simp [hlt,hg,kU];refine qL ⟨fun x hx=>c4b hV xs x (List.mem_of_mem_take hx),by omega⟩ ?_
    simp [hw];exact bQ.mk ⟨k+1,hlt⟩ (by simp [htk]) (by simp;omega)
   ·have htk:xs.take k=xs:=List.take_of_length_le (by omega);simp [hlt,htk];refine cF (ds:=[.sl (strs [[62],[46]])]) aE (aG l [[62],[46]] j2 p2.2 (by omega) hV.fin (by simp)) (by simp [strs]) (by simp) (fun u3 j3 x3=>?_) (fun n e hx=>by first|exact Q2.fail hx _|(simp;exact Q2.fail hx _)|(simp;exact fun s=>Q2.fail hx s));have Q3:=Q2.step x3;have p3:=aA.exp hV.fin _ _ j2 u3 j3 p2.2 x3;simp;exact ⟨_,_,Q3.eq,by simp [List.replicate]⟩
 have Q0:=Q0.step x1;have p1:=c4r hV j0 abs j1 p0.2 x1
 clear p0 x1
 have p0:j1≤j1∧j1<l.length:=⟨d7m _,p1.2⟩
 clear p1
 obtain ⟨j0,rfl⟩:∃j,j=j1:=⟨_,rfl⟩;refine SW.b6s (b6t rdP l j0) (fun bs j=>c9g l (.sl (strs vs)) (.sl (ns.map kU)) (.sl (abs.map kU)) (.sl (bs.map b8b)) j) ?_ fun bs j1 x1=>?_
 ·skip
  have Q0:=xA.mk (Q:=Q) (r0:=b6t rdP l j0) rfl fun n e s h=>Q0.fail h s
  refine SW.xk ?_
  simp [List.replicate];refine SW.vG (ι:={ x:List qI×Nat×Nat // j0≤x.2.1∧x.2.1<l.length∧l.length<x.2.2+x.2.1∧x.1.length≤x.2.1∧dK (fun i=>aI l i [98,111,117,110,100]) (c4n rdP l) x.2.2 x.1 x.2.1=b6t rdP l j0 }) (fun _=>[]) (fun x=>[(1,.cells [.ptr 100000 0]),(2,.cells c9f),(3,.cells [.d (.sl (strs vs)),.d (.sl (ns.map kU)),.d (.sl (abs.map kU)),.d (.sl (x.1.1.map b8b)),.d (.int .i64 0),.d (.str []),.d .aM,.d .aM,.d (.int .i64 0),.d (.str []),.d (.int .i64 0),.d .aM,.d .aM,.d .aM]),(100000,rdO l x.1.2.1)]) (fun _=>[(163,[.c 3 3])]) (fun x=>l.length-x.1.2.1) ⟨([],j0,l.length+2),d7m _,p0.2,by simp only;omega,by simp,rfl⟩ (by simp) ?_
  rintro ⟨⟨out,j3,g⟩,hb,hj3,hg,ho,hp⟩;simp only at hb hj3 hg ho hp;obtain ⟨g,rfl⟩:∃k,g=k+1:=⟨g-1,by omega⟩;have p3:j0≤j3∧j3<l.length:=⟨hb,hj3⟩;simp;cases hc:aI l j3 [98,111,117,110,100] with
  |true=>
   have hn:=aF hV.fin hj3 hc;refine bG (ds:=[.str [98,111,117,110,100]]) (d:= .d (.bool true)) aD (aU l j3 [98,111,117,110,100] p3.2 (by omega) hc) (by simp) (by simp) ?_
   have p4:j3+1≤j3+1∧j3+1<l.length:=⟨d7m _,aF hV.fin p3.2 hc⟩;simp;refine jY [0] 3 [2] (.op 1 (.call [4,5,6,7] .none) (.call [1,4,5,6,7] .none)) (gK (tU aX rdP l (j3+1))) (by kernel_rfl) (by kernel_rfl) ?_
   simp;refine ⟨?_,?_⟩
   all_goals
    refine sO (i:=j3+1) (ds:=[]) b3O (b6r hV (j3+1) hn) (by simp) (by simp) (fun b j4 x4=>?_) (fun n e hx=>?_)
    ·have p4:=a7e hV (j3+1) b j4 hn x4;have h0:aL l [[98,111,117,110,100]] j3= .ok () (j3+1):=(b3z hc).trans rfl;have h1:c4n rdP l out j3= .ok (out++[b]) j4:=(bF h0).trans ((bF x4).trans rfl);rw [tJ hV hc h1] at hp;refine dA.mk ?_
     simp;refine eL (by first|omega|exact ⟨fun x _=>by rw [b9R];rfl,by omega⟩|(simp;omega)) ?_
     simp;exact bQ.mk ⟨(out++[b],j4,g),by simp only;omega,p4.2,by simp only;omega,by simp;omega,hp⟩ (by simp [b9R]) (by simp;omega)
    ·have h0:aL l [[98,111,117,110,100]] j3= .ok () (j3+1):=(b3z hc).trans rfl;have h1:c4n rdP l out j3= .bad n e:=(bF h0).trans (gT hx);rw [oP hV hc h1] at hp;simp
     first|exact Q0.bad _ _ _ hp.symm|exact fun s=>Q0.bad _ _ s hp.symm
  |false=>
   rw [tK hV hc] at hp;refine bG (ds:=[.str [98,111,117,110,100]]) (d:= .d (.bool false)) aD (aV l j3 [98,111,117,110,100] p3.2 (by omega) hc) (by simp) (by simp) ?_
   simp;exact ⟨_,_,hp.symm,by simp [List.replicate]⟩
 have Q1:=Q0.step x1;have p1:=c4t hV j0 bs j1 p0.2 x1;refine SW.xk ?_
 simp [List.replicate];refine cF cN ((kN hV j1 p1.2)) (by simp) (by simp) (fun t j2 x2=>?_) (fun n e hx=>by first|exact Q1.fail hx _|(simp;exact Q1.fail hx _)|(simp;exact fun s=>Q1.fail hx s));have Q2:=Q1.step x2;have p2:=gR hV j1 t j2 p1.2 x2;simp;cases hs:aI l j2 [109,101,116,114,105,99] with
 |false=>
  have Q3:=Q2.step (a:=[]) (j:=j2) ((bF (hU hs)).trans rfl);refine bG (ds:=[.str [109,101,116,114,105,99]]) (d:= .d (.bool false)) aD (aV l j2 [109,101,116,114,105,99] p2.2 (by omega) hs) (by simp) (by simp) ?_
  simp;exact Q3.ok _ j2 _ _ rfl (.inr rfl) (by simp)
 |true=>
  have e1:d1e rdP l j2=dT l [44] (c1H rdP l (uJ l (l.length+1) 0 (j2+1))) [] (j2+1):=(bF (hM hs)).trans rfl;refine bG (ds:=[.str [109,101,116,114,105,99]]) (d:= .d (.bool true)) aD (aU l j2 [109,101,116,114,105,99] p2.2 (by omega) hs) (by simp) (by simp) ?_
  have p3:j2+1≤j2+1∧j2+1<l.length:=⟨d7m _,aF hV.fin p2.2 hs⟩;obtain ⟨j3,hj3⟩:∃j,j2+1=j:=⟨_,rfl⟩;rw [hj3] at e1 p3 ⊢;simp;have heq:=a9C hV j3 p3.2;have hE:=a7O hV (l.length+1) 0 j3;refine bG (ds:=[]) a7r heq (by simp) (by simp) ?_
  generalize uJ l (l.length+1) 0 j3=E at e1 hE ⊢;simp;have hone:=eO hV [44] (c1H rdP l E) (fun out i=>out.length≤i) 0 b3R (c4v hV vs ns abs bs t E) (fun a=>c4u hV E a) (fun a i _ hi h=>b8x hV vs ns abs bs t E hE a i hi h) (c1I hV E) (fun a i h=>by omega) [] j3 (by omega) p3.2 (by simp);refine gW.mk (vR dQ hone [(100000,100000),(100001,3),(100002,1),(100003,6)] (fun a j hx=>?_) ?_ ?_ ?_ rfl rfl (fun ms j4 x4=>?_) (fun n e hx2=>Q2.fail (e1.trans hx2) _))
  ·simp [b0W,aN,aW,aR,aQ,bA,getKey]
  ·simp [b0W,aN,aW,aR,aQ,bA,getKey]
  ·simp [aT,bC,rk]
  ·simp [b0W,aT,bC,rk,cL,cW]
  ·have Q4:=Q2.step (e1.trans x4);simp [bB,b0W,aT,bC,rk,cL,cW,bN,gM,eX,eA];exact Q4.ok _ j4 _ _ rfl (.inr rfl) (by simp)
end
end
section
open Go Go.VM
variable {G:GT}
theorem b3T:VM.Enters Tryz.prog 69:=VM.Enters.mk Tryz.func69 rfl
theorem a9E:VM.Enters Tryz.prog 115:=VM.Enters.mk Tryz.func115 rfl
theorem b0X:VM.Enters Tryz.prog 70:=VM.Enters.mk Tryz.func70 rfl
theorem a7s:VM.Enters Tryz.prog 118:=VM.Enters.mk Tryz.func118 rfl
theorem a5c (a:Nm×List Nm×bY):a7l a=[.str a.1,.sl (strs a.2.1),.int .i64 a.2.2.op,.str a.2.2.name,.int .i64 a.2.2.n,.sl (a.2.2.kids.map wW),.sl (a.2.2.params.map a1z),.sl (a.2.2.alts.map a7l),.sl (a.2.2.types.map tyC)]:=by rw [a7l,dG]
theorem a0t (p:Nm×Ty):a1z p= .str p.1::tyD p.2:=by rw [a1z,cP]
abbrev a9F:=Nm×List Nm×bY
section
variable {rdP:List Tok→Nat→Nat→kY Pr} {l:List Tok} (hV:kQ G rdP l)
include hV
section
variable {ex:Nat→aS bY} {low:Nat} (hex:∀i,low≤i→i<l.length→pF G 34 [] l i (ex 0 i) qY) (aex:∀k,aA l 1 (ex k))
include hex aex
def xB (e:bY)(out:List a9F):List (Nat×aY):=[(100001,.cells [.ptr 100000 0]),(100002,.cells [.d (.int .i64 9),.d (.str []),.d (.int .i64 0),.d (.sl [wW e]),.d (.sl []),.d (.sl (out.map a7l)),.d (.sl [])])]
abbrev c4x:List (TypeId×List VM.Loc):=[(91,[.c 100002 5])]
abbrev c9h (l:List Tok)(ex:Nat→aS bY)(out:List a9F):aS (List a9F):=do
 let c ← eQ l
 let ns ← (fun i=>if aI l i [40] then cZ aX l i else .ok [] i:aS (List Nm))
 aL l [[45,62]]
 let b ← ex 0
 pure (out++[(c,ns,b)])
omit hex aex in
theorem b8y (e:bY):wY l K3 [.ptr 100001 0,.ptr 100002 0] (xB e) c4x:=by
 constructor
 all_goals intros
 all_goals first
  |rfl
  |simp [xB,aN,aW,aR,aQ,bA,getKey,aT,bC,cL,rk,cW,bN, *]
omit hex in
theorem a9G (out:List a9F):aA l 1 (c9h l ex out):=by
 refine (aA.title hV.fin).bl fun _=>aA.bl (fun i b j hi h=>?_) fun _=>((aA.exp hV.fin _ _).le (by omega)).bl fun _=>((aex 0).le (by omega)).bl fun _=>aA.aO _
 split at h
 ·exact ((aA.words hV.fin).le (by omega)) _ _ _ hi h
 ·cases h;omega
omit hex in
theorem c1J (a:List a9F)(i:Nat)(b:List a9F)(j:Nat)(hi:i<l.length)(h:a.length≤i)(hx:c9h l ex a i= .ok b j):b.length≤j:=by have h1:=a9G hV aex a i b j hi hx;obtain ⟨_,_,_,hx⟩:=bW hx;obtain ⟨_,_,_,hx⟩:=bW hx;obtain ⟨_,_,_,hx⟩:=bW hx;obtain ⟨_,_,_,hx⟩:=bW hx;cases hx;simp;omega
theorem b3U (e:bY)(out:List a9F)(i:Nat)(hlow:low≤i)(hi:i<l.length)(hout:out.length≤i):kF G 115 [.ptr 100001 0,.ptr 100002 0] (xB e out) c4x l i (c9h l ex out i) (fun _=> .cM []) (xB e):=by
 have hl:=hV.len;obtain ⟨j0,rfl⟩:∃j0,j0=i:=⟨_,rfl⟩;have p0:j0≤j0∧j0<l.length:=⟨d7m _,hi⟩;refine kF.cV Tryz.func115 rfl Tryz.ntmps115 rfl (by simp) ?_
 intro Q Q0;simp [xB];refine cF gO (jG l j0 p0.2 (by omega)) (by simp) (by simp) (fun c j1 x1=>?_) (fun n e hx=>by first|exact Q0.fail hx _|(simp;exact Q0.fail hx _)|(simp;exact fun s=>Q0.fail hx s));have Q1:=Q0.step x1;have p1:=aA.title hV.fin j0 c j1 p0.2 x1;simp;have hb:=gZ (G:=G) l j1 [40] p1.2 (by omega);refine bG (ds:=[.str [40]]) eT hb (by simp) (by simp) ?_
 cases hs:aI l j1 [40] with
 |false=>
  have Q1:=Q1.step (a:=[]) (j:=j1) (by simp [hs]);simp;refine cF (ds:=[.sl (strs [[45,62]])]) aE (aG l [[45,62]] j1 p1.2 (by omega) hV.fin (by simp)) (by simp [strs]) (by simp) (fun u4 j4 x4=>?_) (fun n e hx=>by first|exact Q1.fail hx _|(simp;exact Q1.fail hx _)|(simp;exact fun s=>Q1.fail hx s));have Q4:=Q1.step x4;have p4:=aA.exp hV.fin _ _ j1 u4 j4 p1.2 x4;simp;refine cF bZ ((hex j4 (by omega) p4.2)) (by simp) (by simp) (fun b j5 x5=>?_) (fun n e hx=>by first|exact Q4.fail hx _|(simp;exact Q4.fail hx _)|(simp;exact fun s=>Q4.fail hx s));have Q5:=Q4.step x5;have p5:=aex 0 j4 b j5 p4.2 x5;simp;refine xX (m:=5) (t:=27) (e:=91) (T:=30) (s:=18) (z:=21) (r:=22) (p:=23) (q:=20) (x:=19) (b:=24) (y:=1) (fd:=5) rfl rfl rfl rfl rfl (by kernel_rfl) (by kernel_rfl) rfl rfl ?_
  simp;refine ⟨_,_,_,_,_,_,_,_,_,by simp,rfl,rfl,?_,rfl,rfl,?_,by simp,rfl,rfl,rfl,rfl,by decide,rfl,?_⟩
  ·intro c hc
   first
    |(obtain ⟨y,_,rfl⟩:=List.mem_map.1 hc
      rw [a5c]
      rfl)
    |(simp only [d7d] at hc
      subst hc
      rfl)
  ·simp<;>omega
  exact Q5.ok _ j5 .normal _ rfl (.inl rfl) (by simp [xB,a5c,tH])
 |true=>
  have e1:(fun i=>if aI l i [40] then cZ aX l i else .ok [] i:aS (List Nm)) j1=cZ aX l j1:=by simp [hs]
  simp;refine cF a0o (a1J hV j1 p1.2) (by simp) (by simp) (fun ns j3 x3=>?_) (fun n e hx=>by first|exact Q1.fail (e1.trans hx) _|(simp;exact Q1.fail (e1.trans hx) _)|(simp;exact fun s=>Q1.fail (e1.trans hx) s));have Q3:=Q1.step (e1.trans x3);have p3:=aA.words hV.fin j1 ns j3 p1.2 x3;simp;refine cF (ds:=[.sl (strs [[45,62]])]) aE (aG l [[45,62]] j3 p3.2 (by omega) hV.fin (by simp)) (by simp [strs]) (by simp) (fun u4 j4 x4=>?_) (fun n e hx=>by first|exact Q3.fail hx _|(simp;exact Q3.fail hx _)|(simp;exact fun s=>Q3.fail hx s));have Q4:=Q3.step x4;have p4:=aA.exp hV.fin _ _ j3 u4 j4 p3.2 x4;simp;refine cF bZ ((hex j4 (by omega) p4.2)) (by simp) (by simp) (fun b j5 x5=>?_) (fun n e hx=>by first|exact Q4.fail hx _|(simp;exact Q4.fail hx _)|(simp;exact fun s=>Q4.fail hx s));have Q5:=Q4.step x5;have p5:=aex 0 j4 b j5 p4.2 x5;simp;refine xX (m:=5) (t:=27) (e:=91) (T:=30) (s:=18) (z:=21) (r:=22) (p:=23) (q:=20) (x:=19) (b:=24) (y:=1) (fd:=5) rfl rfl rfl rfl rfl (by kernel_rfl) (by kernel_rfl) rfl rfl ?_
  simp;refine ⟨_,_,_,_,_,_,_,_,_,by simp,rfl,rfl,?_,rfl,rfl,?_,by simp,rfl,rfl,rfl,rfl,by decide,rfl,?_⟩
  ·intro c hc
   first
    |(obtain ⟨y,_,rfl⟩:=List.mem_map.1 hc
      rw [a5c]
      rfl)
    |(simp only [d7d] at hc
      subst hc
      rfl)
  ·simp<;>omega
  exact Q5.ok _ j5 .normal _ rfl (.inl rfl) (by simp [xB,a5c,tH])
theorem b6u (i:Nat)(hlow:low≤i)(hi:i<l.length):pF G 69 [] l i (oM aX l ex i) qY:=by
 have hl:=hV.len;obtain ⟨j0,rfl⟩:∃j0,j0=i:=⟨_,rfl⟩;have p0:j0≤j0∧j0<l.length:=⟨d7m _,hi⟩;refine kF.cV Tryz.func69 rfl Tryz.ntmps69 rfl (by simp) ?_
 intro Q Q0;unfold oM at Q0;simp;refine cF bZ ((hex j0 hlow p0.2)) (by simp) (by simp) (fun e j1 x1=>?_) (fun n e hx=>by first|exact Q0.fail hx _|(simp;exact Q0.fail hx _)|(simp;exact fun s=>Q0.fail hx s));have Q1:=Q0.step x1;have p1:=aex 0 j0 e j1 p0.2 x1;simp;refine kP.mk cD (c1C 9 e) ?_
 simp;refine cF (ds:=[.sl (strs [[111,102],[123]])]) aE (aG l [[111,102],[123]] j1 p1.2 (by omega) hV.fin (by simp)) (by simp [strs]) (by simp) (fun u2 j2 x2=>?_) (fun n e hx=>by first|exact Q1.fail hx _|(simp;exact Q1.fail hx _)|(simp;exact fun s=>Q1.fail hx s));have Q2:=Q1.step x2;have p2:=aA.exp hV.fin _ _ j1 u2 j2 p1.2 x2;simp;have hone:=eO hV [59] (c9h l ex) (fun out i=>out.length≤i) low a9E (b8y hV e) (fun a=>(a9G hV aex a).le (by omega)) (fun a i rY hi h=>b3U hV hex aex e a i rY hi h) (c1J hV aex) (fun a i h=>by omega) [] j2 (by omega) p2.2 (by simp);refine gW.mk (vR dQ hone [(100000,100000),(100001,1),(100002,3)] (fun a j hx=>?_) ?_ ?_ ?_ rfl rfl (fun ws j3 x3=>?_) (fun n e hx2=>Q2.fail hx2 _))
 ·simp [xB,aN,aW,aR,aQ,bA,getKey]
 ·simp [xB,aN,aW,aR,aQ,bA,getKey]
 ·simp [aT,bC,rk]
 ·simp [xB,aT,bC,rk,cL,cW]
 ·have Q3:=Q2.step x3;have p3:=aA.list hV.fin (fun a=>a9G hV aex a) [] j2 ws j3 p2.2 x3;simp [bB,xB,aT,bC,rk,cL,cW,bN,gM,eX,eA];refine cF (ds:=[.sl (strs [[125]])]) aE (aG l [[125]] j3 p3.2 (by omega) hV.fin (by simp)) (by simp [strs]) (by simp) (fun u4 j4 x4=>?_) (fun n e hx=>by first|exact Q3.fail hx _|(simp;exact Q3.fail hx _)|(simp;exact fun s=>Q3.fail hx s));have Q4:=Q3.step x4;have p4:=aA.exp hV.fin _ _ j3 u4 j4 p3.2 x4;simp;exact Q4.ok _ j4 _ _ rfl (.inr rfl) (by simp)
end
def a9H (out:List (Nm×Ty)):List (Nat×aY):=[(100001,.cells [.ptr 100000 0]),(100002,.cells [.d (.int .i64 6),.d (.str []),.d (.int .i64 0),.d (.sl []),.d (.sl (out.map a1z)),.d (.sl []),.d (.sl [])])]
abbrev d5e:List (TypeId×List VM.Loc):=[(135,[.c 100002 4])]
abbrev c9i (rdP:List Tok→Nat→Nat→kY Pr)(l:List Tok)(out:List (Nm×Ty)):aS (List (Nm×Ty)):=do
 let w ← bL aX l
 let b ← cR l [58]
 let t ← (if b then cK aX bE rdP l else pure oL)
 pure (out++[(w,t)])
theorem c4y:wY l K3 [.ptr 100001 0,.ptr 100002 0] a9H d5e:=by
 constructor
 all_goals intros
 all_goals first
  |rfl
  |simp [a9H,aN,aW,aR,aQ,bA,getKey,aT,bC,cL,rk,cW,bN, *]
theorem a9I (out:List (Nm×Ty)):aA l 1 (c9i rdP l out):=(aA.word hV.fin).bl fun _=>(aA.skip hV.fin _).bl fun _=>aA.bl (aA.ite ((gR hV).le (by omega)) (aA.aO _)) fun _=>aA.aO _
theorem c1K (a:List (Nm×Ty))(i:Nat)(b:List (Nm×Ty))(j:Nat)(hi:i<l.length)(h:a.length≤i)(hx:c9i rdP l a i= .ok b j):b.length≤j:=by have h1:=a9I hV a i b j hi hx;obtain ⟨_,_,_,hx⟩:=bW hx;obtain ⟨_,_,_,hx⟩:=bW hx;obtain ⟨_,_,_,hx⟩:=bW hx;cases hx;simp;omega
theorem b8z (out:List (Nm×Ty))(i:Nat)(hi:i<l.length)(hout:out.length≤i):kF G 118 [.ptr 100001 0,.ptr 100002 0] (a9H out) d5e l i (c9i rdP l out i) (fun _=> .cM []) a9H:=by
 have hl:=hV.len;obtain ⟨j0,rfl⟩:∃j0,j0=i:=⟨_,rfl⟩;have p0:j0≤j0∧j0<l.length:=⟨d7m _,hi⟩;refine kF.cV Tryz.func118 rfl Tryz.ntmps118 rfl (by simp) ?_
 intro Q Q0;simp [a9H];refine cF cO (dI hV.kw l j0 p0.2 (by omega)) (by simp) (by simp) (fun c j1 x1=>?_) (fun n e hx=>by first|exact Q0.fail hx _|(simp;exact Q0.fail hx _)|(simp;exact fun s=>Q0.fail hx s));have Q1:=Q0.step x1;have p1:=aA.word hV.fin j0 c j1 p0.2 x1;simp;cases hs:aI l j1 [58] with
 |false=>
  have Q2:=Q1.step (hU hs);rw [if_neg (by decide)] at Q2;refine bG (ds:=[.str [58]]) (d:= .d (.bool false)) aD (aV l j1 [58] p1.2 (by omega) hs) (by simp) (by simp) ?_
  simp;have Q3:=Q2.step (gA _ _);refine qL ⟨rfl,d6Z.2 fun c hc=>?_,?_⟩ ?_
  ·obtain ⟨y,_,rfl⟩:=List.mem_map.1 hc;rw [a0t]
   rfl
  ·have hb:Tryz.prog.bytesOf 135≤1000:=by decide
   rw [List.length_map]
   calc (out.length+1)*(Tryz.prog.bytesOf 135+1)≤50001*1001:=Nat.mul_le_mul (by omega) (by omega)
    _≤140737488355328:=by decide
  simp;exact Q3.ok _ j1 .normal _ rfl (.inl rfl) (by simp [a9H,a0t,oL,kS,tH])
 |true=>
  have Q2:=Q1.step (hM hs);rw [if_pos rfl] at Q2;refine bG (ds:=[.str [58]]) (d:= .d (.bool true)) aD (aU l j1 [58] p1.2 (by omega) hs) (by simp) (by simp) ?_
  have p2:j1+1≤j1+1∧j1+1<l.length:=⟨d7m _,aF hV.fin p1.2 hs⟩;obtain ⟨j2,hj2⟩:∃j2,j1+1=j2:=⟨_,rfl⟩;rw [hj2] at Q2 p2 ⊢;simp;refine cF cN ((kN hV j2 p2.2)) (by simp) (by simp) (fun t j3 x3=>?_) (fun n e hx=>by first|exact Q2.fail hx _|(simp;exact Q2.fail hx _)|(simp;exact fun s=>Q2.fail hx s));have Q3:=Q2.step x3;have p3:=gR hV j2 t j3 p2.2 x3;simp;refine qL ⟨rfl,d6Z.2 fun c hc=>?_,?_⟩ ?_
  ·obtain ⟨y,_,rfl⟩:=List.mem_map.1 hc;rw [a0t]
   rfl
  ·have hb:Tryz.prog.bytesOf 135≤1000:=by decide
   rw [List.length_map]
   calc (out.length+1)*(Tryz.prog.bytesOf 135+1)≤50001*1001:=Nat.mul_le_mul (by omega) (by omega)
    _≤140737488355328:=by decide
  simp;exact Q3.ok _ j3 .normal _ rfl (.inl rfl) (by simp [a9H,a0t,tH])
section
variable {ex:Nat→aS bY} {low:Nat} (hex:∀i,low≤i→i<l.length→pF G 34 [] l i (ex 0 i) qY) (aex:∀k,aA l 1 (ex k))
include hex aex
theorem b3V (i:Nat)(hlow:low≤i)(hi:i<l.length):pF G 70 [] l i (uW aX bE rdP l ex i) qY:=by
 have hl:=hV.len;obtain ⟨j0,rfl⟩:∃j0,j0=i:=⟨_,rfl⟩;have p0:j0≤j0∧j0<l.length:=⟨d7m _,hi⟩;refine kF.cV Tryz.func70 rfl Tryz.ntmps70 rfl (by simp) ?_
 intro Q Q0;unfold uW at Q0;simp;refine cF (ds:=[.sl (strs [[40]])]) aE (aG l [[40]] j0 p0.2 (by omega) hV.fin (by simp)) (by simp [strs]) (by simp) (fun u1 j1 x1=>?_) (fun n e hx=>by first|exact Q0.fail hx _|(simp;exact Q0.fail hx _)|(simp;exact fun s=>Q0.fail hx s));have Q1:=Q0.step x1;have p1:=aA.exp hV.fin _ _ j0 u1 j1 p0.2 x1;simp;have hone:=eO hV [44] (c9i rdP l) (fun out i=>out.length≤i) 0 a7s (c4y hV) (fun a=>(a9I hV a).le (by omega)) (fun a i rY hi h=>b8z hV a i hi h) (c1K hV) (fun a i h=>by omega) [] j1 (by omega) p1.2 (by simp);refine gW.mk (vR dQ hone [(100000,100000),(100001,1),(100002,3)] (fun a j hx=>?_) ?_ ?_ ?_ rfl rfl (fun ws j2 x2=>?_) (fun n e hx2=>Q1.fail hx2 _))
 ·simp [a9H,aN,aW,aR,aQ,bA,getKey]
 ·simp [a9H,aN,aW,aR,aQ,bA,getKey]
 ·simp [aT,bC,rk]
 ·simp [a9H,aT,bC,rk,cL,cW]
 ·have Q2:=Q1.step x2;have p2:=aA.list hV.fin (fun a=>a9I hV a) [] j1 ws j2 p1.2 x2;simp [bB,a9H,aT,bC,rk,cL,cW,bN,gM,eX,eA];refine cF (ds:=[.sl (strs [[41],[45,62]])]) aE (aG l [[41],[45,62]] j2 p2.2 (by omega) hV.fin (by simp)) (by simp [strs]) (by simp) (fun u3 j3 x3=>?_) (fun n e hx=>by first|exact Q2.fail hx _|(simp;exact Q2.fail hx _)|(simp;exact fun s=>Q2.fail hx s));have Q3:=Q2.step x3;have p3:=aA.exp hV.fin _ _ j2 u3 j3 p2.2 x3;simp;refine cF bZ ((hex j3 (by omega) p3.2)) (by simp) (by simp) (fun e j4 x4=>?_) (fun n e hx=>by first|exact Q3.fail hx _|(simp;exact Q3.fail hx _)|(simp;exact fun s=>Q3.fail hx s));have Q4:=Q3.step x4;have p4:=aex 0 j3 e j4 p3.2 x4;simp;exact Q4.ok _ j4 _ _ rfl (.inr rfl) (by simp [dG])
end
end
end
section
open Go Go.VM
variable {G:GT}
theorem a7t:VM.Enters Tryz.prog 79:=VM.Enters.mk Tryz.func79 rfl
theorem yE:VM.Enters Tryz.prog 133:=VM.Enters.mk Tryz.func133 rfl
theorem a2K:VM.Enters Tryz.prog 134:=VM.Enters.mk Tryz.func134 rfl
section
variable {rdP:List Tok→Nat→Nat→kY Pr} {l:List Tok} (hV:kQ G rdP l)
include hV
def b0Y (nm:Nm)(out:List Nm×List Ty):List (Nat×aY):=[(100001,.cells [.d (.str nm),.d (.sl (strs out.1)),.d (.sl (out.2.map tyC))]),(100002,.cells [.ptr 100000 0])]
abbrev d5f:List (TypeId×List VM.Loc):=[(9,[.c 100001 1]),(45,[.c 100001 2])]
abbrev c9j (rdP:List Tok→Nat→Nat→kY Pr)(l:List Tok)(out:List Nm×List Ty):aS (List Nm×List Ty):=do
 let w ← bL aX l
 aL l [[58]]
 let t ← cK aX bE rdP l
 pure (out.1++[w],out.2++[t])
theorem c4z (nm:Nm):wY l K3 [.ptr 100001 0,.ptr 100002 0] (b0Y nm) d5f:=by
 constructor
 all_goals intros
 all_goals first
  |rfl
  |simp [b0Y,aN,aW,aR,aQ,bA,getKey,aT,bC,cL,rk,cW,bN, *]
theorem a9J (out:List Nm×List Ty):aA l 1 (c9j rdP l out):=(aA.word hV.fin).bl fun _=>((aA.exp hV.fin _ _).le (by omega)).bl fun _=>((gR hV).le (by omega)).bl fun _=>aA.aO _
theorem c1L (a:List Nm×List Ty)(i:Nat)(b:List Nm×List Ty)(j:Nat)(hi:i<l.length)(h:a.1.length≤i∧a.2.length≤i)(hx:c9j rdP l a i= .ok b j):b.1.length≤j∧b.2.length≤j:=by have h1:=a9J hV a i b j hi hx;have h2:=b2g a i b j hx;omega
theorem b8A (nm:Nm)(out:List Nm×List Ty)(i:Nat)(hi:i<l.length)(hout:out.1.length≤i∧out.2.length≤i):kF G 134 [.ptr 100001 0,.ptr 100002 0] (b0Y nm out) d5f l i (c9j rdP l out i) (fun _=> .cM []) (b0Y nm):=by
 have hl:=hV.len;obtain ⟨j0,rfl⟩:∃j0,j0=i:=⟨_,rfl⟩;have p0:j0≤j0∧j0<l.length:=⟨d7m _,hi⟩;refine kF.cV Tryz.func134 rfl Tryz.ntmps134 rfl (by simp) ?_
 intro Q Q0;simp [b0Y];refine jY [0] 3 [2] (.op 1 (.call [4,5,6,7] .none) (.call [1,4,5,6,7] .none)) (gK (bL aX l j0)) (by kernel_rfl) (by kernel_rfl) ?_
 simp;refine ⟨?_,?_⟩
 all_goals
  refine sO cO (dI hV.kw l j0 p0.2 (by omega)) (by simp) (by simp) (fun w j1 x1=>?_) (fun n e hx=>by first|exact Q0.fail hx _|(simp;exact Q0.fail hx _)|(simp;exact fun s=>Q0.fail hx s));have Q1:=Q0.step x1;have p1:=aA.word hV.fin j0 w j1 p0.2 x1;refine dA.mk ?_
  simp;refine eL (by omega) ?_
  simp;refine cF (ds:=[.sl (strs [[58]])]) aE (aG l [[58]] j1 p1.2 (by omega) hV.fin (by simp)) (by simp [strs]) (by simp) (fun u2 j2 x2=>?_) (fun n e hx=>by first|exact Q1.fail hx _|(simp;exact Q1.fail hx _)|(simp;exact fun s=>Q1.fail hx s));have Q2:=Q1.step x2;have p2:=aA.exp hV.fin _ _ j1 u2 j2 p1.2 x2;simp;refine dS 6 (t:=28) (e:=45) (T:=147) (s:=13) (z:=17) (r:=18) (p:=19) (q:=16) (x:=15) (b:=20) (y:=0) (fd:=2) [0] 3 [2] (a0T 1 4 5) (gK (cK aX bE rdP l j2)) rfl rfl rfl rfl rfl (by kernel_rfl) (by kernel_rfl) rfl ?_
  simp
  repeat' apply And.intro
  all_goals
   refine sO cN ((kN hV j2 p2.2)) (by simp) (by simp) (fun t j3 x3=>?_) (fun n e hx=>by first|exact Q2.fail hx _|(simp;exact Q2.fail hx _)|(simp;exact fun s=>Q2.fail hx s));have Q3:=Q2.step x3;have p3:=gR hV j2 t j3 p2.2 x3;refine dA.mk ?_
   simp;refine ⟨_,_,_,_,_,_,_,_,_,by simp,rfl,rfl,?_,rfl,rfl,?_,by simp,rfl,rfl,rfl,rfl,by decide,rfl,?_⟩
   ·intro c hc
    first
     |(obtain ⟨y,_,rfl⟩:=List.mem_map.1 hc
       rw [cP]
       rfl)
     |(simp only [d7d] at hc
       subst hc
       rfl)
   ·simp<;>omega
   exact Q3.ok _ j3 .normal _ rfl (.inl rfl) (by simp [b0Y,cP,zI])
def a3R (nm:Nm)(vs:List Nm)(ps:List psV)(out:List a2Y):List (Nat×aY):=[(100001,.cells [.ptr 100000 0]),(100002,.cells [.d (.str nm),.d (.sl (strs vs)),.d (.sl (ps.map kU)),.d (.sl (out.map b1M))])]
abbrev d5g:List (TypeId×List VM.Loc):=[(147,[.c 100002 3])]
abbrev c1M (rdP:List Tok→Nat→Nat→kY Pr)(l:List Tok)(out:List a2Y):aS (List a2Y):=do
 let c ← a6P aX bE rdP l
 pure (out++[c])
theorem c1N:aA l 1 (a6P aX bE rdP l):=aA.con hV.fin hV.pJ.pred
theorem a9K (out:List a2Y):aA l 1 (c1M rdP l out):=(c1N hV).bl fun _=>aA.aO _
theorem b2i (a:List a2Y)(i:Nat)(b:List a2Y)(j:Nat)(hi:i<l.length)(h:a.length≤i)(hx:c1M rdP l a i= .ok b j):b.length≤j:=by have h1:=a9K hV a i b j hi hx;obtain ⟨_,_,_,hx⟩:=bW hx;cases hx;simp;omega
theorem b6v (nm:Nm)(vs:List Nm)(ps:List psV):wY l K3 [.ptr 100001 0,.ptr 100002 0] (a3R nm vs ps) d5g:=by
 constructor
 all_goals intros
 all_goals first
  |rfl
  |simp [a3R,aN,aW,aR,aQ,bA,getKey,aT,bC,cL,rk,cW,bN, *]
theorem a9L (nm:Nm)(vs:List Nm)(ps:List psV)(out:List a2Y)(i:Nat)(hi:i<l.length)(hout:out.length≤i):kF G 133 [.ptr 100001 0,.ptr 100002 0] (a3R nm vs ps out) d5g l i (c1M rdP l out i) (fun _=> .cM []) (a3R nm vs ps):=by
 have hl:=hV.len;obtain ⟨j0,rfl⟩:∃j0,j0=i:=⟨_,rfl⟩;have p0:j0≤j0∧j0<l.length:=⟨d7m _,hi⟩;refine kF.cV Tryz.func133 rfl Tryz.ntmps133 rfl (by simp) ?_
 intro Q Q0;unfold c1M a6P at Q0;have Q0:=Q0.assoc;simp [a3R];refine cF gO (jG l j0 p0.2 (by omega)) (by simp) (by simp) (fun c j1 x1=>?_) (fun n e hx=>by first|exact Q0.fail hx _|(simp;exact Q0.fail hx _)|(simp;exact fun s=>Q0.fail hx s));have Q1:=Q0.step x1;have p1:=aA.title hV.fin j0 c j1 p0.2 x1;have Q1:=Q1.assoc;simp;cases hs:aI l j1 [40] with
 |false=>
  have Q2:=Q1.step (hU hs);rw [if_neg (by decide)] at Q2;have Q2:=Q2.step (gA _ _);refine bG (ds:=[.str [40]]) (d:= .d (.bool false)) aD (aV l j1 [40] p1.2 (by omega) hs) (by simp) (by simp) ?_
  simp;refine qL ⟨fun x _=>rfl,by omega⟩ ?_
  simp;exact Q2.ok _ j1 .normal _ rfl (.inl rfl) (by simp [a3R,b1M,tH])
 |true=>
  have Q2:=Q1.step (hM hs);rw [if_pos rfl] at Q2;refine bG (ds:=[.str [40]]) (d:= .d (.bool true)) aD (aU l j1 [40] p1.2 (by omega) hs) (by simp) (by simp) ?_
  have p2:j1+1≤j1+1∧j1+1<l.length:=⟨d7m _,aF hV.fin p1.2 hs⟩;obtain ⟨j2,hj2⟩:∃j,j1+1=j:=⟨_,rfl⟩;rw [hj2] at Q2 p2 ⊢;have Q2:=Q2.assoc;simp;have hone:=eO hV [44] (c9j rdP l) (fun out i=>out.1.length≤i∧out.2.length≤i) 0 a2K (c4z hV c) (fun a=>(a9J hV a).le (by omega)) (fun a i rY hi h=>b8A hV c a i hi h) (c1L hV) (fun a i h=>by omega) ([],[]) j2 (by omega) p2.2 (by simp);refine gW.mk (vR dQ hone [(100000,100000),(100001,2),(100002,100001)] (fun a j hx=>?_) ?_ ?_ ?_ rfl rfl (fun ws j3 x3=>?_) (fun n e hx2=>Q2.fail hx2 _))
  ·simp [b0Y,aN,aW,aR,aQ,bA,getKey]
  ·simp [b0Y,aN,aW,aR,aQ,bA,getKey]
  ·simp [aT,bC,rk]
  ·simp [b0Y,aT,bC,rk,cL,cW]
  ·have Q3:=Q2.step x3;have p3:=aA.list hV.fin (fun a=>a9J hV a) ([],[]) j2 ws j3 p2.2 x3;obtain ⟨ns,ts⟩:=ws;simp only at Q3;have Q3:=Q3.assoc;simp [bB,b0Y,aT,bC,rk,cL,cW,bN,gM,eX,eA];refine cF (ds:=[.sl (strs [[41]])]) aE (aG l [[41]] j3 p3.2 (by omega) hV.fin (by simp)) (by simp [strs]) (by simp) (fun u4 j4 x4=>?_) (fun n e hx=>by first|exact Q3.fail hx _|(simp;exact Q3.fail hx _)|(simp;exact fun s=>Q3.fail hx s));have Q4:=Q3.step x4;have p4:=aA.exp hV.fin _ _ j3 u4 j4 p3.2 x4;have Q4:=Q4.step (gA _ _);simp;refine qL ⟨fun x _=>rfl,by omega⟩ ?_
   simp;exact Q4.ok _ j4 .normal _ rfl (.inl rfl) (by simp [a3R,b1M])
theorem a9M (i:Nat)(hi:i<l.length):pF G 79 [] l i (a0h aX bE rdP l i) (fun d=> .d (.agg (a8O d))):=by
 have hl:=hV.len;obtain ⟨j0,rfl⟩:∃j0,j0=i:=⟨_,rfl⟩;have p0:j0≤j0∧j0<l.length:=⟨d7m _,hi⟩;refine kF.cV Tryz.func79 rfl Tryz.ntmps79 rfl (by simp) ?_
 intro Q Q0;unfold a0h at Q0;simp;refine cF gO (jG l j0 p0.2 (by omega)) (by simp) (by simp) (fun nm j1 x1=>?_) (fun n e hx=>by first|exact Q0.fail hx _|(simp;exact Q0.fail hx _)|(simp;exact fun s=>Q0.fail hx s));have Q1:=Q0.step x1;have p1:=aA.title hV.fin j0 nm j1 p0.2 x1;simp;refine SW.vG (ι:={ x:List Nm×Nat×Nat // j1≤x.2.1∧x.2.1<l.length∧l.length<x.2.2+x.2.1∧x.1.length≤x.2.1∧dK (fun i=>gU aX (aJ l i)) (uY l) x.2.2 x.1 x.2.1=oT l (fun i=>gU aX (aJ l i)) (uY l) [] j1 }) (fun _=>[]) (fun x=>[(1,.cells [.ptr 100000 0]),(2,.cells [.d (.str []),.d .aM,.d .aM,.d .aM]),(3,.cells [.d (.str nm),.d (.sl (strs x.1.1)),.d .aM,.d .aM]),(100000,rdO l x.1.2.1)]) (fun _=>[(9,[.c 3 1])]) (fun x=>l.length-x.1.2.1) ⟨([],j1,l.length+2),d7m _,p1.2,by simp only;omega,by simp,rfl⟩ (by simp [strs]) ?_
 rintro ⟨⟨out,j3,g⟩,hb,hj3,hg,ho,hp⟩;simp only at hb hj3 hg ho hp;obtain ⟨g,rfl⟩:∃k,g=k+1:=⟨g-1,by omega⟩;have p3:j1≤j3∧j3<l.length:=⟨hb,hj3⟩;have ht:=cI (G:=G) l j3 j3 0 (by omega) (by omega) (by intro e;subst e;simp at hi) (by omega);simp;refine bG (i:=j3) (ds:=[.int .i64 0]) bP ht (by simp) (by simp) ?_
 simp;refine kP.mk jF (kD hV.kw (aJ l j3)) ?_
 cases hc:gU aX (aJ l j3) with
 |true=>
  simp;refine jY [0] 3 [2] (.op 1 (.call [4,5,6,7] .none) (.call [1,4,5,6,7] .none)) (gK (bL aX l j3)) (by kernel_rfl) (by kernel_rfl) ?_
  simp;refine ⟨?_,?_⟩
  all_goals
   refine sO (i:=j3) (ds:=[]) cO (dI hV.kw l j3 hj3 (by omega)) (by simp) (by simp) (fun w2 j4 x4=>?_) (fun n e hx=>?_)
   ·have p4:=aA.word (kw:=aX) hV.fin j3 w2 j4 hj3 x4;have h1:uY l out j3= .ok (out++[w2]) j4:=(bF x4).trans rfl;rw [tJ hV hc h1] at hp;refine dA.mk ?_
    simp;refine eL (by first|omega|(simp;omega)) ?_
    simp;exact bQ.mk ⟨(out++[w2],j4,g),by simp only;omega,p4.2,by simp only;omega,by simp;omega,hp⟩ (by simp [zI]) (by simp;omega)
   ·have h1:uY l out j3= .bad n e:=gT hx;rw [oP hV hc h1] at hp;simp
    first|exact Q1.fail hp.symm _|exact fun s=>Q1.fail hp.symm s
 |false=>
  rw [tK hV hc] at hp;have Q3:=Q1.step hp.symm;simp;cases hs:aI l j3 [60] with
  |false=>
   have Q4:=Q3.step (hU hs);rw [if_neg (by decide)] at Q4;have Q3:=Q4.step (gA _ _);refine bG (ds:=[.str [60]]) (d:= .d (.bool false)) aD (aV l j3 [60] p3.2 (by omega) hs) (by simp) (by simp) ?_
   simp;refine cF (ds:=[.sl (strs [[61]])]) aE (aG l [[61]] j3 p3.2 (by omega) hV.fin (by simp)) (by simp [strs]) (by simp) (fun u6 j6 x6=>?_) (fun n e hx=>by first|exact Q3.fail hx _|(simp;exact Q3.fail hx _)|(simp;exact fun s=>Q3.fail hx s));have Q6:=Q3.step x6;have p6:=aA.exp hV.fin _ _ j3 u6 j6 p3.2 x6;simp;have hone:=eO hV [124] (c1M rdP l) (fun out i=>out.length≤i) 0 yE (b6v hV nm out []) (fun a=>(a9K hV a).le (by omega)) (fun a i rY hi h=>a9L hV nm out [] a i hi h) (b2i hV) (fun a i h=>by omega) [] j6 (by omega) p6.2 (by simp);refine gW.mk (vR dQ hone [(100000,100000),(100001,1),(100002,3)] (fun a j hx=>?_) ?_ ?_ ?_ rfl rfl (fun cs j7 x7=>?_) (fun n e hx2=>Q6.fail hx2 _))
   ·simp [a3R,aN,aW,aR,aQ,bA,getKey]
   ·simp [a3R,aN,aW,aR,aQ,bA,getKey]
   ·simp [aT,bC,rk]
   ·simp [a3R,aT,bC,rk,cL,cW]
   ·have Q7:=Q6.step x7;simp [bB,a3R,aT,bC,rk,cL,cW,bN,gM,eX,eA];exact Q7.ok _ j7 _ _ rfl (.inr rfl) (by simp [a8O])
  |true=>
   have Q4:=Q3.step (hM hs);rw [if_pos rfl] at Q4;refine bG (ds:=[.str [60]]) (d:= .d (.bool true)) aD (aU l j3 [60] p3.2 (by omega) hs) (by simp) (by simp) ?_
   have p4:j3+1≤j3+1∧j3+1<l.length:=⟨d7m _,aF hV.fin p3.2 hs⟩;obtain ⟨j4,hj4⟩:∃j,j3+1=j:=⟨_,rfl⟩;rw [hj4] at Q4 p4 ⊢;have Q4:=Q4.assoc;simp;refine cF yB ((a0p hV false j4 p4.2)) (by simp) (by simp) (fun ps j5 x5=>?_) (fun n e hx=>by first|exact Q4.fail hx _|(simp;exact Q4.fail hx _)|(simp;exact fun s=>Q4.fail hx s));have Q5:=Q4.step x5;have p5:=(aA.vars hV.fin false) j4 ps j5 p4.2 x5;have Q5:=Q5.assoc;simp;refine cF (ds:=[.sl (strs [[62]])]) aE (aG l [[62]] j5 p5.2 (by omega) hV.fin (by simp)) (by simp [strs]) (by simp) (fun u8 j8 x8=>?_) (fun n e hx=>by first|exact Q5.fail hx _|(simp;exact Q5.fail hx _)|(simp;exact fun s=>Q5.fail hx s));have Q8:=Q5.step x8;have p8:=aA.exp hV.fin _ _ j5 u8 j8 p5.2 x8;have Q8:=Q8.step (gA _ _);simp;refine cF (ds:=[.sl (strs [[61]])]) aE (aG l [[61]] j8 p8.2 (by omega) hV.fin (by simp)) (by simp [strs]) (by simp) (fun u6 j6 x6=>?_) (fun n e hx=>by first|exact Q8.fail hx _|(simp;exact Q8.fail hx _)|(simp;exact fun s=>Q8.fail hx s));have Q6:=Q8.step x6;have p6:=aA.exp hV.fin _ _ j8 u6 j6 p8.2 x6;simp;have hone:=eO hV [124] (c1M rdP l) (fun out i=>out.length≤i) 0 yE (b6v hV nm out ps) (fun a=>(a9K hV a).le (by omega)) (fun a i rY hi h=>a9L hV nm out ps a i hi h) (b2i hV) (fun a i h=>by omega) [] j6 (by omega) p6.2 (by simp);refine gW.mk (vR dQ hone [(100000,100000),(100001,1),(100002,3)] (fun a j hx=>?_) ?_ ?_ ?_ rfl rfl (fun cs j7 x7=>?_) (fun n e hx2=>Q6.fail hx2 _))
   ·simp [a3R,aN,aW,aR,aQ,bA,getKey]
   ·simp [a3R,aN,aW,aR,aQ,bA,getKey]
   ·simp [aT,bC,rk]
   ·simp [a3R,aT,bC,rk,cL,cW]
   ·have Q7:=Q6.step x7;simp [bB,a3R,aT,bC,rk,cL,cW,bN,gM,eX,eA];exact Q7.ok _ j7 _ _ rfl (.inr rfl) (by simp [a8O])
end
end
section
open Go Go.VM
variable {G:GT}
theorem b0Z:VM.Enters Tryz.prog 273:=VM.Enters.mk Tryz.func273 rfl
theorem b6w:VM.Enters Tryz.prog 264:=VM.Enters.mk Tryz.func264 rfl
section
variable {rdP:List Tok→Nat→Nat→kY Pr} {l:List Tok} (hV:kQ G rdP l) (hN:∀i, -9223372036854775807≤(aJ l i).n∧(aJ l i).n≤9223372036854775807)
include hV hN
section
variable {ex:Nat→aS bY} {low:Nat} (hex:∀i,low≤i→i<l.length→pF G 34 [] l i (ex 0 i) qY) (aex:∀k,aA l 1 (ex k))
include hex aex
theorem b3W (i:Nat)(hlow:low≤i+1)(hi:i<l.length):pF G 273 [] l i (gQ aX bE rdP l ex i) qY:=by
 have hl:=hV.len;obtain ⟨j0,rfl⟩:∃j0,j0=i:=⟨_,rfl⟩;have p0:j0≤j0∧j0<l.length:=⟨d7m _,hi⟩;refine kF.cV Tryz.func273 rfl Tryz.ntmps273 rfl (by simp) ?_
 intro Q Q0;unfold gQ at Q0;simp;refine cF (ds:=[.sl (strs [[40]])]) aE (aG l [[40]] j0 p0.2 (by omega) hV.fin (by simp)) (by simp [strs]) (by simp) (fun u1 j1 x1=>?_) (fun n e hx=>by first|exact Q0.fail hx _|(simp;exact Q0.fail hx _)|(simp;exact fun s=>Q0.fail hx s));have Q1:=Q0.step x1;have p1:=aA.exp hV.fin _ _ j0 u1 j1 p0.2 x1;simp;have hb:=gZ (G:=G) l j1 [45] p1.2 (by omega);have ht1:=cI (G:=G) l j1 (j1+1) 1 (by omega) (by omega) (by intro e;subst e;simp at hi) (by omega);have ht2:=cI (G:=G) l j1 (j1+2) 2 (by omega) (by omega) (by intro e;subst e;simp at hi) (by omega);refine bG (ds:=[.str [45]]) eT hb (by simp) (by simp) ?_
 cases hs:aI l j1 [45] with
 |false=>
  have Q1:=Q1.xF (by simp [hs]);simp;refine cF bZ ((hex j1 (by omega) p1.2)) (by simp) (by simp) (fun e j2 x2=>?_) (fun n e hx=>by first|exact Q1.fail hx _|(simp;exact Q1.fail hx _)|(simp;exact fun s=>Q1.fail hx s));have Q2:=Q1.step x2;have p2:=aex 0 j1 e j2 p1.2 x2;simp;cases hc:aI l j2 [58] with
  |false=>
   have Q3:=Q2.step (hU hc);rw [if_neg (by decide)] at Q3;refine bG (ds:=[.str [58]]) (d:= .d (.bool false)) aD (aV l j2 [58] p2.2 (by omega) hc) (by simp) (by simp) ?_
   simp;have Q2:=Q3.step (gA _ _);refine cF (ds:=[.sl (strs [[41]])]) aE (aG l [[41]] j2 p2.2 (by omega) hV.fin (by simp)) (by simp [strs]) (by simp) (fun u5 j5 x5=>?_) (fun n e hx=>by first|exact Q2.fail hx _|(simp;exact Q2.fail hx _)|(simp;exact fun s=>Q2.fail hx s));have Q5:=Q2.step x5;have p5:=aA.exp hV.fin _ _ j2 u5 j5 p2.2 x5;simp;exact Q5.ok _ j5 _ _ rfl (.inr rfl) (by simp [dG,cP])
  |true=>
   have Q3:=Q2.step (hM hc);rw [if_pos rfl] at Q3;refine bG (ds:=[.str [58]]) (d:= .d (.bool true)) aD (aU l j2 [58] p2.2 (by omega) hc) (by simp) (by simp) ?_
   have p3:j2+1≤j2+1∧j2+1<l.length:=⟨d7m _,aF hV.fin p2.2 hc⟩;obtain ⟨j3,hj3⟩:∃j,j2+1=j:=⟨_,rfl⟩;rw [hj3] at Q3 p3 ⊢;simp;have Q3:=Q3.assoc;refine kO 3 [2] (.op 0 (.op 1 (.call [4,5,6] .none) (.call [1,4,5,6] .none)) (.call [0,1,4,5,6] .none)) (gK (cK aX bE rdP l j3)) (by kernel_rfl) (by kernel_rfl) ?_
   simp
   repeat' apply And.intro
   all_goals
    refine sO cN ((kN hV j3 p3.2)) (by simp) (by simp) (fun t j4 x4=>?_) (fun n e hx=>by first|exact Q3.fail hx _|(simp;exact Q3.fail hx _)|(simp;exact fun s=>Q3.fail hx s));have Q4:=Q3.step x4;have p4:=gR hV j3 t j4 p3.2 x4;refine dA.mk ?_
    simp;have Q4:=Q4.step (gA _ _);refine cF (ds:=[.sl (strs [[41]])]) aE (aG l [[41]] j4 p4.2 (by omega) hV.fin (by simp)) (by simp [strs]) (by simp) (fun u5 j5 x5=>?_) (fun n e hx=>by first|exact Q4.fail hx _|(simp;exact Q4.fail hx _)|(simp;exact fun s=>Q4.fail hx s));have Q5:=Q4.step x5;have p5:=aA.exp hV.fin _ _ j4 u5 j5 p4.2 x5;simp;exact Q5.ok _ j5 _ _ rfl (.inr rfl) (by simp [dG,cP])
 |true=>
  simp;refine bG (ds:=[.int .i64 1]) bP ht1 (by simp) (by simp) ?_
  by_cases hk:(aJ l (j1+1)).kind=3
  ·simp [cJ,hk];refine bG (ds:=[.int .i64 2]) bP ht2 (by simp) (by simp) ?_
   simp;refine kP.mk jQ (kM (aJ l (j1+2)) [41]) ?_
   cases hf:cU (aJ l (j1+2)) [41] with
   |false=>
    have Q1:=Q1.xF (by simp [hf]);simp;refine cF bZ ((hex j1 (by omega) p1.2)) (by simp) (by simp) (fun e j2 x2=>?_) (fun n e hx=>by first|exact Q1.fail hx _|(simp;exact Q1.fail hx _)|(simp;exact fun s=>Q1.fail hx s));have Q2:=Q1.step x2;have p2:=aex 0 j1 e j2 p1.2 x2;simp;cases hc:aI l j2 [58] with
    |false=>
     have Q3:=Q2.step (hU hc);rw [if_neg (by decide)] at Q3;refine bG (ds:=[.str [58]]) (d:= .d (.bool false)) aD (aV l j2 [58] p2.2 (by omega) hc) (by simp) (by simp) ?_
     simp;have Q2:=Q3.step (gA _ _);refine cF (ds:=[.sl (strs [[41]])]) aE (aG l [[41]] j2 p2.2 (by omega) hV.fin (by simp)) (by simp [strs]) (by simp) (fun u5 j5 x5=>?_) (fun n e hx=>by first|exact Q2.fail hx _|(simp;exact Q2.fail hx _)|(simp;exact fun s=>Q2.fail hx s));have Q5:=Q2.step x5;have p5:=aA.exp hV.fin _ _ j2 u5 j5 p2.2 x5;simp;exact Q5.ok _ j5 _ _ rfl (.inr rfl) (by simp [dG,cP])
    |true=>
     have Q3:=Q2.step (hM hc);rw [if_pos rfl] at Q3;refine bG (ds:=[.str [58]]) (d:= .d (.bool true)) aD (aU l j2 [58] p2.2 (by omega) hc) (by simp) (by simp) ?_
     have p3:j2+1≤j2+1∧j2+1<l.length:=⟨d7m _,aF hV.fin p2.2 hc⟩;obtain ⟨j3,hj3⟩:∃j,j2+1=j:=⟨_,rfl⟩;rw [hj3] at Q3 p3 ⊢;simp;have Q3:=Q3.assoc;refine kO 3 [2] (.op 0 (.op 1 (.call [4,5,6] .none) (.call [1,4,5,6] .none)) (.call [0,1,4,5,6] .none)) (gK (cK aX bE rdP l j3)) (by kernel_rfl) (by kernel_rfl) ?_
     simp
     repeat' apply And.intro
     all_goals
      refine sO cN ((kN hV j3 p3.2)) (by simp) (by simp) (fun t j4 x4=>?_) (fun n e hx=>by first|exact Q3.fail hx _|(simp;exact Q3.fail hx _)|(simp;exact fun s=>Q3.fail hx s));have Q4:=Q3.step x4;have p4:=gR hV j3 t j4 p3.2 x4;refine dA.mk ?_
      simp;have Q4:=Q4.step (gA _ _);refine cF (ds:=[.sl (strs [[41]])]) aE (aG l [[41]] j4 p4.2 (by omega) hV.fin (by simp)) (by simp [strs]) (by simp) (fun u5 j5 x5=>?_) (fun n e hx=>by first|exact Q4.fail hx _|(simp;exact Q4.fail hx _)|(simp;exact fun s=>Q4.fail hx s));have Q5:=Q4.step x5;have p5:=aA.exp hV.fin _ _ j4 u5 j5 p4.2 x5;simp;exact Q5.ok _ j5 _ _ rfl (.inr rfl) (by simp [dG,cP])
   |true=>
    have Q1:=Q1.ifp (by simp [hs,hk,hf]);simp;refine bG (ds:=[.int .i64 1]) bP ht1 (by simp) (by simp) ?_
    have hn:=hN (j1+1);have hw3:IntKind.i64.wrap ((j1:Int)+3)=((j1+3:Nat):Int):=by rw [wrap64 (by omega)];omega
    have hw4:IntKind.i64.wrap (-(aJ l (j1+1)).n)= -(aJ l (j1+1)).n:=wrap64 (by omega);simp [cJ,hw3,hw4];exact Q1.ok _ (j1+3) _ _ rfl (.inr rfl) (by simp)
  ·have Q1:=Q1.xF (by simp [hk]);simp [cJ,hk];refine cF bZ ((hex j1 (by omega) p1.2)) (by simp) (by simp) (fun e j2 x2=>?_) (fun n e hx=>by first|exact Q1.fail hx _|(simp;exact Q1.fail hx _)|(simp;exact fun s=>Q1.fail hx s));have Q2:=Q1.step x2;have p2:=aex 0 j1 e j2 p1.2 x2;simp;cases hc:aI l j2 [58] with
   |false=>
    have Q3:=Q2.step (hU hc);rw [if_neg (by decide)] at Q3;refine bG (ds:=[.str [58]]) (d:= .d (.bool false)) aD (aV l j2 [58] p2.2 (by omega) hc) (by simp) (by simp) ?_
    simp;have Q2:=Q3.step (gA _ _);refine cF (ds:=[.sl (strs [[41]])]) aE (aG l [[41]] j2 p2.2 (by omega) hV.fin (by simp)) (by simp [strs]) (by simp) (fun u5 j5 x5=>?_) (fun n e hx=>by first|exact Q2.fail hx _|(simp;exact Q2.fail hx _)|(simp;exact fun s=>Q2.fail hx s));have Q5:=Q2.step x5;have p5:=aA.exp hV.fin _ _ j2 u5 j5 p2.2 x5;simp;exact Q5.ok _ j5 _ _ rfl (.inr rfl) (by simp [dG,cP])
   |true=>
    have Q3:=Q2.step (hM hc);rw [if_pos rfl] at Q3;refine bG (ds:=[.str [58]]) (d:= .d (.bool true)) aD (aU l j2 [58] p2.2 (by omega) hc) (by simp) (by simp) ?_
    have p3:j2+1≤j2+1∧j2+1<l.length:=⟨d7m _,aF hV.fin p2.2 hc⟩;obtain ⟨j3,hj3⟩:∃j,j2+1=j:=⟨_,rfl⟩;rw [hj3] at Q3 p3 ⊢;simp;have Q3:=Q3.assoc;refine kO 3 [2] (.op 0 (.op 1 (.call [4,5,6] .none) (.call [1,4,5,6] .none)) (.call [0,1,4,5,6] .none)) (gK (cK aX bE rdP l j3)) (by kernel_rfl) (by kernel_rfl) ?_
    simp
    repeat' apply And.intro
    all_goals
     refine sO cN ((kN hV j3 p3.2)) (by simp) (by simp) (fun t j4 x4=>?_) (fun n e hx=>by first|exact Q3.fail hx _|(simp;exact Q3.fail hx _)|(simp;exact fun s=>Q3.fail hx s));have Q4:=Q3.step x4;have p4:=gR hV j3 t j4 p3.2 x4;refine dA.mk ?_
     simp;have Q4:=Q4.step (gA _ _);refine cF (ds:=[.sl (strs [[41]])]) aE (aG l [[41]] j4 p4.2 (by omega) hV.fin (by simp)) (by simp [strs]) (by simp) (fun u5 j5 x5=>?_) (fun n e hx=>by first|exact Q4.fail hx _|(simp;exact Q4.fail hx _)|(simp;exact fun s=>Q4.fail hx s));have Q5:=Q4.step x5;have p5:=aA.exp hV.fin _ _ j4 u5 j5 p4.2 x5;simp;exact Q5.ok _ j5 _ _ rfl (.inr rfl) (by simp [dG,cP])
theorem b8B (i:Nat)(hlow:low≤i+1)(hi:i<l.length):pF G 264 [] l i (mF aX bE rdP l ex i) qY:=by
 have hl:=hV.len;obtain ⟨j0,rfl⟩:∃j0,j0=i:=⟨_,rfl⟩;have p0:j0≤j0∧j0<l.length:=⟨d7m _,hi⟩;have ht:=cI (G:=G) l j0 j0 0 (by omega) (by omega) (by intro e;subst e;simp at hi) (by omega);refine kF.cV Tryz.func264 rfl Tryz.ntmps264 rfl (by simp) ?_
 intro Q Q0;unfold mF at Q0;simp;refine bG (ds:=[.int .i64 0]) bP ht (by simp) (by simp) ?_
 by_cases hk:(aJ l j0).kind=3
 ·have Q0:=Q0.ifp hk;have hw:=bO (show j0<9223372036854775807 by omega);simp [cJ,hk,hw];exact Q0.ok _ (j0+1) _ _ rfl (.inr rfl) (by simp)
 have Q0:=Q0.xF hk;simp [cJ,hk];cases h1:aI l j0 [116,114,117,101] with
 |true=>
  have Q0:=Q0.ifp h1;refine bG (ds:=[.str [116,114,117,101]]) (d:= .d (.bool true)) aD (aU l j0 [116,114,117,101] p0.2 (by omega) h1) (by simp) (by simp) ?_
  have p1:j0+1≤j0+1∧j0+1<l.length:=⟨d7m _,aF hV.fin p0.2 h1⟩;simp;exact Q0.ok _ (j0+1) _ _ rfl (.inr rfl) (by simp)
 |false=>
 have Q0:=Q0.xF (by rw [h1];decide);refine bG (ds:=[.str [116,114,117,101]]) (d:= .d (.bool false)) aD (aV l j0 [116,114,117,101] p0.2 (by omega) h1) (by simp) (by simp) ?_
 simp;cases h2:aI l j0 [102,97,108,115,101] with
 |true=>
  have Q0:=Q0.ifp h2;refine bG (ds:=[.str [102,97,108,115,101]]) (d:= .d (.bool true)) aD (aU l j0 [102,97,108,115,101] p0.2 (by omega) h2) (by simp) (by simp) ?_
  have p1:j0+1≤j0+1∧j0+1<l.length:=⟨d7m _,aF hV.fin p0.2 h2⟩;simp;exact Q0.ok _ (j0+1) _ _ rfl (.inr rfl) (by simp)
 |false=>
 have Q0:=Q0.xF (by rw [h2];decide);refine bG (ds:=[.str [102,97,108,115,101]]) (d:= .d (.bool false)) aD (aV l j0 [102,97,108,115,101] p0.2 (by omega) h2) (by simp) (by simp) ?_
 simp;cases h3:aI l j0 [110,101,119] with
 |true=>
  have Q1:=Q0.ifp h3;refine bG (ds:=[.str [110,101,119]]) (d:= .d (.bool true)) aD (aU l j0 [110,101,119] p0.2 (by omega) h3) (by simp) (by simp) ?_
  have p1:j0+1≤j0+1∧j0+1<l.length:=⟨d7m _,aF hV.fin p0.2 h3⟩;obtain ⟨j1,hj1⟩:∃j,j0+1=j:=⟨_,rfl⟩;rw [hj1] at Q1 p1 ⊢;simp;refine cF a9x (b2h hV hex aex 22 j1 (by omega) p1.2) (by simp) (by simp) (fun t j h=>?_) (fun n e h=>by first|exact Q1.bad n e _ h|(simp;exact Q1.bad n e _ h)|(simp;exact fun s=>Q1.bad n e s h));simp;exact Q1.ok t j _ _ h (.inr rfl) (by simp)
 |false=>
 have Q0:=Q0.xF (by rw [h3];decide);refine bG (ds:=[.str [110,101,119]]) (d:= .d (.bool false)) aD (aV l j0 [110,101,119] p0.2 (by omega) h3) (by simp) (by simp) ?_
 simp;cases h4:aI l j0 [103,101,116] with
 |true=>
  have Q1:=Q0.ifp h4;refine bG (ds:=[.str [103,101,116]]) (d:= .d (.bool true)) aD (aU l j0 [103,101,116] p0.2 (by omega) h4) (by simp) (by simp) ?_
  have p1:j0+1≤j0+1∧j0+1<l.length:=⟨d7m _,aF hV.fin p0.2 h4⟩;obtain ⟨j1,hj1⟩:∃j,j0+1=j:=⟨_,rfl⟩;rw [hj1] at Q1 p1 ⊢;simp;refine cF a9x (b2h hV hex aex 23 j1 (by omega) p1.2) (by simp) (by simp) (fun t j h=>?_) (fun n e h=>by first|exact Q1.bad n e _ h|(simp;exact Q1.bad n e _ h)|(simp;exact fun s=>Q1.bad n e s h));simp;exact Q1.ok t j _ _ h (.inr rfl) (by simp)
 |false=>
 have Q0:=Q0.xF (by rw [h4];decide);refine bG (ds:=[.str [103,101,116]]) (d:= .d (.bool false)) aD (aV l j0 [103,101,116] p0.2 (by omega) h4) (by simp) (by simp) ?_
 simp;cases h5:aI l j0 [115,101,116] with
 |true=>
  have Q1:=Q0.ifp h5;refine bG (ds:=[.str [115,101,116]]) (d:= .d (.bool true)) aD (aU l j0 [115,101,116] p0.2 (by omega) h5) (by simp) (by simp) ?_
  have p1:j0+1≤j0+1∧j0+1<l.length:=⟨d7m _,aF hV.fin p0.2 h5⟩;obtain ⟨j1,hj1⟩:∃j,j0+1=j:=⟨_,rfl⟩;rw [hj1] at Q1 p1 ⊢;simp;refine cF (ds:=[.sl (strs [[40]])]) aE (aG l [[40]] j1 p1.2 (by omega) hV.fin (by simp)) (by simp [strs]) (by simp) (fun u2 j2 x2=>?_) (fun n e hx=>by first|exact Q1.fail hx _|(simp;exact Q1.fail hx _)|(simp;exact fun s=>Q1.fail hx s));have Q2:=Q1.step x2;have p2:=aA.exp hV.fin _ _ j1 u2 j2 p1.2 x2;simp;refine cF bZ ((hex j2 (by omega) p2.2)) (by simp) (by simp) (fun x j3 x3=>?_) (fun n e hx=>by first|exact Q2.fail hx _|(simp;exact Q2.fail hx _)|(simp;exact fun s=>Q2.fail hx s));have Q3:=Q2.step x3;have p3:=aex 0 j2 x j3 p2.2 x3;simp;refine cF (ds:=[.sl (strs [[44]])]) aE (aG l [[44]] j3 p3.2 (by omega) hV.fin (by simp)) (by simp [strs]) (by simp) (fun u4 j4 x4=>?_) (fun n e hx=>by first|exact Q3.fail hx _|(simp;exact Q3.fail hx _)|(simp;exact fun s=>Q3.fail hx s));have Q4:=Q3.step x4;have p4:=aA.exp hV.fin _ _ j3 u4 j4 p3.2 x4;simp;refine cF bZ ((hex j4 (by omega) p4.2)) (by simp) (by simp) (fun y j5 x5=>?_) (fun n e hx=>by first|exact Q4.fail hx _|(simp;exact Q4.fail hx _)|(simp;exact fun s=>Q4.fail hx s));have Q5:=Q4.step x5;have p5:=aex 0 j4 y j5 p4.2 x5;simp;refine cF (ds:=[.sl (strs [[41]])]) aE (aG l [[41]] j5 p5.2 (by omega) hV.fin (by simp)) (by simp [strs]) (by simp) (fun u6 j6 x6=>?_) (fun n e hx=>by first|exact Q5.fail hx _|(simp;exact Q5.fail hx _)|(simp;exact fun s=>Q5.fail hx s));have Q6:=Q5.step x6;have p6:=aA.exp hV.fin _ _ j5 u6 j6 p5.2 x6;simp;refine kP.mk cD (jN 24 x y) ?_
  simp;exact Q6.ok _ j6 _ _ rfl (.inr rfl) (by simp)
 |false=>
 have Q0:=Q0.xF (by rw [h5];decide);refine bG (ds:=[.str [115,101,116]]) (d:= .d (.bool false)) aD (aV l j0 [115,101,116] p0.2 (by omega) h5) (by simp) (by simp) ?_
 simp;refine kP.mk jF (kD hV.kw (aJ l j0)) ?_
 cases h6:gU aX (aJ l j0) with
 |true=>
  have Q0:=Q0.ifp h6;simp;refine cF (ds:=[]) cO (dI hV.kw l j0 hi (by omega)) (by simp) (by simp) (fun s j hx=>?_) (fun n e hx=>by unfold bL mK at hx;rw [if_pos h6] at hx;cases hx);have p1:=aA.word (kw:=aX) hV.fin _ _ _ p0.2 hx;unfold bL mK at hx;rw [if_pos h6] at hx;cases hx;have Q1:=Q0;obtain ⟨j1,hj1⟩:∃j,j0+1=j:=⟨_,rfl⟩;rw [hj1] at Q1 p1 ⊢;have hb1:=gZ (G:=G) l j1 [91] p1.2 (by omega);have hb2:=gZ (G:=G) l j1 [40] p1.2 (by omega);simp;refine bG (ds:=[.str [91]]) eT hb1 (by simp) (by simp) ?_
  cases h7:aI l j1 [91] with
  |true=>have Q1:=Q1.xF (by simp [h7]);simp;refine cF vD ((wZ hV j1 p1.2)) (by simp) (by simp) (fun ts j3 x3=>?_) (fun n e hx=>by first|exact Q1.fail hx _|(simp;exact Q1.fail hx _)|(simp;exact fun s=>Q1.fail hx s));have Q3:=Q1.step x3;have p3:=(aA.types hV.fin hV.pJ.pred) j1 ts j3 p1.2 x3;simp;refine cF yD ((a3P hV hex aex j3 (by omega) p3.2)) (by simp) (by simp) (fun ks j4 x4=>?_) (fun n e hx=>by first|exact Q3.fail hx _|(simp;exact Q3.fail hx _)|(simp;exact fun s=>Q3.fail hx s));have Q4:=Q3.step x4;have p4:=(aA.gJ hV.fin aex) j3 ks j4 p3.2 x4;simp;exact Q4.ok _ j4 _ _ rfl (.inr rfl) (by simp)
  |false=>
   simp;refine bG (ds:=[.str [40]]) eT hb2 (by simp) (by simp) ?_
   cases h8:aI l j1 [40] with
   |true=>have Q1:=Q1.xF (by simp [h8]);simp;refine cF vD ((wZ hV j1 p1.2)) (by simp) (by simp) (fun ts j3 x3=>?_) (fun n e hx=>by first|exact Q1.fail hx _|(simp;exact Q1.fail hx _)|(simp;exact fun s=>Q1.fail hx s));have Q3:=Q1.step x3;have p3:=(aA.types hV.fin hV.pJ.pred) j1 ts j3 p1.2 x3;simp;refine cF yD ((a3P hV hex aex j3 (by omega) p3.2)) (by simp) (by simp) (fun ks j4 x4=>?_) (fun n e hx=>by first|exact Q3.fail hx _|(simp;exact Q3.fail hx _)|(simp;exact fun s=>Q3.fail hx s));have Q4:=Q3.step x4;have p4:=(aA.gJ hV.fin aex) j3 ks j4 p3.2 x4;simp;exact Q4.ok _ j4 _ _ rfl (.inr rfl) (by simp)
   |false=>have Q1:=Q1.ifp (by simp [h7,h8]);simp;exact Q1.ok _ j1 _ _ rfl (.inr rfl) (by simp)
 |false=>
 have Q0:=Q0.xF (by rw [h6];decide);simp;by_cases hk2:(aJ l j0).kind=2
 ·have h7:kT (aJ l j0)=true:=by simp [kT,hk2]
  have Q0:=Q0.ifp h7;simp [hk2];refine cF (ds:=[]) gO (jG l j0 hi (by omega)) (by simp) (by simp) (fun s j hx=>?_) (fun n e hx=>by unfold eQ mK at hx;rw [if_pos h7] at hx;cases hx);have p1:=aA.title hV.fin _ _ _ p0.2 hx;unfold eQ mK at hx;rw [if_pos h7] at hx;cases hx;have Q1:=Q0;obtain ⟨j1,hj1⟩:∃j,j0+1=j:=⟨_,rfl⟩;rw [hj1] at Q1 p1 ⊢;simp;refine cF vD ((wZ hV j1 p1.2)) (by simp) (by simp) (fun ts j3 x3=>?_) (fun n e hx=>by first|exact Q1.fail hx _|(simp;exact Q1.fail hx _)|(simp;exact fun s=>Q1.fail hx s));have Q3:=Q1.step x3;have p3:=(aA.types hV.fin hV.pJ.pred) j1 ts j3 p1.2 x3;simp;have hb2:=gZ (G:=G) l j3 [40] p3.2 (by omega);refine bG (ds:=[.str [40]]) eT hb2 (by simp) (by simp) ?_
  cases h8:aI l j3 [40] with
  |false=>have Q4:=Q3.step (a:=[]) (j:=j3) (by simp [h8]);simp;exact Q4.ok _ j3 _ _ rfl (.inr rfl) (by simp)
  |true=>
   have e1:(fun j=>if aI l j [40] then eR l ex j else .ok [] j:aS (List bY)) j3=eR l ex j3:=by simp [h8]
   simp;refine cF yD ((a3P hV hex aex j3 (by omega) p3.2)) (by simp) (by simp) (fun ks j4 x4=>?_) (fun n e hx=>by first|exact Q3.fail (e1.trans hx) _|(simp;exact Q3.fail (e1.trans hx) _)|(simp;exact fun s=>Q3.fail (e1.trans hx) s));have Q4:=Q3.step (e1.trans x4);have p4:=(aA.gJ hV.fin aex) j3 ks j4 p3.2 x4;simp;exact Q4.ok _ j4 _ _ rfl (.inr rfl) (by simp)
 ·have h7:kT (aJ l j0)=false:=by simp [kT,hk2]
  have Q0:=Q0.xF (by rw [h7];decide);simp [hk2];refine cF b0Z (b3W hV hN hex aex j0 (by omega) p0.2) (by simp) (by simp) (fun t j h=>?_) (fun n e h=>by first|exact Q0.bad n e _ h|(simp;exact Q0.bad n e _ h)|(simp;exact fun s=>Q0.bad n e s h));simp;exact Q0.ok t j _ _ h (.inr rfl) (by simp)
end
end
end
section
open Go Go.VM
variable {G:GT}
theorem xC:VM.Enters Tryz.prog 229:=VM.Enters.mk Tryz.func229 rfl
theorem rN:VM.Enters Tryz.prog 207:=VM.Enters.mk Tryz.func207 rfl
theorem a9N:VM.Enters Tryz.prog 191:=VM.Enters.mk Tryz.func191 rfl
theorem a9O:VM.Enters Tryz.prog 122:=VM.Enters.mk Tryz.func122 rfl
theorem c1O:VM.Enters Tryz.prog 73:=VM.Enters.mk Tryz.func73 rfl
section
variable {l:List Tok} {ops:List (Nm×Int)} {one:aS bY} {g:Nat} {e x:bY} {i j:Nat} {p:Nm×Int}
theorem vU (h:(ops.find? fun p=>aI l i p.1)=none):dC l ops one (g+1) e i= .ok e i:=by rw [dC];simp only [h]
theorem rO (h:(ops.find? fun p=>aI l i p.1)=some p)(h1:one (i+1)= .ok x j):dC l ops one (g+1) e i=dC l ops one g (bV p.2 [e,x]) j:=by rw [dC];simp only [h,h1]
theorem pX {n m:Int}(h:(ops.find? fun p=>aI l i p.1)=some p)(h1:one (i+1)= .bad n m):dC l ops one (g+1) e i= .bad n m:=by rw [dC];simp only [h,h1]
end
section
variable {rdP:List Tok→Nat→Nat→kY Pr} {l:List Tok} (hV:kQ G rdP l) (hN:∀i, -9223372036854775807≤(aJ l i).n∧(aJ l i).n≤9223372036854775807)
include hV hN
section
variable {ex:Nat→aS bY} {low:Nat} (hex:∀i,low≤i→i<l.length→pF G 34 [] l i (ex 0 i) qY) (h3:∀i,low≤i→i<l.length→pF G 168 [] l i (ex 3 i) qY) (h7:∀i,low≤i→i<l.length→pF G 247 [] l i (ex 7 i) qY) (aex:∀k,aA l 1 (ex k))
include hex h3 h7 aex
omit h3 in
theorem a7f (i:Nat)(hlow:low≤i+1)(hi:i<l.length):pF G 247 [] l i (qW aX bE rdP l ex i) qY:=by
 have hl:=hV.len;obtain ⟨j0,rfl⟩:∃j0,j0=i:=⟨_,rfl⟩;have p0:j0≤j0∧j0<l.length:=⟨d7m _,hi⟩;refine kF.cV Tryz.func247 rfl Tryz.ntmps247 rfl (by simp) ?_
 intro Q Q0;unfold qW at Q0;simp;cases hs:aI l j0 [45] with
 |true=>
  have Q1:=Q0.ifp hs;refine bG (ds:=[.str [45]]) (d:= .d (.bool true)) aD (aU l j0 [45] p0.2 (by omega) hs) (by simp) (by simp) ?_
  have p1:j0+1≤j0+1∧j0+1<l.length:=⟨d7m _,aF hV.fin p0.2 hs⟩;obtain ⟨j1,hj1⟩:∃j,j0+1=j:=⟨_,rfl⟩;rw [hj1] at Q1 p1 ⊢;simp;refine cF sJ ((h7 j1 (by omega) p1.2)) (by simp) (by simp) (fun e j2 x2=>?_) (fun n e hx=>by first|exact Q1.fail hx _|(simp;exact Q1.fail hx _)|(simp;exact fun s=>Q1.fail hx s));have Q2:=Q1.step x2;have p2:=aex 7 j1 e j2 p1.2 x2;simp;refine kP.mk cD (a2x 15 e) ?_
  simp;exact Q2.ok _ j2 _ _ rfl (.inr rfl) (by simp)
 |false=>
  have Q0:=Q0.xF (by rw [hs];decide);refine bG (ds:=[.str [45]]) (d:= .d (.bool false)) aD (aV l j0 [45] p0.2 (by omega) hs) (by simp) (by simp) ?_
  simp;refine cF b6w (b8B hV hN hex aex j0 (by omega) p0.2) (by simp) (by simp) (fun t j h=>?_) (fun n e h=>by first|exact Q0.bad n e _ h|(simp;exact Q0.bad n e _ h)|(simp;exact fun s=>Q0.bad n e s h));simp;exact Q0.ok t j _ _ h (.inr rfl) (by simp)
omit h3 in
theorem b1a (i:Nat)(hlow:low≤i+1)(hi:i<l.length):pF G 229 [] l i (a4D aX bE rdP l ex i) qY:=by
 refine kF.cV Tryz.func229 rfl Tryz.ntmps229 rfl (by simp) ?_
 intro Q Q0;unfold a4D rR at Q0;have hl:=hV.len;obtain ⟨j0,rfl⟩:∃j0,j0=i:=⟨_,rfl⟩;have p0:j0≤j0∧j0<l.length:=⟨d7m _,hi⟩;generalize hone:qW aX bE rdP l ex=one at *;have hcon:∀i,low≤i+1→i<l.length→pF G 247 [] l i (one i) qY:=by rw [← hone];exact a7f hV hN hex h7 aex
 have aone:aA l 1 one:=by
  first
   |assumption
   |(rw [← hone]
     exact aA.unG hV.fin aex hV.pJ.pred)
 simp;refine cF sJ ((hcon j0 (by omega) p0.2)) (by simp) (by simp) (fun e j1 x1=>?_) (fun n e hx=>by first|exact Q0.fail hx _|(simp;exact Q0.fail hx _)|(simp;exact fun s=>Q0.fail hx s));have Q1:=Q0.step x1;have p1:=aone j0 e j1 p0.2 x1;simp;refine SW.vG (ι:={ x:bY×Nat×Nat // j1≤x.2.1∧x.2.1<l.length∧l.length<x.2.2+x.2.1∧dC l [([42],12),([100,105,118],13),([109,111,100],14)] one x.2.2 x.1 x.2.1=dC l [([42],12),([100,105,118],13),([109,111,100],14)] one (l.length+2) e j1 }) (fun _=>[]) (fun x=>[(2,.cells [.d (.int .i64 0),.d (.str []),.d (.int .i64 0),.d .aM,.d .aM,.d .aM,.d .aM]),(3,.cells ((rM x.1.1).map .d)),(100000,rdO l x.1.2.1)]) (fun _=>[]) (fun x=>l.length-x.1.2.1) ⟨(e,j1,l.length+2),d7m _,p1.2,by simp only;omega,rfl⟩ (by simp) ?_
 rintro ⟨⟨e2,j2,g⟩,hb,hj2,hg,hp⟩;simp only at hb hj2 hg hp;obtain ⟨g,rfl⟩:∃k,g=k+1:=⟨g-1,by omega⟩;have p2:j1≤j2∧j2<l.length:=⟨hb,hj2⟩;simp;cases s1:aI l j2 [42] with
 |true=>
  have hf:([([42],12),([100,105,118],13),([109,111,100],14)].find? fun p:Nm×Int=>aI l j2 p.1)=some ([42],12):=by simp [s1]
  have hn:=aF hV.fin hj2 s1;refine bG (ds:=[.str [42]]) (d:= .d (.bool true)) aD (aU l j2 [42] p2.2 (by omega) s1) (by simp) (by simp) ?_
  simp;refine kO 2 [1] (.op 0 (.call [3,4,5] .none) (.call [0,3,4,5] .none)) (gK (one (j2+1))) (by kernel_rfl) (by kernel_rfl) ?_
  simp;refine ⟨?_,?_⟩
  all_goals
   refine sO (i:=j2+1) (ds:=[]) sJ (hcon (j2+1) (by omega) hn) (by simp) (by simp) (fun x j3 x3=>?_) (fun n e hx=>?_)
   ·have p3:=aone (j2+1) x j3 hn x3;rw [rO hf x3] at hp;refine dA.mk ?_
    simp;refine aH.mk cD (jN 12 e2 x) ?_
    simp;exact bQ.mk ⟨(bV 12 [e2,x],j3,g),by simp only;omega,p3.2,by simp only;omega,hp⟩ (by simp) (by simp;omega)
   ·rw [pX hf hx] at hp;simp
    first|exact Q1.bad _ _ _ hp.symm|exact fun s=>Q1.bad _ _ s hp.symm
 |false=>
 refine bG (ds:=[.str [42]]) (d:= .d (.bool false)) aD (aV l j2 [42] p2.2 (by omega) s1) (by simp) (by simp) ?_
 simp;cases s2:aI l j2 [100,105,118] with
 |true=>
  have hf:([([42],12),([100,105,118],13),([109,111,100],14)].find? fun p:Nm×Int=>aI l j2 p.1)=some ([100,105,118],13):=by simp [s1,s2]
  have hn:=aF hV.fin hj2 s2;refine bG (ds:=[.str [100,105,118]]) (d:= .d (.bool true)) aD (aU l j2 [100,105,118] p2.2 (by omega) s2) (by simp) (by simp) ?_
  simp;refine kO 2 [1] (.op 0 (.call [3,4,5] .none) (.call [0,3,4,5] .none)) (gK (one (j2+1))) (by kernel_rfl) (by kernel_rfl) ?_
  simp;refine ⟨?_,?_⟩
  all_goals
   refine sO (i:=j2+1) (ds:=[]) sJ (hcon (j2+1) (by omega) hn) (by simp) (by simp) (fun x j3 x3=>?_) (fun n e hx=>?_)
   ·have p3:=aone (j2+1) x j3 hn x3;rw [rO hf x3] at hp;refine dA.mk ?_
    simp;refine aH.mk cD (jN 13 e2 x) ?_
    simp;exact bQ.mk ⟨(bV 13 [e2,x],j3,g),by simp only;omega,p3.2,by simp only;omega,hp⟩ (by simp) (by simp;omega)
   ·rw [pX hf hx] at hp;simp
    first|exact Q1.bad _ _ _ hp.symm|exact fun s=>Q1.bad _ _ s hp.symm
 |false=>
 refine bG (ds:=[.str [100,105,118]]) (d:= .d (.bool false)) aD (aV l j2 [100,105,118] p2.2 (by omega) s2) (by simp) (by simp) ?_
 simp;cases s3:aI l j2 [109,111,100] with
 |true=>
  have hf:([([42],12),([100,105,118],13),([109,111,100],14)].find? fun p:Nm×Int=>aI l j2 p.1)=some ([109,111,100],14):=by simp [s1,s2,s3]
  have hn:=aF hV.fin hj2 s3;refine bG (ds:=[.str [109,111,100]]) (d:= .d (.bool true)) aD (aU l j2 [109,111,100] p2.2 (by omega) s3) (by simp) (by simp) ?_
  simp;refine kO 2 [1] (.op 0 (.call [3,4,5] .none) (.call [0,3,4,5] .none)) (gK (one (j2+1))) (by kernel_rfl) (by kernel_rfl) ?_
  simp;refine ⟨?_,?_⟩
  all_goals
   refine sO (i:=j2+1) (ds:=[]) sJ (hcon (j2+1) (by omega) hn) (by simp) (by simp) (fun x j3 x3=>?_) (fun n e hx=>?_)
   ·have p3:=aone (j2+1) x j3 hn x3;rw [rO hf x3] at hp;refine dA.mk ?_
    simp;refine aH.mk cD (jN 14 e2 x) ?_
    simp;exact bQ.mk ⟨(bV 14 [e2,x],j3,g),by simp only;omega,p3.2,by simp only;omega,hp⟩ (by simp) (by simp;omega)
   ·rw [pX hf hx] at hp;simp
    first|exact Q1.bad _ _ _ hp.symm|exact fun s=>Q1.bad _ _ s hp.symm
 |false=>
 refine bG (ds:=[.str [109,111,100]]) (d:= .d (.bool false)) aD (aV l j2 [109,111,100] p2.2 (by omega) s3) (by simp) (by simp) ?_
 have hf:([([42],12),([100,105,118],13),([109,111,100],14)].find? fun p:Nm×Int=>aI l j2 p.1)=none:=by simp [s1,s2,s3]
 have Q2:=hp.symm.trans (vU hf);simp;exact Q1.ok _ j2 _ _ Q2 (.inr rfl) (by simp)
omit h3 in
theorem oQ (i:Nat)(hlow:low≤i+1)(hi:i<l.length):pF G 207 [] l i (dB aX bE rdP l ex i) qY:=by
 refine kF.cV Tryz.func207 rfl Tryz.ntmps207 rfl (by simp) ?_
 intro Q Q0;unfold dB rR at Q0;have hl:=hV.len;obtain ⟨j0,rfl⟩:∃j0,j0=i:=⟨_,rfl⟩;have p0:j0≤j0∧j0<l.length:=⟨d7m _,hi⟩;generalize hone:a4D aX bE rdP l ex=one at *;have hcon:∀i,low≤i+1→i<l.length→pF G 229 [] l i (one i) qY:=by rw [← hone];exact b1a hV hN hex h7 aex
 have aone:aA l 1 one:=by
  first
   |assumption
   |(rw [← hone]
     exact aA.b5J hV.fin aex hV.pJ.pred)
 simp;refine cF xC ((hcon j0 (by omega) p0.2)) (by simp) (by simp) (fun e j1 x1=>?_) (fun n e hx=>by first|exact Q0.fail hx _|(simp;exact Q0.fail hx _)|(simp;exact fun s=>Q0.fail hx s));have Q1:=Q0.step x1;have p1:=aone j0 e j1 p0.2 x1;simp;refine SW.vG (ι:={ x:bY×Nat×Nat // j1≤x.2.1∧x.2.1<l.length∧l.length<x.2.2+x.2.1∧dC l [([43],10),([45],11)] one x.2.2 x.1 x.2.1=dC l [([43],10),([45],11)] one (l.length+2) e j1 }) (fun _=>[]) (fun x=>[(2,.cells [.d (.int .i64 0),.d (.str []),.d (.int .i64 0),.d .aM,.d .aM,.d .aM,.d .aM]),(3,.cells ((rM x.1.1).map .d)),(100000,rdO l x.1.2.1)]) (fun _=>[]) (fun x=>l.length-x.1.2.1) ⟨(e,j1,l.length+2),d7m _,p1.2,by simp only;omega,rfl⟩ (by simp) ?_
 rintro ⟨⟨e2,j2,g⟩,hb,hj2,hg,hp⟩;simp only at hb hj2 hg hp;obtain ⟨g,rfl⟩:∃k,g=k+1:=⟨g-1,by omega⟩;have p2:j1≤j2∧j2<l.length:=⟨hb,hj2⟩;simp;cases s1:aI l j2 [43] with
 |true=>
  have hf:([([43],10),([45],11)].find? fun p:Nm×Int=>aI l j2 p.1)=some ([43],10):=by simp [s1]
  have hn:=aF hV.fin hj2 s1;refine bG (ds:=[.str [43]]) (d:= .d (.bool true)) aD (aU l j2 [43] p2.2 (by omega) s1) (by simp) (by simp) ?_
  simp;refine kO 2 [1] (.op 0 (.call [3,4,5] .none) (.call [0,3,4,5] .none)) (gK (one (j2+1))) (by kernel_rfl) (by kernel_rfl) ?_
  simp;refine ⟨?_,?_⟩
  all_goals
   refine sO (i:=j2+1) (ds:=[]) xC (hcon (j2+1) (by omega) hn) (by simp) (by simp) (fun x j3 x3=>?_) (fun n e hx=>?_)
   ·have p3:=aone (j2+1) x j3 hn x3;rw [rO hf x3] at hp;refine dA.mk ?_
    simp;refine aH.mk cD (jN 10 e2 x) ?_
    simp;exact bQ.mk ⟨(bV 10 [e2,x],j3,g),by simp only;omega,p3.2,by simp only;omega,hp⟩ (by simp) (by simp;omega)
   ·rw [pX hf hx] at hp;simp
    first|exact Q1.bad _ _ _ hp.symm|exact fun s=>Q1.bad _ _ s hp.symm
 |false=>
 refine bG (ds:=[.str [43]]) (d:= .d (.bool false)) aD (aV l j2 [43] p2.2 (by omega) s1) (by simp) (by simp) ?_
 simp;cases s2:aI l j2 [45] with
 |true=>
  have hf:([([43],10),([45],11)].find? fun p:Nm×Int=>aI l j2 p.1)=some ([45],11):=by simp [s1,s2]
  have hn:=aF hV.fin hj2 s2;refine bG (ds:=[.str [45]]) (d:= .d (.bool true)) aD (aU l j2 [45] p2.2 (by omega) s2) (by simp) (by simp) ?_
  simp;refine kO 2 [1] (.op 0 (.call [3,4,5] .none) (.call [0,3,4,5] .none)) (gK (one (j2+1))) (by kernel_rfl) (by kernel_rfl) ?_
  simp;refine ⟨?_,?_⟩
  all_goals
   refine sO (i:=j2+1) (ds:=[]) xC (hcon (j2+1) (by omega) hn) (by simp) (by simp) (fun x j3 x3=>?_) (fun n e hx=>?_)
   ·have p3:=aone (j2+1) x j3 hn x3;rw [rO hf x3] at hp;refine dA.mk ?_
    simp;refine aH.mk cD (jN 11 e2 x) ?_
    simp;exact bQ.mk ⟨(bV 11 [e2,x],j3,g),by simp only;omega,p3.2,by simp only;omega,hp⟩ (by simp) (by simp;omega)
   ·rw [pX hf hx] at hp;simp
    first|exact Q1.bad _ _ _ hp.symm|exact fun s=>Q1.bad _ _ s hp.symm
 |false=>
 refine bG (ds:=[.str [45]]) (d:= .d (.bool false)) aD (aV l j2 [45] p2.2 (by omega) s2) (by simp) (by simp) ?_
 have hf:([([43],10),([45],11)].find? fun p:Nm×Int=>aI l j2 p.1)=none:=by simp [s1,s2]
 have Q2:=hp.symm.trans (vU hf);simp;exact Q1.ok _ j2 _ _ Q2 (.inr rfl) (by simp)
omit h3 in
theorem b1b (i:Nat)(hlow:low≤i+1)(hi:i<l.length):pF G 191 [] l i (rK aX bE rdP l ex i) qY:=by
 have hl:=hV.len;obtain ⟨j0,rfl⟩:∃j0,j0=i:=⟨_,rfl⟩;have p0:j0≤j0∧j0<l.length:=⟨d7m _,hi⟩;refine kF.cV Tryz.func191 rfl Tryz.ntmps191 rfl (by simp) ?_
 intro Q Q0;unfold rK at Q0;simp;refine cF rN ((oQ hV hN hex h7 aex j0 (by omega) p0.2)) (by simp) (by simp) (fun e j1 x1=>?_) (fun n e hx=>by first|exact Q0.fail hx _|(simp;exact Q0.fail hx _)|(simp;exact fun s=>Q0.fail hx s));have Q1:=Q0.step x1;have p1:=aA.a2H hV.fin aex hV.pJ.pred j0 e j1 p0.2 x1;simp;have hc:=oQ hV hN hex h7 aex;cases hs1:aI l j1 [61,61] with
 |true=>
  have Q2:=Q1.ifp hs1;refine bG (ds:=[.str [61,61]]) (d:= .d (.bool true)) aD (aU l j1 [61,61] p1.2 (by omega) hs1) (by simp) (by simp) ?_
  have p2:j1+1≤j1+1∧j1+1<l.length:=⟨d7m _,aF hV.fin p1.2 hs1⟩;obtain ⟨j2,hj2⟩:∃j,j1+1=j:=⟨_,rfl⟩;rw [hj2] at Q2 p2 ⊢;simp;refine kO 2 [1] (.op 0 (.call [3,4,5] .none) (.call [0,3,4,5] .none)) (gK (dB aX bE rdP l ex j2)) (by kernel_rfl) (by kernel_rfl) ?_
  simp;refine ⟨?_,?_⟩
  all_goals
   refine sO rN ((oQ hV hN hex h7 aex j2 (by omega) p2.2)) (by simp) (by simp) (fun x j3 x3=>?_) (fun n e hx=>by first|exact Q2.fail hx _|(simp;exact Q2.fail hx _)|(simp;exact fun s=>Q2.fail hx s));have Q3:=Q2.step x3;have p3:=aA.a2H hV.fin aex hV.pJ.pred j2 x j3 p2.2 x3;refine dA.mk ?_
   simp;refine aH.mk cD (jN 16 e x) ?_
   simp;exact Q3.ok _ j3 _ _ rfl (.inr rfl) (by simp)
 |false=>
 have Q1:=Q1.xF (by rw [hs1];decide);refine bG (ds:=[.str [61,61]]) (d:= .d (.bool false)) aD (aV l j1 [61,61] p1.2 (by omega) hs1) (by simp) (by simp) ?_
 simp;cases hs2:aI l j1 [33,61] with
 |true=>
  have Q2:=Q1.ifp hs2;refine bG (ds:=[.str [33,61]]) (d:= .d (.bool true)) aD (aU l j1 [33,61] p1.2 (by omega) hs2) (by simp) (by simp) ?_
  have p2:j1+1≤j1+1∧j1+1<l.length:=⟨d7m _,aF hV.fin p1.2 hs2⟩;obtain ⟨j2,hj2⟩:∃j,j1+1=j:=⟨_,rfl⟩;rw [hj2] at Q2 p2 ⊢;simp;refine kO 2 [1] (.op 0 (.call [3,4,5,6,7] .none) (.call [0,3,4,5,6,7] .none)) (gK (dB aX bE rdP l ex j2)) (by kernel_rfl) (by kernel_rfl) ?_
  simp;refine ⟨?_,?_⟩
  all_goals
   refine sO rN ((oQ hV hN hex h7 aex j2 (by omega) p2.2)) (by simp) (by simp) (fun x j3 x3=>?_) (fun n e hx=>by first|exact Q2.fail hx _|(simp;exact Q2.fail hx _)|(simp;exact fun s=>Q2.fail hx s));have Q3:=Q2.step x3;have p3:=aA.a2H hV.fin aex hV.pJ.pred j2 x j3 p2.2 x3;refine dA.mk ?_
   simp;refine aH.mk cD (jN 16 e x) ?_
   simp;refine aH.mk cD (a2x 21 (bV 16 [e,x])) ?_
   simp;exact Q3.ok _ j3 _ _ rfl (.inr rfl) (by simp)
 |false=>
 have Q1:=Q1.xF (by rw [hs2];decide);refine bG (ds:=[.str [33,61]]) (d:= .d (.bool false)) aD (aV l j1 [33,61] p1.2 (by omega) hs2) (by simp) (by simp) ?_
 simp;have hc:=oQ hV hN hex h7 aex;cases hs3:aI l j1 [60] with
 |true=>
  have Q2:=Q1.ifp hs3;refine bG (ds:=[.str [60]]) (d:= .d (.bool true)) aD (aU l j1 [60] p1.2 (by omega) hs3) (by simp) (by simp) ?_
  have p2:j1+1≤j1+1∧j1+1<l.length:=⟨d7m _,aF hV.fin p1.2 hs3⟩;obtain ⟨j2,hj2⟩:∃j,j1+1=j:=⟨_,rfl⟩;rw [hj2] at Q2 p2 ⊢;simp;refine kO 2 [1] (.op 0 (.call [3,4,5] .none) (.call [0,3,4,5] .none)) (gK (dB aX bE rdP l ex j2)) (by kernel_rfl) (by kernel_rfl) ?_
  simp;refine ⟨?_,?_⟩
  all_goals
   refine sO rN ((oQ hV hN hex h7 aex j2 (by omega) p2.2)) (by simp) (by simp) (fun x j3 x3=>?_) (fun n e hx=>by first|exact Q2.fail hx _|(simp;exact Q2.fail hx _)|(simp;exact fun s=>Q2.fail hx s));have Q3:=Q2.step x3;have p3:=aA.a2H hV.fin aex hV.pJ.pred j2 x j3 p2.2 x3;refine dA.mk ?_
   simp;refine aH.mk cD (jN 17 e x) ?_
   simp;exact Q3.ok _ j3 _ _ rfl (.inr rfl) (by simp)
 |false=>
 have Q1:=Q1.xF (by rw [hs3];decide);refine bG (ds:=[.str [60]]) (d:= .d (.bool false)) aD (aV l j1 [60] p1.2 (by omega) hs3) (by simp) (by simp) ?_
 simp;have hc:=oQ hV hN hex h7 aex;cases hs4:aI l j1 [60,61] with
 |true=>
  have Q2:=Q1.ifp hs4;refine bG (ds:=[.str [60,61]]) (d:= .d (.bool true)) aD (aU l j1 [60,61] p1.2 (by omega) hs4) (by simp) (by simp) ?_
  have p2:j1+1≤j1+1∧j1+1<l.length:=⟨d7m _,aF hV.fin p1.2 hs4⟩;obtain ⟨j2,hj2⟩:∃j,j1+1=j:=⟨_,rfl⟩;rw [hj2] at Q2 p2 ⊢;simp;refine kO 2 [1] (.op 0 (.call [3,4,5] .none) (.call [0,3,4,5] .none)) (gK (dB aX bE rdP l ex j2)) (by kernel_rfl) (by kernel_rfl) ?_
  simp;refine ⟨?_,?_⟩
  all_goals
   refine sO rN ((oQ hV hN hex h7 aex j2 (by omega) p2.2)) (by simp) (by simp) (fun x j3 x3=>?_) (fun n e hx=>by first|exact Q2.fail hx _|(simp;exact Q2.fail hx _)|(simp;exact fun s=>Q2.fail hx s));have Q3:=Q2.step x3;have p3:=aA.a2H hV.fin aex hV.pJ.pred j2 x j3 p2.2 x3;refine dA.mk ?_
   simp;refine aH.mk cD (jN 18 e x) ?_
   simp;exact Q3.ok _ j3 _ _ rfl (.inr rfl) (by simp)
 |false=>
 have Q1:=Q1.xF (by rw [hs4];decide);refine bG (ds:=[.str [60,61]]) (d:= .d (.bool false)) aD (aV l j1 [60,61] p1.2 (by omega) hs4) (by simp) (by simp) ?_
 simp;cases hs5:aI l j1 [62] with
 |true=>
  have Q2:=Q1.ifp hs5;refine bG (ds:=[.str [62]]) (d:= .d (.bool true)) aD (aU l j1 [62] p1.2 (by omega) hs5) (by simp) (by simp) ?_
  have p2:j1+1≤j1+1∧j1+1<l.length:=⟨d7m _,aF hV.fin p1.2 hs5⟩;obtain ⟨j2,hj2⟩:∃j,j1+1=j:=⟨_,rfl⟩;rw [hj2] at Q2 p2 ⊢;simp;refine kO 1 [0] (.op 2 (.call [3,4,5] .none) (.call [2,3,4,5] .none)) (gK (dB aX bE rdP l ex j2)) (by kernel_rfl) (by kernel_rfl) ?_
  simp;refine ⟨?_,?_⟩
  all_goals
   refine sO rN ((oQ hV hN hex h7 aex j2 (by omega) p2.2)) (by simp) (by simp) (fun x j3 x3=>?_) (fun n e hx=>by first|exact Q2.fail hx _|(simp;exact Q2.fail hx _)|(simp;exact fun s=>Q2.fail hx s));have Q3:=Q2.step x3;have p3:=aA.a2H hV.fin aex hV.pJ.pred j2 x j3 p2.2 x3;refine dA.mk ?_
   simp;refine aH.mk cD (jN 17 x e) ?_
   simp;exact Q3.ok _ j3 _ _ rfl (.inr rfl) (by simp)
 |false=>
 have Q1:=Q1.xF (by rw [hs5];decide);refine bG (ds:=[.str [62]]) (d:= .d (.bool false)) aD (aV l j1 [62] p1.2 (by omega) hs5) (by simp) (by simp) ?_
 simp;cases hs6:aI l j1 [62,61] with
 |true=>
  have Q2:=Q1.ifp hs6;refine bG (ds:=[.str [62,61]]) (d:= .d (.bool true)) aD (aU l j1 [62,61] p1.2 (by omega) hs6) (by simp) (by simp) ?_
  have p2:j1+1≤j1+1∧j1+1<l.length:=⟨d7m _,aF hV.fin p1.2 hs6⟩;obtain ⟨j2,hj2⟩:∃j,j1+1=j:=⟨_,rfl⟩;rw [hj2] at Q2 p2 ⊢;simp;refine kO 1 [0] (.op 2 (.call [3,4,5] .none) (.call [2,3,4,5] .none)) (gK (dB aX bE rdP l ex j2)) (by kernel_rfl) (by kernel_rfl) ?_
  simp;refine ⟨?_,?_⟩
  all_goals
   refine sO rN ((oQ hV hN hex h7 aex j2 (by omega) p2.2)) (by simp) (by simp) (fun x j3 x3=>?_) (fun n e hx=>by first|exact Q2.fail hx _|(simp;exact Q2.fail hx _)|(simp;exact fun s=>Q2.fail hx s));have Q3:=Q2.step x3;have p3:=aA.a2H hV.fin aex hV.pJ.pred j2 x j3 p2.2 x3;refine dA.mk ?_
   simp;refine aH.mk cD (jN 18 x e) ?_
   simp;exact Q3.ok _ j3 _ _ rfl (.inr rfl) (by simp)
 |false=>
 have Q1:=Q1.xF (by rw [hs6];decide);refine bG (ds:=[.str [62,61]]) (d:= .d (.bool false)) aD (aV l j1 [62,61] p1.2 (by omega) hs6) (by simp) (by simp) ?_
 simp;exact Q1.ok _ j1 _ _ rfl (.inr rfl) (by simp)
theorem b2j (i:Nat)(hlow:low≤i+1)(hi:i<l.length):pF G 168 [] l i (pT aX bE rdP l ex i) qY:=by
 have hl:=hV.len;obtain ⟨j0,rfl⟩:∃j0,j0=i:=⟨_,rfl⟩;have p0:j0≤j0∧j0<l.length:=⟨d7m _,hi⟩;refine kF.cV Tryz.func168 rfl Tryz.ntmps168 rfl (by simp) ?_
 intro Q Q0;unfold pT at Q0;simp;cases hs:aI l j0 [33] with
 |true=>
  have Q1:=Q0.ifp hs;refine bG (ds:=[.str [33]]) (d:= .d (.bool true)) aD (aU l j0 [33] p0.2 (by omega) hs) (by simp) (by simp) ?_
  have p1:j0+1≤j0+1∧j0+1<l.length:=⟨d7m _,aF hV.fin p0.2 hs⟩;obtain ⟨j1,hj1⟩:∃j,j0+1=j:=⟨_,rfl⟩;rw [hj1] at Q1 p1 ⊢;simp;refine cF a3O ((h3 j1 (by omega) p1.2)) (by simp) (by simp) (fun e j2 x2=>?_) (fun n e hx=>by first|exact Q1.fail hx _|(simp;exact Q1.fail hx _)|(simp;exact fun s=>Q1.fail hx s));have Q2:=Q1.step x2;have p2:=aex 3 j1 e j2 p1.2 x2;simp;refine kP.mk cD (a2x 21 e) ?_
  simp;exact Q2.ok _ j2 _ _ rfl (.inr rfl) (by simp)
 |false=>
  have Q0:=Q0.xF (by rw [hs];decide);refine bG (ds:=[.str [33]]) (d:= .d (.bool false)) aD (aV l j0 [33] p0.2 (by omega) hs) (by simp) (by simp) ?_
  simp;refine cF a9N (b1b hV hN hex h7 aex j0 (by omega) p0.2) (by simp) (by simp) (fun t j h=>?_) (fun n e h=>by first|exact Q0.bad n e _ h|(simp;exact Q0.bad n e _ h)|(simp;exact fun s=>Q0.bad n e s h));simp;exact Q0.ok t j _ _ h (.inr rfl) (by simp)
theorem c1P (i:Nat)(hlow:low≤i+1)(hi:i<l.length):pF G 122 [] l i (a8K aX bE rdP l ex i) qY:=by
 refine kF.cV Tryz.func122 rfl Tryz.ntmps122 rfl (by simp) ?_
 intro Q Q0;unfold a8K rR at Q0;have hl:=hV.len;obtain ⟨j0,rfl⟩:∃j0,j0=i:=⟨_,rfl⟩;have p0:j0≤j0∧j0<l.length:=⟨d7m _,hi⟩;generalize hone:pT aX bE rdP l ex=one at *;have hcon:∀i,low≤i+1→i<l.length→pF G 168 [] l i (one i) qY:=by rw [← hone];exact b2j hV hN hex h3 h7 aex
 have aone:aA l 1 one:=by
  first
   |assumption
   |(rw [← hone]
     exact aA.a2I hV.fin aex hV.pJ.pred)
 simp;refine cF a3O ((hcon j0 (by omega) p0.2)) (by simp) (by simp) (fun e j1 x1=>?_) (fun n e hx=>by first|exact Q0.fail hx _|(simp;exact Q0.fail hx _)|(simp;exact fun s=>Q0.fail hx s));have Q1:=Q0.step x1;have p1:=aone j0 e j1 p0.2 x1;simp;refine SW.vG (ι:={ x:bY×Nat×Nat // j1≤x.2.1∧x.2.1<l.length∧l.length<x.2.2+x.2.1∧dC l [([38,38],19)] one x.2.2 x.1 x.2.1=dC l [([38,38],19)] one (l.length+2) e j1 }) (fun _=>[]) (fun x=>[(2,.cells [.d (.int .i64 0),.d (.str []),.d (.int .i64 0),.d .aM,.d .aM,.d .aM,.d .aM]),(3,.cells ((rM x.1.1).map .d)),(100000,rdO l x.1.2.1)]) (fun _=>[]) (fun x=>l.length-x.1.2.1) ⟨(e,j1,l.length+2),d7m _,p1.2,by simp only;omega,rfl⟩ (by simp) ?_
 rintro ⟨⟨e2,j2,g⟩,hb,hj2,hg,hp⟩;simp only at hb hj2 hg hp;obtain ⟨g,rfl⟩:∃k,g=k+1:=⟨g-1,by omega⟩;have p2:j1≤j2∧j2<l.length:=⟨hb,hj2⟩;simp;cases s1:aI l j2 [38,38] with
 |true=>
  have hf:([([38,38],19)].find? fun p:Nm×Int=>aI l j2 p.1)=some ([38,38],19):=by simp [s1]
  have hn:=aF hV.fin hj2 s1;refine bG (ds:=[.str [38,38]]) (d:= .d (.bool true)) aD (aU l j2 [38,38] p2.2 (by omega) s1) (by simp) (by simp) ?_
  simp;refine kO 2 [1] (.op 0 (.call [3,4,5] .none) (.call [0,3,4,5] .none)) (gK (one (j2+1))) (by kernel_rfl) (by kernel_rfl) ?_
  simp;refine ⟨?_,?_⟩
  all_goals
   refine sO (i:=j2+1) (ds:=[]) a3O (hcon (j2+1) (by omega) hn) (by simp) (by simp) (fun x j3 x3=>?_) (fun n e hx=>?_)
   ·have p3:=aone (j2+1) x j3 hn x3;rw [rO hf x3] at hp;refine dA.mk ?_
    simp;refine aH.mk cD (jN 19 e2 x) ?_
    simp;exact bQ.mk ⟨(bV 19 [e2,x],j3,g),by simp only;omega,p3.2,by simp only;omega,hp⟩ (by simp) (by simp;omega)
   ·rw [pX hf hx] at hp;simp
    first|exact Q1.bad _ _ _ hp.symm|exact fun s=>Q1.bad _ _ s hp.symm
 |false=>
 refine bG (ds:=[.str [38,38]]) (d:= .d (.bool false)) aD (aV l j2 [38,38] p2.2 (by omega) s1) (by simp) (by simp) ?_
 have hf:([([38,38],19)].find? fun p:Nm×Int=>aI l j2 p.1)=none:=by simp [s1]
 have Q2:=hp.symm.trans (vU hf);simp;exact Q1.ok _ j2 _ _ Q2 (.inr rfl) (by simp)
theorem b8C:aA l 1 (a8K aX bE rdP l ex):=aA.lvl hV.fin (aA.a2I hV.fin aex hV.pJ.pred)
theorem c4A (i:Nat)(hlow:low≤i+1)(hi:i<l.length):pF G 73 [] l i (a2Z aX bE rdP l ex i) qY:=by
 refine kF.cV Tryz.func73 rfl Tryz.ntmps73 rfl (by simp) ?_
 intro Q Q0;unfold a2Z rR at Q0;have aor:=b8C hV hN hex h3 h7 aex;have hl:=hV.len;obtain ⟨j0,rfl⟩:∃j0,j0=i:=⟨_,rfl⟩;have p0:j0≤j0∧j0<l.length:=⟨d7m _,hi⟩;generalize hone:a8K aX bE rdP l ex=one at *;have hcon:∀i,low≤i+1→i<l.length→pF G 122 [] l i (one i) qY:=by rw [← hone];exact c1P hV hN hex h3 h7 aex
 have aone:aA l 1 one:=by
  first
   |assumption
   |(rw [← hone]
     exact (fun _ _ _=>aor) hV.fin aex hV.pJ.pred)
 simp;refine cF a9O ((hcon j0 (by omega) p0.2)) (by simp) (by simp) (fun e j1 x1=>?_) (fun n e hx=>by first|exact Q0.fail hx _|(simp;exact Q0.fail hx _)|(simp;exact fun s=>Q0.fail hx s));have Q1:=Q0.step x1;have p1:=aone j0 e j1 p0.2 x1;simp;refine SW.vG (ι:={ x:bY×Nat×Nat // j1≤x.2.1∧x.2.1<l.length∧l.length<x.2.2+x.2.1∧dC l [([124,124],20)] one x.2.2 x.1 x.2.1=dC l [([124,124],20)] one (l.length+2) e j1 }) (fun _=>[]) (fun x=>[(2,.cells [.d (.int .i64 0),.d (.str []),.d (.int .i64 0),.d .aM,.d .aM,.d .aM,.d .aM]),(3,.cells ((rM x.1.1).map .d)),(100000,rdO l x.1.2.1)]) (fun _=>[]) (fun x=>l.length-x.1.2.1) ⟨(e,j1,l.length+2),d7m _,p1.2,by simp only;omega,rfl⟩ (by simp) ?_
 rintro ⟨⟨e2,j2,g⟩,hb,hj2,hg,hp⟩;simp only at hb hj2 hg hp;obtain ⟨g,rfl⟩:∃k,g=k+1:=⟨g-1,by omega⟩;have p2:j1≤j2∧j2<l.length:=⟨hb,hj2⟩;simp;cases s1:aI l j2 [124,124] with
 |true=>
  have hf:([([124,124],20)].find? fun p:Nm×Int=>aI l j2 p.1)=some ([124,124],20):=by simp [s1]
  have hn:=aF hV.fin hj2 s1;refine bG (ds:=[.str [124,124]]) (d:= .d (.bool true)) aD (aU l j2 [124,124] p2.2 (by omega) s1) (by simp) (by simp) ?_
  simp;refine kO 2 [1] (.op 0 (.call [3,4,5] .none) (.call [0,3,4,5] .none)) (gK (one (j2+1))) (by kernel_rfl) (by kernel_rfl) ?_
  simp;refine ⟨?_,?_⟩
  all_goals
   refine sO (i:=j2+1) (ds:=[]) a9O (hcon (j2+1) (by omega) hn) (by simp) (by simp) (fun x j3 x3=>?_) (fun n e hx=>?_)
   ·have p3:=aone (j2+1) x j3 hn x3;rw [rO hf x3] at hp;refine dA.mk ?_
    simp;refine aH.mk cD (jN 20 e2 x) ?_
    simp;exact bQ.mk ⟨(bV 20 [e2,x],j3,g),by simp only;omega,p3.2,by simp only;omega,hp⟩ (by simp) (by simp;omega)
   ·rw [pX hf hx] at hp;simp
    first|exact Q1.bad _ _ _ hp.symm|exact fun s=>Q1.bad _ _ s hp.symm
 |false=>
 refine bG (ds:=[.str [124,124]]) (d:= .d (.bool false)) aD (aV l j2 [124,124] p2.2 (by omega) s1) (by simp) (by simp) ?_
 have hf:([([124,124],20)].find? fun p:Nm×Int=>aI l j2 p.1)=none:=by simp [s1]
 have Q2:=hp.symm.trans (vU hf);simp;exact Q1.ok _ j2 _ _ Q2 (.inr rfl) (by simp)
end
end
end
end Go.Proofs.YtjpodcmhcenjjaaGreatDoor
section
namespace Go.VM
open Go Go.RowKit
section
variable {P:Program} {G:GT} {st:St}
theorem oI {all:Array Oper}{QQ:Exit→Act→World→Prop}{a a':Act}{w w':World}{o:Oper}{rest:List Oper}(hg:o.guard=none){v:Value}(hrun:(execOp a.eval o).run P w= .ok (.value v) w'∨((execOp a.eval o).run P w= .ok .skip w'∧v=Go.undef))(ha:a.put o.dst v=a')(h:wpList P all QQ rest a' w'):wpList P all QQ (o::rest) a w:=by
 have hw:∀y,Region.wanted o y=true:=fun y=>by unfold Region.wanted;rw [hg]
 unfold wpList;rw [if_pos (hw _)];left;unfold Oper.wp;rcases hrun with h1|⟨h1,rfl⟩
 ·rw [h1]
  show wpList P all QQ rest (a.put o.dst v) w'
  rw [ha];exact h
 ·rw [h1]
  show wpList P all QQ rest (a.put o.dst Go.undef) w'
  rw [ha];exact h
def d5h (P:Program)(G:GT)(t:TypeId)(x d s:Tmp)(j:Nat)(parts:Array (Nat×Operand))(Q:St→Prop)(st:St):Prop:=
 ∃(outB outA outS:Out) (k off:Nat),(s<st.tmps.length∧x<st.tmps.length∧d<st.tmps.length)∧a3o P G t parts st=some outB∧a5z P (some d) t (finish outB.st (some x) outB.v outB.act)=some outA∧oR P G t (.tmp d) (.tmp x) (finish outA.st (some d) outA.v outA.act)=some outS∧(finish outA.st (some d) outA.v outA.act).eval G (.tmp d)= .ptr k off∧outS.st.eval G (.tmp d)= .ptr k off∧(∃cs,getKey k (finish outA.st (some d) outA.v outA.act).H=some (.cells cs))∧
  (∀(o:Oper),o.op= .build t parts→∀base R μ a w,Rel P G base R μ st a w→∃cs:Array Value,(execOp a.eval o).run P w= .ok (.value (.agg cs)) w∧cs[j]? =some (a.eval (.tmp s))∧cs.size=P.cellsOf t)∧(getKey k outS.st.H).isSome=true∧Q { outS.st with own:=addAlias (.t s) (.c k (off+j)) outS.st.own }
theorem LW.d3q {all:Array Oper}{t:TypeId}{x d s:Tmp}{j:Nat}{parts:Array (Nat×Operand)}{y0 y1 y2:TypeId}{p0 p1 p2:String}{f0 f1 f2:Array Edge}{Q:Exit→St→Prop}(hne:x≠s∧x≠d∧d≠s)(hct:P.cellsOf t≠0)(h:d5h P G t x d s j parts (fun s'=>Q .normal s') st):
  LW P G all [⟨some x,.build t parts,y0,p0,f0,none⟩,⟨some d,.alloc t,y1,p1,f1,none⟩,⟨none,.store t (.tmp d) (.tmp x),y2,p2,f2,none⟩] st Q:=by
 unfold LW;intro base R μ a w hr QQ hk;obtain ⟨outB,outA,outS,k,off,k0,k1,kA,k2,k3,k4,⟨cs0,k5⟩,hraw,k6,k7⟩:=h;obtain ⟨cs,e0,e1,e2⟩:=hraw ⟨some x,.build t parts,y0,p0,f0,none⟩ rfl base R μ a w hr;obtain ⟨v,w0,R0,μ0,hrun,hr1,hv1,ha1,hs1⟩:=b1s (o:=⟨some x,.build t parts,y0,p0,f0,none⟩) rfl k1 base R μ a w hr;rw [e0] at hrun;have hv:v= .agg cs∧w0=w:=by
  rcases hrun with hrun|⟨hrun,_⟩
  ·cases hrun;exact ⟨rfl,rfl⟩
  ·cases hrun
 obtain ⟨rfl,rfl⟩:=hv;have hr2:=hr1.put (dst:=some x) hv1 ha1;generalize ha:a.put (some x) (.agg cs)=a0 at hr2;have hsa:s<a.tmps.size:=by rw [hr.size];exact k0.1
 have hxa:x<a.tmps.size:=by rw [hr.size];exact k0.2.1
 have hda:d<a.tmps.size:=by rw [hr.size];exact k0.2.2
 have hxv0:a0.eval (.tmp x)= .agg cs:=by rw [← ha];exact dL _ _ hxa
 have es0:a0.eval (.tmp s)=a.eval (.tmp s):=by rw [← ha];exact bR _ _ (Ne.symm hne.1)
 obtain ⟨vA,w1,R1,μ1,hrunA,hrA,hvA,haA,hsA⟩:=b1t (o:=⟨some d,.alloc t,y1,p1,f1,none⟩) rfl kA base R0 μ0 a0 w0 hr2;have hr2:=hrA.put (dst:=some d) hvA haA;generalize hb:a0.put (some d) vA=a1 at hr2;have hsa1:s<a1.tmps.size:=by rw [← hb,size_put, ← ha,size_put];exact hsa
 have es:a1.eval (.tmp s)=a.eval (.tmp s):=by rw [← hb,bR _ _ (Ne.symm hne.2.2)];exact es0
 have hxv:a1.eval (.tmp x)= .agg cs:=by rw [← hb,bR _ _ hne.2.1];exact hxv0
 obtain ⟨v2,w2,R2,μ2,hrun2,hr3,_,_,hs2⟩:=a2h (o:=⟨none,.store t (.tmp d) (.tmp x),y2,p2,f2,none⟩) rfl k2 base R1 μ1 a1 w1 hr2;obtain ⟨_,_,cur,T0,hh,hcz,_⟩:=hr2.gL k _ k5;have had:=hr2.dJ k3;have hcc:(Value.agg cs).cells=cs:=rfl;have k2':=k2;unfold oR at k2;rw [k3] at k2;split at k2;rotate_left
 ·cases k2
 rename_i k' off' ys hk' hys;cases hk';rw [k5] at k2;simp only at k2;split at k2;rotate_left
 ·cases k2
 rename_i hcd;have hvx:rE ((finish outA.st (some d) outA.v outA.act).eval G (.tmp x))=some ys:=hys;obtain ⟨hvs,hvc⟩:=yY (hr2.eval (.tmp x)) hvx;rw [hxv,hcc] at hvs hvc;have hone:∀u∈cs.toList,u.oneCell'=true:=fun u hu=>by
  obtain ⟨i,hi⟩:=d7n hu;have hil:i<ys.length:=by rw [← hvs];simpa using (d6X.1 hi).1
  obtain ⟨_,_,h2⟩:=hvc i ys[i] (by simp [hil]);have:cs.getD i undef=u:=by
   have:cs[i]? =some u:=by simpa using hi
   simp [d6Y,this]
  rw [this] at h2;exact h2
 have hfit:off+cs.size≤cur.size:=by rw [hcz,hvs];omega
 have hst:=qJ (P:=P) (a:=a1) (w:=w1) (o:=⟨none,.store t (.tmp d) (.tmp x),y2,p2,f2,none⟩) rfl had hh (by rw [hxv,hcc];exact e2) hct (by rw [hxv,hcc];exact hone) (by rw [hxv,hcc];exact hfit);rw [hxv,hcc] at hst;have hw2:w2=w1.setRow (μ1 k) (spl cur off cs.toList):=by
  rw [hst] at hrun2;rcases hrun2 with hrun2|⟨hrun2,_⟩
  ·cases hrun2
  ·cases hrun2;rfl
 have hμ:μ2 k=μ1 k:=by have h1:=hr3.dJ k4;rw [had] at h1;have h2:=(Addr.mk.inj (Option.some.inj (Value.pointer.inj h1))).1;exact h2.symm
 have hcell:∀u,w2.cell? ⟨μ2 k,off+j,none⟩=some u→u=a1.eval (.tmp s):=fun u hu=>by
  have hjl:j<cs.size:=(d7f.1 e1).1;rw [hμ,hw2,cell_of_row _ _ _ _ T0 (0,0) (setRow_heap w1 (μ1 k) cur _ T0 _ hh),a4H (by simpa using hfit),if_neg (by omega),if_pos (by simp;omega),Nat.add_sub_cancel_left] at hu;have:cs.toList[j]? =some (a.eval (.tmp s)):=by simpa using e1
  rw [this] at hu;cases hu;exact es.symm
 have hr4:=hr3.alias (t:=s) (k:=k) (off:=off+j) (Option.isSome_iff_exists.1 k6) hsa1 hcell;refine oI rfl (.inl e0) ha ?_
 refine oI rfl hrunA hb ?_
 refine oI (w':=w2) rfl (.inr ⟨by rw [hw2];exact hst,rfl⟩) rfl ?_
 unfold wpList;exact hk _ _ _ _ R2 μ2 k7 hr4 ((hs1.trans hsA).trans hs2)
end
end Go.VM
end
namespace Go.Proofs.YtjpodcmhcenjjaaGreatDoor
section
open Go Go.VM
variable {G:GT}
theorem c4B {R:Nat→Nat→Prop}{w:World}{v:Value}{es:List (List D)}(h:V R w v (.sl es)):∃ao n c,v= .slice ao n c:=by
 cases h with
 |emp ao cap=>exact ⟨_,_,_,rfl⟩
 |sl b o n cap size es f h1 h2 h3 h4 h5 h6 h7=>exact ⟨_,_,_,rfl⟩
theorem c1Q {a:Act}{w:World}{o:Oper}(ho:o.op= .build 30 #[(0,.const (.int .i64 25)),(1,.tmp 44),(3,.tmp 46)]){s:ByteArray}{a1:Option Addr}{n1 c1:Nat}(h2:a.eval (.tmp 44)= .string s)(h1:a.eval (.tmp 46)= .slice a1 n1 c1):
  (execOp a.eval o).run Tryz.prog w= .ok (.value (.agg #[.int .i64 25,.string s,.int .i64 0,.slice a1 n1 c1,.slice none 0 0,.slice none 0 0,.slice none 0 0])) w:=by
 have hz:(Tryz.prog.info? 30).bind (·.zero)=some (.agg #[.int .i64 0,.string ⟨#[]⟩,.int .i64 0,.slice none 0 0,.slice none 0 0,.slice none 0 0,.slice none 0 0]):=by kernel_rfl
 obtain ⟨i,hi,hz⟩:=d7k.1 hz;simp [execOp,ho,Instr.build,zeroValue,typeInfo,hi,hz];rw [h1,h2]
 rfl
section
variable {α:Type} {Q:Exit→St→Prop} {l:List Tok} {i:Nat} {enc:α→DV} {e:TypeId} {r:kY α}
theorem d6e {f:FuncId}{ds:List D}{av:List DV}{st:St}{ls:List (Option VM.Loc)}{dst:Option Tmp}{KK:St→Prop}(he:VM.Enters Tryz.prog f)(hc:RdO G f ds l i e r enc)(hw:WkT av (.ptr 100000 0::ds.map .d))(hH:getKey 100000 st.H=some (rdO l i))(hok:∀a j,r= .ok a j→KK (bB K1 dst st st.own (enc a) (rH l j) [(e,[.t 0])]))(hbad:∀n e,r= .bad n e→Q (.panic (vQ (mB n e))) (xV st))(hk:∀a,aW K1 (enc a)=true∧bC K1 (enc a)=enc a:=by intro a;exact ⟨rfl,rfl⟩):sR Tryz.prog G f av ls dst st KK Q (gK r):=by
 rw [← b6c (l:=l) (enc:=enc) (Y:=fun _=>[]) (own:=[(e,[.t 0])]) r];refine sR.mk he hc K1 (fun d H1 own1 hx=>?_) (fun v hx=>?_) ?_ ?_ rfl rfl (fun d H1 own1 hx=>?_) (fun v hx=>?_)
 ·cases r with
  |bad n e=>cases hx
  |ok a j=>cases hx;simp [aN,aW,aR,aQ,gB,bA,getKey,(hk a).1]
 ·simp [aN,aW,aR,aQ,gB,bA,getKey]
 ·simpa [aT,bC,rk,jP] using hw
 ·simp only [cL,rdO,List.append_nil,List.map_cons,List.map_nil,rk,if_true,cW,aT,bC,WkH,and_true];exact ⟨_,hH,by simp [WkO]⟩
 ·cases r with
  |bad n e=>cases hx
  |ok a j=>cases hx;exact hok a j rfl
 ·cases r with
  |bad n e=>cases hx;exact hbad n e rfl
  |ok a j=>cases hx
end
section
variable {rdP:List Tok→Nat→Nat→kY Pr} {l:List Tok} (hV:kQ G rdP l) (hN:∀i, -9223372036854775807≤(aJ l i).n∧(aJ l i).n≤9223372036854775807)
include hV hN
section
variable {ex:Nat→aS bY} {low:Nat} (hex:∀i,low≤i→i<l.length→pF G 34 [] l i (ex 0 i) qY) (h3:∀i,low≤i→i<l.length→pF G 168 [] l i (ex 3 i) qY) (h7:∀i,low≤i→i<l.length→pF G 247 [] l i (ex 7 i) qY) (aex:∀k,aA l 1 (ex k))
include hex h3 h7 aex
omit hN hex h3 h7 in
theorem c1R (i:Nat)(ks:List bY)(j:Nat)(hi:i<l.length)(h:eR l ex i= .ok ks j):ks.length≤j:=by unfold eR at h;obtain ⟨_,k1,h1,h⟩:=bW h;obtain ⟨es,k2,h2,h⟩:=bW h;obtain ⟨_,k3,h3,h⟩:=bW h;have a1:=aA.exp hV.fin _ _ i _ k1 hi h1;have a2:=pW hV (one:=b6o ex) (fun a p=>a.length≤p) (fun a p b q hp ha hab=>⟨a9y hV aex a p b q hp ha hab,(a5U hV aex a p b q hp hab).2⟩) (fun a p h=>by omega) _ _ _ _ _ a1.2 (by simp) h2;have a3:=aA.exp hV.fin _ _ k2 _ k3 a2.2 h3;cases h;omega
theorem b8D (i:Nat)(hlow:low≤i+1)(hi:i<l.length):pF G 34 [] l i (uI aX bE rdP l ex i) qY:=by
 have hl:=hV.len;obtain ⟨j0,rfl⟩:∃j0,j0=i:=⟨_,rfl⟩;have p0:j0≤j0∧j0<l.length:=⟨d7m _,hi⟩;refine kF.a2W Tryz.func34 rfl Tryz.ntmps34 rfl (by simp) ?_
 intro Q Q0;unfold uI at Q0;refine SW.oW (SW.xk ?_);simp;refine SW.oW (SW.d2U ?_);refine SW.oW (SW.xk ?_);simp;cases s1:aI l j0 [108,101,116] with
 |true=>
  have Q1:=Q0.ifp s1;refine bG (ds:=[.str [108,101,116]]) (d:= .d (.bool true)) aD (aU l j0 [108,101,116] p0.2 (by omega) s1) (by simp) (by simp) ?_
  have p1:j0+1≤j0+1∧j0+1<l.length:=⟨d7m _,aF hV.fin p0.2 s1⟩;obtain ⟨j1,hj1⟩:∃j,j0+1=j:=⟨_,rfl⟩;rw [hj1] at Q1 p1 ⊢;simp;refine SW.a3c rfl ?_
  refine SW.xk ?_
  simp;refine cF b8v (c1F hV hex aex j1 (by omega) p1.2) (by simp) (by simp) (fun t j h=>?_) (fun n e h=>by first|exact Q1.bad n e _ h|(simp;exact Q1.bad n e _ h)|(simp;exact fun s=>Q1.bad n e s h));simp;exact Q1.ok t j _ _ h (.inr rfl) (by simp)
 |false=>
 have Q0:=Q0.xF (by rw [s1];decide);refine bG (ds:=[.str [108,101,116]]) (d:= .d (.bool false)) aD (aV l j0 [108,101,116] p0.2 (by omega) s1) (by simp) (by simp) ?_
 simp;refine SW.a6T rfl ?_
 refine SW.oW (SW.xk ?_);simp;cases s2:aI l j0 [105,102] with
 |true=>
  have Q1:=Q0.ifp s2;refine bG (ds:=[.str [105,102]]) (d:= .d (.bool true)) aD (aU l j0 [105,102] p0.2 (by omega) s2) (by simp) (by simp) ?_
  have p1:j0+1≤j0+1∧j0+1<l.length:=⟨d7m _,aF hV.fin p0.2 s2⟩;obtain ⟨j1,hj1⟩:∃j,j0+1=j:=⟨_,rfl⟩;rw [hj1] at Q1 p1 ⊢;simp;refine SW.a3c rfl ?_
  refine SW.xk ?_
  simp;refine cF bZ ((hex j1 (by omega) p1.2)) (by simp) (by simp) (fun a j2 x2=>?_) (fun n e hx=>by first|exact Q1.fail hx _|(simp;exact Q1.fail hx _)|(simp;exact fun s=>Q1.fail hx s));have Q2:=Q1.step x2;have p2:=aex 0 j1 a j2 p1.2 x2;simp;refine cF (ds:=[.sl (strs [[116,104,101,110]])]) aE (aG l [[116,104,101,110]] j2 p2.2 (by omega) hV.fin (by simp)) (by simp [strs]) (by simp) (fun u3 j3 x3=>?_) (fun n e hx=>by first|exact Q2.fail hx _|(simp;exact Q2.fail hx _)|(simp;exact fun s=>Q2.fail hx s));have Q3:=Q2.step x3;have p3:=aA.exp hV.fin _ _ j2 u3 j3 p2.2 x3;simp;refine cF bZ ((hex j3 (by omega) p3.2)) (by simp) (by simp) (fun b j4 x4=>?_) (fun n e hx=>by first|exact Q3.fail hx _|(simp;exact Q3.fail hx _)|(simp;exact fun s=>Q3.fail hx s));have Q4:=Q3.step x4;have p4:=aex 0 j3 b j4 p3.2 x4;simp;refine cF (ds:=[.sl (strs [[101,108,115,101]])]) aE (aG l [[101,108,115,101]] j4 p4.2 (by omega) hV.fin (by simp)) (by simp [strs]) (by simp) (fun u5 j5 x5=>?_) (fun n e hx=>by first|exact Q4.fail hx _|(simp;exact Q4.fail hx _)|(simp;exact fun s=>Q4.fail hx s));have Q5:=Q4.step x5;have p5:=aA.exp hV.fin _ _ j4 u5 j5 p4.2 x5;simp;refine kO 3 [2] (.op 0 (.op 1 (.call [4,5,6] .none) (.call [1,4,5,6] .none)) (.op 1 (.op 0 (.call [4,5,6] .none) (.call [0,4,5,6] .none)) (.call [0,1,4,5,6] .none))) (gK (ex 0 j5)) (by kernel_rfl) (by kernel_rfl) ?_
  simp
  repeat' apply And.intro
  all_goals
   refine sO bZ ((hex j5 (by omega) p5.2)) (by simp) (by simp) (fun c j6 x6=>?_) (fun n e hx=>by first|exact Q5.fail hx _|(simp;exact Q5.fail hx _)|(simp;exact fun s=>Q5.fail hx s));have Q6:=Q5.step x6;have p6:=aex 0 j5 c j6 p5.2 x6;refine dA.mk ?_
   simp;refine aH.mk cD (c1D 8 a b c) ?_
   simp;exact Q6.ok _ j6 _ _ rfl (.inr rfl) (by simp)
 |false=>
 have Q0:=Q0.xF (by rw [s2];decide);refine bG (ds:=[.str [105,102]]) (d:= .d (.bool false)) aD (aV l j0 [105,102] p0.2 (by omega) s2) (by simp) (by simp) ?_
 simp;refine SW.a6T rfl ?_
 refine SW.oW (SW.xk ?_);simp;cases s3:aI l j0 [99,97,115,101] with
 |true=>
  have Q1:=Q0.ifp s3;refine bG (ds:=[.str [99,97,115,101]]) (d:= .d (.bool true)) aD (aU l j0 [99,97,115,101] p0.2 (by omega) s3) (by simp) (by simp) ?_
  have p1:j0+1≤j0+1∧j0+1<l.length:=⟨d7m _,aF hV.fin p0.2 s3⟩;obtain ⟨j1,hj1⟩:∃j,j0+1=j:=⟨_,rfl⟩;rw [hj1] at Q1 p1 ⊢;simp;refine SW.a3c rfl ?_
  refine SW.xk ?_
  simp;refine cF b3T (b6u hV hex aex j1 (by omega) p1.2) (by simp) (by simp) (fun t j h=>?_) (fun n e h=>by first|exact Q1.bad n e _ h|(simp;exact Q1.bad n e _ h)|(simp;exact fun s=>Q1.bad n e s h));simp;exact Q1.ok t j _ _ h (.inr rfl) (by simp)
 |false=>
 have Q0:=Q0.xF (by rw [s3];decide);refine bG (ds:=[.str [99,97,115,101]]) (d:= .d (.bool false)) aD (aV l j0 [99,97,115,101] p0.2 (by omega) s3) (by simp) (by simp) ?_
 simp;refine SW.a6T rfl ?_
 refine SW.oW (SW.xk ?_);simp;cases s4:aI l j0 [102,117,110] with
 |true=>
  have Q1:=Q0.ifp s4;refine bG (ds:=[.str [102,117,110]]) (d:= .d (.bool true)) aD (aU l j0 [102,117,110] p0.2 (by omega) s4) (by simp) (by simp) ?_
  have p1:j0+1≤j0+1∧j0+1<l.length:=⟨d7m _,aF hV.fin p0.2 s4⟩;obtain ⟨j1,hj1⟩:∃j,j0+1=j:=⟨_,rfl⟩;rw [hj1] at Q1 p1 ⊢;simp;refine SW.a3c rfl ?_
  refine SW.xk ?_
  simp;refine cF b0X (b3V hV hex aex j1 (by omega) p1.2) (by simp) (by simp) (fun t j h=>?_) (fun n e h=>by first|exact Q1.bad n e _ h|(simp;exact Q1.bad n e _ h)|(simp;exact fun s=>Q1.bad n e s h));simp;exact Q1.ok t j _ _ h (.inr rfl) (by simp)
 |false=>
 have Q0:=Q0.xF (by rw [s4];decide);refine bG (ds:=[.str [102,117,110]]) (d:= .d (.bool false)) aD (aV l j0 [102,117,110] p0.2 (by omega) s4) (by simp) (by simp) ?_
 simp;refine SW.a6T rfl ?_
 refine SW.oW (SW.xk ?_);simp;cases s5:aI l j0 [117,115,101] with
 |true=>
  have Q1:=Q0.ifp s5;refine bG (ds:=[.str [117,115,101]]) (d:= .d (.bool true)) aD (aU l j0 [117,115,101] p0.2 (by omega) s5) (by simp) (by simp) ?_
  have p1:j0+1≤j0+1∧j0+1<l.length:=⟨d7m _,aF hV.fin p0.2 s5⟩;obtain ⟨j1,hj1⟩:∃j,j0+1=j:=⟨_,rfl⟩;rw [hj1] at Q1 p1 ⊢;simp;refine SW.a3c rfl ?_
  refine SW.oW (SW.lw ?_);refine LW.at 1 1 (gK (bL aX l j1)) rfl ⟨_,rfl⟩ ?_
  simp;refine sO (ds:=[]) cO (dI hV.kw l j1 p1.2 (by omega)) (by simp) (by simp) (fun nm j2 x2=>?_) (fun n e hx=>Q1.fail hx _);have Q2:=Q1.step x2;have p2:=aA.word hV.fin j1 nm j2 p1.2 x2;simp;refine LW.at 1 3 (gK (eR l ex j2)) rfl ⟨_,rfl⟩ ?_
  simp;refine d6e yD (a9z hV hex aex j2 (by omega) p2.2) (by simp) (by simp) (fun ks j3 x3=>?_) (fun n e hx=>Q2.fail hx _);have Q3:=Q2.step x3;have p3:=aA.gJ hV.fin aex j2 ks j3 p2.2 x3;have hks:=c1R hV aex j2 ks j3 p2.2 x3;simp [bB,aT,bC,rk,cL,cW,bN,gM,eX,eA];refine LW.d3q (s:=46) (j:=3) (by decide) (by decide+kernel) ?_
  refine ⟨_,_,_,_,_,by simp,rfl,rfl,rfl,rfl,rfl,⟨_,rfl⟩,?_,rfl,?_⟩
  ·intro o ho base R μ a w hr;obtain ⟨ao,n1,c1,hs1⟩:=c4B (hr.jA (x:= .tmp 46) rfl);have hs2:=(hr.jA (x:= .tmp 44) rfl).kX;exact ⟨_,c1Q ho hs2 hs1,by rw [hs1];rfl,by kernel_rfl⟩
  refine SW.xk ?_
  simp [addAlias];refine cF (ds:=[.sl (strs [[105,110]])]) aE (aG l [[105,110]] j3 p3.2 (by omega) hV.fin (by simp)) (by simp [strs]) (by simp) (fun u4 j4 x4=>?_) (fun n e hx=>by first|exact Q3.fail hx _|(simp;exact Q3.fail hx _)|(simp;exact fun s=>Q3.fail hx s));have Q4:=Q3.step x4;have p4:=aA.exp hV.fin _ _ j3 u4 j4 p3.2 x4;simp;refine jY [0,2] 3 [] (.op 1 (.call [4,5,6,7] .none) (.call [1,4,5,6,7] .none)) (gK (ex 0 j4)) (by kernel_rfl) (by kernel_rfl) ?_
  simp;refine ⟨?_,?_⟩
  all_goals
   refine sO bZ ((hex j4 (by omega) p4.2)) (by simp) (by simp) (fun b j5 x5=>?_) (fun n e hx=>by first|exact Q4.fail hx _|(simp;exact Q4.fail hx _)|(simp;exact fun s=>Q4.fail hx s));have Q5:=Q4.step x5;have p5:=aex 0 j4 b j5 p4.2 x5;refine dA.mk ?_
   simp;refine eL ⟨fun x _=>by rw [dG];rfl,by omega⟩ ?_
   simp;exact Q5.ok _ j5 _ _ rfl (.inr rfl) (by simp [dG])
 |false=>
 have Q0:=Q0.xF (by rw [s5];decide);refine bG (ds:=[.str [117,115,101]]) (d:= .d (.bool false)) aD (aV l j0 [117,115,101] p0.2 (by omega) s5) (by simp) (by simp) ?_
 simp;refine SW.a6T rfl ?_
 refine SW.xk ?_
 simp;refine SW.xk ?_
 simp;refine cF c1O (c4A hV hN hex h3 h7 aex j0 (by omega) p0.2) (by simp) (by simp) (fun t j h=>?_) (fun n e h=>by first|exact Q0.bad n e _ h|(simp;exact Q0.bad n e _ h)|(simp;exact fun s=>Q0.bad n e s h));simp;exact Q0.ok t j _ _ h (.inr rfl) (by simp)
end
theorem b2k:∀n,(∀i,i<l.length→l.length<n+i→pF G 34 [] l i (mL aX bE rdP l n 0 i) qY)∧(∀i,i<l.length→l.length<n+i→pF G 168 [] l i (mL aX bE rdP l n 3 i) qY)∧(∀i,i<l.length→l.length<n+i→pF G 247 [] l i (mL aX bE rdP l n 7 i) qY)
 |0=>⟨fun i hi h=>by omega,fun i hi h=>by omega,fun i hi h=>by omega⟩
 |n+1=>by
  obtain ⟨k0,k3,k7⟩:=b2k n;have aex:=aA.exF (kw:=aX) (andP:=bE) hV.fin hV.pJ.pred n;refine ⟨fun i hi h=>?_,fun i hi h=>?_,fun i hi h=>?_⟩
  ·exact b8D hV hN (ex:=mL aX bE rdP l n) (low:=i+1) (fun i' h1 h2=>k0 i' h2 (by omega)) (fun i' h1 h2=>k3 i' h2 (by omega)) (fun i' h1 h2=>k7 i' h2 (by omega)) aex i (d7m _) hi
  ·exact b2j hV hN (ex:=mL aX bE rdP l n) (low:=i+1) (fun i' h1 h2=>k0 i' h2 (by omega)) (fun i' h1 h2=>k3 i' h2 (by omega)) (fun i' h1 h2=>k7 i' h2 (by omega)) aex i (d7m _) hi
  ·exact a7f hV hN (ex:=mL aX bE rdP l n) (low:=i+1) (fun i' h1 h2=>k0 i' h2 (by omega)) (fun i' h1 h2=>k7 i' h2 (by omega)) aex i (d7m _) hi
theorem yF (i:Nat)(hi:i<l.length):pF G 34 [] l i (a1u aX bE rdP l i) qY:=(b2k hV hN _).1 i hi (by omega)
omit hN in
theorem a3S:aA l 1 (a1u aX bE rdP l):=aA.expr hV.fin hV.pJ.pred
end
end
section
open Go Go.VM
variable {G:GT}
theorem a1T:VM.Enters Tryz.prog 107:=VM.Enters.mk Tryz.func107 rfl
theorem a0u:VM.Enters Tryz.prog 58:=VM.Enters.mk Tryz.func58 rfl
abbrev a7u (d:kK):List D:= .str d.name:: .sl (strs d.params)::(rM d.body++ .int .i64 d.mode:: .bool d.typed::b3S d.sig)
theorem a5d (d:kK):b3g d=a7u d:=by
 rw [b3g,dG,c9e]
 rfl
abbrev a7v:kK:=⟨[],[],a0R,0,false,a7k⟩
abbrev d6f:Option kK→DV:=fun o=> .cM [.agg (a7u (o.getD a7v)),.bool o.isSome]
section
variable {rdP:List Tok→Nat→Nat→kY Pr} {l:List Tok} (hV:kQ G rdP l) (hN:∀i, -9223372036854775807≤(aJ l i).n∧(aJ l i).n≤9223372036854775807)
include hV
theorem a3T (mode:Int)(i:Nat)(hi:i<l.length):pF G 107 [.int .i64 mode] l i (a0f aX l mode i) (fun d=> .d (.agg (a7u d))):=by
 have hl:=hV.len;obtain ⟨j0,rfl⟩:∃j0,j0=i:=⟨_,rfl⟩;have p0:j0≤j0∧j0<l.length:=⟨d7m _,hi⟩;refine kF.cV Tryz.func107 rfl Tryz.ntmps107 rfl (by simp) ?_
 intro Q Q0;unfold a0f at Q0;simp;refine cF cO (dI hV.kw l j0 p0.2 (by omega)) (by simp) (by simp) (fun nm j1 x1=>?_) (fun n e hx=>by first|exact Q0.fail hx _|(simp;exact Q0.fail hx _)|(simp;exact fun s=>Q0.fail hx s));have Q1:=Q0.step x1;have p1:=aA.word hV.fin j0 nm j1 p0.2 x1;simp;have hb:=gZ (G:=G) l j1 [40] p1.2 (by omega);refine bG (ds:=[.str [40]]) eT hb (by simp) (by simp) ?_
 cases hs:aI l j1 [40] with
 |false=>have Q2:=Q1.step (a:=[]) (j:=j1) (by simp [hs]);simp;exact Q2.ok _ j1 _ _ rfl (.inr rfl) (by simp [a0R,a7k,oL,kS])
 |true=>
  simp;have ht1:=cI (G:=G) l j1 (j1+1) 1 (by omega) (by omega) (by intro e;subst e;simp at hi) (by omega);refine bG (ds:=[.int .i64 1]) bP ht1 (by simp) (by simp) ?_
  simp;refine kP.mk jQ (kM (aJ l (j1+1)) [41]) ?_
  cases hf:cU (aJ l (j1+1)) [41] with
  |true=>
   have Q2:=Q1.step (a:=[]) (j:=j1+2) (by simp [hs,hf]);have hw2:IntKind.i64.wrap ((j1:Int)+2)=((j1+2:Nat):Int):=by rw [wrap64 (by omega)];omega
   simp [hw2];exact Q2.ok _ (j1+2) _ _ rfl (.inr rfl) (by simp [a0R,a7k,oL,kS])
  |false=>
   have e1:(fun i=>if aI l i [40] then (if cU (aJ l (i+1)) [41] then .ok [] (i+2) else cZ aX l i) else .ok [] i:aS (List Nm)) j1=cZ aX l j1:=by simp [hs,hf]
   simp;refine cF a0o (a1J hV j1 p1.2) (by simp) (by simp) (fun ns j3 x3=>?_) (fun n e hx=>by first|exact Q1.fail (e1.trans hx) _|(simp;exact Q1.fail (e1.trans hx) _)|(simp;exact fun s=>Q1.fail (e1.trans hx) s));have Q3:=Q1.step (e1.trans x3);have p3:=aA.words hV.fin j1 ns j3 p1.2 x3;simp;exact Q3.ok _ j3 _ _ rfl (.inr rfl) (by simp [a0R,a7k,oL,kS])
theorem a5W:aA l 1 (a0K aX bE rdP l):=aA.sig hV.fin hV.pJ
include hN
theorem a2y (i:Nat)(hi:i<l.length):pF G 58 [] l i (wV aX bE rdP l i) d6f:=by
 have hl:=hV.len;obtain ⟨j0,rfl⟩:∃j0,j0=i:=⟨_,rfl⟩;have p0:j0≤j0∧j0<l.length:=⟨d7m _,hi⟩;refine kF.cV Tryz.func58 rfl Tryz.ntmps58 rfl (by simp) ?_
 intro Q Q0;unfold wV at Q0;simp;cases s1:aI l j0 [100,101,102] with
 |true=>
  have Q1:=Q0.ifp s1;refine bG (ds:=[.str [100,101,102]]) (d:= .d (.bool true)) aD (aU l j0 [100,101,102] p0.2 (by omega) s1) (by simp) (by simp) ?_
  have p1:j0+1≤j0+1∧j0+1<l.length:=⟨d7m _,aF hV.fin p0.2 s1⟩;obtain ⟨j1,hj1⟩:∃j,j0+1=j:=⟨_,rfl⟩;rw [hj1] at Q1 p1 ⊢;simp;refine cF a1T ((a3T hV 0 j1 p1.2)) (by simp) (by simp) (fun d j2 x2=>?_) (fun n e hx=>by first|exact Q1.fail hx _|(simp;exact Q1.fail hx _)|(simp;exact fun s=>Q1.fail hx s));have Q2:=Q1.step x2;have p2:=(aA.head hV.fin 0) j1 d j2 p1.2 x2;simp;cases s2:aI l j2 [58] with
  |false=>
   have Q3:=Q2.step (hU s2);rw [if_neg (by decide)] at Q3;refine bG (ds:=[.str [58]]) (d:= .d (.bool false)) aD (aV l j2 [58] p2.2 (by omega) s2) (by simp) (by simp) ?_
   simp;have Q2:=Q3.step (gA _ _);unfold a0g at Q2;refine cF (ds:=[.sl (strs [[61]])]) aE (aG l [[61]] j2 p2.2 (by omega) hV.fin (by simp)) (by simp [strs]) (by simp) (fun u8 j8 x8=>?_) (fun n e hx=>by first|exact Q2.fail hx _|(simp;exact Q2.fail hx _)|(simp;exact fun s=>Q2.fail hx s));have Q8:=Q2.step x8;have p8:=aA.exp hV.fin _ _ j2 u8 j8 p2.2 x8;simp;refine cF bZ ((yF hV hN j8 p8.2)) (by simp) (by simp) (fun e j9 x9=>?_) (fun n e hx=>by first|exact Q8.fail hx _|(simp;exact Q8.fail hx _)|(simp;exact fun s=>Q8.fail hx s));have Q9:=Q8.step x9;have p9:=a3S hV j8 e j9 p8.2 x9;simp;exact Q9.ok _ j9 _ _ rfl (.inr rfl) (by simp)
  |true=>
   have Q3:=Q2.step (hM s2);rw [if_pos rfl] at Q3;refine bG (ds:=[.str [58]]) (d:= .d (.bool true)) aD (aU l j2 [58] p2.2 (by omega) s2) (by simp) (by simp) ?_
   have p3:j2+1≤j2+1∧j2+1<l.length:=⟨d7m _,aF hV.fin p2.2 s2⟩;obtain ⟨j3,hj3⟩:∃j,j2+1=j:=⟨_,rfl⟩;rw [hj3] at Q3 p3 ⊢;simp;have Q3:=Q3.assoc;refine cF a3Q ((a5V hV j3 p3.2)) (by simp) (by simp) (fun s j4 x4=>?_) (fun n e hx=>by first|exact Q3.fail hx _|(simp;exact Q3.fail hx _)|(simp;exact fun s=>Q3.fail hx s));have Q4:=Q3.step x4;have p4:=a5W hV j3 s j4 p3.2 x4;simp;have Q4:=Q4.step (gA _ _);unfold a0g at Q4;refine cF (ds:=[.sl (strs [[61]])]) aE (aG l [[61]] j4 p4.2 (by omega) hV.fin (by simp)) (by simp [strs]) (by simp) (fun u8 j8 x8=>?_) (fun n e hx=>by first|exact Q4.fail hx _|(simp;exact Q4.fail hx _)|(simp;exact fun s=>Q4.fail hx s));have Q8:=Q4.step x8;have p8:=aA.exp hV.fin _ _ j4 u8 j8 p4.2 x8;simp;refine cF bZ ((yF hV hN j8 p8.2)) (by simp) (by simp) (fun e j9 x9=>?_) (fun n e hx=>by first|exact Q8.fail hx _|(simp;exact Q8.fail hx _)|(simp;exact fun s=>Q8.fail hx s));have Q9:=Q8.step x9;have p9:=a3S hV j8 e j9 p8.2 x9;simp;exact Q9.ok _ j9 _ _ rfl (.inr rfl) (by simp)
 |false=>
 have Q0:=Q0.xF (by rw [s1];decide);refine bG (ds:=[.str [100,101,102]]) (d:= .d (.bool false)) aD (aV l j0 [100,101,102] p0.2 (by omega) s1) (by simp) (by simp) ?_
 simp;cases s2:aI l j0 [97,115,115,117,109,101] with
 |true=>
  have Q1:=Q0.ifp s2;refine bG (ds:=[.str [97,115,115,117,109,101]]) (d:= .d (.bool true)) aD (aU l j0 [97,115,115,117,109,101] p0.2 (by omega) s2) (by simp) (by simp) ?_
  have p1:j0+1≤j0+1∧j0+1<l.length:=⟨d7m _,aF hV.fin p0.2 s2⟩;obtain ⟨j1,hj1⟩:∃j,j0+1=j:=⟨_,rfl⟩;rw [hj1] at Q1 p1 ⊢;simp;refine cF a1T ((a3T hV 1 j1 p1.2)) (by simp) (by simp) (fun d j2 x2=>?_) (fun n e hx=>by first|exact Q1.fail hx _|(simp;exact Q1.fail hx _)|(simp;exact fun s=>Q1.fail hx s));have Q2:=Q1.step x2;have p2:=(aA.head hV.fin 1) j1 d j2 p1.2 x2;simp;refine cF (ds:=[.sl (strs [[58]])]) aE (aG l [[58]] j2 p2.2 (by omega) hV.fin (by simp)) (by simp [strs]) (by simp) (fun u3 j3 x3=>?_) (fun n e hx=>by first|exact Q2.fail hx _|(simp;exact Q2.fail hx _)|(simp;exact fun s=>Q2.fail hx s));have Q3:=Q2.step x3;have p3:=aA.exp hV.fin _ _ j2 u3 j3 p2.2 x3;simp;refine cF a3Q ((a5V hV j3 p3.2)) (by simp) (by simp) (fun s j4 x4=>?_) (fun n e hx=>by first|exact Q3.fail hx _|(simp;exact Q3.fail hx _)|(simp;exact fun s=>Q3.fail hx s));have Q4:=Q3.step x4;have p4:=a5W hV j3 s j4 p3.2 x4;simp;exact Q4.ok _ j4 _ _ rfl (.inr rfl) (by simp)
 |false=>
 have Q0:=Q0.xF (by rw [s2];decide);refine bG (ds:=[.str [97,115,115,117,109,101]]) (d:= .d (.bool false)) aD (aV l j0 [97,115,115,117,109,101] p0.2 (by omega) s2) (by simp) (by simp) ?_
 simp;cases s3:aI l j0 [114,101,102,108,101,99,116] with
 |true=>
  have Q1:=Q0.ifp s3;refine bG (ds:=[.str [114,101,102,108,101,99,116]]) (d:= .d (.bool true)) aD (aU l j0 [114,101,102,108,101,99,116] p0.2 (by omega) s3) (by simp) (by simp) ?_
  have p1:j0+1≤j0+1∧j0+1<l.length:=⟨d7m _,aF hV.fin p0.2 s3⟩;obtain ⟨j1,hj1⟩:∃j,j0+1=j:=⟨_,rfl⟩;rw [hj1] at Q1 p1 ⊢;simp;refine cF a1T ((a3T hV 2 j1 p1.2)) (by simp) (by simp) (fun d j2 x2=>?_) (fun n e hx=>by first|exact Q1.fail hx _|(simp;exact Q1.fail hx _)|(simp;exact fun s=>Q1.fail hx s));have Q2:=Q1.step x2;have p2:=(aA.head hV.fin 2) j1 d j2 p1.2 x2;simp;refine cF (ds:=[.sl (strs [[58]])]) aE (aG l [[58]] j2 p2.2 (by omega) hV.fin (by simp)) (by simp [strs]) (by simp) (fun u3 j3 x3=>?_) (fun n e hx=>by first|exact Q2.fail hx _|(simp;exact Q2.fail hx _)|(simp;exact fun s=>Q2.fail hx s));have Q3:=Q2.step x3;have p3:=aA.exp hV.fin _ _ j2 u3 j3 p2.2 x3;simp;refine cF a3Q ((a5V hV j3 p3.2)) (by simp) (by simp) (fun s j4 x4=>?_) (fun n e hx=>by first|exact Q3.fail hx _|(simp;exact Q3.fail hx _)|(simp;exact fun s=>Q3.fail hx s));have Q4:=Q3.step x4;have p4:=a5W hV j3 s j4 p3.2 x4;simp;unfold a0g at Q4;refine cF (ds:=[.sl (strs [[61]])]) aE (aG l [[61]] j4 p4.2 (by omega) hV.fin (by simp)) (by simp [strs]) (by simp) (fun u8 j8 x8=>?_) (fun n e hx=>by first|exact Q4.fail hx _|(simp;exact Q4.fail hx _)|(simp;exact fun s=>Q4.fail hx s));have Q8:=Q4.step x8;have p8:=aA.exp hV.fin _ _ j4 u8 j8 p4.2 x8;simp;refine cF bZ ((yF hV hN j8 p8.2)) (by simp) (by simp) (fun e j9 x9=>?_) (fun n e hx=>by first|exact Q8.fail hx _|(simp;exact Q8.fail hx _)|(simp;exact fun s=>Q8.fail hx s));have Q9:=Q8.step x9;have p9:=a3S hV j8 e j9 p8.2 x9;simp;exact Q9.ok _ j9 _ _ rfl (.inr rfl) (by simp)
 |false=>
 have Q0:=Q0.xF (by rw [s3];decide);refine bG (ds:=[.str [114,101,102,108,101,99,116]]) (d:= .d (.bool false)) aD (aV l j0 [114,101,102,108,101,99,116] p0.2 (by omega) s3) (by simp) (by simp) ?_
 simp;exact Q0.ok _ j0 _ _ rfl (.inr rfl) (by simp [a0R,a7k,oL,kS])
end
end
end Go.Proofs.YtjpodcmhcenjjaaGreatDoor
section
namespace Go.VM
open Go Go.RowKit
section
variable {P:Program} {G:GT} {st:St} {base:cS} {R:Nat→Nat→Prop} {μ:Nat→Nat} {a:Act} {w:World}
def a5e (P:Program)(G:GT)(f:FuncId)(d6U:List DV)(ls:List (Option Loc))(dst:Option Tmp)(st:St)(K:St→Prop)(Q:Exit→St→Prop):Prop:=∃x0,sR P G f d6U ls dst st K Q x0
theorem a5e.mk {f:FuncId}{d6U:List DV}{ls:List (Option Loc)}{dst:Option Tmp}{K:St→Prop}{Q:Exit→St→Prop}{x0:Bool}(h:sR P G f d6U ls dst st K Q x0):a5e P G f d6U ls dst st K Q:=⟨x0,h⟩
def a1U (P:Program)(G:GT)(all:Array Oper)(o:Oper)(st:St)(K:St→Prop)(Q:Exit→St→Prop):Prop:=
 match dU o all st.tmps with
 |some true=>
  match gG G o st with
  |some (f,ds)=>(∃r own,(Enters P f∧CS P G f ds r own)∧K (finish st o.dst r (a1f own)))∨∃s',(Enters P f∧kR P G f (ds.map .d) (jD o) st o.dst s')∧K s'
  |none=>
   match cX G o st with
   |some (f,d6U)=>a5e P G f d6U (jD o) o.dst st K Q
   |none=>
    match jJ P G o st with
    |some out=>K (finish out.st o.dst out.v (a4l false all o out.v out.act))
    |none=>False
 |some false=>K (finish st o.dst (.cM []) .no)
 |none=>False
theorem b6x {all:Array Oper}{o:Oper}{K:St→Prop}{Q:Exit→St→Prop}(h:a1U P G all o st K Q)(hr:Rel P G base R μ st a w){KK:Act→World→Prop}{QQ:Exit→Act→World→Prop}(hk:∀s v w' R' μ',K s→Rel P G base R' μ' s (a.put o.dst v) w'→Step base R w R' w'→KK (a.put o.dst v) w')(hq:∀c s w' R' μ',Q (.panic c) s→Rel P G base R' μ' s a w'→Step base R w R' w'→QQ (.panic c) a w'):if Region.wanted o (yielded all a.tmps) then o.wp P a w KK QQ∨(o.asks P a w∧LetsOut QQ) else KK (a.put o.dst Go.undef) w:=by
 have go:kH P G false all o K st→if Region.wanted o (yielded all a.tmps) then o.wp P a w KK QQ∨(o.asks P a w∧LetsOut QQ) else KK (a.put o.dst Go.undef) w:=fun h1=>pC h1 hr hk
 unfold a1U at h;split at h
 ·rename_i hw;split at h
  ·rename_i f ds hc;refine go ?_
   unfold kH;rw [hw,hc];rcases h with ⟨r,own,h1,h2⟩|⟨s',h1,h2⟩
   ·exact .inl ⟨r,own,h1,fun e=>Bool.noConfusion e,by simpa using h2⟩
   ·exact .inr ⟨by simp [pB],s',h1,h2⟩
  ·rename_i hc;split at h
   ·rename_i f d6U hH;obtain ⟨x0,h0⟩:=h;unfold sR at h0;obtain ⟨he,h1,h2⟩:=h0;cases x0 with
    |true=>
     obtain ⟨s',h3,h4⟩:=h1 rfl;refine go ?_
     unfold kH;rw [hw,hc,hH];simp only [pB,Bool.false_and,xL,Bool.false_eq_true,if_false];exact ⟨s',⟨he,h3⟩,h4⟩
    |false=>obtain ⟨v,h3,h4⟩:=h2 rfl;rw [zA hr hw,if_pos rfl];exact .inl (a3I hH ⟨he,h3⟩ hr fun R' w' hs hb=>hq _ _ w' R' μ h4 (hr.a4M hs hb) hs)
   ·rename_i hH;split at h
    ·rename_i out hv;refine go ?_
     unfold kH;rw [hw,hc,hH,hv];exact h
    ·exact h.elim
 ·rename_i hw;refine go ?_
  unfold kH;rw [hw];exact h
 ·exact h.elim
inductive OT where
 |stop
 |none
 |op (i:Nat) (next more:OT)
def a5f (j:Nat):OT→Bool
 | .op i _ more=>i==j||a5f j more
 |_=>false
def okT (ops:Array Oper)(T:OT)(listed:Array Bool):Bool:=match T with
 | .stop=>Region.ready .any ops listed==[]
 |T=> !(Region.ready .any ops listed).isEmpty&&(Region.ready .any ops listed).all fun j=>a5f j T
def yG (ops:Array Oper):OT→Nat→Array Bool→Bool
 | .stop,_,_=>true
 | .none,_,_=>true
 | .op _ _ _,0,_=>false
 | .op i next more,n+1,listed=>okT ops next (listed.setIfInBounds i true)&&yG ops next n (listed.setIfInBounds i true)&&yG ops more (n+1) listed
def VT (P:Program)(G:GT)(ops:Array Oper)(Q:Exit→St→Prop):OT→St→Prop
 | .stop,st=>Q .normal st
 | .none,_=>True
 | .op i next more,st=>(match ops[i]? with
  |some o=>a1U P G ops o st (VT P G ops Q next) Q
  |none=>False)∧VT P G ops Q more st
theorem c4C {ops:Array Oper}{Q:Exit→St→Prop}{i n:Nat}{listed:Array Bool}:∀(T:OT),yG ops T (n+1) listed=true→a5f i T=true→VT P G ops Q T st→∃next,okT ops next (listed.setIfInBounds i true)=true∧yG ops next n (listed.setIfInBounds i true)=true∧∃o,ops[i]? =some o∧a1U P G ops o st (VT P G ops Q next) Q
 | .stop,_,h,_=>by simp [a5f] at h
 | .none,_,h,_=>by simp [a5f] at h
 | .op j next more,ht,ha,hv=>by
  simp only [yG,d6W] at ht;simp only [a5f,d7i,beq_iff_eq] at ha;simp only [VT] at hv;rcases ha with rfl|ha
  ·refine ⟨next,ht.1.1,ht.1.2,?_⟩;have:=hv.1;split at this
   ·rename_i o ho;exact ⟨o,ho,this⟩
   ·exact this.elim
  ·exact c4C more ht.2 ha hv.2
theorem d1f {ops:Array Oper}{Q:Exit→St→Prop}:∀(n:Nat) (T:OT) (listed:Array Bool) (st:St),okT ops T listed=true→yG ops T n listed=true→VT P G ops Q T st→∀(base:cS) (R:Nat→Nat→Prop) (μ:Nat→Nat) (a:Act) (w:World),Rel P G base R μ st a w→
  ∀QQ:Exit→Act→World→Prop,(∀e s a' w' R' μ',Q e s→Rel P G base R' μ' s a' w'→Step base R w R' w'→QQ e a' w')→wpAny P .any ops QQ n listed a w
 |0,T,listed,st,ho,ht,hv,base,R,μ,a,w,hr,QQ,hk=>by
  cases T with
  |stop=>exact ⟨by simpa [okT] using ho,hk _ st a w R μ hv hr (.refl _ _ _)⟩
  |none=>simp only [okT,d6W,Bool.not_eq_true',List.isEmpty_eq_false_iff,d6Z] at ho;obtain ⟨h1,h2⟩:=ho;obtain ⟨x,hx⟩:=List.exists_mem_of_ne_nil _ h1;have:=h2 x hx;simp [a5f] at this
  |op i next more=>simp [yG] at ht
 |n+1,T,listed,st,ho,ht,hv,base,R,μ,a,w,hr,QQ,hk=>by
  cases T with
  |stop=>
   have hrd:Region.ready .any ops listed=[]:=by simpa [okT] using ho
   refine ⟨fun _=>hk _ st a w R μ hv hr (.refl _ _ _),fun i hi=>?_⟩;rw [hrd] at hi;cases hi
  |none=>simp only [okT,d6W,Bool.not_eq_true',List.isEmpty_eq_false_iff,d6Z] at ho;obtain ⟨h1,h2⟩:=ho;obtain ⟨x,hx⟩:=List.exists_mem_of_ne_nil _ h1;have:=h2 x hx;simp [a5f] at this
  |op i0 next0 more0=>simp only [okT,d6W,Bool.not_eq_true',List.isEmpty_eq_false_iff,d6Z] at ho;refine ⟨fun h=>(ho.1 h).elim,fun i hi=>?_⟩;obtain ⟨next,q1,q2,o,q3,q4⟩:=c4C _ ht (ho.2 i hi) hv;unfold wpOp;rw [q3];exact b6x q4 hr (fun s v w' R' μ' p1 p2 p3=>d1f n next _ s q1 q2 p1 base R' μ' _ w' p2 QQ fun e s a' w2 R2 μ2 k1 k2 k3=>hk e s a' w2 R2 μ2 k1 k2 (p3.trans k3)) fun c s w' R' μ' p1 p2 p3=>hk _ s a w' R' μ' p1 p2 p3
theorem b2l {id:Nat}{ops:Array Oper}{Q:Exit→St→Prop}(T:OT)(hm:P.follows .mixedOrders=true)(hB:(okT ops T (Array.replicate ops.size false)&&yG ops T ops.size (Array.replicate ops.size false))=true)(h:VT P G ops Q T st):SW P G (.region id ops true) st Q:=by rw [d6W] at hB;intro base R μ a w hr;obtain ⟨hr',hs'⟩:=hr.drew;exact wp_region_any hm (d1f ops.size T _ st hB.1 hB.2 h base R μ a w.drew hr' _ fun e s a' w' R' μ' q1 q2 q3=>⟨s,R',μ',q1,q2,hs'.trans q3⟩)
attribute [simp] VT a1U
end
attribute [irreducible] a5e
end Go.VM
end
namespace Go.Proofs.YtjpodcmhcenjjaaGreatDoor
section
open Go Go.VM
variable {G:GT}
theorem b3X:VM.Enters Tryz.prog 80:=VM.Enters.mk Tryz.func80 rfl
theorem a9P:VM.Enters Tryz.prog 135:=VM.Enters.mk Tryz.func135 rfl
theorem a7w:VM.Enters Tryz.prog 81:=VM.Enters.mk Tryz.func81 rfl
abbrev d1g (x:a8E):List D:= .str x.cls::(tyD x.type++[.sl (x.wU.map kU),.sl (x.defs.map b3g)])
theorem c4D (x:a8E):b9D x=d1g x:=by
 rw [b9D,cP]
 rfl
section
variable {rdP:List Tok→Nat→Nat→kY Pr} {l:List Tok} (hV:kQ G rdP l) (hN:∀i, -9223372036854775807≤(aJ l i).n∧(aJ l i).n≤9223372036854775807)
include hV
def clX (nm v:Nm)(out:List (Nm×Ty)):List (Nat×aY):=[(100001,.cells [.ptr 100000 0]),(100002,.cells [.d (.str nm),.d (.str v),.d (.sl (out.map a1z))])]
abbrev clO:List (TypeId×List VM.Loc):=[(148,[.c 100002 2])]
abbrev clM (rdP:List Tok→Nat→Nat→kY Pr)(l:List Tok)(out:List (Nm×Ty)):aS (List (Nm×Ty)):=do
 let w ← bL aX l
 aL l [[58]]
 let t ← cK aX bE rdP l
 pure (out++[(w,t)])
theorem c9k (nm v:Nm):wY l K3 [.ptr 100001 0,.ptr 100002 0] (clX nm v) clO:=by
 constructor
 all_goals intros
 all_goals first
  |rfl
  |simp [clX,aN,aW,aR,aQ,bA,getKey,aT,bC,cL,rk,cW,bN, *]
theorem b9V (out:List (Nm×Ty)):aA l 1 (clM rdP l out):=(aA.word hV.fin).bl fun _=>((aA.exp hV.fin _ _).le (by omega)).bl fun _=>((gR hV).le (by omega)).bl fun _=>aA.aO _
theorem c4E (a:List (Nm×Ty))(i:Nat)(b:List (Nm×Ty))(j:Nat)(hi:i<l.length)(h:a.length≤i)(hx:clM rdP l a i= .ok b j):b.length≤j:=by have h1:=b9V hV a i b j hi hx;obtain ⟨_,_,_,hx⟩:=bW hx;obtain ⟨_,_,_,hx⟩:=bW hx;obtain ⟨_,_,_,hx⟩:=bW hx;cases hx;simp;omega
theorem c1S (nm v:Nm)(out:List (Nm×Ty))(i:Nat)(hi:i<l.length)(hout:out.length≤i):kF G 135 [.ptr 100001 0,.ptr 100002 0] (clX nm v out) clO l i (clM rdP l out i) (fun _=> .cM []) (clX nm v):=by
 have hl:=hV.len;obtain ⟨j0,rfl⟩:∃j0,j0=i:=⟨_,rfl⟩;have p0:j0≤j0∧j0<l.length:=⟨d7m _,hi⟩;refine kF.cV Tryz.func135 rfl Tryz.ntmps135 rfl (by simp) ?_
 intro Q Q0;simp [clX];refine cF cO (dI hV.kw l j0 p0.2 (by omega)) (by simp) (by simp) (fun w j1 x1=>?_) (fun n e hx=>by first|exact Q0.fail hx _|(simp;exact Q0.fail hx _)|(simp;exact fun s=>Q0.fail hx s));have Q1:=Q0.step x1;have p1:=aA.word hV.fin j0 w j1 p0.2 x1;simp;refine cF (ds:=[.sl (strs [[58]])]) aE (aG l [[58]] j1 p1.2 (by omega) hV.fin (by simp)) (by simp [strs]) (by simp) (fun u2 j2 x2=>?_) (fun n e hx=>by first|exact Q1.fail hx _|(simp;exact Q1.fail hx _)|(simp;exact fun s=>Q1.fail hx s));have Q2:=Q1.step x2;have p2:=aA.exp hV.fin _ _ j1 u2 j2 p1.2 x2;simp;refine jY [0,2] 4 [3] (.op 1 (.call [5,6,7,8,9] .none) (.call [1,5,6,7,8,9] .none)) (gK (cK aX bE rdP l j2)) (by kernel_rfl) (by kernel_rfl) ?_
 simp;refine ⟨?_,?_⟩
 all_goals
  refine sO cN ((kN hV j2 p2.2)) (by simp) (by simp) (fun t j3 x3=>?_) (fun n e hx=>by first|exact Q2.fail hx _|(simp;exact Q2.fail hx _)|(simp;exact fun s=>Q2.fail hx s));have Q3:=Q2.step x3;have p3:=gR hV j2 t j3 p2.2 x3;refine dA.mk ?_
  simp;refine eL ⟨rfl,d6Z.2 fun c hc=>?_,?_⟩ ?_
  ·obtain ⟨y,_,rfl⟩:=List.mem_map.1 hc;rw [a0t]
   rfl
  ·have hb:Tryz.prog.bytesOf 148≤1000:=by decide
   rw [List.length_map]
   calc (out.length+1)*(Tryz.prog.bytesOf 148+1)≤50001*1001:=Nat.mul_le_mul (by omega) (by omega)
    _≤140737488355328:=by decide
  simp;exact Q3.ok _ j3 .normal _ rfl (.inl rfl) (by simp [clX,a0t])
def clT:OT:=(.op 0 (.op 1 (.op 2 (.op 3 (.op 4 (.op 5 (.op 6 .stop .none) .none) (.op 5 (.op 4 (.op 6 .stop .none) .none) .none)) (.op 5 (.op 3 (.op 4 (.op 6 .stop .none) .none) .none) .none)) (.op 5 (.op 2 (.op 3 (.op 4 (.op 6 .stop .none) .none) .none) .none) .none)) (.op 2 (.op 1 (.op 3 (.op 4 (.op 5 (.op 6 .stop .none) .none) (.op 5 (.op 4 (.op 6 .stop .none) .none) .none)) (.op 5 (.op 3 (.op 4 (.op 6 .stop .none) .none) .none) .none)) (.op 5 (.op 1 (.op 3 (.op 4 (.op 6 .stop .none) .none) .none) .none) .none)) (.op 5 (.op 1 (.op 2 (.op 3 (.op 4 (.op 6 .stop .none) .none) .none) .none) (.op 2 (.op 1 (.op 3 (.op 4 (.op 6 .stop .none) .none) .none) .none) .none)) .none))) (.op 2 (.op 0 (.op 1 (.op 3 (.op 4 (.op 5 (.op 6 .stop .none) .none) (.op 5 (.op 4 (.op 6 .stop .none) .none) .none)) (.op 5 (.op 3 (.op 4 (.op 6 .stop .none) .none) .none) .none)) (.op 5 (.op 1 (.op 3 (.op 4 (.op 6 .stop .none) .none) .none) .none) .none)) (.op 5 (.op 0 (.op 1 (.op 3 (.op 4 (.op 6 .stop .none) .none) .none) .none) .none) .none)) (.op 5 (.op 0 (.op 1 (.op 2 (.op 3 (.op 4 (.op 6 .stop .none) .none) .none) .none) (.op 2 (.op 1 (.op 3 (.op 4 (.op 6 .stop .none) .none) .none) .none) .none)) (.op 2 (.op 0 (.op 1 (.op 3 (.op 4 (.op 6 .stop .none) .none) .none) .none) .none) .none)) .none)))
abbrev d5i (l:List Tok):aS (Nm×Nm):=do
 let nm ← eQ l
 let v ← bL aX l
 pure (nm,v)
theorem b6z (i:Nat)(hi:i<l.length):pF G 80 [] l i (vP aX bE rdP l i) (fun x=> .d (.agg (b5K x))):=by
 have hl:=hV.len;obtain ⟨j0,rfl⟩:∃j0,j0=i:=⟨_,rfl⟩;have p0:j0≤j0∧j0<l.length:=⟨d7m _,hi⟩;refine kF.a2W Tryz.func80 rfl Tryz.ntmps80 rfl (by simp) ?_
 intro Q Q0;unfold vP at Q0;refine SW.oW (SW.xk ?_);simp;refine SW.b6s (d5i l j0) (fun x j=>⟨.ptr 100000 0:: .ptr 1 0:: .ptr 2 0:: .ptr 3 0::List.replicate 12 .undef,[(1,.cells [.ptr 100000 0]),(2,.cells [.d (.str []),.d (.str []),.d .aM]),(3,.cells [.d (.str x.1),.d (.str x.2),.d .aM]),(100000,rdO l j)],[]⟩) ?_ fun x j2 hx=>?_
 ·refine b2l clT (by kernel_rfl) (by kernel_rfl) ?_
  simp [clT]
  repeat' apply And.intro
  all_goals
   refine a5e.mk (sO (ds:=[]) gO (jG l j0 p0.2 (by omega)) (by simp) (by simp) (fun nm j1 x1=>?_) (fun n e hx=>Q0.fail hx _));have Q1:=Q0.step x1;have p1:=aA.title hV.fin j0 nm j1 p0.2 x1;simp
   repeat' apply And.intro
   all_goals
    refine a5e.mk (sO (ds:=[]) cO (dI hV.kw l j1 p1.2 (by omega)) (by simp) (by simp) (fun v j2 x2=>?_) (fun n e hx=>Q1.fail hx _));have hr:d5i l j0= .ok (nm,v) j2:=(bF x1).trans ((bF x2).trans rfl);simp
    repeat' apply And.intro
    all_goals exact ⟨nm,v,j2,hr,by simp⟩
 obtain ⟨nm,v⟩:=x;obtain ⟨nm',j1,x1,hx⟩:=bW hx;obtain ⟨v',j2',x2,hx⟩:=bW hx;cases hx;have Q2:=(Q0.step x1).step x2;have p1:=aA.title hV.fin j0 nm j1 p0.2 x1;have p2:=aA.word (kw:=aX) hV.fin j1 v j2 p1.2 x2;refine SW.xk ?_
 simp [List.replicate];refine cF (ds:=[.sl (strs [[119,105,116,104]])]) aE (aG l [[119,105,116,104]] j2 p2.2 (by omega) hV.fin (by simp)) (by simp [strs]) (by simp) (fun u3 j3 x3=>?_) (fun n e hx=>by first|exact Q2.fail hx _|(simp;exact Q2.fail hx _)|(simp;exact fun s=>Q2.fail hx s));have Q3:=Q2.step x3;have p3:=aA.exp hV.fin _ _ j2 u3 j3 p2.2 x3;simp;have hone:=eO hV [44] (clM rdP l) (fun out i=>out.length≤i) 0 a9P (c9k hV nm v) (fun a=>(b9V hV a).le (by omega)) (fun a i rY hi h=>c1S hV nm v a i hi h) (c4E hV) (fun a i h=>by omega) [] j3 (by omega) p3.2 (by simp);refine gW.mk (vR dQ hone [(100000,100000),(100001,1),(100002,3)] (fun a j hx=>?_) ?_ ?_ ?_ rfl rfl (fun ms j4 x4=>?_) (fun n e hx2=>Q3.fail hx2 _))
 ·simp [clX,aN,aW,aR,aQ,bA,getKey]
 ·simp [clX,aN,aW,aR,aQ,bA,getKey]
 ·simp [aT,bC,rk]
 ·simp [clX,aT,bC,rk,cL,cW]
 ·have Q4:=Q3.step x4;simp [bB,clX,aT,bC,rk,cL,cW,bN,gM,eX,eA];exact Q4.ok _ j4 _ _ rfl (.inr rfl) (by simp [b5K])
include hN
abbrev b1c (rdP:List Tok→Nat→Nat→kY Pr)(l:List Tok)(out:List kK):aS (List kK):=do
 let d ← wV aX bE rdP l
 aL l [[59]]
 pure (out++[d.getD a7v])
omit hN in
theorem a2z:aA l 0 (wV aX bE rdP l):=aA.b8a hV.fin hV.pJ
theorem a9Q (i:Nat)(hi:i<l.length):pF G 81 [] l i (a1v aX bE rdP l i) (fun x=> .d (.agg (d1g x))):=by
 have hl:=hV.len;obtain ⟨j0,rfl⟩:∃j0,j0=i:=⟨_,rfl⟩;have p0:j0≤j0∧j0<l.length:=⟨d7m _,hi⟩;refine kF.cV Tryz.func81 rfl Tryz.ntmps81 rfl (by simp) ?_
 intro Q Q0;unfold a1v at Q0;simp;refine cF gO (jG l j0 p0.2 (by omega)) (by simp) (by simp) (fun c j1 x1=>?_) (fun n e hx=>by first|exact Q0.fail hx _|(simp;exact Q0.fail hx _)|(simp;exact fun s=>Q0.fail hx s));have Q1:=Q0.step x1;have p1:=aA.title hV.fin j0 c j1 p0.2 x1;simp;refine cF a4Y ((b3M hV j1 p1.2)) (by simp) (by simp) (fun t j2 x2=>?_) (fun n e hx=>by first|exact Q1.fail hx _|(simp;exact Q1.fail hx _)|(simp;exact fun s=>Q1.fail hx s));have Q2:=Q1.step x2;have p2:=(aA.tF hV.fin ((gR hV).le (by omega)) hV.pJ.pred) j1 t j2 p1.2 x2;simp;cases hs:aI l j2 [119,104,101,114,101] with
 |false=>
  have Q3:=Q2.step (hU hs);rw [if_neg (by decide)] at Q3;have Q2:=Q3.step (gA _ _);refine bG (ds:=[.str [119,104,101,114,101]]) (d:= .d (.bool false)) aD (aV l j2 [119,104,101,114,101] p2.2 (by omega) hs) (by simp) (by simp) ?_
  simp;refine cF (ds:=[.sl (strs [[123]])]) aE (aG l [[123]] j2 p2.2 (by omega) hV.fin (by simp)) (by simp [strs]) (by simp) (fun u5 j5 x5=>?_) (fun n e hx=>by first|exact Q2.fail hx _|(simp;exact Q2.fail hx _)|(simp;exact fun s=>Q2.fail hx s));have Q5:=Q2.step x5;have p5:=aA.exp hV.fin _ _ j2 u5 j5 p2.2 x5;simp;refine SW.vG (ι:={ x:List kK×Nat×Nat // j5≤x.2.1∧x.2.1<l.length∧l.length<x.2.2+x.2.1∧x.1.length≤x.2.1∧dK (fun i=>aI l i [100,101,102]) (b1c rdP l) x.2.2 x.1 x.2.1=oT l (fun i=>aI l i [100,101,102]) (b1c rdP l) [] j5 }) (fun _=>[]) (fun x=>[(2,.cells (.d (.str [])::((tyD oL).map .d++[.d .aM,.d .aM]))),(3,.cells (.d (.str c)::((tyD t).map .d++[.d (.sl (List.map kU [])),.d (.sl (x.1.1.map b3g))]))),(100000,rdO l x.1.2.1)]) (fun _=>[(70,[.c 3 11])]) (fun x=>l.length-x.1.2.1) ⟨([],j5,l.length+2),d7m _,p5.2,by simp only;omega,by simp,rfl⟩ (by simp [oL,kS]) ?_
  rintro ⟨⟨out,j6,g⟩,hb,hj6,hg,ho,hp⟩;simp only at hb hj6 hg ho hp;obtain ⟨g,rfl⟩:∃k,g=k+1:=⟨g-1,by omega⟩;have p6:j5≤j6∧j6<l.length:=⟨hb,hj6⟩;have hbb:=gZ (G:=G) l j6 [100,101,102] p6.2 (by omega);simp;refine bG (i:=j6) (ds:=[.str [100,101,102]]) eT hbb (by simp) (by simp) ?_
  cases hc:aI l j6 [100,101,102] with
  |true=>
   have E0:xA Q (dK (fun i=>aI l i [100,101,102]) (b1c rdP l) (g+1) out j6) (dK (fun i=>aI l i [100,101,102]) (b1c rdP l) (g+1) out j6):=⟨rfl,fun n e s h=>Q5.fail (hp.symm.trans h) s⟩;simp;refine cF (i:=j6) (ds:=[]) a0u (a2y hV hN j6 hj6) (by simp) (by simp) (fun d j7 x7=>?_) (fun n e hx=>by simp;exact Q5.fail (hp.symm.trans (oP hV hc (gT hx))) _);have p7:=a2z hV j6 d j7 hj6 x7;simp;refine cF (ds:=[.sl (strs [[59]])]) aE (aG l [[59]] j7 p7.2 (by omega) hV.fin (by simp)) (by simp [strs]) (by simp) (fun u j8 x8=>?_) (fun n e hx=>by simp;exact Q5.fail (hp.symm.trans (oP hV hc ((bF x7).trans (gT hx)))) _);have p8:=aA.exp hV.fin _ _ j7 u j8 p7.2 x8;have h1:b1c rdP l out j6= .ok (out++[d.getD a7v]) j8:=(bF x7).trans ((bF x8).trans rfl);rw [tJ hV hc h1] at hp;generalize d.getD a7v=D0 at hp ⊢;simp;refine qL (by first|omega|exact ⟨fun x _=>by rw [a5d];rfl,by omega⟩) ?_
   simp;exact bQ.mk ⟨(out++[D0],j8,g),by simp only;omega,p8.2,by simp only;omega,by simp;omega,hp⟩ (by simp [a5d]) (by simp;omega)
  |false=>rw [tK hV hc] at hp;have Q6:=Q5.step hp.symm;simp;refine cF (ds:=[.sl (strs [[125]])]) aE (aG l [[125]] j6 p6.2 (by omega) hV.fin (by simp)) (by simp [strs]) (by simp) (fun u7 j7 x7=>?_) (fun n e hx=>by first|exact Q6.fail hx _|(simp;exact Q6.fail hx _)|(simp;exact fun s=>Q6.fail hx s));have Q7:=Q6.step x7;have p7:=aA.exp hV.fin _ _ j6 u7 j7 p6.2 x7;simp;exact Q7.ok _ j7 _ _ rfl (.inr rfl) (by simp)
 |true=>
  have Q3:=Q2.step (hM hs);rw [if_pos rfl] at Q3;refine bG (ds:=[.str [119,104,101,114,101]]) (d:= .d (.bool true)) aD (aU l j2 [119,104,101,114,101] p2.2 (by omega) hs) (by simp) (by simp) ?_
  have p3:j2+1≤j2+1∧j2+1<l.length:=⟨d7m _,aF hV.fin p2.2 hs⟩;obtain ⟨j3,hj3⟩:∃j,j2+1=j:=⟨_,rfl⟩;rw [hj3] at Q3 p3 ⊢;simp;refine cF a5b ((a7d hV j3 p3.2)) (by simp) (by simp) (fun ns j4 x4=>?_) (fun n e hx=>by first|exact Q3.fail hx _|(simp;exact Q3.fail hx _)|(simp;exact fun s=>Q3.fail hx s));have Q4:=Q3.step x4;have p4:=(a1S hV) j3 ns j4 p3.2 x4;simp;refine cF (ds:=[.sl (strs [[123]])]) aE (aG l [[123]] j4 p4.2 (by omega) hV.fin (by simp)) (by simp [strs]) (by simp) (fun u5 j5 x5=>?_) (fun n e hx=>by first|exact Q4.fail hx _|(simp;exact Q4.fail hx _)|(simp;exact fun s=>Q4.fail hx s));have Q5:=Q4.step x5;have p5:=aA.exp hV.fin _ _ j4 u5 j5 p4.2 x5;simp;refine SW.vG (ι:={ x:List kK×Nat×Nat // j5≤x.2.1∧x.2.1<l.length∧l.length<x.2.2+x.2.1∧x.1.length≤x.2.1∧dK (fun i=>aI l i [100,101,102]) (b1c rdP l) x.2.2 x.1 x.2.1=oT l (fun i=>aI l i [100,101,102]) (b1c rdP l) [] j5 }) (fun _=>[]) (fun x=>[(2,.cells (.d (.str [])::((tyD oL).map .d++[.d .aM,.d .aM]))),(3,.cells (.d (.str c)::((tyD t).map .d++[.d (.sl (List.map kU ns)),.d (.sl (x.1.1.map b3g))]))),(100000,rdO l x.1.2.1)]) (fun _=>[(70,[.c 3 11])]) (fun x=>l.length-x.1.2.1) ⟨([],j5,l.length+2),d7m _,p5.2,by simp only;omega,by simp,rfl⟩ (by simp [oL,kS]) ?_
  rintro ⟨⟨out,j6,g⟩,hb,hj6,hg,ho,hp⟩;simp only at hb hj6 hg ho hp;obtain ⟨g,rfl⟩:∃k,g=k+1:=⟨g-1,by omega⟩;have p6:j5≤j6∧j6<l.length:=⟨hb,hj6⟩;have hbb:=gZ (G:=G) l j6 [100,101,102] p6.2 (by omega);simp;refine bG (i:=j6) (ds:=[.str [100,101,102]]) eT hbb (by simp) (by simp) ?_
  cases hc:aI l j6 [100,101,102] with
  |true=>
   have E0:xA Q (dK (fun i=>aI l i [100,101,102]) (b1c rdP l) (g+1) out j6) (dK (fun i=>aI l i [100,101,102]) (b1c rdP l) (g+1) out j6):=⟨rfl,fun n e s h=>Q5.fail (hp.symm.trans h) s⟩;simp;refine cF (i:=j6) (ds:=[]) a0u (a2y hV hN j6 hj6) (by simp) (by simp) (fun d j7 x7=>?_) (fun n e hx=>by simp;exact Q5.fail (hp.symm.trans (oP hV hc (gT hx))) _);have p7:=a2z hV j6 d j7 hj6 x7;simp;refine cF (ds:=[.sl (strs [[59]])]) aE (aG l [[59]] j7 p7.2 (by omega) hV.fin (by simp)) (by simp [strs]) (by simp) (fun u j8 x8=>?_) (fun n e hx=>by simp;exact Q5.fail (hp.symm.trans (oP hV hc ((bF x7).trans (gT hx)))) _);have p8:=aA.exp hV.fin _ _ j7 u j8 p7.2 x8;have h1:b1c rdP l out j6= .ok (out++[d.getD a7v]) j8:=(bF x7).trans ((bF x8).trans rfl);rw [tJ hV hc h1] at hp;generalize d.getD a7v=D0 at hp ⊢;simp;refine qL (by first|omega|exact ⟨fun x _=>by rw [a5d];rfl,by omega⟩) ?_
   simp;exact bQ.mk ⟨(out++[D0],j8,g),by simp only;omega,p8.2,by simp only;omega,by simp;omega,hp⟩ (by simp [a5d]) (by simp;omega)
  |false=>rw [tK hV hc] at hp;have Q6:=Q5.step hp.symm;simp;refine cF (ds:=[.sl (strs [[125]])]) aE (aG l [[125]] j6 p6.2 (by omega) hV.fin (by simp)) (by simp [strs]) (by simp) (fun u7 j7 x7=>?_) (fun n e hx=>by first|exact Q6.fail hx _|(simp;exact Q6.fail hx _)|(simp;exact fun s=>Q6.fail hx s));have Q7:=Q6.step x7;have p7:=aA.exp hV.fin _ _ j6 u7 j7 p6.2 x7;simp;exact Q7.ok _ j7 _ _ rfl (.inr rfl) (by simp)
end
end
section
open Go Go.VM
variable {G:GT}
theorem a9R:VM.Enters Tryz.prog 82:=VM.Enters.mk Tryz.func82 rfl
theorem a5X:VM.Enters Tryz.prog 138:=VM.Enters.mk Tryz.func138 rfl
theorem b6A:VM.Enters Tryz.prog 83:=VM.Enters.mk Tryz.func83 rfl
theorem a9S:VM.Enters Tryz.prog 66:=VM.Enters.mk Tryz.func66 rfl
abbrev a1V:=Nm×List Nm×Pr
abbrev d1h (c:a1V):List D:= .str c.1:: .sl (strs c.2.1)::qR c.2.2
abbrev d1i (x:a8F):List D:= .str x.name:: .str x.data:: .str x.result:: .sl (x.cases.map d1h)::prD x.inv
theorem c4F (x:a8F):b5L x=d1i x:=by
 rw [b5L,eY]
 rfl
abbrev d1j (q:a8G):List D:= .str q.name:: .sl (q.vars.map kU)::prD q.body
theorem c4G (q:a8G):b9E q=d1j q:=by
 rw [b9E,eY]
 rfl
section
variable {rdP:List Tok→Nat→Nat→kY Pr} {l:List Tok} (hV:kQ G rdP l)
include hV
def a9T (nm dn sn:Nm)(out:List a1V):List (Nat×aY):=[(100001,.cells [.ptr 100000 0]),(100002,.cells [.d (.str nm),.d (.str dn),.d (.str sn),.d (.sl (out.map d1h)),.d (.int .i64 0),.d (.str []),.d (.int .i64 0),.d (.sl [])])]
abbrev d5j:List (TypeId×List VM.Loc):=[(151,[.c 100002 3])]
abbrev c9l (rdP:List Tok→Nat→Nat→kY Pr)(l:List Tok)(out:List a1V):aS (List a1V):=do
 let c ← eQ l
 let ns ← (fun i=>if aI l i [40] then cZ aX l i else .ok [] i:aS (List Nm))
 aL l [[61]]
 let p ← dH rdP l
 pure (out++[(c,ns,p)])
theorem c4H (nm dn sn:Nm):wY l K3 [.ptr 100001 0,.ptr 100002 0] (a9T nm dn sn) d5j:=by
 constructor
 all_goals intros
 all_goals first
  |rfl
  |simp [a9T,aN,aW,aR,aQ,bA,getKey,aT,bC,cL,rk,cW,bN, *]
theorem a9U (out:List a1V):aA l 1 (c9l rdP l out):=by
 refine (aA.title hV.fin).bl fun _=>aA.bl (fun i b j hi h=>?_) fun _=>((aA.exp hV.fin _ _).le (by omega)).bl fun _=>hV.pJ.pred.bl fun _=>aA.aO _
 split at h
 ·exact ((aA.words hV.fin).le (by omega)) _ _ _ hi h
 ·cases h;omega
theorem c1T (a:List a1V)(i:Nat)(b:List a1V)(j:Nat)(hi:i<l.length)(h:a.length≤i)(hx:c9l rdP l a i= .ok b j):b.length≤j:=by have h1:=a9U hV a i b j hi hx;obtain ⟨_,_,_,hx⟩:=bW hx;obtain ⟨_,_,_,hx⟩:=bW hx;obtain ⟨_,_,_,hx⟩:=bW hx;obtain ⟨_,_,_,hx⟩:=bW hx;cases hx;simp;omega
theorem b8E (nm dn sn:Nm)(out:List a1V)(i:Nat)(hi:i<l.length)(hout:out.length≤i):kF G 138 [.ptr 100001 0,.ptr 100002 0] (a9T nm dn sn out) d5j l i (c9l rdP l out i) (fun _=> .cM []) (a9T nm dn sn):=by
 have hl:=hV.len;obtain ⟨j0,rfl⟩:∃j0,j0=i:=⟨_,rfl⟩;have p0:j0≤j0∧j0<l.length:=⟨d7m _,hi⟩;refine kF.cV Tryz.func138 rfl Tryz.ntmps138 rfl (by simp) ?_
 intro Q Q0;simp [a9T];refine cF gO (jG l j0 p0.2 (by omega)) (by simp) (by simp) (fun c j1 x1=>?_) (fun n e hx=>by first|exact Q0.fail hx _|(simp;exact Q0.fail hx _)|(simp;exact fun s=>Q0.fail hx s));have Q1:=Q0.step x1;have p1:=aA.title hV.fin j0 c j1 p0.2 x1;simp;have hb:=gZ (G:=G) l j1 [40] p1.2 (by omega);refine bG (ds:=[.str [40]]) eT hb (by simp) (by simp) ?_
 cases hs:aI l j1 [40] with
 |false=>
  have Q1:=Q1.step (a:=[]) (j:=j1) (by simp [hs]);simp;refine cF (ds:=[.sl (strs [[61]])]) aE (aG l [[61]] j1 p1.2 (by omega) hV.fin (by simp)) (by simp [strs]) (by simp) (fun u4 j4 x4=>?_) (fun n e hx=>by first|exact Q1.fail hx _|(simp;exact Q1.fail hx _)|(simp;exact fun s=>Q1.fail hx s));have Q4:=Q1.step x4;have p4:=aA.exp hV.fin _ _ j1 u4 j4 p1.2 x4;simp;refine cF mV (pV hV j4 p4.2) (by simp) (by simp) (fun p j5 x5=>?_) (fun n e hx=>by first|exact Q4.fail hx _|(simp;exact Q4.fail hx _)|(simp;exact fun s=>Q4.fail hx s));have Q5:=Q4.step x5;have p5:=hV.pJ.pred j4 p j5 p4.2 x5;simp;refine qL (by first|omega|exact ⟨fun x _=>by rw [eY];rfl,by omega⟩) ?_
  simp;exact Q5.ok _ j5 .normal _ rfl (.inl rfl) (by simp [a9T,eY,tH])
 |true=>
  have e1:(fun i=>if aI l i [40] then cZ aX l i else .ok [] i:aS (List Nm)) j1=cZ aX l j1:=by simp [hs]
  simp;refine cF a0o (a1J hV j1 p1.2) (by simp) (by simp) (fun ns j3 x3=>?_) (fun n e hx=>by first|exact Q1.fail (e1.trans hx) _|(simp;exact Q1.fail (e1.trans hx) _)|(simp;exact fun s=>Q1.fail (e1.trans hx) s));have Q3:=Q1.step (e1.trans x3);have p3:=aA.words hV.fin j1 ns j3 p1.2 x3;simp;refine cF (ds:=[.sl (strs [[61]])]) aE (aG l [[61]] j3 p3.2 (by omega) hV.fin (by simp)) (by simp [strs]) (by simp) (fun u4 j4 x4=>?_) (fun n e hx=>by first|exact Q3.fail hx _|(simp;exact Q3.fail hx _)|(simp;exact fun s=>Q3.fail hx s));have Q4:=Q3.step x4;have p4:=aA.exp hV.fin _ _ j3 u4 j4 p3.2 x4;simp;refine cF mV (pV hV j4 p4.2) (by simp) (by simp) (fun p j5 x5=>?_) (fun n e hx=>by first|exact Q4.fail hx _|(simp;exact Q4.fail hx _)|(simp;exact fun s=>Q4.fail hx s));have Q5:=Q4.step x5;have p5:=hV.pJ.pred j4 p j5 p4.2 x5;simp;refine qL (by first|omega|exact ⟨fun x _=>by rw [eY];rfl,by omega⟩) ?_
  simp;exact Q5.ok _ j5 .normal _ rfl (.inl rfl) (by simp [a9T,eY,tH])
theorem b1d (i:Nat)(hi:i<l.length):pF G 82 [] l i (a1w aX rdP l i) (fun x=> .d (.agg (d1i x))):=by
 have hl:=hV.len;obtain ⟨j0,rfl⟩:∃j0,j0=i:=⟨_,rfl⟩;have p0:j0≤j0∧j0<l.length:=⟨d7m _,hi⟩;refine kF.cV Tryz.func82 rfl Tryz.ntmps82 rfl (by simp) ?_
 intro Q Q0;unfold a1w at Q0;simp;refine cF cO (dI hV.kw l j0 p0.2 (by omega)) (by simp) (by simp) (fun nm j1 x1=>?_) (fun n e hx=>by first|exact Q0.fail hx _|(simp;exact Q0.fail hx _)|(simp;exact fun s=>Q0.fail hx s));have Q1:=Q0.step x1;have p1:=aA.word hV.fin j0 nm j1 p0.2 x1;simp;refine cF (ds:=[.sl (strs [[58]])]) aE (aG l [[58]] j1 p1.2 (by omega) hV.fin (by simp)) (by simp [strs]) (by simp) (fun u2 j2 x2=>?_) (fun n e hx=>by first|exact Q1.fail hx _|(simp;exact Q1.fail hx _)|(simp;exact fun s=>Q1.fail hx s));have Q2:=Q1.step x2;have p2:=aA.exp hV.fin _ _ j1 u2 j2 p1.2 x2;simp;refine cF gO (jG l j2 p2.2 (by omega)) (by simp) (by simp) (fun dn j3 x3=>?_) (fun n e hx=>by first|exact Q2.fail hx _|(simp;exact Q2.fail hx _)|(simp;exact fun s=>Q2.fail hx s));have Q3:=Q2.step x3;have p3:=aA.title hV.fin j2 dn j3 p2.2 x3;simp;refine cF (ds:=[.sl (strs [[45,62]])]) aE (aG l [[45,62]] j3 p3.2 (by omega) hV.fin (by simp)) (by simp [strs]) (by simp) (fun u4 j4 x4=>?_) (fun n e hx=>by first|exact Q3.fail hx _|(simp;exact Q3.fail hx _)|(simp;exact fun s=>Q3.fail hx s));have Q4:=Q3.step x4;have p4:=aA.exp hV.fin _ _ j3 u4 j4 p3.2 x4;simp;refine cF yA (a0n hV.kw l j4 p4.2 (by omega)) (by simp) (by simp) (fun sn j5 x5=>?_) (fun n e hx=>by first|exact Q4.fail hx _|(simp;exact Q4.fail hx _)|(simp;exact fun s=>Q4.fail hx s));have Q5:=Q4.step x5;have p5:=aA.sort hV.fin j4 sn j5 p4.2 x5;simp;refine cF (ds:=[.sl (strs [[123]])]) aE (aG l [[123]] j5 p5.2 (by omega) hV.fin (by simp)) (by simp [strs]) (by simp) (fun u6 j6 x6=>?_) (fun n e hx=>by first|exact Q5.fail hx _|(simp;exact Q5.fail hx _)|(simp;exact fun s=>Q5.fail hx s));have Q6:=Q5.step x6;have p6:=aA.exp hV.fin _ _ j5 u6 j6 p5.2 x6;simp;have hone:=eO hV [59] (c9l rdP l) (fun out i=>out.length≤i) 0 a5X (c4H hV nm dn sn) (fun a=>(a9U hV a).le (by omega)) (fun a i rY hi h=>b8E hV nm dn sn a i hi h) (c1T hV) (fun a i h=>by omega) [] j6 (by omega) p6.2 (by simp);refine gW.mk (vR dQ hone [(100000,100000),(100001,1),(100002,3)] (fun a j hx=>?_) ?_ ?_ ?_ rfl rfl (fun cs j7 x7=>?_) (fun n e hx2=>Q6.fail hx2 _))
 ·simp [a9T,aN,aW,aR,aQ,bA,getKey]
 ·simp [a9T,aN,aW,aR,aQ,bA,getKey]
 ·simp [aT,bC,rk]
 ·simp [a9T,aT,bC,rk,cL,cW]
 ·have Q7:=Q6.step x7;have p7:=aA.list hV.fin (fun a=>a9U hV a) [] j6 cs j7 p6.2 x7;simp [bB,a9T,aT,bC,rk,cL,cW,bN,gM,eX,eA];refine cF (ds:=[.sl (strs [[125]])]) aE (aG l [[125]] j7 p7.2 (by omega) hV.fin (by simp)) (by simp [strs]) (by simp) (fun u8 j8 x8=>?_) (fun n e hx=>by first|exact Q7.fail hx _|(simp;exact Q7.fail hx _)|(simp;exact fun s=>Q7.fail hx s));have Q8:=Q7.step x8;have p8:=aA.exp hV.fin _ _ j7 u8 j8 p7.2 x8;simp;cases hs:aI l j8 [105,110,118,97,114,105,97,110,116] with
  |false=>
   have Q9:=Q8.step (hU hs);rw [if_neg (by decide)] at Q9;have Q9:=Q9.step (gA _ _);refine bG (ds:=[.str [105,110,118,97,114,105,97,110,116]]) (d:= .d (.bool false)) aD (aV l j8 [105,110,118,97,114,105,97,110,116] p8.2 (by omega) hs) (by simp) (by simp) ?_
   simp;exact Q9.ok _ j8 _ _ rfl (.inr rfl) (by simp [kS])
  |true=>
   have Q9:=Q8.step (hM hs);rw [if_pos rfl] at Q9;refine bG (ds:=[.str [105,110,118,97,114,105,97,110,116]]) (d:= .d (.bool true)) aD (aU l j8 [105,110,118,97,114,105,97,110,116] p8.2 (by omega) hs) (by simp) (by simp) ?_
   have p9:j8+1≤j8+1∧j8+1<l.length:=⟨d7m _,aF hV.fin p8.2 hs⟩;obtain ⟨j9,hj9⟩:∃j,j8+1=j:=⟨_,rfl⟩;rw [hj9] at Q9 p9 ⊢;simp;refine cF mV (pV hV j9 p9.2) (by simp) (by simp) (fun p j10 x10=>?_) (fun n e hx=>by first|exact Q9.fail hx _|(simp;exact Q9.fail hx _)|(simp;exact fun s=>Q9.fail hx s));have Q10:=Q9.step x10;have p10:=hV.pJ.pred j9 p j10 p9.2 x10;simp;exact Q10.ok _ j10 _ _ rfl (.inr rfl) (by simp)
theorem b8F (i:Nat)(hi:i<l.length):pF G 83 [] l i (a1x aX rdP l i) (fun x=> .d (.agg (d1j x))):=by
 have hl:=hV.len;obtain ⟨j0,rfl⟩:∃j0,j0=i:=⟨_,rfl⟩;have p0:j0≤j0∧j0<l.length:=⟨d7m _,hi⟩;refine kF.cV Tryz.func83 rfl Tryz.ntmps83 rfl (by simp) ?_
 intro Q Q0;unfold a1x at Q0;simp;refine cF cO (dI hV.kw l j0 p0.2 (by omega)) (by simp) (by simp) (fun nm j1 x1=>?_) (fun n e hx=>by first|exact Q0.fail hx _|(simp;exact Q0.fail hx _)|(simp;exact fun s=>Q0.fail hx s));have Q1:=Q0.step x1;have p1:=aA.word hV.fin j0 nm j1 p0.2 x1;simp;refine cF (ds:=[.sl (strs [[40]])]) aE (aG l [[40]] j1 p1.2 (by omega) hV.fin (by simp)) (by simp [strs]) (by simp) (fun u2 j2 x2=>?_) (fun n e hx=>by first|exact Q1.fail hx _|(simp;exact Q1.fail hx _)|(simp;exact fun s=>Q1.fail hx s));have Q2:=Q1.step x2;have p2:=aA.exp hV.fin _ _ j1 u2 j2 p1.2 x2;simp;refine cF yB ((a0p hV true j2 p2.2)) (by simp) (by simp) (fun vs j3 x3=>?_) (fun n e hx=>by first|exact Q2.fail hx _|(simp;exact Q2.fail hx _)|(simp;exact fun s=>Q2.fail hx s));have Q3:=Q2.step x3;have p3:=(aA.vars hV.fin true) j2 vs j3 p2.2 x3;simp;refine cF (ds:=[.sl (strs [[41],[58]])]) aE (aG l [[41],[58]] j3 p3.2 (by omega) hV.fin (by simp)) (by simp [strs]) (by simp) (fun u4 j4 x4=>?_) (fun n e hx=>by first|exact Q3.fail hx _|(simp;exact Q3.fail hx _)|(simp;exact fun s=>Q3.fail hx s));have Q4:=Q3.step x4;have p4:=aA.exp hV.fin _ _ j3 u4 j4 p3.2 x4;simp;refine cF mV (pV hV j4 p4.2) (by simp) (by simp) (fun p j5 x5=>?_) (fun n e hx=>by first|exact Q4.fail hx _|(simp;exact Q4.fail hx _)|(simp;exact fun s=>Q4.fail hx s));have Q5:=Q4.step x5;have p5:=hV.pJ.pred j4 p j5 p4.2 x5;simp;exact Q5.ok _ j5 _ _ rfl (.inr rfl) (by simp)
theorem b2m (i:Nat)(hi:i<l.length):pF G 66 [] l i (zE l i) (fun _=> .cM []):=by
 have hl:=hV.len;obtain ⟨j0,rfl⟩:∃j0,j0=i:=⟨_,rfl⟩;have p0:j0≤j0∧j0<l.length:=⟨d7m _,hi⟩;have ht:=cI (G:=G) l j0 j0 0 (by omega) (by omega) (by intro e;subst e;simp at hi) (by omega);refine kF.cV Tryz.func66 rfl Tryz.ntmps66 rfl (by simp) ?_
 intro Q Q0;unfold zE at Q0;simp;refine bG (ds:=[.int .i64 0]) bP ht (by simp) (by simp) ?_
 by_cases hk:(aJ l j0).kind=0
 ·have Q0:=Q0.ifp hk;simp [cJ,hk];exact Q0.ok _ j0 _ _ rfl (.inl rfl) (by simp)
 ·have Q0:=Q0.xF hk;simp [cJ,hk];refine cF (ds:=[]) rU (tI (α:=Unit) l j0 p0.2 (by omega) fun _=> .cM []) (by simp) (by simp) (fun a j hx=>by unfold cQ at hx;cases hx) (fun n e hx=>Q0.bad n e _ hx)
end
end
end Go.Proofs.YtjpodcmhcenjjaaGreatDoor
