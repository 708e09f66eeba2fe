/- Lemmas that the law of this claim needs (ZP PsH PsI PsJ PsK PsL PsM PsR PsS PsN PsU PsO PsP VmRB PsQ PsT VmRD PsV PsW). No condition. -/
import Derived.Test.YtjpodcmhcenjjaaGreatDoorOrc
import Derived.RangeFuncNested
import Derived.RangeFuncBound
import Derived.RangeFuncCalls
import Derived.RangeFuncLeaves
import Derived.Shelf.Abstract
import Derived.OwnWalkIn
import Derived.TacticsInMore
import Derived.LoopNIn
import Derived.LoopIn
set_option linter.unusedVariables false
set_option linter.unusedSimpArgs false
set_option linter.unusedSectionVars false
set_option maxRecDepth 100000
set_option maxHeartbeats 64000000
section
section
namespace Go.Proofs.YtjpodcmhcenjjaaGreatDoor
open Go Go.VM
def a6A:Pr:=⟨0,[],0,[]⟩
def b9C:Pr:=⟨2,[],1,[]⟩
def d0t:Pr:=⟨2,[],0,[]⟩
instance:DecidableEq Pr:=fun a b=>if h:a3u a b=true then isTrue ((a5H a b).1 h) else isFalse fun e=>h ((a5H a b).2 e)
def a3S (p:Pr):Bool:=decide (p=a6A)||decide (p=b9C)
def vR:Pr→List Pr
 |⟨op,nm,n,[a,b]⟩=>if op=15 then vR a++vR b else [⟨op,nm,n,[a,b]⟩]
 |⟨op,nm,n,l⟩=>if a3S ⟨op,nm,n,l⟩ then [] else [⟨op,nm,n,l⟩]
theorem b9D (nm:Nm)(n:Int)(a b:Pr):vR ⟨15,nm,n,[a,b]⟩=vR a++vR b:=by rw [vR,if_pos rfl]
theorem c2C {p:Pr}(h:a3S p=true):p.kids=[]:=by simp only [a3S,d8P,decide_eq_true_eq] at h;rcases h with rfl|rfl<;>rfl
theorem b4B {p:Pr}(h: ¬(p.op=15∧p.kids.length=2)):vR p=if a3S p then [] else [p]:=by
 obtain ⟨op,nm,n,l⟩:=p
 match l,h with
 |[],_=>rw [vR];simp
 |[a],_=>rw [vR];simp
 |[a,b],h=>
  have h5: ¬op=15:=fun e=>h ⟨e,rfl⟩
  rw [vR,if_neg h5];cases hv:a3S ⟨op,nm,n,[a,b]⟩ with
  |false=>simp
  |true=>have:=c2C hv;simp at this
 |a::b::c::r,_=>rw [vR];simp
mutual
theorem b2Y:∀p:Pr,(vR p).length≤dM p
 |⟨op,nm,n,l⟩=>by
  by_cases h:op=15∧l.length=2
  ·match l,h with
   |[a,b],⟨h15,_⟩=>subst h15;rw [b9D];have h1:=b2Y a;have h2:=b2Y b;simp only [List.length_append,dM,eM];omega
  ·rw [b4B h];have:=b6K ⟨op,nm,n,l⟩;split<;>simp<;>omega
end
def d6B (ns:List Nm)(bys:List Pr)(op:Int)(nm:Nm):Option Pr:=if op=3∧0≤c4N nm ns 0 then bys[(c4N nm ns 0).toNat]? else none
mutual
def d4H (ns:List Nm) (bys:List Pr):Pr→Pr
 |⟨op,nm,n,l⟩=>match d6B ns bys op nm with
  |some u=>u
  |none=>⟨op,nm,n,c1c ns bys l⟩
def c1c (ns:List Nm) (bys:List Pr):List Pr→List Pr
 |[]=>[]
 |t::r=>d4H ns bys t::c1c ns bys r
end
mutual
def b0c:Pr→Nat
 |⟨_,_,_,l⟩=>rE l 0+1
def rE:List Pr→Nat→Nat
 |[],n=>n
 |t::r,n=>rE r (max n (b0c t))
end
theorem c1d (p:Pr):b0c p=rE p.kids 0+1:=by cases p;rfl
theorem b2Z:∀(a b:List Pr) (n:Nat),rE (a++b) n=rE b (rE a n)
 |[],b,n=>by simp [rE]
 |t::a,b,n=>by simp only [List.cons_append,rE,b2Z a b]
theorem b0d {l:List Pr}{i:Nat}(h:i<l.length)(n:Nat):rE (l.take (i+1)) n=max (rE (l.take i) n) (b0c l[i]):=by rw [d8S h,b2Z];simp [rE]
mutual
theorem d0u:∀p:Pr,b0c p≤dM p
 |⟨op,nm,n,l⟩=>by have:=a5I l 0;simp only [b0c,dM];omega
theorem a5I:∀(l:List Pr) (n:Nat),rE l n≤n+eM l
 |[],n=>by simp [rE]
 |t::r,n=>by have h1:=d0u t;have h2:=a5I r (max n (b0c t));simp only [rE,eM];omega
end
theorem c2D:∀ {l:List Pr} {k:Pr},k∈l→dM k≤eM l
 |t::r,k,h=>by
  simp only [eM];rcases List.mem_cons.1 h with rfl|h
  ·omega
  ·have:=c2D h;omega
end Go.Proofs.YtjpodcmhcenjjaaGreatDoor
end
section
namespace Go.Proofs.YtjpodcmhcenjjaaGreatDoor
open Go Go.VM
variable {G:GT}
theorem c2E {α:Type}(f:α→List D){l:List α}{i:Nat}(h:i<l.length):List.take (i+1) (List.map f l)=List.take i (List.map f l)++[f l[i]]:=by have:=c4Y f h;rw [List.map_take,List.map_take] at this;exact this
theorem d0v {α:Type}{f:α→List D}{k:Nat}(hf:∀a,(f a).length=k){l:List α}{i:Nat}:∀(x:List D),x∈List.take i (List.map f l)→x.length=k:=fun x hx=>by obtain ⟨t,_,rfl⟩:=List.mem_map.1 (List.mem_of_mem_take hx);exact hf t
abbrev prO (op:Int)(nm:Nm)(n:Int)(k:D):aZ:= .cells [.d (.int .i64 op),.d (.str nm),.d (.int .i64 n),.d k]
theorem rN:VM.Enters Tryz.prog 128:=VM.Enters.mk Tryz.func128 rfl
theorem c2F:VM.Enters Tryz.prog 169:=VM.Enters.mk Tryz.func169 rfl
theorem c5s (l l':List Pr)(hN:eM l≤900000000)(ih:∀k∈l,∀u:Pr,dM k≤900000000→CS Tryz.prog G 128 [.agg (prD k),.agg (prD u)] (.d (.bool (a3u k u))) none):
  CH Tryz.prog G 169 ⟨[.d (.sl (l.map rG)),.d (.sl (l'.map rG)),.fn 128],[],[]⟩ ⟨[.d (.bool (c2B l l'))],[],[]⟩:=by
 have hl:=kE l;refine CH.bH Tryz.func169 rfl Tryz.ntmps169 rfl (by simp) ?_
 by_cases h3:l.length=l'.length
 ·have hq:c2B l l'=sL l l':=by simp [c2B,h3]
  simp [h3];refine SW.kJ (ι:={ i:Nat // i≤l.length∧sL (l.drop i) (l'.drop i)=sL l l' }) (fun i=>[(15,.d (.int .i64 i.1))]) (fun _=>[]) (fun _=>[]) (fun i=>l.length-i.1) ⟨0,by simp⟩ (by simp) ?_
  rintro ⟨i,hi,hR⟩
  try simp only at hi hR
  by_cases hlt:i<l.length
  ·have hlt':i<l'.length:=by omega
   have hg:=wF hlt;have hg':=wF hlt';have hw:=bP (show i<9223372036854775807 by omega);have hb2:=rU hlt;have hb3:=kK l (i+1);rw [b0a hlt hlt'] at hR;simp [hlt',hlt,hg,hg'];refine ⟨mK.mk (by kernel_rfl),?_⟩;refine aI.mk rN (ih l[i] (List.getElem_mem hlt) l'[i] (by omega)) ?_
   cases hs:a3u l[i] l'[i]
   ·rw [hs,Bool.false_and] at hR;simp [hs,hq, ← hR]
   ·rw [hs,Bool.true_and] at hR;simp [hs];exact bR.mk ⟨i+1,hlt,hR⟩ (by simp [hw]) (by simp;omega)
  ·have:i=l.length:=by omega
   subst this;rw [b2X] at hR;simp [hq, ← hR, ← h3]
 ·have h3': ¬((l.length:Int)=(l'.length:Int)):=by omega
  have hq:c2B l l'=false:=by simp [c2B,h3]
  simp [h3,h3',hq]
theorem wK:∀t u:Pr,dM t≤900000000→CS Tryz.prog G 128 [.agg (prD t),.agg (prD u)] (.d (.bool (a3u t u))) none:=by
 refine Pr.ind fun t ih=>?_
 obtain ⟨op,nm,n,l⟩:=t;intro u hN;obtain ⟨op',nm',n',l'⟩:=u;simp only at ih;have hn:=qS ⟨op,nm,n,l⟩;have hq:=c1b ⟨op,nm,n,l⟩ ⟨op',nm',n',l'⟩;simp only at hn hq;have hE:=c5s (G:=G) l l' (by omega) ih;have hA:(decide (l.length=l'.length)&&sL l l')=c2B l l':=rfl;rw [hA] at hq;refine CS.bH Tryz.func128 rfl Tryz.ntmps128 rfl ?_
 by_cases h1:op=op'
 ·by_cases h2:nm=nm'
  ·by_cases h4:n=n'
   ·simp only [h1,h2,h4,decide_true,Bool.true_and] at hq;simp [h1,h2,h4];refine gD.ro c2F hE [] (by simp) (by simp) (by simp) (by simp) (by simp) ?_
    simp [hq]
   ·simp only [h1,h2,h4,decide_true,decide_false,Bool.true_and,Bool.false_and] at hq;simp [h1,h2,h4,hq]
  ·simp only [h1,h2,decide_true,decide_false,Bool.true_and,Bool.false_and] at hq;simp [h1,h2,hq]
 ·simp only [h1,decide_false,Bool.false_and] at hq;simp [h1,hq]
theorem pT:VM.Enters Tryz.prog 170:=VM.Enters.mk Tryz.func170 rfl
def a2s (b:Bool):Pr:=if b then b9C else d0t
theorem qX (b:Bool):CS Tryz.prog G 170 [.bool b] (.d (.agg (prD (a2s b)))) none:=by
 refine CS.bH Tryz.func170 rfl Tryz.ntmps170 rfl ?_
 cases b<;>simp [a2s,b9C,d0t]
theorem b7i (a b:Pr):a3u a b=decide (a=b):=by rw [Bool.eq_iff_iff,a5H];simp
theorem b1K:VM.Enters Tryz.prog 171:=VM.Enters.mk Tryz.func171 rfl
theorem b4C (p:Pr)(h:dM p≤900000000):CS Tryz.prog G 171 [.agg (prD p)] (.d (.bool (a3S p))) none:=by
 have e1:=wK (G:=G) p a6A h;have e2:=wK (G:=G) p b9C h;rw [b7i] at e1 e2;refine CS.bH Tryz.func171 rfl Tryz.ntmps171 rfl ?_
 simp;refine ⟨mK.mk (by kernel_rfl),?_⟩;refine aI.mk rN (CS.args e1 (by simp [a6A])) ?_
 by_cases hz:p=a6A
 ·simp [hz,a3S]
 ·simp [hz,a3S];refine aI.mk pT (qX true) ?_
  simp;refine aI.mk rN (CS.args e2 (by simp [b9C,a2s])) ?_
  simp
theorem vT:VM.Enters Tryz.prog 172:=VM.Enters.mk Tryz.func172 rfl
theorem b0e:∀p:Pr,dM p≤900000000→CS Tryz.prog G 172 [.agg (prD p)] (.d (.agg (prD p))) none:=by
 refine Pr.ind fun p ih=>?_
 obtain ⟨op,nm,n,l⟩:=p;intro hN;simp only at ih;have hn:=qS ⟨op,nm,n,l⟩;simp only at hn;have hl:=kE l;refine CS.bH Tryz.func172 rfl Tryz.ntmps172 rfl ?_
 simp;refine SW.kJ (ι:={ i:Nat // i≤l.length }) (fun i=>[(16,.d (.int .i64 i.1))]) (fun i=>[(1,prO op nm n (.sl (l.map rG))),(2,prO 0 [] 0 .aN),(3,prO op nm n (.sl ((l.take i.1).map rG)))]) (fun _=>[(43,[.c 3 3])]) (fun i=>l.length-i.1) ⟨0,by simp⟩ (by simp) ?_
 rintro ⟨i,hi⟩;by_cases hlt:i<l.length
 ·have hg:=wF hlt;have hw:=bP (show i<9223372036854775807 by omega);have hs2:=c2E rG hlt;rw [gF] at hs2;have h4:∀(x:List D),x∈List.take i (List.map rG l)→x.length=4:=d0v (by simp);have hb2:=rU hlt;have hb3:=kK l (i+1);simp [hlt,hg];refine ⟨mK.mk (by kernel_rfl),?_⟩;refine aI.mk vT (ih l[i] (List.getElem_mem hlt) (by omega)) ?_
  simp;refine eU ⟨h4,by omega⟩ ?_
  simp;exact bR.mk ⟨i+1,hlt⟩ (by simp [hw,hs2]) (by simp;omega)
 ·have:i=l.length:=by omega
  subst this;simp
end Go.Proofs.YtjpodcmhcenjjaaGreatDoor
end
section
namespace Go.Proofs.YtjpodcmhcenjjaaGreatDoor
open Go Go.VM
variable {G:GT}
theorem b4D:VM.Enters Tryz.prog 223:=VM.Enters.mk Tryz.func223 rfl
theorem d2A (p:Pr):dM p≤900000000→CS Tryz.prog G 223 [.agg (prD p)] (.d (.int .i64 (b0c p))) none:=by
 revert p
 refine Pr.ind fun p ih=>?_
 obtain ⟨op,nm,n,l⟩:=p;intro hN;simp only at ih;have hn:=qS ⟨op,nm,n,l⟩;have hd:=c1d ⟨op,nm,n,l⟩;simp only at hn hd;have hl:=kE l;have hle:=a5I l 0;refine CS.bH Tryz.func223 rfl Tryz.ntmps223 rfl ?_
 simp;refine SW.kJ (ι:={ i:Nat // i≤l.length }) (fun i=>[(3,.d (.int .i64 (rE (l.take i.1) 0))),(9,.d (.int .i64 i.1))]) (fun _=>[(1,prO op nm n (.sl (l.map rG)))]) (fun _=>[]) (fun i=>l.length-i.1) ⟨0,by simp⟩ (by simp [rE]) ?_
 rintro ⟨i,hi⟩;by_cases hlt:i<l.length
 ·have hg:=wF hlt;have hw:=bP (show i<9223372036854775807 by omega);have hs:=b0d hlt 0;have hb2:=rU hlt;have hb3:=kK l (i+1);simp [hlt,hg];refine aI.mk b4D (ih l[i] (List.getElem_mem hlt) (by omega)) ?_
  simp;exact bR.mk ⟨i+1,hlt⟩ (by simp [hw,hs];split<;>omega) (by simp;omega)
 ·have:i=l.length:=by omega
  subst this;have hw:IntKind.i64.wrap ((rE l 0:Int)+1)=((rE l 0+1:Nat):Int):=bP (by omega);simp [hw,hd]
end Go.Proofs.YtjpodcmhcenjjaaGreatDoor
end
section
namespace Go.Proofs.YtjpodcmhcenjjaaGreatDoor
open Go Go.VM Go.RowKit Go.Shelf
attribute [local go_sem] Oper.semAt_some
structure bV (X:Nat→Prop) (W W':World):Prop where
 os:W'.os=W.os
 tape:W'.tape=W.tape
 output:W'.output=W.output
 size:W.heap.size≤W'.heap.size
 block:∀k,k<W.heap.size→ ¬X k→W'.heap[k]? =W.heap[k]?
theorem bV.refl (X:Nat→Prop)(W:World):bV X W W:=⟨rfl,rfl,rfl,d8T _,fun _ _ _=>rfl⟩
theorem bV.trans {X:Nat→Prop}{A B C:World}(h:bV X A B)(k:bV X B C):bV X A C:=
 ⟨k.os.trans h.os,k.tape.trans h.tape,k.output.trans h.output,Nat.le_trans h.size k.size,fun i hi hx=>(k.block i (Nat.lt_of_lt_of_le hi h.size) hx).trans (h.block i hi hx)⟩
abbrev NoX:Nat→Prop:=fun _=>False
theorem bV.up {X:Nat→Prop}{A B:World}(h:bV NoX A B):bV X A B:=⟨h.os,h.tape,h.output,h.size,fun k hk _=>h.block k hk fun e=>e⟩
theorem bV.cell {X:Nat→Prop}{A B:World}(h:bV X A B){b o:Nat}(hb:b<A.heap.size)(hx: ¬X b):B.cell? ⟨b,o,none⟩=A.cell? ⟨b,o,none⟩:=by unfold World.cell?;rw [h.block b hb hx]
theorem bV.alloc {X:Nat→Prop}{A B:World}(h:bV X A B)(o:Obj):bV X A (B.alloc o):=
 h.trans ⟨rfl,rfl,rfl,by simp,fun k hk _=>by
  show (B.heap.push o)[k]? =_
  rw [Array.getElem?_push,if_neg (by omega)]⟩
theorem c5t {R:Nat→Nat→Prop}{w:World}{v:Value}{p:Pr}(h:V R w v (.agg (rG p))):
  ∃(ao:Option Addr) (cap:Nat) (nm:ByteArray),v= .agg #[.int .i64 p.op,.string nm,.int .i64 p.n,.slice ao p.kids.length cap]∧
   ∀(i:Nat) (hi:i<p.kids.length),∃b o,ao=some ⟨b,o,none⟩∧∃f:Nat→Value,(∀j,j<4→R b (o+i*4+j)∧w.cell? ⟨b,o+i*4+j,none⟩=some (f j))∧V R w (.agg #[f 0,f 1,f 2,f 3]) (.agg (rG p.kids[i])):=by
 obtain ⟨op,nm,n,ks⟩:=p;rw [gF] at h;cases h with
 |agg cs _ h1 h2 h3=>
  obtain ⟨l⟩:=cs
  match l,h1 with
  |[c0,c1,c2,c3],_=>
   have g0:=h3 0 _ rfl;have g1:=h3 1 _ rfl;have g2:=h3 2 _ rfl;have g3:=h3 3 _ rfl;simp at g0 g1 g2 g3;obtain ⟨es,hes⟩:∃es,ks.map rG=es:=⟨_,rfl⟩;simp only [hes] at g3;cases g0;cases g1;cases g2;have hlen:es.length=ks.length:=by rw [← hes];simp
   cases g3 with
   |emp ao cap=>
    have h0:ks=[]:=by simpa using hes
    subst h0;exact ⟨ao,cap,_,rfl,fun i hi=>by simp at hi⟩
   |sl b o m cap size es f k1 k2 k3 k4 k5 k6 k7=>
    have hm:m=ks.length:=by omega
    subst hm;refine ⟨_,cap,_,rfl,fun i hi=>⟨b,o,rfl,f i,?_⟩⟩;simp only at hi;have hg:es[i]? =some (rG ks[i]):=by rw [← hes];simp [hi]
    have hs:size=4:=by have:=k4 _ (d8I hg);rw [gF] at this;simpa using this.symm
    subst hs;refine ⟨fun j hj=>k5 i j hi hj,?_⟩;have q:∀(j:Nat) (d:D),(rG ks[i])[j]? =some d→V R w (f i j) d:=fun j d hd=>k7 i j _ d hg hd
    have q1:∀(j:Nat) (d:D),(rG ks[i])[j]? =some d→d.one=true:=fun j d hd=>k6 i j _ d hg hd
    refine .agg _ _ (by rw [gF];rfl) q1 fun j d hd=>?_
    have hj:j<4:=by have:=(d8E.1 hd).1;rw [gF] at this;simpa using this
    have hv:=q j d hd
    match j,hj with
    |0,_=>exact hv
    |1,_=>exact hv
    |2,_=>exact hv
    |3,_=>exact hv
mutual
def a0T:Pr→List Pr
 |⟨op,nm,n,l⟩=>⟨op,nm,n,l⟩::oE l
def oE:List Pr→List Pr
 |[]=>[]
 |p::r=>a0T p++oE r
end
theorem a5J (p:Pr):a0T p=p::oE p.kids:=by cases p;rfl
theorem a6B:∀a b:List Pr,oE (a++b)=oE a++oE b
 |[],b=>by simp [oE]
 |p::a,b=>by simp only [List.cons_append,oE,a6B a b,List.append_assoc]
theorem b9E {l:List Pr}{i:Nat}(h:i<l.length):oE (l.take (i+1))=oE (l.take i)++a0T l[i]:=by rw [d8S h,a6B];simp [oE]
theorem a7N (l:List Pr)(i:Nat):oE l=oE (l.take i)++oE (l.drop i):=by rw [← a6B,List.take_append_drop]
def Yields (P:Program)(L:List Pr)(l:Nat)(X:Nat→Prop)(R:Nat→Nat→Prop)(w0:World)(J Jx:List Pr→World→Prop):Prop:=
 ∀(m:Nat) (pre:List Pr) (v:Value) (p:Pr) (W:World),pre++[p] <+:L→V R w0 v (.agg (rG p))→bV X w0 W→J pre W→YieldAt Fence.wide m P l #[v] W fun e W'=>(e= .returned (.bool true)∧J (pre++[p]) W'∧bV X W W')∨(e= .returned (.bool false)∧Jx (pre++[p]) W'∧bV X W W')
theorem c5u (W:World)(cs:Array Value)(T:TypeId){j:Nat}{v:Value}(h:cs[j]? =some v):(W.alloc (.cells cs T)).cell? ⟨W.heap.size,j,none⟩=some v:=by unfold World.cell?;rw [World.alloc_heap_new];simp [h]
theorem c5v (L:List Pr)(l:Nat)(X:Nat→Prop)(R:Nat→Nat→Prop)(w0:World)(hX:∀b o,R b o→ ¬X b)(hR:∀b o,R b o→b<w0.heap.size)(hX2:∀k,X k→k<w0.heap.size)(J Jx:List Pr→World→Prop)(hJ:∀s A B,J s A→bV NoX A B→J s B)(hY:Yields Tryz.prog L l X R w0 J Jx):
  ∀(p:Pr) (n:Nat) (v:Value) (pre:List Pr) (W:World),dM p≤1000000→pre++a0T p <+:L→V R w0 v (.agg (rG p))→bV X w0 W→J pre W→
   CallsIn Fence.wide n Tryz.prog 238 #[v,.func (.yield l) #[] #[]] W fun e W'=>(e= .returned (.bool true)∧J (pre++a0T p) W'∧bV X W W')∨(e= .returned (.bool false)∧∃q,q <+:a0T p∧Jx (pre++q) W'∧bV X W W'):=by
 refine Pr.ind fun p ih=>?_
 intro n v pre W hN hL hv hW hJ0;have hN1:=qS p;have hN2:=kE p.kids;have hpk:∀(k:Nat) (h:k<p.kids.length),(pre++p::oE (p.kids.take k))++a0T p.kids[k] <+:L:=fun k h=>by refine List.IsPrefix.trans ⟨oE (p.kids.drop (k+1)),?_⟩ hL;rw [a5J p,a7N p.kids k,d8Q h];simp [oE]
 obtain ⟨ao,cap,nm,rfl,hk⟩:=c5t hv;have hJ1:=hJ _ _ (W.alloc (.cells #[.int .i64 p.op,.string nm,.int .i64 p.n,.slice ao p.kids.length cap] 43)) hJ0 ((bV.refl NoX W).alloc _);have hW1:=hW.alloc (.cells #[.int .i64 p.op,.string nm,.int .i64 p.n,.slice ao p.kids.length cap] 43);obtain ⟨fn,tmps,assign,body,hy,hYR⟩:=hY (n-1) pre _ p _ (((List.prefix_append_right_inj pre).2 ⟨oE p.kids,by rw [a5J];rfl⟩).trans hL) hv hW1 hJ1;refine callsIn_of_wp Tryz.func238 rfl trivial ?_ rfl
 simp only [Tryz.ntmps238,List.size_toArray,List.length_cons,List.length_nil,Nat.reduceAdd,Nat.reduceSub,Array.replicate_succ,Array.replicate_zero,List.push_toArray,List.append_toArray,List.nil_append,List.cons_append]
 gi_wp2
 refine ⟨fun h=>(by cases h),?_⟩;have hbx: ¬X W.heap.size:=fun h=>by have:=hX2 _ h;have:=hW.size;omega
 refine hYR.mono ?_
 rintro e W3 (⟨rfl,hJ3,hK3⟩|⟨rfl,hJ3,hK3⟩)
 ·have hWK:bV X W W3:=((bV.refl X W).alloc _).trans hK3;have hbox:W3.cell? ⟨W.heap.size,3,none⟩=some (.slice ao p.kids.length cap):=(hK3.cell (by simp) hbx).trans (c5u W _ _ rfl)
  gi_wp2
  gi_loopw [14] (fun i wr=>∃k:Nat,k≤p.kids.length∧i= .int .i64 k∧J (pre++p::oE (p.kids.take k)) wr∧bV X W wr) (fun i _=>p.kids.length-(intOf i).toNat)
  case atStart=>exact ⟨0,Nat.zero_le _,rfl,by simpa [oE] using hJ3,hWK⟩
  case round=>
   obtain ⟨k,hkl,rfl,hJk,hKk⟩:=hrel;by_cases hlt:k<p.kids.length
   ·obtain ⟨b,o,rfl,f,hf,hfv⟩:=hk k hlt;have hcx:∀j,j<4→wr.cell? ⟨b,o+k*4+j,none⟩=some (f j):=fun j hj=>((hW.trans hKk).cell (hR _ _ (hf j hj).1) (hX _ _ (hf j hj).1)).trans (hf j hj).2
    have h0:=hcx 0 (by omega);rw [Nat.add_zero] at h0;have h1:=hcx 1 (by omega);have h2:=hcx 2 (by omega);have h3:=hcx 3 (by omega);have hfv2:=hfv;have hb2:=rU hlt;have hb3:=kK p.kids (k+1);obtain ⟨ao2,cap2,nm2,he,_⟩:=c5t hfv;simp only [Value.agg.injEq,Array.mk.injEq,List.cons.injEq,and_true] at he;obtain ⟨e0,e1,e2,e3⟩:=he;rw [e0] at h0;rw [e1] at h1;rw [e2] at h2;rw [e3] at h3;rw [e0,e1,e2,e3] at hfv2
    gi_wp2
    refine ⟨trivial,fun h=>(by cases h),(ih p.kids[k] (List.getElem_mem hlt) (n-1) _ _ _ (by omega) (hpk k hlt) hfv2 ((hW.trans hKk).alloc _) (hJ _ _ _ hJk ((bV.refl NoX wr).alloc _))).mono ?_⟩;rintro e W4 (⟨rfl,hJ4,hK4⟩|⟨rfl,q,hq,hJ4,hK4⟩)
    ·have hw64:RowKit.wrap64 ((k:Int)+1)=(k:Int)+1:=by unfold RowKit.wrap64;omega
     gi_wp2
     go_roundw
     case rel=>exact ⟨k+1,hlt,by simp [hw64],by rw [b9E hlt];simpa using hJ4,(hKk.alloc _).trans hK4⟩
     case measure=>simp [intOf,hw64];omega
    ·gi_wp2
     go_ret
     refine .inr ⟨rfl,p::oE (p.kids.take k)++q,?_,by simpa using hJ4,(hKk.alloc _).trans hK4⟩;rw [a5J,a7N p.kids k,d8Q hlt];obtain ⟨r,hr⟩:=hq;exact ⟨r++oE (p.kids.drop (k+1)),by simp [oE, ← hr]⟩
   ·obtain rfl:k=p.kids.length:=by omega
    gi_wp2
    go_ret
    exact .inl ⟨rfl,by rw [a5J];simpa using hJk,hKk⟩
 ·gi_wp2
  go_ret
  exact .inr ⟨rfl,[p],⟨oE p.kids,by rw [a5J];rfl⟩,hJ3,((bV.refl X W).alloc _).trans hK3⟩
end Go.Proofs.YtjpodcmhcenjjaaGreatDoor
end
section
namespace Go.Proofs.YtjpodcmhcenjjaaGreatDoor
open Go Go.VM Go.RowKit Go.Shelf
attribute [local go_sem] Oper.semAt_some
theorem c2G {G:GT}{R:Nat→Nat→Prop}{w0 w:World}(h:a3q G (vL w0.heap.size) R w0)(hs:w0.heap.size≤w.heap.size)(hR:∀b o,R b o→b<w0.heap.size)(hb:∀k,k<w0.heap.size→w.heap[k]? =w0.heap[k]?):a3q G (vL w.heap.size) R w:=by
 intro g cs hg;obtain ⟨h1,h2,arr,T,fr,h3,h4⟩:=h g cs hg;have hl:g<w0.heap.size:=by simpa [vL] using h2
 have hc:∀b o,R b o→w.cell? ⟨b,o,none⟩=w0.cell? ⟨b,o,none⟩:=fun b o hbo=>by unfold World.cell?;rw [hb b (hR b o hbo)]
 refine ⟨fun j d hj=>?_,by simp only [vL];omega,arr,T,fr,(hb g hl).trans h3,h4⟩;obtain ⟨a1,a2,v,a3,a4⟩:=h1 j d hj;exact ⟨a1,a2,v,(hc _ _ a2).trans a3,a4.step (fun _ _ h=>h) hc⟩
theorem bV.bL {R R':Nat→Nat→Prop}{w w':World}(h:Step (vL w.heap.size) R w R' w'):bV NoX w w':=
 ⟨h.below.os,h.below.tape,h.below.output,h.below.size,fun k hk _=>h.below.block k (by simp only [vL];omega)⟩
theorem d0w {P:Program}{G:GT}{f:FuncId}{ds:List D}{k:IntKind}{z:Int}{own:Option TypeId}(h:CS P G f ds (.d (.int k z)) own){w:World}{R:Nat→Nat→Prop}{args:Array Value}(m:Nat)(hg:a3q G (vL w.heap.size) R w)(hR:∀b o,R b o→b<w.heap.size)(hs:args.size=ds.length)(hv:∀(i:Nat) (d:D),ds[i]? =some d→V R w (args.getD i undef) d):CallsIn Fence.wide m P f args w fun e w'=>e= .returned (.int k z)∧bV NoX w w':=
 callsIn_wide.2 ((h w R args hg hR hs hv).mono fun e w' ⟨v,R',he,hv',hst,_,_⟩=>by
  cases hv' id with
  |d v x hvx=>cases hvx;exact ⟨he,bV.bL hst⟩)
theorem bV.weaken {X Y:Nat→Prop}{A B:World}(h:bV X A B)(hXY:∀k,X k→Y k):bV Y A B:=⟨h.os,h.tape,h.output,h.size,fun k hk hy=>h.block k hk fun hx=>hy (hXY k hx)⟩
theorem bV.putObj {X:Nat→Prop}(A:World){l:Nat}(hl:X l)(o:Obj):bV X A (A.putObj l o):=⟨rfl,rfl,rfl,by simp,fun k _ hx=>World.putObj_heap_other fun e=>hx (e▸hl)⟩
theorem a2t {X:Nat→Prop}{A B:World}(h:bV X A B)(hX:∀k,X k→A.heap.size≤k):bV NoX A B:=⟨h.os,h.tape,h.output,h.size,fun k hk _=>h.block k hk fun hx=>by have:=hX k hx;omega⟩
theorem b9F (L:List Pr)(l:Nat)(X:Nat→Prop)(R:Nat→Nat→Prop)(w0:World)(hX:∀b o,R b o→ ¬X b)(hR:∀b o,R b o→b<w0.heap.size)(hX2:∀k,X k→k<w0.heap.size)(J Jx:List Pr→World→Prop)(hJ:∀s A B,J s A→bV NoX A B→J s B)(hY:Yields Tryz.prog L l X R w0 J Jx)(p:Pr)(n:Nat)(c0 c1 c2 c3:Value)(W:World)(bx:Nat)(hbx:W.heap[bx]? =some (.cells #[c0,c1,c2,c3] 43 (0,0)))(hN:dM p≤1000000)(hL:a0T p=L)(hv:V R w0 (.agg #[c0,c1,c2,c3]) (.agg (rG p)))(hW:bV X w0 W)(hJ0:J [] W):
  CallsIn Fence.wide n Tryz.prog 237 #[.func (.yield l) #[] #[],.pointer (some ⟨bx,0,none⟩)] W fun e W'=>∃v,e= .returned v∧((J L W'∧bV X W W')∨∃q,q <+:L∧Jx q W'∧bV X W W'):=by
 have hvis:=c5v L l X R w0 hX hR hX2 J Jx hJ hY p (n-1) _ [] W hN (by rw [List.nil_append,hL];exact List.prefix_rfl) hv hW hJ0;obtain ⟨ao,cap,nm,he,_⟩:=c5t hv;simp only [Value.agg.injEq,Array.mk.injEq,List.cons.injEq,and_true] at he;obtain ⟨rfl,rfl,rfl,rfl⟩:=he;have e0:W.cell? ⟨bx,0,none⟩=some (.int .i64 p.op):=by unfold World.cell?;rw [hbx];rfl
 have e1:W.cell? ⟨bx,1,none⟩=some (.string nm):=by unfold World.cell?;rw [hbx];rfl
 have e2:W.cell? ⟨bx,2,none⟩=some (.int .i64 p.n):=by unfold World.cell?;rw [hbx];rfl
 have e3:W.cell? ⟨bx,3,none⟩=some (.slice ao p.kids.length cap):=by unfold World.cell?;rw [hbx];rfl
 refine callsIn_of_wp Tryz.func237 rfl trivial ?_ rfl
 simp only [Tryz.ntmps237,List.size_toArray,List.length_cons,List.length_nil,Nat.reduceAdd,Nat.reduceSub,Array.replicate_succ,Array.replicate_zero,List.push_toArray,List.append_toArray,List.nil_append,List.cons_append]
 gi_wp2
 refine ⟨trivial,fun h=>(by cases h),hvis.mono ?_⟩;rintro e W4 (⟨rfl,hJ4,hK4⟩|⟨rfl,q,hq,hJ4,hK4⟩)
 ·gi_wp2
  first|go_ret|go_ret2|go_end0
  rw [hL] at hJ4;exact ⟨_,rfl,.inl ⟨hJ4,hK4⟩⟩
 ·gi_wp2
  first|go_ret|go_ret2|go_end0
  rw [hL] at hq;exact ⟨_,rfl,.inr ⟨q,hq,hJ4,hK4⟩⟩
theorem c2H (n:Nat)(c0 c1 c2 c3:Value)(W:World):CallsIn Fence.wide n Tryz.prog 216 #[.agg #[c0,c1,c2,c3]] W fun e W'=>e= .returned (.func (.func 237) #[] #[.pointer (some ⟨W.heap.size,0,none⟩)])∧W'=W.alloc (.cells #[c0,c1,c2,c3] 43):=by
 refine callsIn_of_wp Tryz.func216 rfl trivial ?_ rfl
 simp only [Tryz.ntmps216,List.size_toArray,List.length_cons,List.length_nil,Nat.reduceAdd,Nat.reduceSub,Array.replicate_succ,Array.replicate_zero,List.push_toArray,List.append_toArray,List.nil_append,List.cons_append]
 gi_wp2
 first|go_ret|go_ret2|go_end0
 exact ⟨rfl,rfl⟩
theorem c5w (n:Nat){g:Operand}{ps:Array Tmp}{assign body:Code}{Q:Exit→Act→World→Prop}{a:Act}{W:World}{bx:Nat}{c0 c1 c2 c3:Value}(hg:a.eval g= .func (.func 237) #[] #[.pointer (some ⟨bx,0,none⟩)])(hbx:W.heap[bx]? =some (.cells #[c0,c1,c2,c3] 43 (0,0)))(hps:ps.size=1){R:Nat→Nat→Prop}{p:Pr}(hv:V R W (.agg #[c0,c1,c2,c3]) (.agg (rG p)))(hN:dM p≤1000000)(hR:∀b o,R b o→b<W.heap.size)(b1:Nat)(hb1:b1<W.heap.size)(hRb:∀b o,R b o→b≠b1)(hbb:bx≠b1)(I Ix:List Pr→World→Prop)(hI:∀s A B,I s A→(∀k,k<W.heap.size→B.heap[k]? =A.heap[k]?)→I s B)(hIx:∀s A B,Ix s A→(∀k,k<W.heap.size→B.heap[k]? =A.heap[k]?)→Ix s B)(h0:I [] W)(hround:∀(m l:Nat) (pre:List Pr) (q:Pr) (vq:Value) (W1:World),W.heap.size≤l→l<W1.heap.size→pre++[q] <+:a0T p→V R W vq (.agg (rG q))→bV (fun k=>k=b1) W W1→I pre W1→
   assign.wpIn (Fence.wide.inRound l) m Tryz.prog (Exit.then (fun a₁ w₁=>bV NoX W1 w₁∧∀w2,bV (fun k=>k=l) w₁ w2→body.wpIn (Fence.wide.inRound l) m Tryz.prog (fun e _ w3=>match e with
    | .normal=>bV (fun k=>k=b1) w2 w3∧I (pre++[q]) w3
    | .ret=>bV (fun k=>k=b1) w2 w3∧Ix (pre++[q]) w3
    |_=>False) a₁ w2) (fun _ _ _=>False)) { tmps:=(ps.zip #[vq]).foldl (fun t (p,v)=>t.setIfInBounds p v) a.tmps,defers:=[] } W1)(hdone:∀(D:Nat) (W':World),W.heap.size≤D→I (a0T p) W'→bV (fun k=>k=b1) W W'→W'.heap[D]? =some (.deferred (some []))→Q .normal { a with defers:={ target:= .collected D,args:= #[] }::a.defers } W')(hstop:∀(D:Nat) (pre:List Pr) (W':World),W.heap.size≤D→pre <+:a0T p→Ix pre W'→bV (fun k=>k=b1) W W'→W'.heap[D]? =some (.deferred (some []))→Q .ret { a with defers:={ target:= .collected D,args:= #[] }::a.defers } W'):
  (Code.rangeFunc g ps assign body).wpIn Fence.wide n Tryz.prog Q a W:=by
 refine wpIn_rangeFunc ?_
 intro fn hfn;rw [show Fence.wide.round=none from rfl];obtain ⟨rec,hrec⟩:∃rec:LoopState→Option Code→Loop,rec=fun st pe=>{ state:=st,pending:=pe,fn,tmps:=a.tmps,params:=ps,assign,body,defers:=W.heap.size }:=⟨_,rfl⟩
 obtain ⟨W1,hW1⟩:∃W1,(W.alloc (.deferred (some []))).alloc (.loop (rec .ready none))=W1:=⟨_,rfl⟩;have hL1:W1.heap[W.heap.size+1]? =some (.loop (rec .ready none)):=by rw [← hW1];have:=World.alloc_heap_new (W.alloc (.deferred (some []))) (.loop (rec .ready none));rwa [World.size_alloc] at this
 have hD1:W1.heap[W.heap.size]? =some (.deferred (some [])):=by rw [← hW1];exact (Below.heap_alloc _ _ _ (by simp)).trans (World.alloc_heap_new W _)
 have hK1:bV NoX W W1:=by rw [← hW1];exact ((bV.refl _ _).alloc _).alloc _
 have hs1:W1.heap.size=W.heap.size+2:=by rw [← hW1];simp
 have hI1:I [] W1:=hI _ _ _ h0 fun k hk=>hK1.block k hk id
 have hv1:V R W1 (.agg #[c0,c1,c2,c3]) (.agg (rG p)):=hv.step (fun _ _ h=>h) fun b o hbo=>hK1.cell (hR b o hbo) id
 have hfin:∀ {A:World},bV (fun k=>k=W.heap.size+1∨k=b1) W1 A→bV (fun k=>k=b1) W A:=fun h=>⟨h.os.trans hK1.os,h.tape.trans hK1.tape,h.output.trans hK1.output,Nat.le_trans hK1.size h.size,fun k hk hx=>(h.block k (by omega) (by rintro (e|e);(· omega);exact hx e)).trans (hK1.block k hk id)⟩
 refine ⟨W.heap.size+1,[{ target:= .collected W.heap.size,args:= #[] }],W1,{ target:= .fn (.func 237) #[.pointer (some ⟨bx,0,none⟩)],args:= #[.func (.yield (W.heap.size+1)) #[] #[]] },W1,237,
  #[.func (.yield (W.heap.size+1)) #[] #[],.pointer (some ⟨bx,0,none⟩)],W1,?_,?_,?_,?_,fun h=>(by cases h),?_⟩
 ·rw [← hW1,hrec];exact run_enterLoop_outer _ _ _ _ _
 ·simp only [resolve,hg];simp [go_sem]
 ·exact fun f' _=>trivial
 ·simp [invoke,go_sem,enters_of Tryz.func237 (by kernel_rfl) rfl]
 ·refine (b9F (a0T p) (W.heap.size+1) (fun k=>k=W.heap.size+1∨k=b1) R W1 (fun b o hbo=>by rintro (e|e);(· have:=hR b o hbo;omega);exact hRb b o hbo e) (fun b o hbo=>by have:=hR b o hbo;omega) (fun k hk=>by rcases hk with e|e<;>omega)
   (fun pre A=>I pre A∧A.heap[W.heap.size+1]? =some (.loop (rec .ready none))∧A.heap[W.heap.size]? =some (.deferred (some [])))
   (fun pre A=>Ix pre A∧A.heap[W.heap.size+1]? =some (.loop (rec .done (some .ret)))∧A.heap[W.heap.size]? =some (.deferred (some [])))
   ?hj ?hy p _ c0 c1 c2 c3 W1 bx ((hK1.block _ (d8M.1 hbx).1 id).trans hbx) hN rfl hv1 (bV.refl _ _) ⟨hI1,hL1,hD1⟩).mono ?_
  case hj=>rintro s A B ⟨hi,hl,hd⟩ hk;have hlt:W.heap.size+1<A.heap.size:=(d8M.1 hl).1;exact ⟨hI _ _ _ hi fun k hk'=>hk.block k (by omega) id,(hk.block _ hlt id).trans hl,(hk.block _ (by omega) id).trans hd⟩
  case hy=>
   rintro m pre vq q A hpre hvq hKA ⟨hi,hl,hd⟩;have hlt:W.heap.size+1<A.heap.size:=(d8M.1 hl).1;have hy:=run_yield (P:=Tryz.prog) (args:= #[vq]) hl (by rw [hrec];exact hps.symm);rw [hrec] at hy;refine ⟨fn,_,assign,body,hy,roundIn_of_wpIn hfn ?_⟩
   clear hy
   have hvW:V R W vq (.agg (rG q)):=hvq.step (fun _ _ h=>h) fun b o hbo=>(hK1.cell (hR b o hbo) id).symm
   refine wpIn_mono (hround m (W.heap.size+1) pre q vq A (by omega) hlt hpre hvW (hfin hKA) hi) ?_
   rintro e a1 w1 hq;cases e with
   |normal=>
    obtain ⟨hka,hbody⟩:=hq;have hl1:=(hka.block _ hlt id).trans hl;refine ⟨_,run_beginRound hl1 (by rw [hrec]),?_⟩;have hkb:bV (fun k=>k=W.heap.size+1) w1 (w1.putObj (W.heap.size+1) (.loop { rec .ready none with state:= .busy })):=bV.putObj (X:=fun k=>k=W.heap.size+1) _ rfl _;have hl2:(w1.putObj (W.heap.size+1) (.loop { rec .ready none with state:= .busy })).heap[W.heap.size+1]? =some (.loop { rec .ready none with state:= .busy }):=World.putObj_heap_same (d8M.1 hl1).1
    have hsz:=hka.size;refine wpIn_mono (hbody _ hkb) ?_
    have fin:∀(jump:Option Code) (w3:World),bV (fun k=>k=b1) (w1.putObj (W.heap.size+1) (.loop { rec .ready none with state:= .busy })) w3→
      (Instr.endRound (W.heap.size+1) jump).run Tryz.prog w3= .ok (.bool jump.isNone) (w3.putObj (W.heap.size+1) (.loop (rec (if jump.isNone then .ready else .done) jump)))∧
      (w3.putObj (W.heap.size+1) (.loop (rec (if jump.isNone then .ready else .done) jump))).heap[W.heap.size+1]? =some (.loop (rec (if jump.isNone then .ready else .done) jump))∧
      (w3.putObj (W.heap.size+1) (.loop (rec (if jump.isNone then .ready else .done) jump))).heap[W.heap.size]? =some (.deferred (some []))∧
      bV (fun k=>k=W.heap.size+1∨k=b1) A (w3.putObj (W.heap.size+1) (.loop (rec (if jump.isNone then .ready else .done) jump))):=fun jump w3 hk3=>by
     have hl3:=(hk3.block _ (by simp;omega) (by omega)).trans hl2;have:=run_endRound (P:=Tryz.prog) jump hl3;rw [hrec] at this ⊢;refine ⟨this,World.putObj_heap_same (d8M.1 hl3).1,?_,?_⟩
     ·refine (World.putObj_heap_other (by omega)).trans ((hk3.block _ (by simp;omega) (by omega)).trans ?_);exact (World.putObj_heap_other (by omega)).trans ((hka.block _ (by omega) id).trans hd)
     ·exact (hka.weaken fun _ h=>h.elim).trans ((hkb.weaken fun _ h=> .inl h).trans ((hk3.weaken fun _ h=> .inr h).trans (bV.putObj _ (.inl rfl) _)))
    rintro e a3 w3 hp;cases e with
    |normal=>obtain ⟨hk3,hi3⟩:=hp;obtain ⟨h1,h2,h3,h4⟩:=fin none w3 hk3;exact ⟨_,_,h1,.inl ⟨rfl,⟨hI _ _ _ hi3 fun k hk=>World.putObj_heap_other (by omega),h2,h3⟩,h4⟩⟩
    |ret=>obtain ⟨hk3,hi3⟩:=hp;obtain ⟨h1,h2,h3,h4⟩:=fin (some .ret) w3 hk3;exact ⟨_,_,h1,.inr ⟨rfl,⟨hIx _ _ _ hi3 fun k hk=>World.putObj_heap_other (by omega),h2,h3⟩,h4⟩⟩
    |exit id=>exact hp.elim
    |goto t=>exact hp.elim
    |panic ch=>exact hp.elim
    |outgrown=>exact hp.elim
   |ret=>exact hq.elim
   |exit id=>exact hq.elim
   |goto t=>exact hq.elim
   |panic ch=>exact hq.elim
   |outgrown=>exact hq.elim
  ·rintro e W2 ⟨v,rfl,(⟨⟨hi,hl,hd⟩,hK⟩|⟨pre,hpre,⟨hi,hl,hd⟩,hK⟩)⟩
   ·refine ⟨none,_,by have:=run_endLoop (P:=Tryz.prog) hl (by rw [hrec];simp);rw [hrec] at this;exact this,?_⟩;exact hdone _ _ (d8T _) (hI _ _ _ hi fun k hk=>World.putObj_heap_other (by omega)) (hfin (hK.trans (bV.putObj _ (.inl rfl) _))) ((World.putObj_heap_other (by omega)).trans hd)
   ·refine ⟨some .ret,_,by have:=run_endLoop (P:=Tryz.prog) hl (by rw [hrec];simp);rw [hrec] at this;exact this,?_⟩;exact wpIn_ret (hstop _ pre _ (d8T _) hpre (hIx _ _ _ hi fun k hk=>World.putObj_heap_other (by omega)) (hfin (hK.trans (bV.putObj _ (.inl rfl) _))) ((World.putObj_heap_other (by omega)).trans hd))
theorem a2u {W:World}{b:Nat}{v:Value}{T:TypeId}(h:W.heap[b]? =some (.cells #[v] T (0,0))):W.cell? ⟨b,0,none⟩=some v∧W.frozen? ⟨b,0,none⟩=false:=by unfold World.cell? World.frozen?;rw [h];simp
theorem vU {W:World}{b:Nat}{cs:Array Value}{T:TypeId}(h:W.heap[b]? =some (.cells cs T (0,0)))(j:Nat)(v:Value)(hj:cs[j]? =some v):W.cell? ⟨b,j,none⟩=some v:=by unfold World.cell?;rw [h];simp [hj]
theorem b4E {W:World}{b:Nat}{v:Value}{T:TypeId}(h:W.heap[b]? =some (.cells #[v] T (0,0)))(u:Value):(W.setCell ⟨b,0,none⟩ u).heap[b]? =some (.cells #[u] T (0,0)):=by
 obtain ⟨hlt,hh⟩:=d8M.1 h
 show (W.heap.modify b _)[b]? =_
 rw [d8V (by rw [Array.size_modify];exact hlt),Array.getElem_modify_self,hh];simp
theorem bV.set {X:Nat→Prop}(A:World){b:Nat}(hl:X b)(u:Value):bV X A (A.setCell ⟨b,0,none⟩ u):=⟨rfl,rfl,rfl,by show A.heap.size≤(A.heap.modify _ _).size;rw [Array.size_modify];exact d8T _,fun k _ hx=>Below.heap_setCell A ⟨b,0,none⟩ u k fun e=>hx (by rw [show k=b from e];exact hl)⟩
def a0U (e:Pr→Int):List Pr→Int
 |[]=>0
 |p::r=>if e p=0 then a0U e r else e p
theorem a7O {e:Pr→Int}:∀ {l:List Pr},(∀q∈l,e q=0)→a0U e l=0
 |[],_=>rfl
 |p::r,h=>by rw [a0U,if_pos (h p (by simp))];exact a7O fun q hq=>h q (by simp [hq])
theorem b3a {e:Pr→Int}{p:Pr}:∀ {l r:List Pr},(∀q∈l,e q=0)→e p≠0→a0U e (l++p::r)=e p
 |[],r,_,hp=>by simp [a0U,hp]
 |q::l,r,h,hp=>by rw [List.cons_append,a0U,if_pos (h q (by simp))];exact b3a (fun q hq=>h q (by simp [hq])) hp
def b4F (e:Pr→Int)(p:Pr):Int:=if 400<dM p then 7 else if 40<b0c p then 8 else a0U e (a0T p)
theorem b1L {G:GT}(e:Pr→Int)(p:Pr)(hN:dM p≤1000000)(hNod:CS Tryz.prog G 214 [.agg (rG p)] (.d (.int .i64 (dM p))) none)(hDep:CS Tryz.prog G 215 [.agg (rG p)] (.d (.int .i64 (b0c p))) none)(hnode:∀q∈a0T p,CS Tryz.prog G 217 [.agg (rG q)] (.d (.int .i64 (e q))) none):CS Tryz.prog G 199 [.agg (rG p)] (.d (.int .i64 (b4F e p))) none:=by
 refine CS.c0O fun w R args hg hR hs hv=>?_
 have ha:args= #[args.getD 0 undef]:=by
  obtain ⟨l⟩:=args
  match l,hs with
  |[a],_=>rfl
 have hv0:=hv 0 _ rfl;rw [ha];generalize args.getD 0 undef=v at hv0
 clear hv ha hs args
 obtain ⟨ao,cap,nm,rfl,hk⟩:=c5t hv0;refine (callsIn_wide (n:=10)).1 (callsIn_of_wp_marks Tryz.func199 rfl trivial ?_ rfl);simp only [Tryz.ntmps199,List.size_toArray,List.length_cons,List.length_nil,Nat.reduceAdd,Nat.reduceSub,Array.replicate_succ,Array.replicate_zero,List.push_toArray,List.append_toArray,List.nil_append,List.cons_append];have yJ:∀ {f:FuncId} {z:Int} (m:Nat) (q:Pr) (vq:Value) (W:World),CS Tryz.prog G f [.agg (rG q)] (.d (.int .i64 z)) none→V R w vq (.agg (rG q))→bV NoX w W→
   CallsIn Fence.wide m Tryz.prog f #[vq] W fun e w'=>e= .returned (.int .i64 z)∧bV NoX W w':=fun m q vq W hc hvq hW=>by
  refine d0w hc (R:=R) m (c2G hg hW.size hR fun k hk=>hW.block k hk id) (fun b o hbo=>Nat.lt_of_lt_of_le (hR b o hbo) hW.size) rfl fun i d hd=>?_
  match i,hd with
  |0,hd=>cases hd;exact hvq.step (fun _ _ h=>h) fun b o hbo=>hW.cell (hR b o hbo) id
 gi_wp2
 obtain ⟨W2,hW2⟩:∃W2,(w.alloc (.cells #[.int .i64 p.op,.string nm,.int .i64 p.n,.slice ao p.kids.length cap] 43)).alloc (.cells #[.int .i64 0] 31)=W2:=⟨_,rfl⟩;have hK2:bV NoX w W2:=by rw [← hW2];exact ((bV.refl _ _).alloc _).alloc _
 have hs2:W2.heap.size=w.heap.size+2:=by rw [← hW2];simp
 have hB2:W2.heap[w.heap.size+1]? =some (.cells #[.int .i64 0] 31 (0,0)):=by rw [← hW2];have:=World.alloc_heap_new (w.alloc (.cells #[.int .i64 p.op,.string nm,.int .i64 p.n,.slice ao p.kids.length cap] 43)) (.cells #[.int .i64 0] 31);rwa [World.size_alloc] at this
 have hA2:W2.heap[w.heap.size]? =some (.cells #[.int .i64 p.op,.string nm,.int .i64 p.n,.slice ao p.kids.length cap] 43 (0,0)):=by rw [← hW2];exact (Below.heap_alloc _ _ _ (by simp)).trans (World.alloc_heap_new w _)
 rw [hW2];refine ⟨trivial,(yJ _ p _ _ hNod hv0 hK2).mono ?_⟩;rintro _ W3 ⟨rfl,hK3⟩;have hB3:=(hK3.block _ (by omega) id).trans hB2;have hA3:=(hK3.block _ (by omega) id).trans hA2;have hs3:=hK3.size;obtain ⟨hc3,hf3⟩:=a2u hB3;have q0:=(vU hA3 0 _ rfl);have q1:=(vU hA3 1 _ rfl);have q2:=(vU hA3 2 _ rfl);have q3:=(vU hA3 3 _ rfl);have fin:∀ {W:World} {z:Int} {K:World},K.heap[w.heap.size+1]? =some (.cells #[.int .i64 z] 31 (0,0))→bV NoX w W→z=b4F e p→∃v,Ending.returned (.int .i64 z)= .returned v∧V R W v (.int .i64 (b4F e p))∧Below w.heap.size w W:=fun h hk hz=>⟨_,rfl,hz▸ .int _ _,⟨hk.os,hk.tape,hk.output,hk.size,fun k h'=>hk.block k h' id⟩⟩
 by_cases h1:400<dM p
 ·gi_wp2
  have hS:=b4E hB3 (.int .i64 7);have hc:=(a2u hS).1;exact ⟨_,by simp [results,Tryz.f199,go_sem,hc],fin hS (a2t (((hK2.trans hK3).weaken fun _ h=>h.elim).trans (bV.set (X:=fun k=>k=w.heap.size+1) _ rfl _)) (by intro k hk;omega)) (by simp [b4F,h1])⟩
 ·gi_wp2
  refine ⟨trivial,(yJ _ p _ _ hDep hv0 (hK2.trans hK3)).mono ?_⟩;rintro _ W4 ⟨rfl,hK4⟩;have hs4:=hK4.size;have hB4:=(hK4.block _ (by omega) id).trans hB3;have hA4:=(hK4.block _ (by omega) id).trans hA3;obtain ⟨hc4,hf4⟩:=a2u hB4;have r0:=(vU hA4 0 _ rfl);have r1:=(vU hA4 1 _ rfl);have r2:=(vU hA4 2 _ rfl);have r3:=(vU hA4 3 _ rfl);have hKw4:=(hK2.trans hK3).trans hK4;by_cases h2:40<b0c p
  ·gi_wp2
   have hS:=b4E hB4 (.int .i64 8);have hc:=(a2u hS).1;exact ⟨_,by simp [results,Tryz.f199,go_sem,hc],fin hS (a2t ((hKw4.weaken fun _ h=>h.elim).trans (bV.set (X:=fun k=>k=w.heap.size+1) _ rfl _)) (by intro k hk;omega)) (by simp [b4F,h1,h2])⟩
  ·gi_wp2
   refine ⟨trivial,(c2H _ _ _ _ _ _).mono ?_⟩;rintro _ W5 ⟨rfl,rfl⟩
   gi_wp2
   obtain ⟨W5,hW5⟩:∃W5,W4.alloc (.cells #[.int .i64 p.op,.string nm,.int .i64 p.n,.slice ao p.kids.length cap] 43)=W5:=⟨_,rfl⟩;have hK5:bV NoX W4 W5:=by rw [← hW5];exact (bV.refl _ _).alloc _
   have hB5:=(hK5.block _ (by omega) id).trans hB4;have hA5:W5.heap[W4.heap.size]? =some (.cells #[.int .i64 p.op,.string nm,.int .i64 p.n,.slice ao p.kids.length cap] 43 (0,0)):=by rw [← hW5];exact World.alloc_heap_new _ _
   have hs5:W5.heap.size=W4.heap.size+1:=by rw [← hW5];simp
   have hKw5:=hKw4.trans hK5;rw [hW5];refine c5w 10 (W:=W5) (R:=R) (p:=p) rfl hA5 rfl (hv0.step (fun _ _ h=>h) fun b o hbo=>hKw5.cell (hR b o hbo) id) hN (fun b o hbo=>by have:=hR b o hbo;omega) (w.heap.size+1) (by omega) (fun b o hbo=>by have:=hR b o hbo;omega) (by omega)
    (fun pre A=>A.heap[w.heap.size+1]? =some (.cells #[.int .i64 0] 31 (0,0))∧∀q∈pre,e q=0)
    (fun pre A=>∃pre' q,pre=pre'++[q]∧(∀x∈pre',e x=0)∧e q≠0∧A.heap[w.heap.size+1]? =some (.cells #[.int .i64 (e q)] 31 (0,0)))
    (fun s A B h hk=>⟨(hk _ (by omega)).trans h.1,h.2⟩) (fun s A B ⟨pre',q,h1,h2,h3,h4⟩ hk=>⟨pre',q,h1,h2,h3,(hk _ (by omega)).trans h4⟩) ⟨hB5,by simp⟩ ?hround ?hdone ?hstop
   case hround=>
    rintro m l pre q vq W6 hl hl6 hpre hvq hK6 ⟨hB6,hz⟩;obtain ⟨ao2,cap2,nm2,rfl,_⟩:=c5t hvq;have hqm:q∈a0T p:=hpre.subset (by simp);have hvw:V R w _ (.agg (rG q)):=hvq.step (fun _ _ h=>h) fun b o hbo=>(hKw5.cell (hR b o hbo) id).symm
    gi_wp2
    refine ⟨(bV.refl _ _).alloc _,fun w2 hk2=>?_⟩;have hA7:=(hk2.block W6.heap.size (by simp) (by omega)).trans (World.alloc_heap_new _ _);have hs6:=hK6.size;have hB7:=((hk2.block (w.heap.size+1) (by simp;omega) (by omega)).trans (Below.heap_alloc _ _ _ (by omega))).trans hB6;have hs7:=hk2.size;simp only [World.size_alloc] at hs7;have hKw7:bV NoX w w2:=a2t (X:=fun k=>k=w.heap.size+1∨k=l) ((hKw5.weaken fun _ h=>h.elim).trans ((hK6.weaken fun _ h=> .inl h).trans (((bV.refl _ _).alloc _).trans (hk2.weaken fun _ h=> .inr h)))) (by rintro k (hk|hk)<;>omega);have t0:=(vU hA7 0 _ rfl);have t1:=(vU hA7 1 _ rfl);have t2:=(vU hA7 2 _ rfl);have t3:=(vU hA7 3 _ rfl)
    gi_wp2
    refine ⟨trivial,fun h=>(by cases h),(CallsIn.inRound l (yJ _ q _ _ (hnode q hqm) hvw hKw7)).mono ?_⟩;rintro _ W8 ⟨rfl,hK8⟩;have hB8:=(hK8.block _ (by omega) id).trans hB7;obtain ⟨hc8,hf8⟩:=a2u hB8;by_cases he:e q=0
    ·gi_wp2
     have hall:∀x,x∈pre∨x=q→e x=0:=fun x hx=>hx.elim (hz x) fun hx=>by subst hx;exact he
     first|exact hall|exact ⟨hK8.up,hall⟩|exact ⟨hK8.up,hB8,hall⟩
    ·gi_wp2
     have hS:=b4E hB8 (.int .i64 (e q));exact ⟨hK8.up.trans (bV.set (X:=fun k=>k=w.heap.size+1) _ rfl _),pre,q,⟨rfl,rfl⟩,hz,he,hS⟩
   case hdone=>
    rintro D W' hD ⟨hB',hz⟩ hK' hD';obtain ⟨hc',hf'⟩:=a2u hB'
    gi_wp2
    have hS:=b4E hB' (.int .i64 0);have hDs:=((bV.set (X:=fun k=>k=w.heap.size+1) W' rfl (.int .i64 0)).block D (d8M.1 hD').1 (by omega)).trans hD';refine ⟨by simp,.inl ⟨_,_,rfl,run_takeDeferred hDs,?_⟩⟩;have hS2:=(World.putObj_heap_other (r:=D) (o:= .deferred none) (show w.heap.size+1≠D by omega)).trans hS;have hc:=(a2u hS2).1;exact ⟨_,by simp [results,Tryz.f199,go_sem,hc],fin hS2 (a2t (X:=fun k=>k=w.heap.size+1∨k=D) ((hKw5.weaken fun _ h=>h.elim).trans ((hK'.weaken fun _ h=> .inl h).trans ((bV.set (X:=fun k=>k=w.heap.size+1∨k=D) _ (.inl rfl) _).trans (bV.putObj _ (.inr rfl) _)))) (by rintro k (hk|hk)<;>omega)) (by simp [b4F,h1,h2,a7O hz])⟩
   case hstop=>
    rintro D pre W' hD hpre ⟨pre',q,rfl,hz,hq,hB'⟩ hK' hD'
    gi_wp2
    refine ⟨by simp,.inl ⟨_,_,rfl,run_takeDeferred hD',?_⟩⟩;have hS2:=(World.putObj_heap_other (r:=D) (o:= .deferred none) (show w.heap.size+1≠D by omega)).trans hB';have hc:=(a2u hS2).1;have hfe:a0U e (a0T p)=e q:=by obtain ⟨r,hr⟩:=hpre;rw [← hr,List.append_assoc];exact b3a hz hq
    exact ⟨_,by simp [results,Tryz.f199,go_sem,hc],fin hS2 (a2t (X:=fun k=>k=w.heap.size+1∨k=D) ((hKw5.weaken fun _ h=>h.elim).trans ((hK'.weaken fun _ h=> .inl h).trans (bV.putObj _ (.inr rfl) _))) (by rintro k (hk|hk)<;>omega)) (by simp [b4F,h1,h2,hfe])⟩
end Go.Proofs.YtjpodcmhcenjjaaGreatDoor
end
section
namespace Go.Proofs.YtjpodcmhcenjjaaGreatDoor
open Go Go.VM
variable {G:GT}
def a8c (op:Int):Bool:=decide (op=3)||(decide (op=4)||decide (op=5))
def rY (op:Int):Int:=if op=1∨op=2∨op=3 then 0 else if op=4∨op=5 then 1 else if op=9∨op=14 then 1 else 2
def yZ (op:Int):Int:=if op=1∨op=2∨op=3 then 0 else if op=4∨op=5 then 24 else if op=9∨op=14 then 1 else 2
def c1e (l:List Pr):Int:=match l with
 |[]=>1
 |k::_=>k.op
def a7P (op:Int)(nm:Nm):Bool:=(decide (op=3)&&decide (nm=[118]))||(decide (op=4)&&(decide (nm=[116,97,103])||decide (nm=[118,97,108])))
def a4z (op:Int)(nm:Nm)(n:Int)(len:Int):Bool:=(!a8c op&& !decide (nm=[]))||(!decide (op=1)&& !decide (op=2)&& !decide (n=0))||decide (len<rY op)||decide (yZ op<len)
def a0V (op n:Int):Bool:=(decide (op=1)&& !inB n)||(decide (op=2)&& !decide (n=0)&& !decide (n=1))
def b3b (p:Pr):Int:=
 if p.op<1∨18<p.op then 1
 else if a4z p.op p.name p.n p.kids.length then 1
 else if a0V p.op p.n then 2
 else if a8c p.op&& !a0a p.name&& !a7P p.op p.name then 3
 else if p.op=8∧c1e p.kids≠1 then 6
 else 0
theorem oF:VM.Enters Tryz.prog 240:=VM.Enters.mk Tryz.func240 rfl
theorem pG (op:Int):CS Tryz.prog G 240 [.int .i64 op] (.d (.bool (a8c op))) none:=by
 refine CS.bH Tryz.func240 rfl Tryz.ntmps240 rfl ?_
 by_cases h3:op=3
 ·simp [h3,a8c]
 ·by_cases h4:op=4
  ·simp [h4,a8c]
  ·simp [h3,h4,a8c]
theorem b1M:VM.Enters Tryz.prog 239:=VM.Enters.mk Tryz.func239 rfl
theorem b4G (op:Int):CS Tryz.prog G 239 [.int .i64 op] (.cT [.int .i64 (rY op),.int .i64 (yZ op)]) none:=by
 refine CS.bH Tryz.func239 rfl Tryz.ntmps239 rfl ?_
 by_cases h1:op=1
 ·simp [h1,rY,yZ]
 by_cases h2:op=2
 ·simp [h2,rY,yZ]
 by_cases h3:op=3
 ·simp [h3,rY,yZ]
 by_cases h4:op=4
 ·simp [h4,rY,yZ]
 by_cases h5:op=5
 ·simp [h5,rY,yZ]
 by_cases h9:op=9
 ·simp [h9,rY,yZ]
 by_cases h14:op=14
 ·simp [h14,rY,yZ]
 ·simp [h1,h2,h3,h4,h5,h9,h14,rY,yZ]
theorem c2I {op:Int}(h:a8c op=true):op=3∨op=4∨op=5:=by simpa [a8c] using h
theorem c2J {op:Int}(h:a8c op=false): ¬op=3∧ ¬op=4∧ ¬op=5:=by simpa [a8c] using h
theorem b4H (hG:G 1=some eB)(p:Pr)(hlen:p.kids.length≤900000000):CS Tryz.prog G 217 [.agg (prD p)] (.d (.int .i64 (b3b p))) none:=by
 obtain ⟨op,nm,n,l⟩:=p;simp only at hlen;have hm:b3b ⟨op,nm,n,l⟩=if op<1∨18<op then 1 else if a4z op nm n l.length then 1 else if a0V op n then 2 else if a8c op&& !a0a nm&& !a7P op nm then 3 else if op=8∧c1e l≠1 then 6 else 0:=rfl
 refine CS.bH Tryz.func217 rfl Tryz.ntmps217 rfl ?_
 by_cases a1:op<1
 ·simp [a1] at hm;simp [a1,hm]
 by_cases a2:18<op
 ·simp [a2] at hm;simp [a1,a2,hm]
 rw [if_neg (by omega)] at hm;simp [a1,a2];refine aI.mk b1M (b4G op) ?_
 simp;refine aI.mk oF (pG op) ?_
 cases hn:a8c op
 ·obtain ⟨n3,n4,n5⟩:=c2J hn;by_cases b1:nm=[];rotate_left
  ·have b1':nm.isEmpty=false:=by cases nm<;>simp at b1 ⊢
   simp [a4z,hn,b1] at hm;simp (maxSteps:=4000000) [hn,b1,b1',hm]
  subst b1;by_cases o1:op=1
  ·subst o1;have el:rY 1=0:=rfl;have em:yZ 1=0:=rfl;by_cases k0:l=[];rotate_left
   ·have kl:0<l.length:=List.length_pos_iff.2 k0;have kl': ¬((l.length:Int)<0):=by omega
    simp [a4z,hn,el,em,kl,kl'] at hm;simp (maxSteps:=4000000) [hn,el,em,kl,kl',hm]
   subst k0;simp [a4z,hn,el,em] at hm;simp (maxSteps:=4000000) [hn,el,em];refine aI.mk b6E (c0Q n) ?_
   cases hi:inB n
   ·simp [a0V,hi] at hm;simp [hm]
   ·simp [a0V,hi] at hm;simp;refine aI.mk oF (pG 1) ?_
    simp (maxSteps:=4000000) [hn,hm]
  by_cases o2:op=2
  ·subst o2;have el:rY 2=0:=rfl;have em:yZ 2=0:=rfl;by_cases k0:l=[];rotate_left
   ·have kl:0<l.length:=List.length_pos_iff.2 k0;have kl': ¬((l.length:Int)<0):=by omega
    simp [a4z,hn,el,em,kl,kl'] at hm;simp (maxSteps:=4000000) [hn,el,em,kl,kl',hm]
   subst k0;simp [a4z,hn,el,em] at hm;by_cases c0:n=0
   ·simp [a0V,c0] at hm;simp (maxSteps:=4000000) [hn,el,em,c0];refine aI.mk oF (pG 2) ?_
    simp (maxSteps:=4000000) [hn,hm]
   ·by_cases c1:n=1
    ·simp [a0V,c1] at hm;simp (maxSteps:=4000000) [hn,el,em,c1];refine aI.mk oF (pG 2) ?_
     simp (maxSteps:=4000000) [hn,hm]
    ·simp [a0V,c0,c1] at hm;simp (maxSteps:=4000000) [hn,el,em,c0,c1,hm]
  by_cases c0:n=0;rotate_left
  ·simp [a4z,hn,o1,o2,c0] at hm;simp (maxSteps:=4000000) [hn,o1,o2,c0,hm]
  subst c0;by_cases d1:(l.length:Int)<rY op
  ·simp [a4z,hn,d1] at hm;simp (maxSteps:=4000000) [hn,o1,o2,d1,hm]
  by_cases d2:yZ op<(l.length:Int)
  ·simp [a4z,hn,d1,d2] at hm;simp (maxSteps:=4000000) [hn,o1,o2,d1,d2,hm]
  simp [a4z,a0V,hn,o1,o2,d1,d2] at hm;simp (maxSteps:=4000000) [hn,o1,o2,d1,d2];refine aI.mk oF (pG op) ?_
  by_cases o8:op=8
  ·subst o8;have el:rY 8=2:=rfl
   match l,d1 with
   |[],d1=>exact absurd (by rw [el];simp) d1
   |k::r,d1=>
    by_cases e1:k.op=1
    ·simp [c1e,e1] at hm;simp (maxSteps:=4000000) [hn,e1,hm]
    ·simp [c1e,e1] at hm;simp (maxSteps:=4000000) [hn,e1,hm]
  ·simp [o8] at hm;simp (maxSteps:=4000000) [hn,o8,hm]
 ·have ho:=c2I hn;have o1: ¬op=1:=by omega
  have o2: ¬op=2:=by omega
  have o8: ¬op=8:=by omega
  by_cases c0:n=0;rotate_left
  ·simp [a4z,hn,o1,o2,c0] at hm;simp (maxSteps:=4000000) [hn,o1,o2,c0,hm]
  subst c0;by_cases d1:(l.length:Int)<rY op
  ·simp [a4z,hn,d1] at hm;simp (maxSteps:=4000000) [hn,o1,o2,d1,hm]
  by_cases d2:yZ op<(l.length:Int)
  ·simp [a4z,hn,d1,d2] at hm;simp (maxSteps:=4000000) [hn,o1,o2,d1,d2,hm]
  simp [a4z,a0V,hn,o1,o2,o8,d1,d2] at hm;simp (maxSteps:=4000000) [hn,o1,o2,d1,d2];refine aI.mk oF (pG op) ?_
  simp [hn];refine aI.mk b9e (c2k hG nm) ?_
  cases hc:a0a nm;rotate_left
  ·simp [hc] at hm;simp [a8y,o8,hm]
  simp [hc] at hm;simp [a8y];by_cases o3:op=3
  ·subst o3;by_cases v1:nm=[118]
   ·simp [a7P,v1] at hm;simp [v1,hm]
   ·simp [a7P,v1] at hm;simp [v1,hm]
  by_cases o4:op=4
  ·subst o4;by_cases v1:nm=[116,97,103]
   ·simp [a7P,v1] at hm;simp [v1,hm]
   ·by_cases v2:nm=[118,97,108]
    ·simp [a7P,v2] at hm;simp [v2,hm]
    ·simp [a7P,v1,v2] at hm;simp [v1,v2,hm]
  ·simp [a7P,o3,o4] at hm;simp [o3,o4,hm]
theorem b0f:VM.Enters Tryz.prog 214:=VM.Enters.mk Tryz.func214 rfl
theorem b1N (p:Pr):dM p≤900000000→CS Tryz.prog G 214 [.agg (prD p)] (.d (.int .i64 (dM p))) none:=by
 revert p
 refine Pr.ind fun p ih=>?_
 obtain ⟨op,nm,n,l⟩:=p;intro hN;simp only at ih;have hn:=qS ⟨op,nm,n,l⟩;simp only at hn;have hl:=kE l;refine CS.bH Tryz.func214 rfl Tryz.ntmps214 rfl ?_
 simp;refine SW.kJ (ι:={ i:Nat // i≤l.length }) (fun i=>[(3,.d (.int .i64 (1+eM (l.take i.1):Nat))),(9,.d (.int .i64 i.1))]) (fun _=>[(1,prO op nm n (.sl (l.map rG)))]) (fun _=>[]) (fun i=>l.length-i.1) ⟨0,by simp⟩ (by simp [eM]) ?_
 rintro ⟨i,hi⟩;by_cases hlt:i<l.length
 ·have hg:=wF hlt;have hw:=bP (show i<9223372036854775807 by omega);have hb2:=rU hlt;have hb3:=kK l (i+1);have hw2:IntKind.i64.wrap (((1+eM (l.take i):Nat):Int)+(dM l[i]:Int))=((1+eM (l.take (i+1)):Nat):Int):=by rw [wrap64 (by omega),hb2];omega
  simp [hlt,hg];refine aI.mk b0f (ih l[i] (List.getElem_mem hlt) (by omega)) ?_
  simp;exact bR.mk ⟨i+1,hlt⟩ (by simp at hw2;simp [hw,hw2]) (by simp;omega)
 ·have:i=l.length:=by omega
  subst this;simp [hn]
theorem b0g:VM.Enters Tryz.prog 215:=VM.Enters.mk Tryz.func215 rfl
theorem b1O (p:Pr):dM p≤900000000→CS Tryz.prog G 215 [.agg (prD p)] (.d (.int .i64 (b0c p))) none:=by
 revert p
 refine Pr.ind fun p ih=>?_
 obtain ⟨op,nm,n,l⟩:=p;intro hN;simp only at ih;have hn:=qS ⟨op,nm,n,l⟩;have hd:=c1d ⟨op,nm,n,l⟩;simp only at hn hd;have hl:=kE l;have hle:=a5I l 0;refine CS.bH Tryz.func215 rfl Tryz.ntmps215 rfl ?_
 simp;refine SW.kJ (ι:={ i:Nat // i≤l.length }) (fun i=>[(3,.d (.int .i64 (rE (l.take i.1) 0))),(9,.d (.int .i64 i.1))]) (fun _=>[(1,prO op nm n (.sl (l.map rG)))]) (fun _=>[]) (fun i=>l.length-i.1) ⟨0,by simp⟩ (by simp [rE]) ?_
 rintro ⟨i,hi⟩;by_cases hlt:i<l.length
 ·have hg:=wF hlt;have hw:=bP (show i<9223372036854775807 by omega);have hs:=b0d hlt 0;have hb2:=rU hlt;have hb3:=kK l (i+1);simp [hlt,hg];refine aI.mk b0g (ih l[i] (List.getElem_mem hlt) (by omega)) ?_
  simp;exact bR.mk ⟨i+1,hlt⟩ (by simp [hw,hs];split<;>omega) (by simp;omega)
 ·have:i=l.length:=by omega
  subst this;have hw:IntKind.i64.wrap ((rE l 0:Int)+1)=((rE l 0+1:Nat):Int):=bP (by omega);simp [hw,hd]
mutual
theorem b7j:∀(p q:Pr),q∈a0T p→dM q≤dM p
 |⟨op,nm,n,l⟩,q,h=>by
  simp only [a0T,List.mem_cons] at h;rcases h with rfl|h
  ·exact d8T _
  ·have:=b3c l q h;simp only [dM];omega
theorem b3c:∀(l:List Pr) (q:Pr),q∈oE l→dM q≤eM l
 |[],q,h=>by simp [oE] at h
 |t::r,q,h=>by
  simp only [oE,List.mem_append] at h;simp only [eM];rcases h with h|h
  ·have:=b7j t q h;omega
  ·have:=b3c r q h;omega
end
def a6C (p:Pr):Int:=b4F b3b p
theorem b0h:VM.Enters Tryz.prog 199:=VM.Enters.mk Tryz.func199 rfl
theorem b1P (hG:G 1=some eB)(p:Pr)(hN:dM p≤1000000):CS Tryz.prog G 199 [.agg (prD p)] (.d (.int .i64 (a6C p))) none:=by
 have h:=b1L (G:=G) b3b p hN (by have:=b1N (G:=G) p (by omega);rwa [gF]) (by have:=b1O (G:=G) p (by omega);rwa [gF]) (fun q hq=>by
  have h1:=b7j p q hq;have h2:=qS q;have h3:=kE q.kids;have:=b4H hG q (by omega)
  rwa [gF])
 rwa [gF] at h
end Go.Proofs.YtjpodcmhcenjjaaGreatDoor
end
end
namespace Go.Proofs.YtjpodcmhcenjjaaGreatDoor
section
open Go Go.VM
variable {G:GT}
def b1Q (p:Pr)(s:Pr×Bool):Option (Pr×Bool):=if a3S p then some s else if a3u p (a2s false) then none else if s.2 then some (⟨15,[],0,[s.1,p]⟩,true) else some (p,true)
def b0i:List Pr→Pr×Bool→Pr
 |[],s=>s.1
 |p::r,s=>match b1Q p s with
  |none=>a2s false
  |some s=>b0i r s
def bF (a b:Pr):Pr:=b0i [a,b] (a2s true,false)
theorem b4I:VM.Enters Tryz.prog 129:=VM.Enters.mk Tryz.func129 rfl
theorem b0j (b:Bool):dM (a2s b)=1:=by cases b<;>simp [a2s,b9C,d0t,dM,eM]
theorem c5x (op:Int)(a b:Pr):dM ⟨op,[],0,[a,b]⟩=dM a+dM b+1:=by simp [dM,eM];omega
theorem b7k (L:List Pr)(hL:∀p∈L,dM p≤1000000)(hl:L.length≤1000):CS Tryz.prog G 129 [.sl (L.map rG)] (.d (.agg (prD (b0i L (a2s true,false))))) none:=by
 generalize hR:b0i L (a2s true,false)=R;refine CS.bH Tryz.func129 rfl Tryz.ntmps129 rfl ?_
 simp;refine aI.mk pT (qX true) ?_
 simp;refine SW.kJ (ι:={ x:Nat×Pr×Bool // x.1≤L.length∧b0i (L.drop x.1) x.2=R }) (fun x=>[(4,.d (.bool x.1.2.2)),(10,.d (.int .i64 x.1.1))]) (fun x=>[(2,.cells [.d (.int .i64 0),.d (.str []),.d (.int .i64 0),.d .aN]),(3,.cells ((prD x.1.2.1).map .d))]) (fun _=>[]) (fun x=>L.length-x.1.1) ⟨(0,a2s true,false),by simpa using hR⟩ (by simp) ?_
 rintro ⟨⟨k,out,some⟩,hk,hp⟩;simp only at hk hp;by_cases hlt:k<L.length
 ·have hg:(L.map rG)[k]? = .some (rG L[k]):=by simp [hlt]
  have hw:=bP (show k<9223372036854775807 by omega);have hd:L.drop k=L[k]::L.drop (k+1):=d8Q hlt;have hb:=hL L[k] (List.getElem_mem hlt);rw [hd] at hp;obtain ⟨p,hP⟩:∃p,L[k]=p:=⟨_,rfl⟩;rw [hP] at hg hd hb hp;have hv:=b4C (G:=G) p (by omega);have hs:=wK (G:=G) p (a2s false) (by omega);have hc:=b0e (G:=G) p (by omega);simp only [b0i,b1Q] at hp;simp [hlt,hP];refine aI.mk b1K hv ?_
  cases h1:a3S p with
  |true=>rw [h1] at hp;simp;exact bR.mk ⟨(k+1,out,some),hlt,by simpa using hp⟩ (by simp [hw]) (by simp;omega)
  |false=>
   rw [h1] at hp;simp;refine ⟨mK.mk (by kernel_rfl),?_⟩;refine aI.mk pT (qX false) ?_
   simp;refine aI.mk rN hs ?_
   cases h2:a3u p (a2s false) with
   |true=>
    rw [h2] at hp;simp at hp;simp;refine aI.mk pT (qX false) ?_
    simp [← hp]
   |false=>
    rw [h2] at hp;cases some with
    |true=>
     simp;refine ⟨mK.mk (by kernel_rfl),?_⟩;refine aI.mk vT hc ?_
     simp;exact bR.mk ⟨(k+1,⟨15,[],0,[out,p]⟩,true),hlt,by simpa using hp⟩ (by simp [hw]) (by simp;omega)
    |false=>
     simp;refine aI.mk vT hc ?_
     simp;exact bR.mk ⟨(k+1,p,true),hlt,by simpa using hp⟩ (by simp [hw]) (by simp;omega)
 ·have hd:L.drop k=[]:=List.drop_eq_nil_of_le (by omega);rw [hd] at hp;simp only [b0i] at hp;simp [hlt, ← hp]
end
section
open Go Go.VM
variable {G:GT}
abbrev a8d:Ty→DV:=fun t=> .d (.agg (tyD t))
abbrev d7G:Option Ty→DV:=fun o=> .cT [.agg (tyD (o.getD pC)),.bool o.isSome]
theorem a7Q:VM.Enters Tryz.prog 74:=VM.Enters.mk Tryz.func74 rfl
theorem a8e:VM.Enters Tryz.prog 123:=VM.Enters.mk Tryz.func123 rfl
theorem a2v:VM.Enters Tryz.prog 77:=VM.Enters.mk Tryz.func77 rfl
theorem cU:VM.Enters Tryz.prog 39:=VM.Enters.mk Tryz.func39 rfl
theorem a5K:VM.Enters Tryz.prog 124:=VM.Enters.mk Tryz.func124 rfl
section
variable {rdP:List Tok→Nat→Nat→mH Pr} {l:List Tok} (hV:mO G rdP l)
include hV
theorem b0k (i:Nat)(hi:i<l.length):pS G 74 [] l i (jK bA l i) d7G:=by
 have hl:=hV.len;have ht:=cO (G:=G) l i i 0 (by omega) (by omega) (by intro e;subst e;simp at hi) (by omega);obtain ⟨j0,rfl⟩:∃j0,j0=i:=⟨_,rfl⟩;have p0:j0≤j0∧j0<l.length:=⟨d8T _,hi⟩;refine kM.dB Tryz.func74 rfl Tryz.ntmps74 rfl (by simp) ?_
 intro Q Q0;simp;cases h1:aJ l j0 [73,110,116] with
 |true=>
  refine bI (ds:=[.str [73,110,116]]) (d:= .d (.bool true)) aE (aV l j0 [73,110,116] p0.2 (by omega) h1) (by simp) (by simp) ?_
  have p1:j0+1≤j0+1∧j0+1<l.length:=⟨d8T _,aF hV.fin p0.2 h1⟩;simp;exact Q0.ok _ (j0+1) _ _ (by unfold jK;rw [if_pos h1]) (.inr rfl) (by simp [psT,mD])
 |false=>
 refine bI (ds:=[.str [73,110,116]]) (d:= .d (.bool false)) aE (aW l j0 [73,110,116] p0.2 (by omega) h1) (by simp) (by simp) ?_
 simp;cases h2:aJ l j0 [66,111,111,108] with
 |true=>
  refine bI (ds:=[.str [66,111,111,108]]) (d:= .d (.bool true)) aE (aV l j0 [66,111,111,108] p0.2 (by omega) h2) (by simp) (by simp) ?_
  have p1:j0+1≤j0+1∧j0+1<l.length:=⟨d8T _,aF hV.fin p0.2 h2⟩;simp;exact Q0.ok _ (j0+1) _ _ (by unfold jK;rw [if_neg (by rw [h1];decide),if_pos h2]) (.inr rfl) (by simp [psT,mD])
 |false=>
 refine bI (ds:=[.str [66,111,111,108]]) (d:= .d (.bool false)) aE (aW l j0 [66,111,111,108] p0.2 (by omega) h2) (by simp) (by simp) ?_
 simp;cases h3:aJ l j0 [67,101,108,108] with
 |true=>
  refine bI (ds:=[.str [67,101,108,108]]) (d:= .d (.bool true)) aE (aV l j0 [67,101,108,108] p0.2 (by omega) h3) (by simp) (by simp) ?_
  have p1:j0+1≤j0+1∧j0+1<l.length:=⟨d8T _,aF hV.fin p0.2 h3⟩;simp;exact Q0.ok _ (j0+1) _ _ (by unfold jK;rw [if_neg (by rw [h1];decide),if_neg (by rw [h2];decide),if_pos h3]) (.inr rfl) (by simp [psT,mD])
 |false=>
 refine bI (ds:=[.str [67,101,108,108]]) (d:= .d (.bool false)) aE (aW l j0 [67,101,108,108] p0.2 (by omega) h3) (by simp) (by simp) ?_
 simp;refine bI (ds:=[.int .i64 0]) bS ht (by simp) (by simp) ?_
 simp;refine mB.mk jL (kL hV.kw (aK l j0)) ?_
 cases h4:jJ bA (aK l j0) with
 |true=>simp;refine cJ (ds:=[]) cX (dO hV.kw l j0 hi (by omega)) (by simp) (by simp) (fun s j hx=>?_) (fun n e hx=>by unfold bN mE at hx;rw [if_pos h4] at hx;cases hx);unfold bN mE at hx;rw [if_pos h4] at hx;cases hx;simp;exact Q0.ok _ (j0+1) _ _ (by unfold jK;rw [if_neg (by rw [h1];decide),if_neg (by rw [h2];decide),if_neg (by rw [h3];decide),if_pos h4]) (.inr rfl) (by simp [psT,mD])
 |false=>simp;exact Q0.ok none j0 _ _ (by unfold jK;rw [if_neg (by rw [h1];decide),if_neg (by rw [h2];decide),if_neg (by rw [h3];decide),if_neg (by rw [h4];decide)]) (.inr rfl) (by simp [pC,mD])
theorem b0l (i:Nat)(hi:i<l.length):CH Tryz.prog G 123 ⟨[.ptr 100000 0],rH l i,[]⟩ ⟨[.d (.bool (a9F bA l i))],rH l i,[]⟩:=by
 have hl:=hV.len;have ht:=cO (G:=G) l i i 0 (by omega) (by omega) (by intro e;subst e;simp at hi) (by omega);have hb:=jB (G:=G) l i [123] hi (by omega);have hc:=jB (G:=G) l i [40] hi (by omega);have hw:=kL hV.kw (aK l i);unfold a9F;refine CH.bH Tryz.func123 rfl Tryz.ntmps123 rfl (by simp) ?_
 simp;refine b4y (i:=i) (ds:=[.int .i64 0]) bS ht (by simp) (by simp) (by simp) ?_
 generalize aK l i=T at ht hw ⊢;obtain ⟨k,x,n,ln⟩:=T;simp [cR];refine aI.mk jL hw ?_
 cases h1:jJ bA ⟨k,x,n,ln⟩ with
 |true=>simp
 |false=>
  by_cases h2:k=2
  ·simp [h2,kT]
  ·simp [h2,kT];refine b4y (i:=i) (ds:=[.str [123]]) gA hb (by simp) (by simp) (by simp) ?_
   cases h3:aJ l i [123] with
   |true=>simp
   |false=>
    simp;refine b4y (i:=i) (ds:=[.str [40]]) gA hc (by simp) (by simp) (by simp) ?_
    simp
def TyI (t:Ty)(i j:Nat):Prop:=(t.pred.op=0→t.pred=a6A)∧dM t.pred+i≤j+1
section
variable {ty:aR Ty} {low:Nat} (hty:∀i,low≤i→i<l.length→pS G 39 [] l i (ty i) a8d) (aty:aA l 0 ty) (ity:∀i t j,i<l.length→ty i= .ok t j→TyI t i j)
include hty aty ity
theorem a3T (i:Nat)(hlow:low≤i+1)(hi:i<l.length):pS G 77 [] l i (oB bF rdP l ty i) a8d:=by
 have hl:=hV.len;obtain ⟨j0,rfl⟩:∃j0,j0=i:=⟨_,rfl⟩;have p0:j0≤j0∧j0<l.length:=⟨d8T _,hi⟩;refine kM.dB Tryz.func77 rfl Tryz.ntmps77 rfl (by simp) ?_
 intro Q Q0;unfold oB at Q0;simp;refine cJ (ds:=[.sl (strs [[123],[118],[58]])]) aG (aH l [[123],[118],[58]] j0 p0.2 (by omega) hV.fin (by simp)) (by simp [strs]) (by simp) (fun u1 j1 x1=>?_) (fun n e hx=>by first|exact Q0.fail hx _|(simp;exact Q0.fail hx _)|(simp;exact fun s=>Q0.fail hx s));have Q1:=Q0.step x1;have p1:=aA.exp hV.fin _ _ j0 u1 j1 p0.2 x1;simp;refine cJ cU ((hty j1 (by omega) p1.2)) (by simp) (by simp) (fun t j2 x2=>?_) (fun n e hx=>by first|exact Q1.fail hx _|(simp;exact Q1.fail hx _)|(simp;exact fun s=>Q1.fail hx s));have Q2:=Q1.step x2;have p2:=aty j1 t j2 p1.2 x2;have it:=ity j1 t j2 p1.2 x2;obtain ⟨op,nm,args,ns,p,ps⟩:=t;simp only at Q2;simp;by_cases h6:op=6
 ·rw [if_pos h6] at Q2;simp [h6];refine cJ (ds:=[]) sK (uB (α:=Ty) l j2 p2.2 (by omega) fun _=> .cT []) (by simp) (by simp) (fun a j hx=>by unfold cH at hx;cases hx) (fun n e hx=>Q2.bad n e _ hx)
 rw [if_neg h6] at Q2;simp [h6];refine cJ (ds:=[.sl (strs [[124]])]) aG (aH l [[124]] j2 p2.2 (by omega) hV.fin (by simp)) (by simp [strs]) (by simp) (fun u3 j3 x3=>?_) (fun n e hx=>by first|exact Q2.fail hx _|(simp;exact Q2.fail hx _)|(simp;exact fun s=>Q2.fail hx s));have Q3:=Q2.step x3;have p3:=aA.exp hV.fin _ _ j2 u3 j3 p2.2 x3;simp;refine cJ oL (qF hV j3 p3.2) (by simp) (by simp) (fun q j4 x4=>?_) (fun n e hx=>by first|exact Q3.fail hx _|(simp;exact Q3.fail hx _)|(simp;exact fun s=>Q3.fail hx s));have Q4:=Q3.step x4;have p4:=hV.pU.pred j3 q j4 p3.2 x4;simp;refine cJ (ds:=[.sl (strs [[125]])]) aG (aH l [[125]] j4 p4.2 (by omega) hV.fin (by simp)) (by simp [strs]) (by simp) (fun u5 j5 x5=>?_) (fun n e hx=>by first|exact Q4.fail hx _|(simp;exact Q4.fail hx _)|(simp;exact fun s=>Q4.fail hx s));have Q5:=Q4.step x5;have p5:=aA.exp hV.fin _ _ j4 u5 j5 p4.2 x5;simp;have hq:=hV.nod _ _ _ _ p3.2 x4;have hs:=wK (G:=G) p a6A (by have:=it.2;simp only at this;omega);refine mB.mk rN (CS.args hs (by simp [a6A])) ?_
 rw [b7i];have h0:=it.1;simp only at h0;by_cases hz:p=a6A
 ·subst hz;simp;exact Q5.ok _ j5 _ _ rfl (.inr rfl) (by simp [a6A])
 ·have hop: ¬p.op=0:=fun e=>hz (h0 e)
  have ha:=b7k (G:=G) [p,q] (by intro x hx;have h1:=it.2;simp only at h1;simp only [List.mem_cons,List.not_mem_nil,or_false] at hx;rcases hx with rfl|rfl<;>omega) (by simp)
  simp [hz];refine mB.mk b4I (by simpa using ha) ?_
  simp;exact Q5.ok _ j5 _ _ rfl (.inr rfl) (by simp [hop,bF])
theorem a7R (i:Nat)(hlow:low≤i+1)(hi:i<l.length):pS G 124 [] l i (dZ bA bF rdP l ty i) a8d:=by
 have hl:=hV.len;obtain ⟨j0,rfl⟩:∃j0,j0=i:=⟨_,rfl⟩;have p0:j0≤j0∧j0<l.length:=⟨d8T _,hi⟩;have ht:=cO (G:=G) l j0 j0 0 (by omega) (by omega) (by intro e;subst e;simp at hi) (by omega);refine kM.dB Tryz.func124 rfl Tryz.ntmps124 rfl (by simp) ?_
 intro Q Q0;unfold dZ at Q0;simp;refine cJ a7Q (b0k hV j0 hi) (by simp) (by simp) (fun o j1 x1=>?_) (fun n e hx=>by first|exact Q0.fail hx _|(simp;exact Q0.fail hx _)|(simp;exact fun s=>Q0.fail hx s));have Q1:=Q0.step x1;have p1:=aA.base hV.fin j0 o j1 p0.2 x1;cases o with
 |some t=>obtain ⟨op,nm,args,ns,p,ps⟩:=t;simp;exact Q1.ok _ j1 _ _ rfl (.inr rfl) (by simp)
 |none=>
 have hj:=sI x1;subst hj;simp only at Q1;simp [pC,mD];refine bI (ds:=[.int .i64 0]) bS ht (by simp) (by simp) ?_
 cases hti:kT (aK l j1) with
 |true=>
  rw [hti,if_pos rfl] at Q1;have hk:(aK l j1).kind=2:=by simpa [kT] using hti
  have htt:=jM (G:=G) l j1 p1.2 (by omega);have hx:eV l j1= .ok (aK l j1).text (j1+1):=by unfold eV mE;rw [if_pos hti]
  generalize aK l j1=T at Q1 hk hx ⊢;obtain ⟨k,x,n,ln⟩:=T;simp only at hk;subst hk;simp [cR];refine cJ (ds:=[]) gW htt (by simp) (by simp) (fun s j h=>?_) (fun n e h=>by rw [hx] at h;cases h);rw [hx] at h;cases h;simp;exact Q1.ok _ (j1+1) _ _ rfl (.inr rfl) (by simp [psT,mD])
 |false=>
  rw [hti,if_neg (by decide)] at Q1;have hk: ¬(aK l j1).kind=2:=by simpa [kT] using hti
  generalize aK l j1=T at hk ⊢;obtain ⟨k,x,n,ln⟩:=T;simp only at hk;simp [cR,hk];have hb:=jB (G:=G) l j1 [123] p1.2 (by omega);refine bI (ds:=[.str [123]]) gA hb (by simp) (by simp) ?_
  cases hs:aJ l j1 [123] with
  |true=>rw [hs,if_pos rfl] at Q1;simp;refine cJ (ds:=[]) a2v (a3T hV hty aty ity j1 hlow p1.2) (by simp) (by simp) (fun t j h=>?_) (fun n e h=>Q1.bad n e _ h);simp;exact Q1.ok t j _ _ h (.inr rfl) (by simp)
  |false=>rw [hs,if_neg (by decide)] at Q1;simp;refine cJ (ds:=[.sl (strs [[40]])]) aG (aH l [[40]] j1 p1.2 (by omega) hV.fin (by simp)) (by simp [strs]) (by simp) (fun u2 j2 x2=>?_) (fun n e hx=>by first|exact Q1.fail hx _|(simp;exact Q1.fail hx _)|(simp;exact fun s=>Q1.fail hx s));have Q2:=Q1.step x2;have p2:=aA.exp hV.fin _ _ j1 u2 j2 p1.2 x2;simp;refine cJ cU ((hty j2 (by omega) p2.2)) (by simp) (by simp) (fun t j3 x3=>?_) (fun n e hx=>by first|exact Q2.fail hx _|(simp;exact Q2.fail hx _)|(simp;exact fun s=>Q2.fail hx s));have Q3:=Q2.step x3;have p3:=aty j2 t j3 p2.2 x3;simp;refine cJ (ds:=[.sl (strs [[41]])]) aG (aH l [[41]] j3 p3.2 (by omega) hV.fin (by simp)) (by simp [strs]) (by simp) (fun u4 j4 x4=>?_) (fun n e hx=>by first|exact Q3.fail hx _|(simp;exact Q3.fail hx _)|(simp;exact fun s=>Q3.fail hx s));have Q4:=Q3.step x4;have p4:=aA.exp hV.fin _ _ j3 u4 j4 p3.2 x4;simp;exact Q4.ok t j4 _ _ rfl (.inr rfl) (by simp)
end
end
end
section
open Go Go.VM
variable {G:GT}
theorem b7l:VM.Enters Tryz.prog 75:=VM.Enters.mk Tryz.func75 rfl
theorem b1R:VM.Enters Tryz.prog 125:=VM.Enters.mk Tryz.func125 rfl
section
variable {rdP:List Tok→Nat→Nat→mH Pr} {l:List Tok} (hV:mO G rdP l)
include hV
def a3U (nm:Nm)(args:List Ty)(out:List Pr):List (Nat×aZ):=[(100001,.cells [.ptr 100000 0]),(100002,.cells [.d (.int .i64 4),.d (.str nm),.d (.sl (args.map tyC)),.d (.sl []),.d (.int .i64 0),.d (.str []),.d (.int .i64 0),.d (.sl []),.d (.sl (out.map rG))])]
abbrev d2B:List (TypeId×List VM.Loc):=[(43,[.c 100002 8])]
abbrev b7m (rdP:List Tok→Nat→Nat→mH Pr)(l:List Tok)(out:List Pr):aR (List Pr):=do
 aL l [[118],[46]]
 let p ← cQ rdP l
 pure (out++[p])
theorem b7n (nm:Nm)(args:List Ty)(out:List Pr)(i:Nat)(hi:i<l.length)(hout:out.length≤i):kM G 125 [.ptr 100001 0,.ptr 100002 0] (a3U nm args out) d2B l i (b7m rdP l out i) (fun _=> .cT []) (a3U nm args):=by
 have hl:=hV.len;obtain ⟨j0,rfl⟩:∃j0,j0=i:=⟨_,rfl⟩;have p0:j0≤j0∧j0<l.length:=⟨d8T _,hi⟩;refine kM.dB Tryz.func125 rfl Tryz.ntmps125 rfl (by simp) ?_
 intro Q Q0;simp [a3U];refine cJ (ds:=[.sl (strs [[118],[46]])]) aG (aH l [[118],[46]] j0 p0.2 (by omega) hV.fin (by simp)) (by simp [strs]) (by simp) (fun u1 j1 x1=>?_) (fun n e hx=>by first|exact Q0.fail hx _|(simp;exact Q0.fail hx _)|(simp;exact fun s=>Q0.fail hx s));have Q1:=Q0.step x1;have p1:=aA.exp hV.fin _ _ j0 u1 j1 p0.2 x1;simp;refine dX 6 (t:=41) (e:=43) (T:=45) (s:=6) (z:=10) (r:=11) (p:=12) (q:=9) (x:=8) (b:=13) (y:=1) (fd:=5) [0] 3 [2] (a1y 1 4 5) (gS (cQ rdP l j1)) rfl rfl rfl rfl rfl (by kernel_rfl) (by kernel_rfl) rfl ?_
 simp
 repeat' apply And.intro
 all_goals
  refine tJ oL (qF hV j1 p1.2) (by simp) (by simp) (fun q j2 x2=>?_) (fun n e hx=>by first|exact Q1.fail hx _|(simp;exact Q1.fail hx _)|(simp;exact fun s=>Q1.fail hx s));have Q2:=Q1.step x2;have p2:=hV.pU.pred j1 q j2 p1.2 x2;refine dG.mk ?_
  simp
 all_goals
  refine ⟨_,_,_,_,_,_,_,_,_,by simp,rfl,rfl,?_,rfl,rfl,?_,by simp,rfl,rfl,rfl,rfl,by decide,rfl,?_⟩
  ·intro c hc
   first
    |(obtain ⟨y,_,rfl⟩:=List.mem_map.1 hc
      rw [gF]
      rfl)
    |(simp only [d8K] at hc
      subst hc
      rfl)
  ·simp<;>omega
  exact Q2.ok _ j2 .normal _ rfl (.inl rfl) (by simp [a3U,gF])
theorem c2K (nm:Nm)(args:List Ty):xR l K3 [.ptr 100001 0,.ptr 100002 0] (a3U nm args) d2B:=by
 constructor
 all_goals intros
 all_goals first
  |rfl
  |simp [a3U,aQ,aX,aT,aS,bC,getKey,aU,bE,cS,rk,dC,bQ, *]
theorem c2L (a:List Pr)(i:Nat)(b:List Pr)(j:Nat)(h:b7m rdP l a i= .ok b j):b.length=a.length+1:=by
 simp only [b7m,eC] at h
 repeat' split at h
 all_goals first|cases h|skip
 all_goals simp
theorem a6D (out:List Pr):aA l 1 (b7m rdP l out):=(aA.exp hV.fin _ _).bl fun _=>hV.pU.pred.bl fun _=>aA.aO _
theorem uC {α:Type}{c:Nat→Bool}{one:α→aR α}{g:Nat}{a b:α}{i j:Nat}(hc:c i=true)(h:one a i= .ok b j):dF c one (g+1) a i=dF c one g b j:=by rw [dF];simp only [hc,if_true,h]
theorem pH {α:Type}{c:Nat→Bool}{one:α→aR α}{g:Nat}{a:α}{i:Nat}{n e:Int}(hc:c i=true)(h:one a i= .bad n e):dF c one (g+1) a i= .bad n e:=by rw [dF];simp only [hc,if_true,h]
theorem uD {α:Type}{c:Nat→Bool}{one:α→aR α}{g:Nat}{a:α}{i:Nat}(hc:c i=false):dF c one (g+1) a i= .ok a i:=by rw [dF];simp only [hc,Bool.false_eq_true,if_false]
section
variable {ty:aR Ty} {low:Nat} (hty:∀i,low≤i→i<l.length→pS G 39 [] l i (ty i) a8d) (aty:aA l 0 ty) (ity:∀i t j,i<l.length→ty i= .ok t j→TyI t i j)
include hty aty ity
abbrev d0x (rdP:List Tok→Nat→Nat→mH Pr)(l:List Tok)(ty:aR Ty)(out:List Ty):aR (List Ty):=do let t ← dZ bA bF rdP l ty;pure (out++[t])
theorem b9G (i:Nat)(hlow:low≤i+1)(hi:i<l.length):pS G 75 [] l i (mL bA bF rdP l ty i) a8d:=by
 have hl:=hV.len;obtain ⟨j0,rfl⟩:∃j0,j0=i:=⟨_,rfl⟩;have p0:j0≤j0∧j0<l.length:=⟨d8T _,hi⟩;refine kM.dB Tryz.func75 rfl Tryz.ntmps75 rfl (by simp) ?_
 intro Q Q0;unfold mL at Q0;simp;refine cJ gW (jM l j0 p0.2 (by omega)) (by simp) (by simp) (fun nm j1 x1=>?_) (fun n e hx=>by first|exact Q0.fail hx _|(simp;exact Q0.fail hx _)|(simp;exact fun s=>Q0.fail hx s));have Q1:=Q0.step x1;have p1:=aA.title hV.fin j0 nm j1 p0.2 x1;simp;refine SW.vY (ι:={ x:List Ty×Nat×Nat // j1≤x.2.1∧x.2.1<l.length∧l.length<x.2.2+x.2.1∧x.1.length≤x.2.1∧dF (a9F bA l) (d0x rdP l ty) x.2.2 x.1 x.2.1=oW l (a9F bA l) (d0x rdP l ty) [] j1 }) (fun _=>[]) (fun x=>[(1,.cells [.ptr 100000 0]),(2,.cells [.d (.int .i64 0),.d (.str []),.d .aN,.d .aN,.d (.int .i64 0),.d (.str []),.d (.int .i64 0),.d .aN,.d .aN]),(3,.cells [.d (.int .i64 4),.d (.str nm),.d (.sl (x.1.1.map tyC)),.d .aN,.d (.int .i64 0),.d (.str []),.d (.int .i64 0),.d .aN,.d .aN]),(100000,rdO l x.1.2.1)]) (fun _=>[(45,[.c 3 2])]) (fun x=>l.length-x.1.2.1) ⟨([],j1,l.length+2),d8T _,p1.2,by simp only;omega,by simp,rfl⟩ (by simp) ?_
 rintro ⟨⟨out,j2,g⟩,hb,hj2,hg,ho,hp⟩;simp only at hb hj2 hg ho hp;obtain ⟨g,rfl⟩:∃k,g=k+1:=⟨g-1,by omega⟩;simp;refine bI (i:=j2) (ds:=[]) a8e (b0l hV j2 hj2) (by simp) (by simp) ?_
 by_cases hc:a9F bA l j2=true
 ·simp [hc];refine dX 6 (t:=28) (e:=45) (T:=45) (s:=10) (z:=14) (r:=15) (p:=16) (q:=13) (x:=12) (b:=17) (y:=3) (fd:=2) [0] 3 [2] (a1y 1 4 5) (gS (dZ bA bF rdP l ty j2)) rfl rfl rfl rfl rfl (by kernel_rfl) (by kernel_rfl) rfl ?_
  simp
  repeat' apply And.intro
  all_goals
   refine tJ (ds:=[]) a5K (a7R hV hty aty ity j2 (by omega) hj2) (by simp) (by simp) (fun t j3 x3=>?_) (fun n e hx=>?_)
   ·have p3:=aA.rX hV.fin aty hV.pU.pred j2 t j3 hj2 x3;have h1:d0x rdP l ty out j2= .ok (out++[t]) j3:=(aY x3).trans rfl;rw [uC hV hc h1] at hp;refine dG.mk ?_
    simp;refine ⟨_,_,_,_,_,_,_,_,_,by simp,rfl,rfl,?_,rfl,rfl,?_,by simp,rfl,rfl,rfl,rfl,by decide,rfl,?_⟩
    ·intro c hc
     first
      |(obtain ⟨y,_,rfl⟩:=List.mem_map.1 hc
        rw [cY]
        rfl)
      |(simp only [d8K] at hc
        subst hc
        rfl)
    ·simp<;>omega
    refine bR.mk ⟨(out++[t],j3,g),by simp only;omega,p3.2,by simp only;omega,by simp;omega,hp⟩ (by simp [cY]) (by simp;omega)
   ·have h1:d0x rdP l ty out j2= .bad n e:=cW hx;rw [pH hV hc h1] at hp;simp;exact fun s=>Q1.fail hp.symm s
 ·have hc:=Bool.eq_false_iff.2 hc;rw [uD hV hc] at hp;have Q2:=Q1.step hp.symm;have p2:j1≤j2∧j2<l.length:=⟨hb,hj2⟩;simp [hc];cases hs:aJ l j2 [60] with
  |false=>
   have Q3:=Q2.step (jD hs);rw [if_neg (by decide)] at Q3;refine bI (ds:=[.str [60]]) (d:= .d (.bool false)) aE (aW l j2 [60] p2.2 (by omega) hs) (by simp) (by simp) ?_
   simp;exact Q3.ok _ j2 _ _ rfl (.inr rfl) (by simp [psT,mD])
  |true=>
   have Q3:=Q2.step (jC hs);rw [if_pos rfl] at Q3;refine bI (ds:=[.str [60]]) (d:= .d (.bool true)) aE (aV l j2 [60] p2.2 (by omega) hs) (by simp) (by simp) ?_
   have p3:j2+1≤j2+1∧j2+1<l.length:=⟨d8T _,aF hV.fin p2.2 hs⟩;obtain ⟨j3,hj3⟩:∃j3,j2+1=j3:=⟨_,rfl⟩;rw [hj3] at Q3 p3 ⊢;simp;have hone:=eX hV [44] (b7m rdP l) (fun out i=>out.length≤i) 0 b1R (c2K hV nm out) (fun a=>(a6D hV a).le (by omega)) (fun a i _ hi h=>b7n hV nm out a i hi h) (fun a i b j hi h hx=>by have h1:=a6D hV a i b j hi hx;have h2:=c2L hV a i b j hx;omega) (fun a i h=>by omega) [] j3 (by omega) p3.2 (by simp)
   refine hM.mk (wJ dT hone [(100000,100000),(100001,1),(100002,3)] (fun a j hx=>?_) ?_ ?_ ?_ rfl rfl (fun ws j4 x4=>?_) (fun n e hx2=>Q3.fail hx2 _))
   ·simp [a3U,aQ,aX,aT,aS,bC,getKey]
   ·simp [a3U,aQ,aX,aT,aS,bC,getKey]
   ·simp [aU,bE,rk]
   ·simp [a3U,aU,bE,rk,cS,dC]
   ·have Q4:=Q3.step x4;have p4:=aA.list hV.fin (fun a=>a6D hV a) [] j3 ws j4 p3.2 x4;simp [bD,a3U,aU,bE,rk,cS,dC,bQ,gU,gE,eJ];refine cJ (ds:=[.sl (strs [[62]])]) aG (aH l [[62]] j4 p4.2 (by omega) hV.fin (by simp)) (by simp [strs]) (by simp) (fun u5 j5 x5=>?_) (fun n e hx=>by first|exact Q4.fail hx _|(simp;exact Q4.fail hx _)|(simp;exact fun s=>Q4.fail hx s));have Q5:=Q4.step x5;have p5:=aA.exp hV.fin _ _ j4 u5 j5 p4.2 x5;simp;exact Q5.ok _ j5 _ _ rfl (.inr rfl) (by simp [psT,mD])
end
end
end
section
open Go Go.VM
variable {G:GT}
theorem b9H:VM.Enters Tryz.prog 78:=VM.Enters.mk Tryz.func78 rfl
theorem b4J:VM.Enters Tryz.prog 130:=VM.Enters.mk Tryz.func130 rfl
theorem b4K:VM.Enters Tryz.prog 131:=VM.Enters.mk Tryz.func131 rfl
section
variable {rdP:List Tok→Nat→Nat→mH Pr} {l:List Tok} (hV:mO G rdP l)
include hV
def yE (out:List Nm×List Ty):List (Nat×aZ):=[(100001,.cells [.d (.int .i64 6),.d (.str []),.d (.sl (out.2.map tyC)),.d (.sl (strs out.1)),.d (.int .i64 0),.d (.str []),.d (.int .i64 0),.d (.sl []),.d (.sl [])]),(100002,.cells [.ptr 100000 0])]
abbrev d4I:List (TypeId×List VM.Loc):=[(45,[.c 100001 2]),(9,[.c 100001 3])]
abbrev a2w (l:List Tok)(ty:aR Ty)(out:List Nm×List Ty):aR (List Nm×List Ty):=do
 let w ← bN bA l
 aL l [[58]]
 let t ← ty
 pure (out.1++[w],out.2++[t])
abbrev a1s (ty:aR Ty)(out:List Nm×List Ty):aR (List Nm×List Ty):=do
 let t ← ty
 pure (out.1,out.2++[t])
theorem qG {α:Type}{c:Nm}{one:α→aR α}(I:α→Nat→Prop)(h1:∀a i b j,i<l.length→I a i→one a i= .ok b j→I b j∧j<l.length)(hm:∀a i,I a i→I a (i+1)):∀(g:Nat) (a:α) (i:Nat) (b:α) (j:Nat),i<l.length→I a i→gR l c one g a i= .ok b j→I b j∧j<l.length
 |0,a,i,b,j,_,_,h=>by unfold gR at h;cases h
 |g+1,a,i,b,j,hi,ha,h=>by
  unfold gR at h;split at h
  ·cases h
  ·rename_i b' j' ho;have k1:=h1 a i b' j' hi ha ho;split at h
   ·rename_i hs;exact qG I h1 hm g b' (j'+1) b j (aF hV.fin k1.2 hs) (hm _ _ k1.1) h
   ·cases h;exact k1
theorem b7o:xR l K3 [.ptr 100001 0,.ptr 100002 0] yE d4I:=by
 constructor
 all_goals intros
 all_goals first
  |rfl
  |simp [yE,aQ,aX,aT,aS,bC,getKey,aU,bE,cS,rk,dC,bQ, *]
omit hV in
theorem b3d {ty:aR Ty}(a:List Nm×List Ty)(i:Nat)(b:List Nm×List Ty)(j:Nat)(h:a2w l ty a i= .ok b j):b.1.length=a.1.length+1∧b.2.length=a.2.length+1:=by
 simp only [a2w,eC] at h
 repeat' split at h
 all_goals first|cases h|skip
 all_goals simp
omit hV in
theorem c2M {ty:aR Ty}(a:List Nm×List Ty)(i:Nat)(b:List Nm×List Ty)(j:Nat)(h:a1s ty a i= .ok b j):b.1=a.1∧b.2.length=a.2.length+1:=by
 simp only [a1s,eC] at h
 repeat' split at h
 all_goals first|cases h|skip
 all_goals simp
section
variable {ty:aR Ty} {low:Nat} (hty:∀i,low≤i→i<l.length→pS G 39 [] l i (ty i) a8d) (aty:aA l 1 ty)
include hty aty
theorem b9I (out:List Nm×List Ty)(i:Nat)(hlow:low≤i)(hi:i<l.length)(hout:out.1.length≤i∧out.2.length≤i):kM G 130 [.ptr 100001 0,.ptr 100002 0] (yE out) d4I l i (a2w l ty out i) (fun _=> .cT []) yE:=by
 have hl:=hV.len;obtain ⟨j0,rfl⟩:∃j0,j0=i:=⟨_,rfl⟩;have p0:j0≤j0∧j0<l.length:=⟨d8T _,hi⟩;refine kM.dB Tryz.func130 rfl Tryz.ntmps130 rfl (by simp) ?_
 intro Q Q0;simp [yE];refine kG [0] 3 [2] (.op 1 (.call [4,5,6,7] .none) (.call [1,4,5,6,7] .none)) (gS (bN bA l j0)) (by kernel_rfl) (by kernel_rfl) ?_
 simp;refine ⟨?_,?_⟩
 all_goals
  refine tJ cX (dO hV.kw l j0 p0.2 (by omega)) (by simp) (by simp) (fun w j1 x1=>?_) (fun n e hx=>by first|exact Q0.fail hx _|(simp;exact Q0.fail hx _)|(simp;exact fun s=>Q0.fail hx s));have Q1:=Q0.step x1;have p1:=aA.word hV.fin j0 w j1 p0.2 x1;refine dG.mk ?_
  simp;refine eU (by omega) ?_
  simp;refine cJ (ds:=[.sl (strs [[58]])]) aG (aH l [[58]] j1 p1.2 (by omega) hV.fin (by simp)) (by simp [strs]) (by simp) (fun u2 j2 x2=>?_) (fun n e hx=>by first|exact Q1.fail hx _|(simp;exact Q1.fail hx _)|(simp;exact fun s=>Q1.fail hx s));have Q2:=Q1.step x2;have p2:=aA.exp hV.fin _ _ j1 u2 j2 p1.2 x2;simp;refine dX 6 (t:=28) (e:=45) (T:=45) (s:=13) (z:=17) (r:=18) (p:=19) (q:=16) (x:=15) (b:=20) (y:=0) (fd:=2) [0] 3 [2] (a1y 1 4 5) (gS (ty j2)) rfl rfl rfl rfl rfl (by kernel_rfl) (by kernel_rfl) rfl ?_
  simp
  repeat' apply And.intro
  all_goals
   refine tJ cU ((hty j2 (by omega) p2.2)) (by simp) (by simp) (fun t j3 x3=>?_) (fun n e hx=>by first|exact Q2.fail hx _|(simp;exact Q2.fail hx _)|(simp;exact fun s=>Q2.fail hx s));have Q3:=Q2.step x3;have p3:=aty j2 t j3 p2.2 x3;refine dG.mk ?_
   simp;refine ⟨_,_,_,_,_,_,_,_,_,by simp,rfl,rfl,?_,rfl,rfl,?_,by simp,rfl,rfl,rfl,rfl,by decide,rfl,?_⟩
   ·intro c hc
    first
     |(obtain ⟨y,_,rfl⟩:=List.mem_map.1 hc
       rw [cY]
       rfl)
     |(simp only [d8K] at hc
       subst hc
       rfl)
   ·simp<;>omega
   exact Q3.ok _ j3 .normal _ rfl (.inl rfl) (by simp [yE,cY,a0j])
theorem b9J (out:List Nm×List Ty)(i:Nat)(hlow:low≤i)(hi:i<l.length)(hout:out.1.length≤i∧out.2.length≤i):kM G 131 [.ptr 100001 0,.ptr 100002 0] (yE out) d4I l i (a1s ty out i) (fun _=> .cT []) yE:=by
 have hl:=hV.len;obtain ⟨j2,rfl⟩:∃j2,j2=i:=⟨_,rfl⟩;have p2:j2≤j2∧j2<l.length:=⟨d8T _,hi⟩;refine kM.dB Tryz.func131 rfl Tryz.ntmps131 rfl (by simp) ?_
 intro Q Q2;simp [yE];refine dX 6 (t:=28) (e:=45) (T:=45) (s:=3) (z:=7) (r:=8) (p:=9) (q:=6) (x:=5) (b:=10) (y:=0) (fd:=2) [0] 3 [2] (a1y 1 4 5) (gS (ty j2)) rfl rfl rfl rfl rfl (by kernel_rfl) (by kernel_rfl) rfl ?_
 simp
 repeat' apply And.intro
 all_goals
  refine tJ cU ((hty j2 (by omega) p2.2)) (by simp) (by simp) (fun t j3 x3=>?_) (fun n e hx=>by first|exact Q2.fail hx _|(simp;exact Q2.fail hx _)|(simp;exact fun s=>Q2.fail hx s));have Q3:=Q2.step x3;have p3:=aty j2 t j3 p2.2 x3;refine dG.mk ?_
  simp;refine ⟨_,_,_,_,_,_,_,_,_,by simp,rfl,rfl,?_,rfl,rfl,?_,by simp,rfl,rfl,rfl,rfl,by decide,rfl,?_⟩
  ·intro c hc
   first
    |(obtain ⟨y,_,rfl⟩:=List.mem_map.1 hc
      rw [cY]
      rfl)
    |(simp only [d8K] at hc
      subst hc
      rfl)
  ·simp<;>omega
  exact Q3.ok _ j3 .normal _ rfl (.inl rfl) (by simp [yE,cY])
theorem a6E (out:List Nm×List Ty):aA l 1 (a2w l ty out):=(aA.word hV.fin).bl fun _=>((aA.exp hV.fin _ _).le (by omega)).bl fun _=>(aty.le (by omega)).bl fun _=>aA.aO _
omit hV in
theorem a3g (out:List Nm×List Ty):aA l 1 (a1s ty out):=aty.bl fun _=>aA.aO _
theorem b0m (a:List Nm×List Ty)(i:Nat)(b:List Nm×List Ty)(j:Nat)(hi:i<l.length)(h:a.1.length≤i∧a.2.length≤i)(hx:a2w l ty a i= .ok b j):(b.1.length≤j∧b.2.length≤j)∧j<l.length:=by have h1:=a6E hV hty aty a i b j hi hx;have h2:=b3d a i b j hx;omega
omit hV in
theorem a4A (a:List Nm×List Ty)(i:Nat)(b:List Nm×List Ty)(j:Nat)(hi:i<l.length)(h:a.1.length≤i∧a.2.length≤i)(hx:a1s ty a i= .ok b j):(b.1.length≤j∧b.2.length≤j)∧j<l.length:=by have h1:=a3g hty aty a i b j hi hx;have h2:=c2M a i b j hx;rw [h2.1];omega
theorem c2N (i:Nat)(hlow:low≤i+1)(hi:i<l.length):pS G 78 [] l i (qE bA l ty i) a8d:=by
 have hl:=hV.len;obtain ⟨j0,rfl⟩:∃j0,j0=i:=⟨_,rfl⟩;have p0:j0≤j0∧j0<l.length:=⟨d8T _,hi⟩;refine kM.dB Tryz.func78 rfl Tryz.ntmps78 rfl (by simp) ?_
 intro Q Q0;unfold qE at Q0;simp;refine cJ (ds:=[.sl (strs [[40]])]) aG (aH l [[40]] j0 p0.2 (by omega) hV.fin (by simp)) (by simp [strs]) (by simp) (fun u1 j1 x1=>?_) (fun n e hx=>by first|exact Q0.fail hx _|(simp;exact Q0.fail hx _)|(simp;exact fun s=>Q0.fail hx s));have Q1:=Q0.step x1;have p1:=aA.exp hV.fin _ _ j0 u1 j1 p0.2 x1;simp;have ht:=cO (G:=G) l j1 j1 0 (by omega) (by omega) (by intro e;subst e;simp at hi) (by omega);have ht1:=cO (G:=G) l j1 (j1+1) 1 (by omega) (by omega) (by intro e;subst e;simp at hi) (by omega);refine bI (ds:=[.int .i64 0]) bS ht (by simp) (by simp) ?_
 simp;refine mB.mk jL (kL hV.kw (aK l j1)) ?_
 have hK:∀(b:Bool),(jJ bA (aK l j1)&&dN (aK l (j1+1)) [58])=b→((fun i=>if jJ bA (aK l i)&&dN (aK l (i+1)) [58] then eO l [44] (a2w l ty) ([],[]) i else eO l [44] (a1s ty) ([],[]) i:aR (List Nm×List Ty)) j1)=if b then eO l [44] (a2w l ty) ([],[]) j1 else eO l [44] (a1s ty) ([],[]) j1:=fun b hb=>by simp only [hb]
 have hone1:=eX hV [44] (a2w l ty) (fun out i=>out.1.length≤i∧out.2.length≤i) low b4J (b7o hV) (fun a=>(a6E hV hty aty a).le (by omega)) (fun a i sO hi h=>b9I hV hty aty a i sO hi h) (fun a i b j hi h hx=>(b0m hV hty aty a i b j hi h hx).1) (fun a i h=>by omega) ([],[]) j1 (by omega) p1.2 (by simp);have hone2:=eX hV [44] (a1s ty) (fun out i=>out.1.length≤i∧out.2.length≤i) low b4K (b7o hV) (fun a=>(a3g hty aty a).le (by omega)) (fun a i sO hi h=>b9J hV hty aty a i sO hi h) (fun a i b j hi h hx=>(a4A hty aty a i b j hi h hx).1) (fun a i h=>by omega) ([],[]) j1 (by omega) p1.2 (by simp);cases hw:jJ bA (aK l j1) with
 |false=>
  have hx:=hK false (by rw [hw];rfl);rw [if_neg (by decide)] at hx;simp;refine hM.mk (wJ dT hone2 [(100000,100000),(100001,3),(100002,1)] (fun a j hx=>?_) ?_ ?_ ?_ rfl rfl (fun ws j2 x2=>?_) (fun n e hx2=>Q1.fail (hx.trans hx2) _))
  ·simp [yE,aQ,aX,aT,aS,bC,getKey]
  ·simp [yE,aQ,aX,aT,aS,bC,getKey]
  ·simp [aU,bE,rk]
  ·simp [yE,aU,bE,rk,cS,dC]
  ·have Q2:=Q1.step (hx.trans x2);have p2:=aA.list hV.fin (fun a=>a3g hty aty a) ([],[]) j1 ws j2 p1.2 x2;have hlen:ws.1.length≤50000∧ws.2.length≤50000:=by have:=qG hV (one:=a1s ty) (fun a i=>a.1.length≤i∧a.2.length≤i) (a4A hty aty) (fun a i h=>by omega) _ _ _ _ _ p1.2 (by simp) x2;omega
   simp [bD,yE,aU,bE,rk,cS,dC,bQ,gU,gE,eJ];obtain ⟨ns,ts⟩:=ws;simp only at Q2 hlen;refine cJ (ds:=[.sl (strs [[41]])]) aG (aH l [[41]] j2 p2.2 (by omega) hV.fin (by simp)) (by simp [strs]) (by simp) (fun u3 j3 x3=>?_) (fun n e hx=>by first|exact Q2.fail hx _|(simp;exact Q2.fail hx _)|(simp;exact fun s=>Q2.fail hx s));have Q3:=Q2.step x3;have p3:=aA.exp hV.fin _ _ j2 u3 j3 p2.2 x3;simp;by_cases hn:ns.length=0
   ·have hn0:ns=[]:=List.eq_nil_of_length_eq_zero hn;subst hn0;by_cases h1:ts.length=1
    ·obtain ⟨t,rfl⟩:=List.length_eq_one_iff.1 h1;have hb:=jB (G:=G) l j3 [45,62] p3.2 (by omega);simp;refine bI (ds:=[.str [45,62]]) gA hb (by simp) (by simp) ?_
     cases hs:aJ l j3 [45,62] with
     |false=>have Q3:=Q3.ifp (by simp [hs]);simp;exact Q3.ok _ j3 _ _ rfl (.inr rfl) (by simp [cY])
     |true=>
      have Q3:=Q3.yD (by simp [hs]);simp;refine cJ (ds:=[.sl (strs [[45,62]])]) aG (aH l [[45,62]] j3 p3.2 (by omega) hV.fin (by simp)) (by simp [strs]) (by simp) (fun u4 j4 x4=>?_) (fun n e hx=>by first|exact Q3.fail hx _|(simp;exact Q3.fail hx _)|(simp;exact fun s=>Q3.fail hx s));have Q4:=Q3.step x4;have p4:=aA.exp hV.fin _ _ j3 u4 j4 p3.2 x4;simp;refine dX 6 (t:=28) (e:=45) (T:=45) (s:=48) (z:=52) (r:=53) (p:=54) (q:=51) (x:=50) (b:=55) (y:=3) (fd:=2) [0] 3 [2] (a1y 1 4 5) (gS (ty j4)) rfl rfl rfl rfl rfl (by kernel_rfl) (by kernel_rfl) rfl ?_
      simp
      repeat' apply And.intro
      all_goals
       refine tJ cU ((hty j4 (by omega) p4.2)) (by simp) (by simp) (fun t5 j5 x5=>?_) (fun n e hx=>by first|exact Q4.fail hx _|(simp;exact Q4.fail hx _)|(simp;exact fun s=>Q4.fail hx s));have Q5:=Q4.step x5;have p5:=aty j4 t5 j5 p4.2 x5;refine dG.mk ?_
       simp;refine ⟨_,_,_,_,_,_,_,_,_,by simp,rfl,rfl,?_,rfl,rfl,?_,by simp,rfl,rfl,rfl,rfl,by decide,rfl,?_⟩
       ·intro c hc
        first
         |(obtain ⟨y,_,rfl⟩:=List.mem_map.1 hc
           rw [cY]
           rfl)
         |(simp only [d8K] at hc
           subst hc
           rfl)
       ·simp<;>omega
       simp;exact Q5.ok _ j5 _ _ rfl (.inr rfl) (by simp [psT,mD,cY])
    ·have Q3:=Q3.yD (by simp [h1]);simp [h1];refine cJ (ds:=[.sl (strs [[45,62]])]) aG (aH l [[45,62]] j3 p3.2 (by omega) hV.fin (by simp)) (by simp [strs]) (by simp) (fun u4 j4 x4=>?_) (fun n e hx=>by first|exact Q3.fail hx _|(simp;exact Q3.fail hx _)|(simp;exact fun s=>Q3.fail hx s));have Q4:=Q3.step x4;have p4:=aA.exp hV.fin _ _ j3 u4 j4 p3.2 x4;simp;refine dX 6 (t:=28) (e:=45) (T:=45) (s:=48) (z:=52) (r:=53) (p:=54) (q:=51) (x:=50) (b:=55) (y:=3) (fd:=2) [0] 3 [2] (a1y 1 4 5) (gS (ty j4)) rfl rfl rfl rfl rfl (by kernel_rfl) (by kernel_rfl) rfl ?_
     simp
     repeat' apply And.intro
     all_goals
      refine tJ cU ((hty j4 (by omega) p4.2)) (by simp) (by simp) (fun t5 j5 x5=>?_) (fun n e hx=>by first|exact Q4.fail hx _|(simp;exact Q4.fail hx _)|(simp;exact fun s=>Q4.fail hx s));have Q5:=Q4.step x5;have p5:=aty j4 t5 j5 p4.2 x5;refine dG.mk ?_
      simp;refine ⟨_,_,_,_,_,_,_,_,_,by simp,rfl,rfl,?_,rfl,rfl,?_,by simp,rfl,rfl,rfl,rfl,by decide,rfl,?_⟩
      ·intro c hc
       first
        |(obtain ⟨y,_,rfl⟩:=List.mem_map.1 hc
          rw [cY]
          rfl)
        |(simp only [d8K] at hc
          subst hc
          rfl)
      ·simp<;>omega
      simp;exact Q5.ok _ j5 _ _ rfl (.inr rfl) (by simp [psT,mD,cY])
   ·have Q3:=Q3.yD (by simp [hn]);have hn': ¬(ns.length:Int)=0:=by omega
    have hn2: ¬ns=[]:=fun e=>hn (by rw [e];rfl)
    simp [hn,hn',hn2];refine cJ (ds:=[.sl (strs [[45,62]])]) aG (aH l [[45,62]] j3 p3.2 (by omega) hV.fin (by simp)) (by simp [strs]) (by simp) (fun u4 j4 x4=>?_) (fun n e hx=>by first|exact Q3.fail hx _|(simp;exact Q3.fail hx _)|(simp;exact fun s=>Q3.fail hx s));have Q4:=Q3.step x4;have p4:=aA.exp hV.fin _ _ j3 u4 j4 p3.2 x4;simp;refine dX 6 (t:=28) (e:=45) (T:=45) (s:=48) (z:=52) (r:=53) (p:=54) (q:=51) (x:=50) (b:=55) (y:=3) (fd:=2) [0] 3 [2] (a1y 1 4 5) (gS (ty j4)) rfl rfl rfl rfl rfl (by kernel_rfl) (by kernel_rfl) rfl ?_
    simp
    repeat' apply And.intro
    all_goals
     refine tJ cU ((hty j4 (by omega) p4.2)) (by simp) (by simp) (fun t5 j5 x5=>?_) (fun n e hx=>by first|exact Q4.fail hx _|(simp;exact Q4.fail hx _)|(simp;exact fun s=>Q4.fail hx s));have Q5:=Q4.step x5;have p5:=aty j4 t5 j5 p4.2 x5;refine dG.mk ?_
     simp;refine ⟨_,_,_,_,_,_,_,_,_,by simp,rfl,rfl,?_,rfl,rfl,?_,by simp,rfl,rfl,rfl,rfl,by decide,rfl,?_⟩
     ·intro c hc
      first
       |(obtain ⟨y,_,rfl⟩:=List.mem_map.1 hc
         rw [cY]
         rfl)
       |(simp only [d8K] at hc
         subst hc
         rfl)
     ·simp<;>omega
     simp;exact Q5.ok _ j5 _ _ rfl (.inr rfl) (by simp [psT,mD,cY])
 |true=>
  simp;refine bI (ds:=[.int .i64 1]) bS ht1 (by simp) (by simp) ?_
  simp;refine mB.mk jV (kV (aK l (j1+1)) [58]) ?_
  cases hf:dN (aK l (j1+1)) [58] with
  |false=>
   have hx:=hK false (by rw [hw,hf];rfl);rw [if_neg (by decide)] at hx;simp;refine hM.mk (wJ dT hone2 [(100000,100000),(100001,3),(100002,1)] (fun a j hx=>?_) ?_ ?_ ?_ rfl rfl (fun ws j2 x2=>?_) (fun n e hx2=>Q1.fail (hx.trans hx2) _))
   ·simp [yE,aQ,aX,aT,aS,bC,getKey]
   ·simp [yE,aQ,aX,aT,aS,bC,getKey]
   ·simp [aU,bE,rk]
   ·simp [yE,aU,bE,rk,cS,dC]
   ·have Q2:=Q1.step (hx.trans x2);have p2:=aA.list hV.fin (fun a=>a3g hty aty a) ([],[]) j1 ws j2 p1.2 x2;have hlen:ws.1.length≤50000∧ws.2.length≤50000:=by have:=qG hV (one:=a1s ty) (fun a i=>a.1.length≤i∧a.2.length≤i) (a4A hty aty) (fun a i h=>by omega) _ _ _ _ _ p1.2 (by simp) x2;omega
    simp [bD,yE,aU,bE,rk,cS,dC,bQ,gU,gE,eJ];obtain ⟨ns,ts⟩:=ws;simp only at Q2 hlen;refine cJ (ds:=[.sl (strs [[41]])]) aG (aH l [[41]] j2 p2.2 (by omega) hV.fin (by simp)) (by simp [strs]) (by simp) (fun u3 j3 x3=>?_) (fun n e hx=>by first|exact Q2.fail hx _|(simp;exact Q2.fail hx _)|(simp;exact fun s=>Q2.fail hx s));have Q3:=Q2.step x3;have p3:=aA.exp hV.fin _ _ j2 u3 j3 p2.2 x3;simp;by_cases hn:ns.length=0
    ·have hn0:ns=[]:=List.eq_nil_of_length_eq_zero hn;subst hn0;by_cases h1:ts.length=1
     ·obtain ⟨t,rfl⟩:=List.length_eq_one_iff.1 h1;have hb:=jB (G:=G) l j3 [45,62] p3.2 (by omega);simp;refine bI (ds:=[.str [45,62]]) gA hb (by simp) (by simp) ?_
      cases hs:aJ l j3 [45,62] with
      |false=>have Q3:=Q3.ifp (by simp [hs]);simp;exact Q3.ok _ j3 _ _ rfl (.inr rfl) (by simp [cY])
      |true=>
       have Q3:=Q3.yD (by simp [hs]);simp;refine cJ (ds:=[.sl (strs [[45,62]])]) aG (aH l [[45,62]] j3 p3.2 (by omega) hV.fin (by simp)) (by simp [strs]) (by simp) (fun u4 j4 x4=>?_) (fun n e hx=>by first|exact Q3.fail hx _|(simp;exact Q3.fail hx _)|(simp;exact fun s=>Q3.fail hx s));have Q4:=Q3.step x4;have p4:=aA.exp hV.fin _ _ j3 u4 j4 p3.2 x4;simp;refine dX 6 (t:=28) (e:=45) (T:=45) (s:=48) (z:=52) (r:=53) (p:=54) (q:=51) (x:=50) (b:=55) (y:=3) (fd:=2) [0] 3 [2] (a1y 1 4 5) (gS (ty j4)) rfl rfl rfl rfl rfl (by kernel_rfl) (by kernel_rfl) rfl ?_
       simp
       repeat' apply And.intro
       all_goals
        refine tJ cU ((hty j4 (by omega) p4.2)) (by simp) (by simp) (fun t5 j5 x5=>?_) (fun n e hx=>by first|exact Q4.fail hx _|(simp;exact Q4.fail hx _)|(simp;exact fun s=>Q4.fail hx s));have Q5:=Q4.step x5;have p5:=aty j4 t5 j5 p4.2 x5;refine dG.mk ?_
        simp;refine ⟨_,_,_,_,_,_,_,_,_,by simp,rfl,rfl,?_,rfl,rfl,?_,by simp,rfl,rfl,rfl,rfl,by decide,rfl,?_⟩
        ·intro c hc
         first
          |(obtain ⟨y,_,rfl⟩:=List.mem_map.1 hc
            rw [cY]
            rfl)
          |(simp only [d8K] at hc
            subst hc
            rfl)
        ·simp<;>omega
        simp;exact Q5.ok _ j5 _ _ rfl (.inr rfl) (by simp [psT,mD,cY])
     ·have Q3:=Q3.yD (by simp [h1]);simp [h1];refine cJ (ds:=[.sl (strs [[45,62]])]) aG (aH l [[45,62]] j3 p3.2 (by omega) hV.fin (by simp)) (by simp [strs]) (by simp) (fun u4 j4 x4=>?_) (fun n e hx=>by first|exact Q3.fail hx _|(simp;exact Q3.fail hx _)|(simp;exact fun s=>Q3.fail hx s));have Q4:=Q3.step x4;have p4:=aA.exp hV.fin _ _ j3 u4 j4 p3.2 x4;simp;refine dX 6 (t:=28) (e:=45) (T:=45) (s:=48) (z:=52) (r:=53) (p:=54) (q:=51) (x:=50) (b:=55) (y:=3) (fd:=2) [0] 3 [2] (a1y 1 4 5) (gS (ty j4)) rfl rfl rfl rfl rfl (by kernel_rfl) (by kernel_rfl) rfl ?_
      simp
      repeat' apply And.intro
      all_goals
       refine tJ cU ((hty j4 (by omega) p4.2)) (by simp) (by simp) (fun t5 j5 x5=>?_) (fun n e hx=>by first|exact Q4.fail hx _|(simp;exact Q4.fail hx _)|(simp;exact fun s=>Q4.fail hx s));have Q5:=Q4.step x5;have p5:=aty j4 t5 j5 p4.2 x5;refine dG.mk ?_
       simp;refine ⟨_,_,_,_,_,_,_,_,_,by simp,rfl,rfl,?_,rfl,rfl,?_,by simp,rfl,rfl,rfl,rfl,by decide,rfl,?_⟩
       ·intro c hc
        first
         |(obtain ⟨y,_,rfl⟩:=List.mem_map.1 hc
           rw [cY]
           rfl)
         |(simp only [d8K] at hc
           subst hc
           rfl)
       ·simp<;>omega
       simp;exact Q5.ok _ j5 _ _ rfl (.inr rfl) (by simp [psT,mD,cY])
    ·have Q3:=Q3.yD (by simp [hn]);have hn': ¬(ns.length:Int)=0:=by omega
     have hn2: ¬ns=[]:=fun e=>hn (by rw [e];rfl)
     simp [hn,hn',hn2];refine cJ (ds:=[.sl (strs [[45,62]])]) aG (aH l [[45,62]] j3 p3.2 (by omega) hV.fin (by simp)) (by simp [strs]) (by simp) (fun u4 j4 x4=>?_) (fun n e hx=>by first|exact Q3.fail hx _|(simp;exact Q3.fail hx _)|(simp;exact fun s=>Q3.fail hx s));have Q4:=Q3.step x4;have p4:=aA.exp hV.fin _ _ j3 u4 j4 p3.2 x4;simp;refine dX 6 (t:=28) (e:=45) (T:=45) (s:=48) (z:=52) (r:=53) (p:=54) (q:=51) (x:=50) (b:=55) (y:=3) (fd:=2) [0] 3 [2] (a1y 1 4 5) (gS (ty j4)) rfl rfl rfl rfl rfl (by kernel_rfl) (by kernel_rfl) rfl ?_
     simp
     repeat' apply And.intro
     all_goals
      refine tJ cU ((hty j4 (by omega) p4.2)) (by simp) (by simp) (fun t5 j5 x5=>?_) (fun n e hx=>by first|exact Q4.fail hx _|(simp;exact Q4.fail hx _)|(simp;exact fun s=>Q4.fail hx s));have Q5:=Q4.step x5;have p5:=aty j4 t5 j5 p4.2 x5;refine dG.mk ?_
      simp;refine ⟨_,_,_,_,_,_,_,_,_,by simp,rfl,rfl,?_,rfl,rfl,?_,by simp,rfl,rfl,rfl,rfl,by decide,rfl,?_⟩
      ·intro c hc
       first
        |(obtain ⟨y,_,rfl⟩:=List.mem_map.1 hc
          rw [cY]
          rfl)
        |(simp only [d8K] at hc
          subst hc
          rfl)
      ·simp<;>omega
      simp;exact Q5.ok _ j5 _ _ rfl (.inr rfl) (by simp [psT,mD,cY])
  |true=>
   have hx:=hK true (by rw [hw,hf];rfl);rw [if_pos rfl] at hx;simp;refine hM.mk (wJ dT hone1 [(100000,100000),(100001,3),(100002,1)] (fun a j hx=>?_) ?_ ?_ ?_ rfl rfl (fun ws j2 x2=>?_) (fun n e hx2=>Q1.fail (hx.trans hx2) _))
   ·simp [yE,aQ,aX,aT,aS,bC,getKey]
   ·simp [yE,aQ,aX,aT,aS,bC,getKey]
   ·simp [aU,bE,rk]
   ·simp [yE,aU,bE,rk,cS,dC]
   ·have Q2:=Q1.step (hx.trans x2);have p2:=aA.list hV.fin (fun a=>a6E hV hty aty a) ([],[]) j1 ws j2 p1.2 x2;have hlen:ws.1.length≤50000∧ws.2.length≤50000:=by have:=qG hV (one:=a2w l ty) (fun a i=>a.1.length≤i∧a.2.length≤i) (b0m hV hty aty) (fun a i h=>by omega) _ _ _ _ _ p1.2 (by simp) x2;omega
    simp [bD,yE,aU,bE,rk,cS,dC,bQ,gU,gE,eJ];obtain ⟨ns,ts⟩:=ws;simp only at Q2 hlen;refine cJ (ds:=[.sl (strs [[41]])]) aG (aH l [[41]] j2 p2.2 (by omega) hV.fin (by simp)) (by simp [strs]) (by simp) (fun u3 j3 x3=>?_) (fun n e hx=>by first|exact Q2.fail hx _|(simp;exact Q2.fail hx _)|(simp;exact fun s=>Q2.fail hx s));have Q3:=Q2.step x3;have p3:=aA.exp hV.fin _ _ j2 u3 j3 p2.2 x3;simp;by_cases hn:ns.length=0
    ·have hn0:ns=[]:=List.eq_nil_of_length_eq_zero hn;subst hn0;by_cases h1:ts.length=1
     ·obtain ⟨t,rfl⟩:=List.length_eq_one_iff.1 h1;have hb:=jB (G:=G) l j3 [45,62] p3.2 (by omega);simp;refine bI (ds:=[.str [45,62]]) gA hb (by simp) (by simp) ?_
      cases hs:aJ l j3 [45,62] with
      |false=>have Q3:=Q3.ifp (by simp [hs]);simp;exact Q3.ok _ j3 _ _ rfl (.inr rfl) (by simp [cY])
      |true=>
       have Q3:=Q3.yD (by simp [hs]);simp;refine cJ (ds:=[.sl (strs [[45,62]])]) aG (aH l [[45,62]] j3 p3.2 (by omega) hV.fin (by simp)) (by simp [strs]) (by simp) (fun u4 j4 x4=>?_) (fun n e hx=>by first|exact Q3.fail hx _|(simp;exact Q3.fail hx _)|(simp;exact fun s=>Q3.fail hx s));have Q4:=Q3.step x4;have p4:=aA.exp hV.fin _ _ j3 u4 j4 p3.2 x4;simp;refine dX 6 (t:=28) (e:=45) (T:=45) (s:=48) (z:=52) (r:=53) (p:=54) (q:=51) (x:=50) (b:=55) (y:=3) (fd:=2) [0] 3 [2] (a1y 1 4 5) (gS (ty j4)) rfl rfl rfl rfl rfl (by kernel_rfl) (by kernel_rfl) rfl ?_
       simp
       repeat' apply And.intro
       all_goals
        refine tJ cU ((hty j4 (by omega) p4.2)) (by simp) (by simp) (fun t5 j5 x5=>?_) (fun n e hx=>by first|exact Q4.fail hx _|(simp;exact Q4.fail hx _)|(simp;exact fun s=>Q4.fail hx s));have Q5:=Q4.step x5;have p5:=aty j4 t5 j5 p4.2 x5;refine dG.mk ?_
        simp;refine ⟨_,_,_,_,_,_,_,_,_,by simp,rfl,rfl,?_,rfl,rfl,?_,by simp,rfl,rfl,rfl,rfl,by decide,rfl,?_⟩
        ·intro c hc
         first
          |(obtain ⟨y,_,rfl⟩:=List.mem_map.1 hc
            rw [cY]
            rfl)
          |(simp only [d8K] at hc
            subst hc
            rfl)
        ·simp<;>omega
        simp;exact Q5.ok _ j5 _ _ rfl (.inr rfl) (by simp [psT,mD,cY])
     ·have Q3:=Q3.yD (by simp [h1]);simp [h1];refine cJ (ds:=[.sl (strs [[45,62]])]) aG (aH l [[45,62]] j3 p3.2 (by omega) hV.fin (by simp)) (by simp [strs]) (by simp) (fun u4 j4 x4=>?_) (fun n e hx=>by first|exact Q3.fail hx _|(simp;exact Q3.fail hx _)|(simp;exact fun s=>Q3.fail hx s));have Q4:=Q3.step x4;have p4:=aA.exp hV.fin _ _ j3 u4 j4 p3.2 x4;simp;refine dX 6 (t:=28) (e:=45) (T:=45) (s:=48) (z:=52) (r:=53) (p:=54) (q:=51) (x:=50) (b:=55) (y:=3) (fd:=2) [0] 3 [2] (a1y 1 4 5) (gS (ty j4)) rfl rfl rfl rfl rfl (by kernel_rfl) (by kernel_rfl) rfl ?_
      simp
      repeat' apply And.intro
      all_goals
       refine tJ cU ((hty j4 (by omega) p4.2)) (by simp) (by simp) (fun t5 j5 x5=>?_) (fun n e hx=>by first|exact Q4.fail hx _|(simp;exact Q4.fail hx _)|(simp;exact fun s=>Q4.fail hx s));have Q5:=Q4.step x5;have p5:=aty j4 t5 j5 p4.2 x5;refine dG.mk ?_
       simp;refine ⟨_,_,_,_,_,_,_,_,_,by simp,rfl,rfl,?_,rfl,rfl,?_,by simp,rfl,rfl,rfl,rfl,by decide,rfl,?_⟩
       ·intro c hc
        first
         |(obtain ⟨y,_,rfl⟩:=List.mem_map.1 hc
           rw [cY]
           rfl)
         |(simp only [d8K] at hc
           subst hc
           rfl)
       ·simp<;>omega
       simp;exact Q5.ok _ j5 _ _ rfl (.inr rfl) (by simp [psT,mD,cY])
    ·have Q3:=Q3.yD (by simp [hn]);have hn': ¬(ns.length:Int)=0:=by omega
     have hn2: ¬ns=[]:=fun e=>hn (by rw [e];rfl)
     simp [hn,hn',hn2];refine cJ (ds:=[.sl (strs [[45,62]])]) aG (aH l [[45,62]] j3 p3.2 (by omega) hV.fin (by simp)) (by simp [strs]) (by simp) (fun u4 j4 x4=>?_) (fun n e hx=>by first|exact Q3.fail hx _|(simp;exact Q3.fail hx _)|(simp;exact fun s=>Q3.fail hx s));have Q4:=Q3.step x4;have p4:=aA.exp hV.fin _ _ j3 u4 j4 p3.2 x4;simp;refine dX 6 (t:=28) (e:=45) (T:=45) (s:=48) (z:=52) (r:=53) (p:=54) (q:=51) (x:=50) (b:=55) (y:=3) (fd:=2) [0] 3 [2] (a1y 1 4 5) (gS (ty j4)) rfl rfl rfl rfl rfl (by kernel_rfl) (by kernel_rfl) rfl ?_
     simp
     repeat' apply And.intro
     all_goals
      refine tJ cU ((hty j4 (by omega) p4.2)) (by simp) (by simp) (fun t5 j5 x5=>?_) (fun n e hx=>by first|exact Q4.fail hx _|(simp;exact Q4.fail hx _)|(simp;exact fun s=>Q4.fail hx s));have Q5:=Q4.step x5;have p5:=aty j4 t5 j5 p4.2 x5;refine dG.mk ?_
      simp;refine ⟨_,_,_,_,_,_,_,_,_,by simp,rfl,rfl,?_,rfl,rfl,?_,by simp,rfl,rfl,rfl,rfl,by decide,rfl,?_⟩
      ·intro c hc
       first
        |(obtain ⟨y,_,rfl⟩:=List.mem_map.1 hc
          rw [cY]
          rfl)
        |(simp only [d8K] at hc
          subst hc
          rfl)
      ·simp<;>omega
      simp;exact Q5.ok _ j5 _ _ rfl (.inr rfl) (by simp [psT,mD,cY])
end
end
end
section
open Go Go.VM
variable {G:GT}
theorem vV:VM.Enters Tryz.prog 272:=VM.Enters.mk Tryz.func272 rfl
theorem a5L:VM.Enters Tryz.prog 282:=VM.Enters.mk Tryz.func282 rfl
section
variable {rdP:List Tok→Nat→Nat→mH Pr} {l:List Tok} (hV:mO G rdP l)
include hV
section
variable {ty:aR Ty} {low:Nat} (hty:∀i,low≤i→i<l.length→pS G 39 [] l i (ty i) a8d) (aty:aA l 1 ty) (ity:∀i t j,i<l.length→ty i= .ok t j→TyI t i j)
include hty aty ity
theorem c2O (i:Nat)(hlow:low≤i+1)(hi:i<l.length):pS G 39 [] l i (rI bA bF rdP l ty i) a8d:=by
 have hl:=hV.len;obtain ⟨j0,rfl⟩:∃j0,j0=i:=⟨_,rfl⟩;have p0:j0≤j0∧j0<l.length:=⟨d8T _,hi⟩;have ht:=cO (G:=G) l j0 j0 0 (by omega) (by omega) (by intro e;subst e;simp at hi) (by omega);refine kM.dB Tryz.func39 rfl Tryz.ntmps39 rfl (by simp) ?_
 intro Q Q0;unfold rI at Q0;simp;refine cJ a7Q (b0k hV j0 hi) (by simp) (by simp) (fun o j1 x1=>?_) (fun n e hx=>by first|exact Q0.fail hx _|(simp;exact Q0.fail hx _)|(simp;exact fun s=>Q0.fail hx s));have Q1:=Q0.step x1;have p1:=aA.base hV.fin j0 o j1 p0.2 x1;cases o with
 |some t=>obtain ⟨op,nm,args,ns,p,ps⟩:=t;simp;exact Q1.ok _ j1 _ _ rfl (.inr rfl) (by simp)
 |none=>
 have hj:=sI x1;subst hj;simp only at Q1;simp [pC,mD];refine bI (ds:=[.int .i64 0]) bS ht (by simp) (by simp) ?_
 cases hti:kT (aK l j1) with
 |true=>
  rw [hti,if_pos rfl] at Q1;have hk:(aK l j1).kind=2:=by simpa [kT] using hti
  generalize aK l j1=T at hk ⊢;obtain ⟨k,x,n,ln⟩:=T;simp only at hk;subst hk;simp [cR];refine cJ (ds:=[]) b7l (b9G hV hty (aty.le (by omega)) ity j1 hlow p1.2) (by simp) (by simp) (fun t j h=>?_) (fun n e h=>Q1.bad n e _ h);simp;exact Q1.ok t j _ _ h (.inr rfl) (by simp)
 |false=>
  rw [hti,if_neg (by decide)] at Q1;have hk: ¬(aK l j1).kind=2:=by simpa [kT] using hti
  generalize aK l j1=T at hk ⊢;obtain ⟨k,x,n,ln⟩:=T;simp only at hk;simp [cR,hk];have hb:=jB (G:=G) l j1 [123] p1.2 (by omega);refine bI (ds:=[.str [123]]) gA hb (by simp) (by simp) ?_
  cases hs:aJ l j1 [123] with
  |true=>rw [hs,if_pos rfl] at Q1;simp;refine cJ (ds:=[]) a2v (a3T hV hty (aty.le (by omega)) ity j1 hlow p1.2) (by simp) (by simp) (fun t j h=>?_) (fun n e h=>Q1.bad n e _ h);simp;exact Q1.ok t j _ _ h (.inr rfl) (by simp)
  |false=>rw [hs,if_neg (by decide)] at Q1;simp;refine cJ (ds:=[]) b9H (c2N hV hty aty j1 hlow p1.2) (by simp) (by simp) (fun t j h=>?_) (fun n e h=>Q1.bad n e _ h);simp;exact Q1.ok t j _ _ h (.inr rfl) (by simp)
end
theorem b0n (op:Int)(nm:Nm)(args:List Ty)(ns:List Nm)(ps:List Pr){i j:Nat}(h:i≤j):TyI ⟨op,nm,args,ns,mD,ps⟩ i j:=by refine ⟨fun _=>rfl,?_⟩;simp [mD,dM,eM];omega
theorem c1g {p q:Pr}{s r:Pr×Bool}(hp:p.op≠0)(hs:s.1.op≠0)(h:b1Q p s=some r):r.1.op≠0:=by
 unfold b1Q at h;split at h
 ·cases h;exact hs
 split at h
 ·cases h
 split at h
 ·cases h;simp
 ·cases h;exact hp
theorem b4L (b:Bool):(a2s b).op≠0:=by cases b<;>simp [a2s,b9C,d0t]
theorem d0y {a b:Pr}(ha:a.op≠0)(hb:b.op≠0):(bF a b).op≠0:=by
 unfold bF b0i;cases h1:b1Q a (a2s true,false) with
 |none=>exact b4L hV false
 |some s=>
  have k1:=c1g hV (q:=a) ha (b4L hV true) h1;simp only [b0i];cases h2:b1Q b s with
  |none=>exact b4L hV false
  |some r=>exact c1g hV (q:=b) hb k1 h2
theorem c5y {a b:Pr}:dM (bF a b)≤dM a+dM b+1:=by
 have pos:∀p:Pr,1≤dM p:=fun p=>by cases p;simp [dM]
 have ha:=pos a;have hb:=pos b;unfold bF b0i;cases h1:b1Q a (a2s true,false) with
 |none=>simp only [b0j];omega
 |some s=>
  have k1:dM s.1≤dM a∧(s.2=false→dM s.1=1):=by
   unfold b1Q at h1;split at h1
   ·cases h1;simp only [b0j];exact ⟨ha,fun _=>trivial⟩
   split at h1
   ·cases h1
   simp only [Bool.false_eq_true,if_false,d8J] at h1;subst h1;exact ⟨d8T _,fun h=>by cases h⟩
  simp only [b0i];cases h2:b1Q b s with
  |none=>simp only [b0j];omega
  |some r=>
   simp only;unfold b1Q at h2;split at h2
   ·cases h2;omega
   split at h2
   ·cases h2
   split at h2
   ·cases h2;simp only [c5x];omega
   ·cases h2;simp only;omega
omit hV in
theorem bZ {α β:Type}{x:aR α}{f:α→aR β}{i j:Nat}{b:β}(h:(x >>=f) i= .ok b j):∃a k,x i= .ok a k∧f a k= .ok b j:=by
 rw [eC] at h;cases hx:x i with
 |bad n e=>rw [hx] at h;cases h
 |ok a k=>rw [hx] at h;exact ⟨a,k,rfl,h⟩
theorem c2P {ty:aR Ty}(i:Nat)(t:Ty)(j:Nat)(h:mL bA bF rdP l ty i= .ok t j):t.pred=mD:=by
 unfold mL at h;obtain ⟨nm,k1,_,h⟩:=bZ h;obtain ⟨args,k2,_,h⟩:=bZ h;obtain ⟨b,k3,_,h⟩:=bZ h;cases b with
 |true=>rw [if_pos rfl] at h;obtain ⟨ps,k4,_,h⟩:=bZ h;obtain ⟨_,k5,_,h⟩:=bZ h;cases h;rfl
 |false=>rw [if_neg (by decide)] at h;cases h;rfl
theorem b7p {ty:aR Ty}(aty:aA l 1 ty)(ity:∀i t j,i<l.length→ty i= .ok t j→TyI t i j)(i:Nat)(t:Ty)(j:Nat)(hi:i<l.length)(h:oB bF rdP l ty i= .ok t j):TyI t i j:=by
 unfold oB at h;obtain ⟨_,k1,h1,h⟩:=bZ h;obtain ⟨t1,k2,h2,h⟩:=bZ h;have a1:=aA.exp hV.fin _ _ i _ k1 hi h1;have a2:=aty k1 t1 k2 a1.2 h2;have i2:=ity k1 t1 k2 a1.2 h2;split at h
 ·unfold cH at h;cases h
 obtain ⟨_,k3,h3,h⟩:=bZ h;obtain ⟨p,k4,h4,h⟩:=bZ h;obtain ⟨_,k5,h5,h⟩:=bZ h;have a3:=aA.exp hV.fin _ _ k2 _ k3 a2.2 h3;have a4:=hV.pU.pred k3 p k4 a3.2 h4;have a5:=aA.exp hV.fin _ _ k4 _ k5 a4.2 h5;have hp:=hV.nod k3 _ p k4 a3.2 h4;cases h;unfold TyI at i2 ⊢;simp only;by_cases hz:t1.pred.op=0
 ·rw [if_pos hz];exact ⟨fun h=>(hp.2 h).elim,by omega⟩
 ·rw [if_neg hz];have hn:=c5y hV (a:=t1.pred) (b:=p);exact ⟨fun h=>(d0y hV hz hp.2 h).elim,by omega⟩
theorem c5z {ty:aR Ty}(aty:aA l 1 ty)(ity:∀i t j,i<l.length→ty i= .ok t j→TyI t i j)(i:Nat)(t:Ty)(j:Nat)(hi:i<l.length)(h:qE bA l ty i= .ok t j):TyI t i j:=by
 have hadv:=aA.b4f (kw:=bA) hV.fin (aty.le (by omega)) hV.pU.pred i t j hi h;unfold qE at h;obtain ⟨_,k1,h1,h⟩:=bZ h;obtain ⟨⟨ns,ts⟩,k2,h2,h⟩:=bZ h;obtain ⟨_,k3,h3,h⟩:=bZ h;have a1:=aA.exp hV.fin _ _ i _ k1 hi h1;simp only at h2 h3 h;have hI:∀(x:aR (List Nm×List Ty)),(∀(I:List Nm×List Ty→Nat→Prop),I ([],[]) k1→(∀a p b q,p<l.length→k1≤p→I a p→(a2w l ty a p= .ok b q∨a1s ty a p= .ok b q)→I b q∧q<l.length∧k1≤q)→(∀a p,I a p→I a (p+1))→x k1= .ok (ns,ts) k2→I (ns,ts) k2∧k2<l.length)→x k1= .ok (ns,ts) k2→(∀t∈ts,(t.pred.op=0→t.pred=a6A)∧dM t.pred+k1≤k2+1)∧k2<l.length:=fun x hx hx2=>by
  refine hx (fun a p=>∀t∈a.2,(t.pred.op=0→t.pred=a6A)∧dM t.pred+k1≤p+1) (by simp) (fun a p b q hp hk ha hab=>?_) (fun a p ha t ht=>by have:=ha t ht;exact ⟨this.1,by omega⟩) hx2;have key:∀t q',∀p',p≤p'→p'<l.length→ty p'= .ok t q'→(t.pred.op=0→t.pred=a6A)∧dM t.pred+k1≤q'+1∧q'<l.length∧p≤q':=fun t q' p' h1 h2 h3=>by have b1:=ity p' t q' h2 h3;have b2:=aty p' t q' h2 h3;exact ⟨b1.1,by have:=b1.2;omega,b2.2,by omega⟩
  rcases hab with hab|hab
  ·obtain ⟨w,m1,e1,hab⟩:=bZ hab;obtain ⟨_,m2,e2,hab⟩:=bZ hab;obtain ⟨t',m3,e3,hab⟩:=bZ hab;have c1:=aA.word (kw:=bA) hV.fin p w m1 hp e1;have c2:=aA.exp hV.fin _ _ m1 _ m2 c1.2 e2;have c3:=key t' m3 m2 (by omega) c2.2 e3;cases hab;refine ⟨fun t ht=>?_,c3.2.2.1,by omega⟩;simp only [List.mem_append,d8K] at ht;rcases ht with ht|rfl
   ·have:=ha t ht;exact ⟨this.1,by omega⟩
   ·exact ⟨c3.1,c3.2.1⟩
  ·obtain ⟨t',m3,e3,hab⟩:=bZ hab;have c3:=key t' m3 p (d8T _) hp e3;cases hab;refine ⟨fun t ht=>?_,c3.2.2.1,by omega⟩;simp only [List.mem_append,d8K] at ht;rcases ht with ht|rfl
   ·have:=ha t ht;exact ⟨this.1,by omega⟩
   ·exact ⟨c3.1,c3.2.1⟩
 have hA:(∀t∈ts,(t.pred.op=0→t.pred=a6A)∧dM t.pred+k1≤k2+1)∧k2<l.length:=by
  split at h2
  ·refine hI _ (fun I h0 hs hm hx=>?_) h2;have:=qG hV (one:=a2w l ty) (fun a p=>k1≤p∧I a p) (fun a p b q hp ha hab=>by have:=hs a p b q hp ha.1 ha.2 (.inl hab);exact ⟨⟨this.2.2,this.1⟩,this.2.1⟩) (fun a p h=>⟨by omega,hm a p h.2⟩) _ _ _ _ _ a1.2 ⟨d8T _,h0⟩ hx
   exact ⟨this.1.2,this.2⟩
  ·refine hI _ (fun I h0 hs hm hx=>?_) h2;have:=qG hV (one:=a1s ty) (fun a p=>k1≤p∧I a p) (fun a p b q hp ha hab=>by have:=hs a p b q hp ha.1 ha.2 (.inr hab);exact ⟨⟨this.2.2,this.1⟩,this.2.1⟩) (fun a p h=>⟨by omega,hm a p h.2⟩) _ _ _ _ _ a1.2 ⟨d8T _,h0⟩ hx
   exact ⟨this.1.2,this.2⟩
 have a3:=aA.exp hV.fin _ _ k2 _ k3 hA.2 h3;split at h
 ·rename_i hc;simp only [d8D,decide_eq_true_eq] at hc;obtain ⟨t',rfl⟩:=List.length_eq_one_iff.1 hc.1.2;cases h;have:=hA.1 t' (by simp);simp only [List.headD_cons];exact ⟨this.1,by omega⟩
 ·obtain ⟨_,k4,h4,h⟩:=bZ h;obtain ⟨t',k5,h5,h⟩:=bZ h;cases h;exact b0n hV _ _ _ _ _ (by omega)
theorem c5A {ty:aR Ty}(aty:aA l 1 ty)(ity:∀i t j,i<l.length→ty i= .ok t j→TyI t i j)(i:Nat)(t:Ty)(j:Nat)(hi:i<l.length)(h:rI bA bF rdP l ty i= .ok t j):TyI t i j:=by
 have hadv:=aA.b6M (kw:=bA) (andP:=bF) hV.fin (aty.le (by omega)) hV.pU.pred i t j hi h;unfold rI at h;rw [eC] at h;cases hb:jK bA l i with
 |bad n e=>rw [hb] at h;cases h
 |ok o k=>
  rw [hb] at h;cases o with
  |some t'=>
   simp only [gI] at h;cases h;unfold jK at hb
   repeat' split at hb
   all_goals first|(cases hb;exact b0n hV _ _ _ _ _ (by omega))|cases hb
  |none=>
   have:=sI hb;subst this;simp only at h;split at h
   ·have hp:=c2P hV _ t j h;obtain ⟨op,nm,args,ns,p,ps⟩:=t;simp only at hp;subst hp;exact b0n hV _ _ _ _ _ (by omega)
   ·split at h
    ·exact b7p hV aty ity _ t j hi h
    ·exact c5z hV aty ity _ t j hi h
theorem a5M:∀n i t j,i<l.length→rJ bA bF rdP l n i= .ok t j→TyI t i j
 |0,i,t,j,_,h=>by unfold rJ at h;cases h
 |n+1,i,t,j,hi,h=>c5A hV (aA.a3s hV.fin hV.pU.pred n) (a5M n) i t j hi h
theorem b0o:∀n i,i<l.length→l.length<n+i→pS G 39 [] l i (rJ bA bF rdP l n i) a8d
 |0,i,hi,h=>by omega
 |n+1,i,hi,h=>c2O hV (ty:=rJ bA bF rdP l n) (low:=i+1) (fun i' h1 h2=>b0o n i' h2 (by omega)) (aA.a3s hV.fin hV.pU.pred n) (a5M hV n) i (d8T _) hi
theorem kW (i:Nat)(hi:i<l.length):pS G 39 [] l i (cB bA bF rdP l i) a8d:=b0o hV _ i hi (by omega)
theorem gZ:aA l 1 (cB bA bF rdP l):=aA.uQ hV.fin hV.pU.pred
theorem c2Q (i:Nat)(t:Ty)(j:Nat)(hi:i<l.length)(h:cB bA bF rdP l i= .ok t j):TyI t i j:=a5M hV _ i t j hi h
theorem b4M (i:Nat)(hi:i<l.length):pS G 124 [] l i (dZ bA bF rdP l (cB bA bF rdP l) i) a8d:=a7R hV (low:=0) (fun i _ h=>kW hV i h) ((gZ hV).le (by omega)) (c2Q hV) i (by omega) hi
def zO (out:List Ty):List (Nat×aZ):=[(100001,.cells [.d (.sl (out.map tyC))]),(100002,.cells [.ptr 100000 0])]
abbrev c5B:List (TypeId×List VM.Loc):=[(45,[.c 100001 0])]
abbrev b4N (rdP:List Tok→Nat→Nat→mH Pr)(l:List Tok)(out:List Ty):aR (List Ty):=do let t ← cB bA bF rdP l;pure (out++[t])
theorem b9K:xR l K3 [.ptr 100001 0,.ptr 100002 0] zO c5B:=by
 constructor
 all_goals intros
 all_goals first
  |rfl
  |simp [zO,aQ,aX,aT,aS,bC,getKey,aU,bE,cS,rk,dC,bQ, *]
theorem b0p (out:List Ty):aA l 1 (b4N rdP l out):=(gZ hV).bl fun _=>aA.aO _
theorem b7q (a:List Ty)(i:Nat)(b:List Ty)(j:Nat)(hi:i<l.length)(h:a.length≤i)(hx:b4N rdP l a i= .ok b j):b.length≤j:=by obtain ⟨t,k,h1,h2⟩:=bZ hx;have:=gZ hV i t k hi h1;cases h2;simp;omega
theorem a8f (out:List Ty)(i:Nat)(hi:i<l.length)(hout:out.length≤i):kM G 282 [.ptr 100001 0,.ptr 100002 0] (zO out) c5B l i (b4N rdP l out i) (fun _=> .cT []) zO:=by
 have hl:=hV.len;obtain ⟨j0,rfl⟩:∃j0,j0=i:=⟨_,rfl⟩;have p0:j0≤j0∧j0<l.length:=⟨d8T _,hi⟩;refine kM.dB Tryz.func282 rfl Tryz.ntmps282 rfl (by simp) ?_
 intro Q Q0;simp [zO];refine a5D 5 (t:=28) (e:=45) (s:=2) (z:=6) (r:=7) (p:=8) (q:=5) (x:=4) (b:=0) [] 2 [1] (a1y 0 3 4) (gS (cB bA bF rdP l j0)) rfl rfl rfl rfl (by kernel_rfl) (by kernel_rfl) rfl ?_
 simp
 repeat' apply And.intro
 all_goals
  refine tJ cU ((kW hV j0 p0.2)) (by simp) (by simp) (fun t j1 x1=>?_) (fun n e hx=>by first|exact Q0.fail hx _|(simp;exact Q0.fail hx _)|(simp;exact fun s=>Q0.fail hx s));have Q1:=Q0.step x1;have p1:=gZ hV j0 t j1 p0.2 x1;refine dG.mk ?_
  simp;refine ⟨_,_,_,_,_,by simp,rfl,rfl,?_,rfl,rfl,?_,by simp,rfl,rfl,rfl,?_⟩
  ·intro c hc
   first
    |(obtain ⟨y,_,rfl⟩:=List.mem_map.1 hc
      rw [cY]
      rfl)
    |(simp only [d8K] at hc
      subst hc
      rfl)
  ·simp<;>omega
  exact Q1.ok _ j1 .normal _ rfl (.inl rfl) (by simp [zO,cY])
theorem xS (i:Nat)(hi:i<l.length):pS G 272 [] l i (mM bA bF rdP l i) (fun ts=> .d (.sl (ts.map tyC))):=by
 have hl:=hV.len;obtain ⟨j0,rfl⟩:∃j0,j0=i:=⟨_,rfl⟩;have p0:j0≤j0∧j0<l.length:=⟨d8T _,hi⟩;refine kM.dB Tryz.func272 rfl Tryz.ntmps272 rfl (by simp) ?_
 intro Q Q0;unfold mM at Q0;simp;cases hs:aJ l j0 [91] with
 |false=>
  have Q1:=Q0.step (jD hs);rw [if_neg (by decide)] at Q1;refine bI (ds:=[.str [91]]) (d:= .d (.bool false)) aE (aW l j0 [91] p0.2 (by omega) hs) (by simp) (by simp) ?_
  simp;exact Q1.ok _ j0 _ _ rfl (.inr rfl) (by simp)
 |true=>
  have Q1:=Q0.step (jC hs);rw [if_pos rfl] at Q1;refine bI (ds:=[.str [91]]) (d:= .d (.bool true)) aE (aV l j0 [91] p0.2 (by omega) hs) (by simp) (by simp) ?_
  have p1:j0+1≤j0+1∧j0+1<l.length:=⟨d8T _,aF hV.fin p0.2 hs⟩;obtain ⟨j1,hj1⟩:∃j1,j0+1=j1:=⟨_,rfl⟩;rw [hj1] at Q1 p1 ⊢;simp;have hone:=eX hV [44] (b4N rdP l) (fun out i=>out.length≤i) 0 a5L (b9K hV) (fun a=>(b0p hV a).le (by omega)) (fun a i _ hi h=>a8f hV a i hi h) (b7q hV) (fun a i h=>by omega) [] j1 (by omega) p1.2 (by simp);refine hM.mk (wJ dT hone [(100000,100000),(100001,3),(100002,1)] (fun a j hx=>?_) ?_ ?_ ?_ rfl rfl (fun ws j2 x2=>?_) (fun n e hx2=>Q1.fail hx2 _))
  ·simp [zO,aQ,aX,aT,aS,bC,getKey]
  ·simp [zO,aQ,aX,aT,aS,bC,getKey]
  ·simp [aU,bE,rk]
  ·simp [zO,aU,bE,rk,cS,dC]
  ·have Q2:=Q1.step x2;have p2:=aA.list hV.fin (b0p hV) [] j1 ws j2 p1.2 x2;simp [bD,zO,aU,bE,rk,cS,dC,bQ,gU,gE,eJ];refine cJ (ds:=[.sl (strs [[93]])]) aG (aH l [[93]] j2 p2.2 (by omega) hV.fin (by simp)) (by simp [strs]) (by simp) (fun u3 j3 x3=>?_) (fun n e hx=>by first|exact Q2.fail hx _|(simp;exact Q2.fail hx _)|(simp;exact fun s=>Q2.fail hx s));have Q3:=Q2.step x3;have p3:=aA.exp hV.fin _ _ j2 u3 j3 p2.2 x3;simp;exact Q3.ok _ j3 _ _ rfl (.inr rfl) (by simp)
end
end
section
open Go Go.VM
variable {G:GT}
abbrev tK (e:bW):List D:=[.int .i64 e.op,.str e.name,.int .i64 e.n,.sl (e.kids.map a0f),.sl (e.params.map a2g),.sl (e.alts.map a8a),.sl (e.types.map tyC)]
abbrev rO:bW→DV:=fun e=> .d (.agg (tK e))
@[simp] theorem d7t (o:Int)(ks:List bW):(bJ o ks).op=o:=rfl
@[simp] theorem d5W (o:Int)(ks:List bW):(bJ o ks).name=[]:=rfl
@[simp] theorem d7H (o:Int)(ks:List bW):(bJ o ks).n=0:=rfl
@[simp] theorem d5X (o:Int)(ks:List bW):(bJ o ks).kids=ks:=rfl
@[simp] theorem d2C (o:Int)(ks:List bW):(bJ o ks).params=[]:=rfl
@[simp] theorem d5Y (o:Int)(ks:List bW):(bJ o ks).alts=[]:=rfl
@[simp] theorem d4J (o:Int)(ks:List bW):(bJ o ks).types=[]:=rfl
theorem cG:VM.Enters Tryz.prog 68:=VM.Enters.mk Tryz.func68 rfl
theorem cC:VM.Enters Tryz.prog 34:=VM.Enters.mk Tryz.func34 rfl
theorem a4B:VM.Enters Tryz.prog 168:=VM.Enters.mk Tryz.func168 rfl
theorem tD:VM.Enters Tryz.prog 247:=VM.Enters.mk Tryz.func247 rfl
theorem zA:VM.Enters Tryz.prog 72:=VM.Enters.mk Tryz.func72 rfl
theorem b1S:VM.Enters Tryz.prog 121:=VM.Enters.mk Tryz.func121 rfl
theorem b9L:VM.Enters Tryz.prog 67:=VM.Enters.mk Tryz.func67 rfl
theorem b0q:VM.Enters Tryz.prog 271:=VM.Enters.mk Tryz.func271 rfl
theorem a2x (o:Int)(ks:List bW):CS Tryz.prog G 68 [.int .i64 o,.sl (ks.map a0f)] (.d (.agg (tK (bJ o ks)))) none:=by
 refine CS.res (r':= .d (.agg [.int .i64 o,.str [],.int .i64 0,.sl (ks.map a0f),.aN,.aN,.aN])) ?_ (by simp)
 refine CS.bH Tryz.func68 rfl Tryz.ntmps68 rfl ?_
 simp
theorem c2R (o:Int)(a:bW):CS Tryz.prog G 68 [.int .i64 o,.sl [tK a]] (.d (.agg [.int .i64 o,.str [],.int .i64 0,.sl [a0f a],.aN,.aN,.aN])) none:=by
 rw [dW];refine CS.bH Tryz.func68 rfl Tryz.ntmps68 rfl ?_
 simp
theorem a3h (o:Int)(a:bW):CS Tryz.prog G 68 [.int .i64 o,.sl [tK a]] (.d (.agg (tK (bJ o [a])))) none:=by
 have:=a2x (G:=G) o [a]
 rwa [List.map_cons,List.map_nil,dW] at this
theorem jS (o:Int)(a b:bW):CS Tryz.prog G 68 [.int .i64 o,.sl [tK a,tK b]] (.d (.agg (tK (bJ o [a,b])))) none:=by
 have:=a2x (G:=G) o [a,b]
 rwa [List.map_cons,List.map_cons,List.map_nil,dW a,dW b] at this
theorem c2S (o:Int)(a b c:bW):CS Tryz.prog G 68 [.int .i64 o,.sl [tK a,tK b,tK c]] (.d (.agg (tK (bJ o [a,b,c])))) none:=by
 have:=a2x (G:=G) o [a,b,c]
 rwa [List.map_cons,List.map_cons,List.map_cons,List.map_nil,dW a,dW b,dW c] at this
theorem b7r {α β γ:Type}(x:aR α)(f:α→aR β)(g:β→aR γ)(i:Nat):((x >>=f) >>=g) i=(x >>=fun a=>f a >>=g) i:=by
 rw [eC,eC,eC];cases x i with
 |ok a j=>simp only [eC]
 |bad n e=>rfl
theorem vH.assoc {α β γ:Type}{Q:Exit→St→Prop}{rs:List ResultVar}{l:List Tok}{enc:γ→DV}{Y:γ→List (Nat×aZ)}{own:List (TypeId×List VM.Loc)}{x:aR α}{f:α→aR β}{g:β→aR γ}{i:Nat}(h:vH Q rs l enc Y own (((x >>=f) >>=g) i)):vH Q rs l enc Y own ((x >>=fun a=>f a >>=g) i):=by rwa [b7r] at h
theorem CH.drop {P:Program}{f:FuncId}{s0:St}{d:DV}{H1:List (Nat×aZ)}{own1:List (TypeId×List VM.Loc)}(h:CH P G f s0 ⟨[d],H1,own1⟩):CH P G f s0 ⟨[d],H1,[]⟩:=fun base R μ args w hr=>(h base R μ args w hr).mono fun e w' ⟨v,R',μ',he,hr',hs⟩=>⟨v,R',μ',he,⟨hr'.defers,hr'.size,hr'.tmps,hr'.gT,hr'.inj,fun c hc=>(by cases hc),by obtain ⟨vs,hvs⟩:=hr'.own;obtain ⟨vs',hv',_⟩:=a1T hr' [] own1 vs ⟨hvs.len,hvs.one,hvs.apart⟩ rfl;exact ⟨vs',hv'.len,fun i c v hc hv=>⟨(hv'.one i c v hc hv).dV,(hv'.one i c v hc hv).own,(hv'.one i c v hc hv).keys⟩,hv'.apart⟩,hr'.sN,hr'.oP,hr'.base,hr'.pass⟩,hs⟩
abbrev RdO (G:GT){α:Type}(f:FuncId)(ds:List D)(l:List Tok)(i:Nat)(e:TypeId)(r:mH α)(enc:α→DV):Prop:=CX Tryz.prog G f ⟨.ptr 100000 0::ds.map .d,rH l i,[]⟩ (rdE l enc (fun _=>[]) [(e,[.t 0])] r)
theorem RdO.m {α:Type}{f:FuncId}{ds:List D}{l:List Tok}{i:Nat}{e:TypeId}{r:mH α}{enc:α→DV}(h:RdO G f ds l i e r enc):pS G f ds l i r enc:=by
 cases r with
 |ok a j=>exact CH.drop h
 |bad n x=>exact h
section
variable {β:Type} {Q:Exit→St→Prop} {rs:List ResultVar} {l:List Tok} {i:Nat} {enc:β→DV} {e:TypeId} {r:mH β}
theorem RdO.dB {f:FuncId}{fn:Func}{c:Code}{k:Nat}{ds:List D}(hf:Tryz.prog.funcs[f]? =some fn)(hb:fn.body=some c)(hn:fn.ntmps=k)(hrs:fn.results.toList=rs)(h:∀Q:Exit→St→Prop,vH Q rs l enc (fun _=>[]) [(e,[.t 0])] r→XK Tryz.prog G [.code c] .normal ⟨.ptr 100000 0::ds.map .d++List.replicate (k-(.ptr 100000 0::ds.map .d:List DV).length) (.cT []),rH l i,[]⟩ Q):RdO G f ds l i e r enc:=by
 refine CX.b4q hf hb hn hrs rfl fun Q h1 h2=>SW.xk (h Q ⟨fun a j e s hr he hs=>?_,fun n e s hr=>?_⟩)
 ·subst hr;exact h1 _ _ _ e s rfl he hs
 ·subst hr;exact h2 _ s rfl
end
section
variable {rdP:List Tok→Nat→Nat→mH Pr} {l:List Tok} (hV:mO G rdP l)
include hV
section
variable {ex:Nat→aR bW} {low:Nat} (hex:∀i,low≤i→i<l.length→pS G 34 [] l i (ex 0 i) rO) (aex:∀k,aA l 1 (ex k))
include hex aex
def a3V (out:List bW):List (Nat×aZ):=[(100001,.cells [.d (.sl (out.map a0f))]),(100002,.cells [.ptr 100000 0])]
abbrev d2D:List (TypeId×List VM.Loc):=[(30,[.c 100001 0])]
abbrev b7s (ex:Nat→aR bW)(out:List bW):aR (List bW):=do let e ← ex 0;pure (out++[e])
omit hex aex in
theorem c2T:xR l K3 [.ptr 100001 0,.ptr 100002 0] a3V d2D:=by
 constructor
 all_goals intros
 all_goals first
  |rfl
  |simp [a3V,aQ,aX,aT,aS,bC,getKey,aU,bE,cS,rk,dC,bQ, *]
omit hex in
theorem a6F (out:List bW):aA l 1 (b7s ex out):=(aex 0).bl fun _=>aA.aO _
omit hex in
theorem b0r (a:List bW)(i:Nat)(b:List bW)(j:Nat)(hi:i<l.length)(h:a.length≤i)(hx:b7s ex a i= .ok b j):b.length≤j:=by obtain ⟨t,k,h1,h2⟩:=bZ hx;have:=aex 0 i t k hi h1;cases h2;simp;omega
theorem b7t (out:List bW)(i:Nat)(hlow:low≤i)(hi:i<l.length)(hout:out.length≤i):kM G 121 [.ptr 100001 0,.ptr 100002 0] (a3V out) d2D l i (b7s ex out i) (fun _=> .cT []) a3V:=by
 have hl:=hV.len;obtain ⟨j0,rfl⟩:∃j0,j0=i:=⟨_,rfl⟩;have p0:j0≤j0∧j0<l.length:=⟨d8T _,hi⟩;refine kM.dB Tryz.func121 rfl Tryz.ntmps121 rfl (by simp) ?_
 intro Q Q0;simp [a3V];refine a5D 5 (t:=25) (e:=30) (s:=2) (z:=6) (r:=7) (p:=8) (q:=5) (x:=4) (b:=0) [] 2 [1] (a1y 0 3 4) (gS (ex 0 j0)) rfl rfl rfl rfl (by kernel_rfl) (by kernel_rfl) rfl ?_
 simp
 repeat' apply And.intro
 all_goals
  refine tJ cC ((hex j0 hlow p0.2)) (by simp) (by simp) (fun t j1 x1=>?_) (fun n e hx=>by first|exact Q0.fail hx _|(simp;exact Q0.fail hx _)|(simp;exact fun s=>Q0.fail hx s));have Q1:=Q0.step x1;have p1:=aex 0 j0 t j1 p0.2 x1;refine dG.mk ?_
  simp;refine ⟨_,_,_,_,_,by simp,rfl,rfl,?_,rfl,rfl,?_,by simp,rfl,rfl,rfl,?_⟩
  ·intro c hc
   first
    |(obtain ⟨y,_,rfl⟩:=List.mem_map.1 hc
      rw [dW]
      rfl)
    |(simp only [d8K] at hc
      subst hc
      rfl)
  ·simp<;>omega
  exact Q1.ok _ j1 .normal _ rfl (.inl rfl) (by simp [a3V,dW])
theorem b0s (i:Nat)(hlow:low≤i+1)(hi:i<l.length):RdO G 72 [] l i 30 (eN l ex i) (fun es=> .d (.sl (es.map a0f))):=by
 have hl:=hV.len;obtain ⟨j0,rfl⟩:∃j0,j0=i:=⟨_,rfl⟩;have p0:j0≤j0∧j0<l.length:=⟨d8T _,hi⟩;refine RdO.dB Tryz.func72 rfl Tryz.ntmps72 rfl ?_
 intro Q Q0;unfold eN at Q0;simp;refine cJ (ds:=[.sl (strs [[40]])]) aG (aH l [[40]] j0 p0.2 (by omega) hV.fin (by simp)) (by simp [strs]) (by simp) (fun u1 j1 x1=>?_) (fun n e hx=>by first|exact Q0.fail hx _|(simp;exact Q0.fail hx _)|(simp;exact fun s=>Q0.fail hx s));have Q1:=Q0.step x1;have p1:=aA.exp hV.fin _ _ j0 u1 j1 p0.2 x1;simp;have hone:=eX hV [44] (b7s ex) (fun out i=>out.length≤i) low b1S (c2T hV) (fun a=>(a6F hV aex a).le (by omega)) (fun a i sO hi h=>b7t hV hex aex a i sO hi h) (b0r hV aex) (fun a i h=>by omega) [] j1 (by omega) p1.2 (by simp);refine hM.mk (wJ dT hone [(100000,100000),(100001,3),(100002,1)] (fun a j hx=>?_) ?_ ?_ ?_ rfl rfl (fun ws j2 x2=>?_) (fun n e hx2=>Q1.fail hx2 _))
 ·simp [a3V,aQ,aX,aT,aS,bC,getKey]
 ·simp [a3V,aQ,aX,aT,aS,bC,getKey]
 ·simp [aU,bE,rk]
 ·simp [a3V,aU,bE,rk,cS,dC]
 ·have Q2:=Q1.step x2;have p2:=aA.list hV.fin (fun a=>a6F hV aex a) [] j1 ws j2 p1.2 x2;simp [bD,a3V,aU,bE,rk,cS,dC,bQ,gU,gE,eJ];refine cJ (ds:=[.sl (strs [[41]])]) aG (aH l [[41]] j2 p2.2 (by omega) hV.fin (by simp)) (by simp [strs]) (by simp) (fun u3 j3 x3=>?_) (fun n e hx=>by first|exact Q2.fail hx _|(simp;exact Q2.fail hx _)|(simp;exact fun s=>Q2.fail hx s));have Q3:=Q2.step x3;have p3:=aA.exp hV.fin _ _ j2 u3 j3 p2.2 x3;simp;exact Q3.ok _ j3 _ _ rfl (.inr rfl) (by simp)
theorem a4C (i:Nat)(hlow:low≤i+1)(hi:i<l.length):pS G 72 [] l i (eN l ex i) (fun es=> .d (.sl (es.map a0f))):=(b0s hV hex aex i hlow hi).m
theorem b3e (op:Int)(i:Nat)(hlow:low≤i+1)(hi:i<l.length):pS G 271 [.int .i64 op] l i (rV l ex op i) rO:=by
 have hl:=hV.len;obtain ⟨j0,rfl⟩:∃j0,j0=i:=⟨_,rfl⟩;have p0:j0≤j0∧j0<l.length:=⟨d8T _,hi⟩;refine kM.dB Tryz.func271 rfl Tryz.ntmps271 rfl (by simp) ?_
 intro Q Q0;unfold rV at Q0;simp;refine cJ (ds:=[.sl (strs [[40]])]) aG (aH l [[40]] j0 p0.2 (by omega) hV.fin (by simp)) (by simp [strs]) (by simp) (fun u1 j1 x1=>?_) (fun n e hx=>by first|exact Q0.fail hx _|(simp;exact Q0.fail hx _)|(simp;exact fun s=>Q0.fail hx s));have Q1:=Q0.step x1;have p1:=aA.exp hV.fin _ _ j0 u1 j1 p0.2 x1;simp;refine cJ cC ((hex j1 (by omega) p1.2)) (by simp) (by simp) (fun e j2 x2=>?_) (fun n e hx=>by first|exact Q1.fail hx _|(simp;exact Q1.fail hx _)|(simp;exact fun s=>Q1.fail hx s));have Q2:=Q1.step x2;have p2:=aex 0 j1 e j2 p1.2 x2;simp;refine cJ (ds:=[.sl (strs [[41]])]) aG (aH l [[41]] j2 p2.2 (by omega) hV.fin (by simp)) (by simp [strs]) (by simp) (fun u3 j3 x3=>?_) (fun n e hx=>by first|exact Q2.fail hx _|(simp;exact Q2.fail hx _)|(simp;exact fun s=>Q2.fail hx s));have Q3:=Q2.step x3;have p3:=aA.exp hV.fin _ _ j2 u3 j3 p2.2 x3;simp;refine mB.mk cG (a3h op e) ?_
 simp;exact Q3.ok _ j3 _ _ rfl (.inr rfl) (by simp)
theorem c2U (i:Nat)(hlow:low≤i+1)(hi:i<l.length):pS G 67 [] l i (sY bA bF rdP l ex i) rO:=by
 have hl:=hV.len;obtain ⟨j0,rfl⟩:∃j0,j0=i:=⟨_,rfl⟩;have p0:j0≤j0∧j0<l.length:=⟨d8T _,hi⟩;refine kM.dB Tryz.func67 rfl Tryz.ntmps67 rfl (by simp) ?_
 intro Q Q0;unfold sY at Q0;simp;refine cJ cX (dO hV.kw l j0 p0.2 (by omega)) (by simp) (by simp) (fun nm j1 x1=>?_) (fun n e hx=>by first|exact Q0.fail hx _|(simp;exact Q0.fail hx _)|(simp;exact fun s=>Q0.fail hx s));have Q1:=Q0.step x1;have p1:=aA.word hV.fin j0 nm j1 p0.2 x1;simp;cases hs:aJ l j1 [58] with
 |false=>
  have Q2:=Q1.step (jD hs);rw [if_neg (by decide)] at Q2;refine bI (ds:=[.str [58]]) (d:= .d (.bool false)) aE (aW l j1 [58] p1.2 (by omega) hs) (by simp) (by simp) ?_
  simp;have Q1:=Q2.step (gI _ _);refine cJ (ds:=[.sl (strs [[61]])]) aG (aH l [[61]] j1 p1.2 (by omega) hV.fin (by simp)) (by simp [strs]) (by simp) (fun u4 j4 x4=>?_) (fun n e hx=>by first|exact Q1.fail hx _|(simp;exact Q1.fail hx _)|(simp;exact fun s=>Q1.fail hx s));have Q4:=Q1.step x4;have p4:=aA.exp hV.fin _ _ j1 u4 j4 p1.2 x4;simp;refine cJ cC ((hex j4 (by omega) p4.2)) (by simp) (by simp) (fun x j5 x5=>?_) (fun n e hx=>by first|exact Q4.fail hx _|(simp;exact Q4.fail hx _)|(simp;exact fun s=>Q4.fail hx s));have Q5:=Q4.step x5;have p5:=aex 0 j4 x j5 p4.2 x5;simp;refine cJ (ds:=[.sl (strs [[105,110]])]) aG (aH l [[105,110]] j5 p5.2 (by omega) hV.fin (by simp)) (by simp [strs]) (by simp) (fun u6 j6 x6=>?_) (fun n e hx=>by first|exact Q5.fail hx _|(simp;exact Q5.fail hx _)|(simp;exact fun s=>Q5.fail hx s));have Q6:=Q5.step x6;have p6:=aA.exp hV.fin _ _ j5 u6 j6 p5.2 x6;simp;refine kG [1] 2 [] (.op 0 (.call [3,4,5] .none) (.call [0,3,4,5] .none)) (gS (ex 0 j6)) (by kernel_rfl) (by kernel_rfl) ?_
  simp;refine ⟨?_,?_⟩
  all_goals
   refine tJ cC ((hex j6 (by omega) p6.2)) (by simp) (by simp) (fun y j7 x7=>?_) (fun n e hx=>by first|exact Q6.fail hx _|(simp;exact Q6.fail hx _)|(simp;exact fun s=>Q6.fail hx s));have Q7:=Q6.step x7;have p7:=aex 0 j6 y j7 p6.2 x7;refine dG.mk ?_
   simp;exact Q7.ok _ j7 _ _ rfl (.inr rfl) (by simp [dW,cY])
 |true=>
  have Q2:=Q1.step (jC hs);rw [if_pos rfl] at Q2;refine bI (ds:=[.str [58]]) (d:= .d (.bool true)) aE (aV l j1 [58] p1.2 (by omega) hs) (by simp) (by simp) ?_
  have p2:j1+1≤j1+1∧j1+1<l.length:=⟨d8T _,aF hV.fin p1.2 hs⟩;obtain ⟨j2,hj2⟩:∃j2,j1+1=j2:=⟨_,rfl⟩;rw [hj2] at Q2 p2 ⊢;simp;have Q2:=Q2.assoc;refine cJ cU ((kW hV j2 p2.2)) (by simp) (by simp) (fun t j3 x3=>?_) (fun n e hx=>by first|exact Q2.fail hx _|(simp;exact Q2.fail hx _)|(simp;exact fun s=>Q2.fail hx s));have Q3:=Q2.step x3;have p3:=gZ hV j2 t j3 p2.2 x3;simp;have Q3:=Q3.step (gI _ _);refine cJ (ds:=[.sl (strs [[61]])]) aG (aH l [[61]] j3 p3.2 (by omega) hV.fin (by simp)) (by simp [strs]) (by simp) (fun u4 j4 x4=>?_) (fun n e hx=>by first|exact Q3.fail hx _|(simp;exact Q3.fail hx _)|(simp;exact fun s=>Q3.fail hx s));have Q4:=Q3.step x4;have p4:=aA.exp hV.fin _ _ j3 u4 j4 p3.2 x4;simp;refine cJ cC ((hex j4 (by omega) p4.2)) (by simp) (by simp) (fun x j5 x5=>?_) (fun n e hx=>by first|exact Q4.fail hx _|(simp;exact Q4.fail hx _)|(simp;exact fun s=>Q4.fail hx s));have Q5:=Q4.step x5;have p5:=aex 0 j4 x j5 p4.2 x5;simp;refine cJ (ds:=[.sl (strs [[105,110]])]) aG (aH l [[105,110]] j5 p5.2 (by omega) hV.fin (by simp)) (by simp [strs]) (by simp) (fun u6 j6 x6=>?_) (fun n e hx=>by first|exact Q5.fail hx _|(simp;exact Q5.fail hx _)|(simp;exact fun s=>Q5.fail hx s));have Q6:=Q5.step x6;have p6:=aA.exp hV.fin _ _ j5 u6 j6 p5.2 x6;simp;refine kG [1] 2 [] (.op 0 (.call [3,4,5] .none) (.call [0,3,4,5] .none)) (gS (ex 0 j6)) (by kernel_rfl) (by kernel_rfl) ?_
  simp;refine ⟨?_,?_⟩
  all_goals
   refine tJ cC ((hex j6 (by omega) p6.2)) (by simp) (by simp) (fun y j7 x7=>?_) (fun n e hx=>by first|exact Q6.fail hx _|(simp;exact Q6.fail hx _)|(simp;exact fun s=>Q6.fail hx s));have Q7:=Q6.step x7;have p7:=aex 0 j6 y j7 p6.2 x7;refine dG.mk ?_
   simp;exact Q7.ok _ j7 _ _ rfl (.inr rfl) (by simp [dW,cY])
end
end
end
section
open Go Go.VM
variable {G:GT}
theorem a5N:VM.Enters Tryz.prog 136:=VM.Enters.mk Tryz.func136 rfl
theorem b0t:VM.Enters Tryz.prog 174:=VM.Enters.mk Tryz.func174 rfl
theorem b4O:VM.Enters Tryz.prog 152:=VM.Enters.mk Tryz.func152 rfl
theorem a8g:VM.Enters Tryz.prog 153:=VM.Enters.mk Tryz.func153 rfl
abbrev d6C (b:qT):List D:= .str b.name:: .sl (b.vars.map mF)::(prD b.hyp++prD b.goal)
theorem c1h (b:qT):b9r b=d6C b:=by
 rw [b9r,gF,gF]
 rfl
section
variable {rdP:List Tok→Nat→Nat→mH Pr} {l:List Tok} (hV:mO G rdP l)
include hV
def zP (out:List psV):List (Nat×aZ):=[(100001,.cells [.ptr 100000 0]),(100002,.cells [.d (.sl (out.map mF))])]
abbrev c5C:List (TypeId×List VM.Loc):=[(181,[.c 100002 0])]
abbrev b4P (l:List Tok)(out:List psV):aR (List psV):=do
 let c ← eV l
 let w ← bN bA l
 pure (out++[(c,w)])
theorem b9M:xR l K3 [.ptr 100001 0,.ptr 100002 0] zP c5C:=by
 constructor
 all_goals intros
 all_goals first
  |rfl
  |simp [zP,aQ,aX,aT,aS,bC,getKey,aU,bE,cS,rk,dC,bQ, *]
theorem b0u (out:List psV):aA l 1 (b4P l out):=(aA.title hV.fin).bl fun _=>((aA.word hV.fin).le (by omega)).bl fun _=>aA.aO _
theorem b7u (a:List psV)(i:Nat)(b:List psV)(j:Nat)(hi:i<l.length)(h:a.length≤i)(hx:b4P l a i= .ok b j):b.length≤j:=by have h1:=b0u hV a i b j hi hx;obtain ⟨_,_,_,hx⟩:=bZ hx;obtain ⟨_,_,_,hx⟩:=bZ hx;cases hx;simp;omega
theorem b4Q (out:List psV)(i:Nat)(hi:i<l.length)(hout:out.length≤i):kM G 174 [.ptr 100001 0,.ptr 100002 0] (zP out) c5C l i (b4P l out i) (fun _=> .cT []) zP:=by
 have hl:=hV.len;obtain ⟨j0,rfl⟩:∃j0,j0=i:=⟨_,rfl⟩;have p0:j0≤j0∧j0<l.length:=⟨d8T _,hi⟩;refine kM.dB Tryz.func174 rfl Tryz.ntmps174 rfl (by simp) ?_
 intro Q Q0;simp [zP];refine cJ gW (jM l j0 p0.2 (by omega)) (by simp) (by simp) (fun c j1 x1=>?_) (fun n e hx=>by first|exact Q0.fail hx _|(simp;exact Q0.fail hx _)|(simp;exact fun s=>Q0.fail hx s));have Q1:=Q0.step x1;have p1:=aA.title hV.fin j0 c j1 p0.2 x1;simp;refine kG [1] 3 [2] (.op 0 (.call [4,5,6,7] .none) (.call [0,4,5,6,7] .none)) (gS (bN bA l j1)) (by kernel_rfl) (by kernel_rfl) ?_
 simp;refine ⟨?_,?_⟩
 all_goals
  refine tJ cX (dO hV.kw l j1 p1.2 (by omega)) (by simp) (by simp) (fun w j2 x2=>?_) (fun n e hx=>by first|exact Q1.fail hx _|(simp;exact Q1.fail hx _)|(simp;exact fun s=>Q1.fail hx s));have Q2:=Q1.step x2;have p2:=aA.word hV.fin j1 w j2 p1.2 x2;refine dG.mk ?_
  simp;refine eU (by first|omega|(simp [mF];omega)) ?_
  simp;exact Q2.ok _ j2 _ _ rfl (.inl rfl) (by simp [zP,a3f hV])
theorem a7S (i:Nat)(hi:i<l.length):pS G 136 [] l i (uO bA l i) (fun ws=> .d (.sl (ws.map mF))):=by
 have hl:=hV.len;refine kM.dB Tryz.func136 rfl Tryz.ntmps136 rfl (by simp) ?_
 intro Q Q0;unfold uO at Q0;simp;have hone:=eX hV [44] (b4P l) (fun out i=>out.length≤i) 0 b0t (b9M hV) (fun a=>(b0u hV a).le (by omega)) (fun a i _ hi h=>b4Q hV a i hi h) (b7u hV) (fun a i h=>by omega) [] i (by omega) hi (by simp);refine hM.mk (wJ dT hone [(100000,100000),(100001,1),(100002,3)] (fun a j hx=>?_) ?_ ?_ ?_ rfl rfl (fun ws j2 hx2=>?_) (fun n e hx2=>Q0.bad n e _ hx2))
 ·simp [zP,aQ,aX,aT,aS,bC,getKey]
 ·simp [zP,aQ,aX,aT,aS,bC,getKey]
 ·simp [aU,bE,rk]
 ·simp [zP,aU,bE,rk,cS,dC]
 ·simp [bD,zP,aU,bE,rk,cS,dC,bQ,gU,gE,eJ];exact Q0.ok _ j2 _ _ hx2 (.inr rfl) (by simp)
theorem b7v (i:Nat)(hi:i<l.length):pS G 152 [] l i (uP bA rdP l i) (fun b=> .d (.agg (d6C b))):=by
 have hl:=hV.len;obtain ⟨j0,rfl⟩:∃j0,j0=i:=⟨_,rfl⟩;have p0:j0≤j0∧j0<l.length:=⟨d8T _,hi⟩;refine kM.dB Tryz.func152 rfl Tryz.ntmps152 rfl (by simp) ?_
 intro Q Q0;unfold uP at Q0;simp;refine cJ cX (dO hV.kw l j0 p0.2 (by omega)) (by simp) (by simp) (fun nm j1 x1=>?_) (fun n e hx=>by first|exact Q0.fail hx _|(simp;exact Q0.fail hx _)|(simp;exact fun s=>Q0.fail hx s));have Q1:=Q0.step x1;have p1:=aA.word hV.fin j0 nm j1 p0.2 x1;simp;refine cJ (ds:=[.sl (strs [[40]])]) aG (aH l [[40]] j1 p1.2 (by omega) hV.fin (by simp)) (by simp [strs]) (by simp) (fun u2 j2 x2=>?_) (fun n e hx=>by first|exact Q1.fail hx _|(simp;exact Q1.fail hx _)|(simp;exact fun s=>Q1.fail hx s));have Q2:=Q1.step x2;have p2:=aA.exp hV.fin _ _ j1 u2 j2 p1.2 x2;simp;refine cJ yY ((a0S hV false j2 p2.2)) (by simp) (by simp) (fun vs j3 x3=>?_) (fun n e hx=>by first|exact Q2.fail hx _|(simp;exact Q2.fail hx _)|(simp;exact fun s=>Q2.fail hx s));have Q3:=Q2.step x3;have p3:=(aA.vars hV.fin false) j2 vs j3 p2.2 x3;simp;refine cJ (ds:=[.sl (strs [[41]])]) aG (aH l [[41]] j3 p3.2 (by omega) hV.fin (by simp)) (by simp [strs]) (by simp) (fun u4 j4 x4=>?_) (fun n e hx=>by first|exact Q3.fail hx _|(simp;exact Q3.fail hx _)|(simp;exact fun s=>Q3.fail hx s));have Q4:=Q3.step x4;have p4:=aA.exp hV.fin _ _ j3 u4 j4 p3.2 x4;simp;refine cJ oL (qF hV j4 p4.2) (by simp) (by simp) (fun p j5 x5=>?_) (fun n e hx=>by first|exact Q4.fail hx _|(simp;exact Q4.fail hx _)|(simp;exact fun s=>Q4.fail hx s));have Q5:=Q4.step x5;have p5:=hV.pU.pred j4 p j5 p4.2 x5;simp;refine cJ (ds:=[.sl (strs [[45,62]])]) aG (aH l [[45,62]] j5 p5.2 (by omega) hV.fin (by simp)) (by simp [strs]) (by simp) (fun u6 j6 x6=>?_) (fun n e hx=>by first|exact Q5.fail hx _|(simp;exact Q5.fail hx _)|(simp;exact fun s=>Q5.fail hx s));have Q6:=Q5.step x6;have p6:=aA.exp hV.fin _ _ j5 u6 j6 p5.2 x6;simp;refine cJ oL (qF hV j6 p6.2) (by simp) (by simp) (fun q j7 x7=>?_) (fun n e hx=>by first|exact Q6.fail hx _|(simp;exact Q6.fail hx _)|(simp;exact fun s=>Q6.fail hx s));have Q7:=Q6.step x7;have p7:=hV.pU.pred j6 q j7 p6.2 x7;simp;refine cJ (ds:=[.sl (strs [[46]])]) aG (aH l [[46]] j7 p7.2 (by omega) hV.fin (by simp)) (by simp [strs]) (by simp) (fun u8 j8 x8=>?_) (fun n e hx=>by first|exact Q7.fail hx _|(simp;exact Q7.fail hx _)|(simp;exact fun s=>Q7.fail hx s));have Q8:=Q7.step x8;have p8:=aA.exp hV.fin _ _ j7 u8 j8 p7.2 x8;simp;exact Q8.ok _ j8 _ _ rfl (.inr rfl) (by simp)
omit hV in
theorem a2y (t:Tok):(cR t).length=4:=rfl
theorem d4L {g:Nat}{d:Int}{i:Nat}(hi:i<l.length)(h:dN (aK l i) [40]=true):vF l (g+1) d i=vF l g (d+1) (i+1):=by rw [vF,if_pos hi,if_pos h]
theorem d4M {g:Nat}{d:Int}{i:Nat}(hi:i<l.length)(h0:dN (aK l i) [40]=false)(h:dN (aK l i) [41]=true):vF l (g+1) d i=vF l g (d-1) (i+1):=by rw [vF,if_pos hi,if_neg (by rw [h0];decide),if_pos h]
theorem d4N {g:Nat}{d:Int}{i:Nat}(hi:i<l.length)(h0:dN (aK l i) [40]=false)(h1:dN (aK l i) [41]=false):vF l (g+1) d i=if dN (aK l i) [61]&&decide (d≤0) then i else vF l g d (i+1):=by rw [vF,if_pos hi,if_neg (by rw [h0];decide),if_neg (by rw [h1];decide)]
theorem d4O {g:Nat}{d:Int}{i:Nat}(hi: ¬i<l.length):vF l (g+1) d i=l.length:=by rw [vF,if_neg hi]
theorem a8B:∀(g:Nat) (d:Int) (i:Nat),vF l g d i≤l.length
 |0,d,i=>by unfold vF;omega
 |g+1,d,i=>by
  unfold vF;split
  ·split
   ·exact a8B g _ _
   ·split
    ·exact a8B g _ _
    ·split
     ·omega
     ·exact a8B g _ _
  ·omega
theorem b0v (i:Nat)(hi:i<l.length):CH Tryz.prog G 153 ⟨[.ptr 100000 0],rH l i,[]⟩ ⟨[.d (.int .i64 (vF l (l.length+1) 0 i))],rH l i,[]⟩:=by
 have hl:=hV.len;generalize hR:vF l (l.length+1) 0 i=R;refine CH.bH Tryz.func153 rfl Tryz.ntmps153 rfl (by simp) ?_
 simp;refine SW.kJ (ι:={ x:Int×Nat×Nat // i≤x.2.1∧x.2.1≤l.length∧l.length<x.2.2+x.2.1∧(-(x.2.1:Int)≤x.1∧x.1≤x.2.1)∧vF l x.2.2 x.1 x.2.1=R }) (fun x=>[(3,.d (.int .i64 x.1.1)),(4,.d (.int .i64 x.1.2.1))]) (fun _=>rH l i) (fun _=>[]) (fun x=>l.length-x.1.2.1) ⟨(0,i,l.length+1),d8T _,by simp only;omega,by simp only;omega,by simp only;omega,hR⟩ (by simp) ?_
 rintro ⟨⟨d,k,g⟩,h1,h2,h3,h4,hp⟩;simp only at h1 h2 h3 h4 hp;obtain ⟨g,rfl⟩:∃k,g=k+1:=⟨g-1,by omega⟩;by_cases hk:k<l.length
 ·have hT:aK l k=l[k]:=by simp [aK,hk]
  have hw:=bP (show k<9223372036854775807 by omega);have hd1:IntKind.i64.wrap (d+1)=d+1:=wrap64 (by omega);have hd2:IntKind.i64.wrap (d-1)=d-1:=wrap64 (by omega);simp [hk,a2y];refine aI.mk jV (kV l[k] [40]) ?_
  cases e1:dN l[k] [40] with
  |true=>rw [d4L hV hk (by rw [hT];exact e1)] at hp;simp [hd1,hw];exact bR.mk ⟨(d+1,k+1,g),by simp only;omega,by simp only;omega,by simp only;omega,by simp only;omega,hp⟩ (by simp) (by simp;omega)
  |false=>
   simp [hk,a2y];refine aI.mk jV (kV l[k] [41]) ?_
   cases e2:dN l[k] [41] with
   |true=>rw [d4M hV hk (by rw [hT];exact e1) (by rw [hT];exact e2)] at hp;simp [hd2,hw];exact bR.mk ⟨(d-1,k+1,g),by simp only;omega,by simp only;omega,by simp only;omega,by simp only;omega,hp⟩ (by simp) (by simp;omega)
   |false=>
    rw [d4N hV hk (by rw [hT];exact e1) (by rw [hT];exact e2),hT] at hp;simp [hk,a2y];refine aI.mk jV (kV l[k] [61]) ?_
    cases e3:dN l[k] [61] with
    |true=>
     by_cases hd:d≤0
     ·rw [e3,if_pos (by simp [hd])] at hp;subst hp;simp [hd]
     ·rw [e3,if_neg (by simp [hd])] at hp;simp [hd,hw];exact bR.mk ⟨(d,k+1,g),by simp only;omega,by simp only;omega,by simp only;omega,by simp only;omega,hp⟩ (by simp) (by simp;omega)
    |false=>rw [e3,if_neg (by simp)] at hp;simp [hw];exact bR.mk ⟨(d,k+1,g),by simp only;omega,by simp only;omega,by simp only;omega,by simp only;omega,hp⟩ (by simp) (by simp;omega)
 ·rw [d4O hV hk] at hp;subst hp;simp [hk,a2y]
end
end
section
open Go Go.VM
variable {G:GT}
theorem a4D:VM.Enters Tryz.prog 108:=VM.Enters.mk Tryz.func108 rfl
theorem b4R:VM.Enters Tryz.prog 154:=VM.Enters.mk Tryz.func154 rfl
theorem SW.b7w {P:Program}{α:Type}{b c:Code}{st:St}{Q:Exit→St→Prop}(r:mH α)(st':α→Nat→St)(h1:SW P G b st fun e s=>match e with
  | .normal=>∃v j,r= .ok v j∧wD s (st' v j)
  |e=>Q e s)(h2:∀v j,r= .ok v j→SW P G c (st' v j) Q):SW P G (.seq b c) st Q:=SW.pL (SW.mono (fun e s h=>by
 cases e with
 |normal=>obtain ⟨v,j,hr,hw⟩:=h;exact SW.zI hw (h2 v j hr)
 |_=>exact h) h1)
structure xU (Q:Exit→St→Prop) {α:Type} (r0 r:mH α):Prop where
 eq:r0=r
 bad:∀n e s,r0= .bad n e→Q (.panic (wI (mR n e))) s
section
variable {α β:Type} {Q:Exit→St→Prop} {i j:Nat} {n e:Int} {a:α} {r0:mH β}
theorem xU.step {x:aR α}{f:α→aR β}(h:xU Q r0 ((x >>=f) i))(hx:x i= .ok a j):xU Q r0 (f a j):=⟨h.eq.trans (aY hx),h.bad⟩
theorem xU.fail {x:aR α}{f:α→aR β}(h:xU Q r0 ((x >>=f) i))(hx:x i= .bad n e)(s:St):Q (.panic (wI (mR n e))) s:=h.bad _ _ _ (h.eq.trans (cW hx))
end
theorem c2V {α β γ:Type}(x:aR α)(f:α→aR β)(g:β→aR γ):((x >>=f) >>=g)=(x >>=fun a=>f a >>=g):=funext fun i=>b7r x f g i
section
variable {rdP:List Tok→Nat→Nat→mH Pr} {l:List Tok} (hV:mO G rdP l)
include hV
abbrev b4S (s:b2H):List D:= .sl (strs s.vars):: .sl (s.xN.map mF):: .sl (s.abs.map mF):: .sl (s.bounds.map b9r)::(tyD s.type++[.sl (s.b4e.map rG)])
omit hV in
theorem d0z (s:b2H):d0b s=b4S s:=by
 rw [d0b,cY]
 rfl
abbrev c1i (l:List Tok):aR (List Nm):=do
 let b ← cM l [102,111,114,97,108,108]
 if b then do
  let w ← bN bA l
  let ws ← oW l (fun i=>jJ bA (aK l i)) (vQ l) [w]
  aL l [[46]]
  pure ws
 else pure []
abbrev c1j (l:List Tok):aR (List psV):=do
 let b ← cM l [119,104,101,114,101]
 if b then do
  let ns ← uO bA l
  aL l [[46]]
  pure ns
 else pure []
abbrev c1k (l:List Tok):aR (List psV):=do
 let b ← cM l [60]
 if b then do
  let ns ← tX bA l false
  aL l [[62],[46]]
  pure ns
 else pure []
abbrev c5D (rdP:List Tok→Nat→Nat→mH Pr)(l:List Tok)(out:List qT):aR (List qT):=do
 aL l [[98,111,117,110,100]]
 let b ← uP bA rdP l
 pure (out++[b])
abbrev b7x (rdP:List Tok→Nat→Nat→mH Pr)(l:List Tok):aR (List qT):=oW l (fun i=>aJ l i [98,111,117,110,100]) (c5D rdP l) []
abbrev c2W (rdP:List Tok→Nat→Nat→mH Pr)(l:List Tok)(E:Nat)(out:List Pr):aR (List Pr):=do
 let p ← (fun j=>rdP l j E:aR Pr)
 pure (out++[p])
abbrev d2E (rdP:List Tok→Nat→Nat→mH Pr)(l:List Tok):aR (List Pr):=do
 let b ← cM l [109,101,116,114,105,99]
 if b then (fun i=>eO l [44] (c2W rdP l (vF l (l.length+1) 0 i)) [] i) else pure []
omit hV in
theorem c5E:a1o bA bF rdP l=(do
  let vs ← c1i l
  let ns ← c1j l
  let abs ← c1k l
  let bs ← b7x rdP l
  let t ← cB bA bF rdP l
  let ms ← d2E rdP l
  pure ⟨vs,ns,abs,bs,t,ms⟩):=by
 unfold a1o;simp only [c2V]
theorem c5F:aA l 0 (c1i l):=(aA.skip hV.fin _).bl fun _=>aA.ite (((aA.word hV.fin).le (by omega)).bl fun _=>(aA.many (fun a=>((aA.word hV.fin).le (by omega)).bl fun _=>aA.aO _) _).bl fun _=>((aA.exp hV.fin _ _).le (by omega)).bl fun _=>aA.aO _) (aA.aO _)
theorem a2z:aA l 1 (uO bA l):=aA.xN hV.fin
theorem c5G:aA l 0 (c1j l):=(aA.skip hV.fin _).bl fun _=>aA.ite (((a2z hV).le (by omega)).bl fun _=>((aA.exp hV.fin _ _).le (by omega)).bl fun _=>aA.aO _) (aA.aO _)
theorem c5H:aA l 0 (c1k l):=(aA.skip hV.fin _).bl fun _=>aA.ite (((aA.vars hV.fin false).le (by omega)).bl fun _=>((aA.exp hV.fin _ _).le (by omega)).bl fun _=>aA.aO _) (aA.aO _)
theorem a7T:aA l 1 (uP bA rdP l):=aA.bound hV.fin hV.pU.pred
theorem c5I (out:List qT):aA l 1 (c5D rdP l out):=(aA.exp hV.fin _ _).bl fun _=>((a7T hV).le (by omega)).bl fun _=>aA.aO _
theorem c5J:aA l 0 (b7x rdP l):=aA.many (fun a=>(c5I hV a).le (by omega)) _
theorem b0w (E:Nat):aA l 0 (fun j=>rdP l j E:aR Pr):=fun i p j hi hx=>hV.pU E i p j hi hx
theorem c5K (E:Nat)(out:List Pr):aA l 0 (c2W rdP l E out):=(b0w hV E).bl fun _=>aA.aO _
theorem c2X (E:Nat)(a:List Pr)(i:Nat)(b:List Pr)(j:Nat)(hi:i<l.length)(h:a.length≤i)(hx:c2W rdP l E a i= .ok b j):b.length≤j:=by
 obtain ⟨p,k,h1,h2⟩:=bZ hx;have h3:=(hV.nod i E p k hi h1).1;have pos:1≤dM p:=by cases p;simp [dM]
 cases h2;simp;omega
def b1T (vs:List Nm)(ns abs:List psV)(bs:List qT)(t:Ty)(E:Nat)(out:List Pr):List (Nat×aZ):=[(100001,.cells (.d (.sl (strs vs)):: .d (.sl (ns.map mF)):: .d (.sl (abs.map mF)):: .d (.sl (bs.map b9r))::((tyD t).map .d++[.d (.sl (out.map rG))]))),(100002,.cells [.ptr 100000 0]),(100003,.cells [.d (.int .i64 E)])]
abbrev d6D:List (TypeId×List VM.Loc):=[(43,[.c 100001 13])]
theorem c5L (vs:List Nm)(ns abs:List psV)(bs:List qT)(t:Ty)(E:Nat):xR l K4 [.ptr 100001 0,.ptr 100002 0,.ptr 100003 0] (b1T vs ns abs bs t E) d6D:=by
 constructor
 all_goals intros
 all_goals first
  |rfl
  |simp [b1T,aQ,aX,aT,aS,bC,getKey,aU,bE,cS,rk,dC,bQ, *]
theorem b9N (vs:List Nm)(ns abs:List psV)(bs:List qT)(t:Ty)(E:Nat)(hE:E≤l.length)(out:List Pr)(i:Nat)(hi:i<l.length)(hout:out.length≤i):kM G 154 [.ptr 100001 0,.ptr 100002 0,.ptr 100003 0] (b1T vs ns abs bs t E out) d6D l i (c2W rdP l E out i) (fun _=> .cT []) (b1T vs ns abs bs t E):=by
 have hl:=hV.len;obtain ⟨j0,rfl⟩:∃j0,j0=i:=⟨_,rfl⟩;have p0:j0≤j0∧j0<l.length:=⟨d8T _,hi⟩;refine kM.dB Tryz.func154 rfl Tryz.ntmps154 rfl (by simp) ?_
 intro Q Q0;simp [b1T];refine dX 7 (t:=41) (e:=43) (T:=68) (s:=4) (z:=9) (r:=10) (p:=11) (q:=8) (x:=7) (b:=12) (y:=0) (fd:=5) [0] 4 [2,3] (a1y 1 5 6) (gS (rdP l j0 E)) rfl rfl rfl rfl rfl (by kernel_rfl) (by kernel_rfl) rfl ?_
 simp
 repeat' apply And.intro
 all_goals
  refine tJ a3R ((hV.bef j0 E p0.2 hE)) (by simp) (by simp) (fun q j1 x1=>?_) (fun n e hx=>by first|exact Q0.fail hx _|(simp;exact Q0.fail hx _)|(simp;exact fun s=>Q0.fail hx s));have Q1:=Q0.step x1;have p1:=(b0w hV E) j0 q j1 p0.2 x1;refine dG.mk ?_
  simp;refine ⟨_,_,_,_,_,_,_,_,_,by simp,rfl,rfl,?_,rfl,rfl,?_,by simp,rfl,rfl,rfl,rfl,by decide,rfl,?_⟩
  ·intro c hc
   first
    |(obtain ⟨y,_,rfl⟩:=List.mem_map.1 hc
      rw [gF]
      rfl)
    |(simp only [d8K] at hc
      subst hc
      rfl)
  ·simp<;>omega
  exact Q1.ok _ j1 .normal _ rfl (.inl rfl) (by simp [b1T,gF])
abbrev d0A:List DV:=[.d .aN,.d .aN,.d .aN,.d .aN,.d (.int .i64 0),.d (.str []),.d .aN,.d .aN,.d (.int .i64 0),.d (.str []),.d (.int .i64 0),.d .aN,.d .aN,.d .aN]
abbrev d0B (l:List Tok)(a b c d:D)(j:Nat):St:=⟨.ptr 100000 0:: .ptr 1 0:: .ptr 2 0:: .ptr 3 0::List.replicate 76 .undef,[(1,.cells [.ptr 100000 0]),(2,.cells d0A),(3,.cells [.d a,.d b,.d c,.d d,.d (.int .i64 0),.d (.str []),.d .aN,.d .aN,.d (.int .i64 0),.d (.str []),.d (.int .i64 0),.d .aN,.d .aN,.d .aN]),(100000,rdO l j)],[]⟩
theorem c5M (v:Bool)(i:Nat)(xs:List psV)(j:Nat)(hi:i<l.length)(h:tX bA l v i= .ok xs j):xs.length≤j:=by unfold tX at h;exact (qG hV (one:=b2U l v) (fun a p=>a.length≤p) (fun a p b q hp ha hab=>by have h1:=a6z hV v a p b q hp hab;have h2:=b2V hV v a p b q hab;omega) (fun a p h=>by omega) _ _ _ _ _ hi (by simp) h).1
theorem a6G (i:Nat)(hi:i<l.length):pS G 108 [] l i (a1o bA bF rdP l i) (fun s=> .d (.agg (b4S s))):=by
 have hl:=hV.len;obtain ⟨j0,rfl⟩:∃j0,j0=i:=⟨_,rfl⟩;have p0:j0≤j0∧j0<l.length:=⟨d8T _,hi⟩;refine kM.a3I Tryz.func108 rfl Tryz.ntmps108 rfl (by simp) ?_
 intro Q Q0;rw [c5E] at Q0;refine SW.pL (SW.xk ?_);simp;refine SW.pL (SW.xk ?_);simp;refine SW.b7w (c1i l j0) (fun vs j=>d0B l (.sl (strs vs)) .aN .aN .aN j) ?_ fun vs j1 x1=>?_
 ·skip
  have Q0:=xU.mk (Q:=Q) (r0:=c1i l j0) rfl fun n e s h=>Q0.fail h s
  refine SW.pL (SW.xk ?_);simp;cases hs:aJ l j0 [102,111,114,97,108,108] with
  |false=>
   have Q1:=Q0.step (jD hs);rw [if_neg (by decide)] at Q1;refine bI (ds:=[.str [102,111,114,97,108,108]]) (d:= .d (.bool false)) aE (aW l j0 [102,111,114,97,108,108] p0.2 (by omega) hs) (by simp) (by simp) ?_
   simp;refine SW.a7I rfl (SW.xk ?_);simp;exact ⟨_,_,Q1.eq,by simp [List.replicate]⟩
  |true=>
   have Q1:=Q0.step (jC hs);rw [if_pos rfl] at Q1;refine bI (ds:=[.str [102,111,114,97,108,108]]) (d:= .d (.bool true)) aE (aV l j0 [102,111,114,97,108,108] p0.2 (by omega) hs) (by simp) (by simp) ?_
   have p1:j0+1≤j0+1∧j0+1<l.length:=⟨d8T _,aF hV.fin p0.2 hs⟩;obtain ⟨j1,hj1⟩:∃j,j0+1=j:=⟨_,rfl⟩;rw [hj1] at Q1 p1 ⊢;simp;refine SW.a3N rfl (SW.xk ?_);simp;refine kG [0] 3 [2] (.op 1 (.call [4,5,6,7] .none) (.call [1,4,5,6,7] .none)) (gS (bN bA l j1)) (by kernel_rfl) (by kernel_rfl) ?_
   simp;refine ⟨?_,?_⟩
   all_goals
    refine tJ cX (dO hV.kw l j1 p1.2 (by omega)) (by simp) (by simp) (fun w j2 x2=>?_) (fun n e hx=>by first|exact Q1.fail hx _|(simp;exact Q1.fail hx _)|(simp;exact fun s=>Q1.fail hx s));have Q2:=Q1.step x2;have p2:=aA.word hV.fin j1 w j2 p1.2 x2;refine dG.mk ?_
    simp;refine SW.vY (ι:={ x:List Nm×Nat×Nat // j2≤x.2.1∧x.2.1<l.length∧l.length<x.2.2+x.2.1∧x.1.length≤x.2.1∧dF (fun i=>jJ bA (aK l i)) (vQ l) x.2.2 x.1 x.2.1=oW l (fun i=>jJ bA (aK l i)) (vQ l) [w] j2 }) (fun _=>[]) (fun x=>[(1,.cells [.ptr 100000 0]),(2,.cells d0A),(3,.cells [.d (.sl (strs x.1.1)),.d .aN,.d .aN,.d .aN,.d (.int .i64 0),.d (.str []),.d .aN,.d .aN,.d (.int .i64 0),.d (.str []),.d (.int .i64 0),.d .aN,.d .aN,.d .aN]),(100000,rdO l x.1.2.1)]) (fun _=>[(9,[.c 3 0])]) (fun x=>l.length-x.1.2.1) ⟨([w],j2,l.length+2),d8T _,p2.2,by simp only;omega,by simp only [List.length_singleton];omega,rfl⟩ (by simp [strs]) ?_
    rintro ⟨⟨out,j3,g⟩,hb,hj3,hg,ho,hp⟩;simp only at hb hj3 hg ho hp;obtain ⟨g,rfl⟩:∃k,g=k+1:=⟨g-1,by omega⟩;have p3:j2≤j3∧j3<l.length:=⟨hb,hj3⟩;have ht:=cO (G:=G) l j3 j3 0 (by omega) (by omega) (by intro e;subst e;simp at hi) (by omega);simp;refine bI (i:=j3) (ds:=[.int .i64 0]) bS ht (by simp) (by simp) ?_
    simp;refine mB.mk jL (kL hV.kw (aK l j3)) ?_
    cases hc:jJ bA (aK l j3) with
    |true=>
     simp;refine kG [0] 3 [2] (.op 1 (.call [4,5,6,7] .none) (.call [1,4,5,6,7] .none)) (gS (bN bA l j3)) (by kernel_rfl) (by kernel_rfl) ?_
     simp;refine ⟨?_,?_⟩
     all_goals
      refine tJ (i:=j3) (ds:=[]) cX (dO hV.kw l j3 hj3 (by omega)) (by simp) (by simp) (fun w2 j4 x4=>?_) (fun n e hx=>?_)
      ·have p4:=aA.word (kw:=bA) hV.fin j3 w2 j4 hj3 x4;have h1:vQ l out j3= .ok (out++[w2]) j4:=(aY x4).trans rfl;rw [uC hV hc h1] at hp;refine dG.mk ?_
       simp;refine eU (by first|omega|(simp;omega)) ?_
       simp;exact bR.mk ⟨(out++[w2],j4,g),by simp only;omega,p4.2,by simp only;omega,by simp;omega,hp⟩ (by simp [a0j]) (by simp;omega)
      ·have h1:vQ l out j3= .bad n e:=cW hx;rw [pH hV hc h1] at hp;simp
       first|exact Q2.fail hp.symm _|exact fun s=>Q2.fail hp.symm s
    |false=>rw [uD hV hc] at hp;have Q3:=Q2.step hp.symm;simp;refine cJ (ds:=[.sl (strs [[46]])]) aG (aH l [[46]] j3 p3.2 (by omega) hV.fin (by simp)) (by simp [strs]) (by simp) (fun u4 j4 x4=>?_) (fun n e hx=>by first|exact Q3.fail hx _|(simp;exact Q3.fail hx _)|(simp;exact fun s=>Q3.fail hx s));have Q4:=Q3.step x4;have p4:=aA.exp hV.fin _ _ j3 u4 j4 p3.2 x4;simp;exact ⟨_,_,Q4.eq,by simp [List.replicate]⟩
 have Q0:=Q0.step x1;have p1:=c5F hV j0 vs j1 p0.2 x1
 clear p0 x1
 have p0:j1≤j1∧j1<l.length:=⟨d8T _,p1.2⟩
 clear p1 hi
 obtain ⟨j0,rfl⟩:∃j,j=j1:=⟨_,rfl⟩;refine SW.b7w (c1j l j0) (fun ns j=>d0B l (.sl (strs vs)) (.sl (ns.map mF)) .aN .aN j) ?_ fun ns j1 x1=>?_
 ·skip
  have Q0:=xU.mk (Q:=Q) (r0:=c1j l j0) rfl fun n e s h=>Q0.fail h s
  refine SW.pL (SW.xk ?_);simp [List.replicate];cases hs:aJ l j0 [119,104,101,114,101] with
  |false=>
   have Q1:=Q0.step (jD hs);rw [if_neg (by decide)] at Q1;refine bI (ds:=[.str [119,104,101,114,101]]) (d:= .d (.bool false)) aE (aW l j0 [119,104,101,114,101] p0.2 (by omega) hs) (by simp) (by simp) ?_
   simp;refine SW.a7I rfl (SW.xk ?_);simp;exact ⟨_,_,Q1.eq,by simp [List.replicate]⟩
  |true=>
   have Q1:=Q0.step (jC hs);rw [if_pos rfl] at Q1;refine bI (ds:=[.str [119,104,101,114,101]]) (d:= .d (.bool true)) aE (aV l j0 [119,104,101,114,101] p0.2 (by omega) hs) (by simp) (by simp) ?_
   have p1:j0+1≤j0+1∧j0+1<l.length:=⟨d8T _,aF hV.fin p0.2 hs⟩;obtain ⟨j1,hj1⟩:∃j,j0+1=j:=⟨_,rfl⟩;rw [hj1] at Q1 p1 ⊢;simp;refine SW.a3N rfl (SW.xk ?_);simp;refine cJ a5N ((a7S hV j1 p1.2)) (by simp) (by simp) (fun ns j2 x2=>?_) (fun n e hx=>by first|exact Q1.fail hx _|(simp;exact Q1.fail hx _)|(simp;exact fun s=>Q1.fail hx s));have Q2:=Q1.step x2;have p2:=a2z hV j1 ns j2 p1.2 x2;simp;refine cJ (ds:=[.sl (strs [[46]])]) aG (aH l [[46]] j2 p2.2 (by omega) hV.fin (by simp)) (by simp [strs]) (by simp) (fun u3 j3 x3=>?_) (fun n e hx=>by first|exact Q2.fail hx _|(simp;exact Q2.fail hx _)|(simp;exact fun s=>Q2.fail hx s));have Q3:=Q2.step x3;have p3:=aA.exp hV.fin _ _ j2 u3 j3 p2.2 x3;simp;exact ⟨_,_,Q3.eq,by simp [List.replicate]⟩
 have Q0:=Q0.step x1;have p1:=c5G hV j0 ns j1 p0.2 x1
 clear p0 x1
 have p0:j1≤j1∧j1<l.length:=⟨d8T _,p1.2⟩
 clear p1
 obtain ⟨j0,rfl⟩:∃j,j=j1:=⟨_,rfl⟩;refine SW.b7w (c1k l j0) (fun abs j=>d0B l (.sl (strs vs)) (.sl (ns.map mF)) (.sl (abs.map mF)) .aN j) ?_ fun abs j1 x1=>?_
 ·skip
  have Q0:=xU.mk (Q:=Q) (r0:=c1k l j0) rfl fun n e s h=>Q0.fail h s
  refine SW.pL (SW.xk ?_);simp [List.replicate];cases hs:aJ l j0 [60] with
  |false=>
   have Q1:=Q0.step (jD hs);rw [if_neg (by decide)] at Q1;refine bI (ds:=[.str [60]]) (d:= .d (.bool false)) aE (aW l j0 [60] p0.2 (by omega) hs) (by simp) (by simp) ?_
   simp;refine SW.a7I rfl (SW.xk ?_);simp;exact ⟨_,_,Q1.eq,by simp [List.replicate]⟩
  |true=>
   have Q1:=Q0.step (jC hs);rw [if_pos rfl] at Q1;refine bI (ds:=[.str [60]]) (d:= .d (.bool true)) aE (aV l j0 [60] p0.2 (by omega) hs) (by simp) (by simp) ?_
   have p1:j0+1≤j0+1∧j0+1<l.length:=⟨d8T _,aF hV.fin p0.2 hs⟩;obtain ⟨j1,hj1⟩:∃j,j0+1=j:=⟨_,rfl⟩;rw [hj1] at Q1 p1 ⊢;simp;refine SW.a3N rfl (SW.xk ?_);simp;refine cJ yY ((a0S hV false j1 p1.2)) (by simp) (by simp) (fun xs j2 x2=>?_) (fun n e hx=>by first|exact Q1.fail hx _|(simp;exact Q1.fail hx _)|(simp;exact fun s=>Q1.fail hx s));have Q2:=Q1.step x2;have p2:=(aA.vars hV.fin false) j1 xs j2 p1.2 x2;have hxs:=c5M hV false j1 xs j2 p1.2 x2;simp;refine SW.vY (ι:={ k:Nat // k≤xs.length }) (fun k=>[(42,.d (.int .i64 k.1))]) (fun k=>[(1,.cells [.ptr 100000 0]),(2,.cells d0A),(3,.cells [.d (.sl (strs vs)),.d (.sl (ns.map mF)),.d (.sl ((xs.take k.1).map mF)),.d .aN,.d (.int .i64 0),.d (.str []),.d .aN,.d .aN,.d (.int .i64 0),.d (.str []),.d (.int .i64 0),.d .aN,.d .aN,.d .aN]),(100000,rdO l j2)]) (fun _=>[(161,[.c 3 2])]) (fun k=>xs.length-k.1) ⟨0,Nat.zero_le _⟩ (by simp) ?_
   rintro ⟨k,hk⟩;by_cases hlt:k<xs.length
   ·have hg:(xs.map mF)[k]? =some [.str xs[k].1,.str xs[k].2]:=by simp [hlt,mF]
    have hw:=bP (show k<9223372036854775807 by omega);have htk:(xs.map mF).take (k+1)=(xs.map mF).take k++[[.str xs[k].1,.str xs[k].2]]:=by rw [d8S (by simpa using hlt)];simp [mF]
    simp [hlt,hg,mF];refine qW ⟨fun x hx=>c5r hV xs x (List.mem_of_mem_take hx),by omega⟩ ?_
    simp [hw];exact bR.mk ⟨k+1,hlt⟩ (by simp [htk]) (by simp;omega)
   ·have htk:xs.take k=xs:=List.take_of_length_le (by omega);simp [hlt,htk];refine cJ (ds:=[.sl (strs [[62],[46]])]) aG (aH l [[62],[46]] j2 p2.2 (by omega) hV.fin (by simp)) (by simp [strs]) (by simp) (fun u3 j3 x3=>?_) (fun n e hx=>by first|exact Q2.fail hx _|(simp;exact Q2.fail hx _)|(simp;exact fun s=>Q2.fail hx s));have Q3:=Q2.step x3;have p3:=aA.exp hV.fin _ _ j2 u3 j3 p2.2 x3;simp;exact ⟨_,_,Q3.eq,by simp [List.replicate]⟩
 have Q0:=Q0.step x1;have p1:=c5H hV j0 abs j1 p0.2 x1
 clear p0 x1
 have p0:j1≤j1∧j1<l.length:=⟨d8T _,p1.2⟩
 clear p1
 obtain ⟨j0,rfl⟩:∃j,j=j1:=⟨_,rfl⟩;refine SW.b7w (b7x rdP l j0) (fun bs j=>d0B l (.sl (strs vs)) (.sl (ns.map mF)) (.sl (abs.map mF)) (.sl (bs.map b9r)) j) ?_ fun bs j1 x1=>?_
 ·skip
  have Q0:=xU.mk (Q:=Q) (r0:=b7x rdP l j0) rfl fun n e s h=>Q0.fail h s
  refine SW.xk ?_
  simp [List.replicate];refine SW.vY (ι:={ x:List qT×Nat×Nat // j0≤x.2.1∧x.2.1<l.length∧l.length<x.2.2+x.2.1∧x.1.length≤x.2.1∧dF (fun i=>aJ l i [98,111,117,110,100]) (c5D rdP l) x.2.2 x.1 x.2.1=b7x rdP l j0 }) (fun _=>[]) (fun x=>[(1,.cells [.ptr 100000 0]),(2,.cells d0A),(3,.cells [.d (.sl (strs vs)),.d (.sl (ns.map mF)),.d (.sl (abs.map mF)),.d (.sl (x.1.1.map b9r)),.d (.int .i64 0),.d (.str []),.d .aN,.d .aN,.d (.int .i64 0),.d (.str []),.d (.int .i64 0),.d .aN,.d .aN,.d .aN]),(100000,rdO l x.1.2.1)]) (fun _=>[(163,[.c 3 3])]) (fun x=>l.length-x.1.2.1) ⟨([],j0,l.length+2),d8T _,p0.2,by simp only;omega,by simp,rfl⟩ (by simp) ?_
  rintro ⟨⟨out,j3,g⟩,hb,hj3,hg,ho,hp⟩;simp only at hb hj3 hg ho hp;obtain ⟨g,rfl⟩:∃k,g=k+1:=⟨g-1,by omega⟩;have p3:j0≤j3∧j3<l.length:=⟨hb,hj3⟩;simp;cases hc:aJ l j3 [98,111,117,110,100] with
  |true=>
   have hn:=aF hV.fin hj3 hc;refine bI (ds:=[.str [98,111,117,110,100]]) (d:= .d (.bool true)) aE (aV l j3 [98,111,117,110,100] p3.2 (by omega) hc) (by simp) (by simp) ?_
   have p4:j3+1≤j3+1∧j3+1<l.length:=⟨d8T _,aF hV.fin p3.2 hc⟩;simp;refine kG [0] 3 [2] (.op 1 (.call [4,5,6,7] .none) (.call [1,4,5,6,7] .none)) (gS (uP bA rdP l (j3+1))) (by kernel_rfl) (by kernel_rfl) ?_
   simp;refine ⟨?_,?_⟩
   all_goals
    refine tJ (i:=j3+1) (ds:=[]) b4O (b7v hV (j3+1) hn) (by simp) (by simp) (fun b j4 x4=>?_) (fun n e hx=>?_)
    ·have p4:=a7T hV (j3+1) b j4 hn x4;have h0:aL l [[98,111,117,110,100]] j3= .ok () (j3+1):=(b4z hc).trans rfl;have h1:c5D rdP l out j3= .ok (out++[b]) j4:=(aY h0).trans ((aY x4).trans rfl);rw [uC hV hc h1] at hp;refine dG.mk ?_
     simp;refine eU (by first|omega|exact ⟨fun x _=>by rw [c1h];rfl,by omega⟩|(simp;omega)) ?_
     simp;exact bR.mk ⟨(out++[b],j4,g),by simp only;omega,p4.2,by simp only;omega,by simp;omega,hp⟩ (by simp [c1h]) (by simp;omega)
    ·have h0:aL l [[98,111,117,110,100]] j3= .ok () (j3+1):=(b4z hc).trans rfl;have h1:c5D rdP l out j3= .bad n e:=(aY h0).trans (cW hx);rw [pH hV hc h1] at hp;simp
     first|exact Q0.bad _ _ _ hp.symm|exact fun s=>Q0.bad _ _ s hp.symm
  |false=>
   rw [uD hV hc] at hp;refine bI (ds:=[.str [98,111,117,110,100]]) (d:= .d (.bool false)) aE (aW l j3 [98,111,117,110,100] p3.2 (by omega) hc) (by simp) (by simp) ?_
   simp;exact ⟨_,_,hp.symm,by simp [List.replicate]⟩
 have Q1:=Q0.step x1;have p1:=c5J hV j0 bs j1 p0.2 x1;refine SW.xk ?_
 simp [List.replicate];refine cJ cU ((kW hV j1 p1.2)) (by simp) (by simp) (fun t j2 x2=>?_) (fun n e hx=>by first|exact Q1.fail hx _|(simp;exact Q1.fail hx _)|(simp;exact fun s=>Q1.fail hx s));have Q2:=Q1.step x2;have p2:=gZ hV j1 t j2 p1.2 x2;simp;cases hs:aJ l j2 [109,101,116,114,105,99] with
 |false=>
  have Q3:=Q2.step (a:=[]) (j:=j2) ((aY (jD hs)).trans rfl);refine bI (ds:=[.str [109,101,116,114,105,99]]) (d:= .d (.bool false)) aE (aW l j2 [109,101,116,114,105,99] p2.2 (by omega) hs) (by simp) (by simp) ?_
  simp;exact Q3.ok _ j2 _ _ rfl (.inr rfl) (by simp)
 |true=>
  have e1:d2E rdP l j2=eO l [44] (c2W rdP l (vF l (l.length+1) 0 (j2+1))) [] (j2+1):=(aY (jC hs)).trans rfl;refine bI (ds:=[.str [109,101,116,114,105,99]]) (d:= .d (.bool true)) aE (aV l j2 [109,101,116,114,105,99] p2.2 (by omega) hs) (by simp) (by simp) ?_
  have p3:j2+1≤j2+1∧j2+1<l.length:=⟨d8T _,aF hV.fin p2.2 hs⟩;obtain ⟨j3,hj3⟩:∃j,j2+1=j:=⟨_,rfl⟩;rw [hj3] at e1 p3 ⊢;simp;have heq:=b0v hV j3 p3.2;have hE:=a8B hV (l.length+1) 0 j3;refine bI (ds:=[]) a8g heq (by simp) (by simp) ?_
  generalize vF l (l.length+1) 0 j3=E at e1 hE ⊢;simp;have hone:=eX hV [44] (c2W rdP l E) (fun out i=>out.length≤i) 0 b4R (c5L hV vs ns abs bs t E) (fun a=>c5K hV E a) (fun a i _ hi h=>b9N hV vs ns abs bs t E hE a i hi h) (c2X hV E) (fun a i h=>by omega) [] j3 (by omega) p3.2 (by simp);refine hM.mk (wJ dT hone [(100000,100000),(100001,3),(100002,1),(100003,6)] (fun a j hx=>?_) ?_ ?_ ?_ rfl rfl (fun ms j4 x4=>?_) (fun n e hx2=>Q2.fail (e1.trans hx2) _))
  ·simp [b1T,aQ,aX,aT,aS,bC,getKey]
  ·simp [b1T,aQ,aX,aT,aS,bC,getKey]
  ·simp [aU,bE,rk]
  ·simp [b1T,aU,bE,rk,cS,dC]
  ·have Q4:=Q2.step (e1.trans x4);simp [bD,b1T,aU,bE,rk,cS,dC,bQ,gU,gE,eJ];exact Q4.ok _ j4 _ _ rfl (.inr rfl) (by simp)
end
end
section
open Go Go.VM
variable {G:GT}
theorem b4T:VM.Enters Tryz.prog 69:=VM.Enters.mk Tryz.func69 rfl
theorem b0x:VM.Enters Tryz.prog 115:=VM.Enters.mk Tryz.func115 rfl
theorem b1U:VM.Enters Tryz.prog 70:=VM.Enters.mk Tryz.func70 rfl
theorem a8h:VM.Enters Tryz.prog 118:=VM.Enters.mk Tryz.func118 rfl
theorem a5O (a:Nm×List Nm×bW):a8a a=[.str a.1,.sl (strs a.2.1),.int .i64 a.2.2.op,.str a.2.2.name,.int .i64 a.2.2.n,.sl (a.2.2.kids.map a0f),.sl (a.2.2.params.map a2g),.sl (a.2.2.alts.map a8a),.sl (a.2.2.types.map tyC)]:=by rw [a8a,dW]
theorem a0W (p:Nm×Ty):a2g p= .str p.1::tyD p.2:=by rw [a2g,cY]
abbrev b0y:=Nm×List Nm×bW
section
variable {rdP:List Tok→Nat→Nat→mH Pr} {l:List Tok} (hV:mO G rdP l)
include hV
section
variable {ex:Nat→aR bW} {low:Nat} (hex:∀i,low≤i→i<l.length→pS G 34 [] l i (ex 0 i) rO) (aex:∀k,aA l 1 (ex k))
include hex aex
def xV (e:bW)(out:List b0y):List (Nat×aZ):=[(100001,.cells [.ptr 100000 0]),(100002,.cells [.d (.int .i64 9),.d (.str []),.d (.int .i64 0),.d (.sl [a0f e]),.d (.sl []),.d (.sl (out.map a8a)),.d (.sl [])])]
abbrev c5N:List (TypeId×List VM.Loc):=[(91,[.c 100002 5])]
abbrev d0C (l:List Tok)(ex:Nat→aR bW)(out:List b0y):aR (List b0y):=do
 let c ← eV l
 let ns ← (fun i=>if aJ l i [40] then cV bA l i else .ok [] i:aR (List Nm))
 aL l [[45,62]]
 let b ← ex 0
 pure (out++[(c,ns,b)])
omit hex aex in
theorem b9O (e:bW):xR l K3 [.ptr 100001 0,.ptr 100002 0] (xV e) c5N:=by
 constructor
 all_goals intros
 all_goals first
  |rfl
  |simp [xV,aQ,aX,aT,aS,bC,getKey,aU,bE,cS,rk,dC,bQ, *]
omit hex in
theorem b0z (out:List b0y):aA l 1 (d0C l ex out):=by
 refine (aA.title hV.fin).bl fun _=>aA.bl (fun i b j hi h=>?_) fun _=>((aA.exp hV.fin _ _).le (by omega)).bl fun _=>((aex 0).le (by omega)).bl fun _=>aA.aO _
 split at h
 ·exact ((aA.words hV.fin).le (by omega)) _ _ _ hi h
 ·cases h;omega
omit hex in
theorem c2Y (a:List b0y)(i:Nat)(b:List b0y)(j:Nat)(hi:i<l.length)(h:a.length≤i)(hx:d0C l ex a i= .ok b j):b.length≤j:=by have h1:=b0z hV aex a i b j hi hx;obtain ⟨_,_,_,hx⟩:=bZ hx;obtain ⟨_,_,_,hx⟩:=bZ hx;obtain ⟨_,_,_,hx⟩:=bZ hx;obtain ⟨_,_,_,hx⟩:=bZ hx;cases hx;simp;omega
theorem b4U (e:bW)(out:List b0y)(i:Nat)(hlow:low≤i)(hi:i<l.length)(hout:out.length≤i):kM G 115 [.ptr 100001 0,.ptr 100002 0] (xV e out) c5N l i (d0C l ex out i) (fun _=> .cT []) (xV e):=by
 have hl:=hV.len;obtain ⟨j0,rfl⟩:∃j0,j0=i:=⟨_,rfl⟩;have p0:j0≤j0∧j0<l.length:=⟨d8T _,hi⟩;refine kM.dB Tryz.func115 rfl Tryz.ntmps115 rfl (by simp) ?_
 intro Q Q0;simp [xV];refine cJ gW (jM l j0 p0.2 (by omega)) (by simp) (by simp) (fun c j1 x1=>?_) (fun n e hx=>by first|exact Q0.fail hx _|(simp;exact Q0.fail hx _)|(simp;exact fun s=>Q0.fail hx s));have Q1:=Q0.step x1;have p1:=aA.title hV.fin j0 c j1 p0.2 x1;simp;have hb:=jB (G:=G) l j1 [40] p1.2 (by omega);refine bI (ds:=[.str [40]]) gA hb (by simp) (by simp) ?_
 cases hs:aJ l j1 [40] with
 |false=>
  have Q1:=Q1.step (a:=[]) (j:=j1) (by simp [hs]);simp;refine cJ (ds:=[.sl (strs [[45,62]])]) aG (aH l [[45,62]] j1 p1.2 (by omega) hV.fin (by simp)) (by simp [strs]) (by simp) (fun u4 j4 x4=>?_) (fun n e hx=>by first|exact Q1.fail hx _|(simp;exact Q1.fail hx _)|(simp;exact fun s=>Q1.fail hx s));have Q4:=Q1.step x4;have p4:=aA.exp hV.fin _ _ j1 u4 j4 p1.2 x4;simp;refine cJ cC ((hex j4 (by omega) p4.2)) (by simp) (by simp) (fun b j5 x5=>?_) (fun n e hx=>by first|exact Q4.fail hx _|(simp;exact Q4.fail hx _)|(simp;exact fun s=>Q4.fail hx s));have Q5:=Q4.step x5;have p5:=aex 0 j4 b j5 p4.2 x5;simp;refine yU (m:=5) (t:=27) (e:=91) (T:=30) (s:=18) (z:=21) (r:=22) (p:=23) (q:=20) (x:=19) (b:=24) (y:=1) (fd:=5) rfl rfl rfl rfl rfl (by kernel_rfl) (by kernel_rfl) rfl rfl ?_
  simp;refine ⟨_,_,_,_,_,_,_,_,_,by simp,rfl,rfl,?_,rfl,rfl,?_,by simp,rfl,rfl,rfl,rfl,by decide,rfl,?_⟩
  ·intro c hc
   first
    |(obtain ⟨y,_,rfl⟩:=List.mem_map.1 hc
      rw [a5O]
      rfl)
    |(simp only [d8K] at hc
      subst hc
      rfl)
  ·simp<;>omega
  exact Q5.ok _ j5 .normal _ rfl (.inl rfl) (by simp [xV,a5O,uA])
 |true=>
  have e1:(fun i=>if aJ l i [40] then cV bA l i else .ok [] i:aR (List Nm)) j1=cV bA l j1:=by simp [hs]
  simp;refine cJ a0R (a2q hV j1 p1.2) (by simp) (by simp) (fun ns j3 x3=>?_) (fun n e hx=>by first|exact Q1.fail (e1.trans hx) _|(simp;exact Q1.fail (e1.trans hx) _)|(simp;exact fun s=>Q1.fail (e1.trans hx) s));have Q3:=Q1.step (e1.trans x3);have p3:=aA.words hV.fin j1 ns j3 p1.2 x3;simp;refine cJ (ds:=[.sl (strs [[45,62]])]) aG (aH l [[45,62]] j3 p3.2 (by omega) hV.fin (by simp)) (by simp [strs]) (by simp) (fun u4 j4 x4=>?_) (fun n e hx=>by first|exact Q3.fail hx _|(simp;exact Q3.fail hx _)|(simp;exact fun s=>Q3.fail hx s));have Q4:=Q3.step x4;have p4:=aA.exp hV.fin _ _ j3 u4 j4 p3.2 x4;simp;refine cJ cC ((hex j4 (by omega) p4.2)) (by simp) (by simp) (fun b j5 x5=>?_) (fun n e hx=>by first|exact Q4.fail hx _|(simp;exact Q4.fail hx _)|(simp;exact fun s=>Q4.fail hx s));have Q5:=Q4.step x5;have p5:=aex 0 j4 b j5 p4.2 x5;simp;refine yU (m:=5) (t:=27) (e:=91) (T:=30) (s:=18) (z:=21) (r:=22) (p:=23) (q:=20) (x:=19) (b:=24) (y:=1) (fd:=5) rfl rfl rfl rfl rfl (by kernel_rfl) (by kernel_rfl) rfl rfl ?_
  simp;refine ⟨_,_,_,_,_,_,_,_,_,by simp,rfl,rfl,?_,rfl,rfl,?_,by simp,rfl,rfl,rfl,rfl,by decide,rfl,?_⟩
  ·intro c hc
   first
    |(obtain ⟨y,_,rfl⟩:=List.mem_map.1 hc
      rw [a5O]
      rfl)
    |(simp only [d8K] at hc
      subst hc
      rfl)
  ·simp<;>omega
  exact Q5.ok _ j5 .normal _ rfl (.inl rfl) (by simp [xV,a5O,uA])
theorem b7y (i:Nat)(hlow:low≤i)(hi:i<l.length):pS G 69 [] l i (mN bA l ex i) rO:=by
 have hl:=hV.len;obtain ⟨j0,rfl⟩:∃j0,j0=i:=⟨_,rfl⟩;have p0:j0≤j0∧j0<l.length:=⟨d8T _,hi⟩;refine kM.dB Tryz.func69 rfl Tryz.ntmps69 rfl (by simp) ?_
 intro Q Q0;unfold mN at Q0;simp;refine cJ cC ((hex j0 hlow p0.2)) (by simp) (by simp) (fun e j1 x1=>?_) (fun n e hx=>by first|exact Q0.fail hx _|(simp;exact Q0.fail hx _)|(simp;exact fun s=>Q0.fail hx s));have Q1:=Q0.step x1;have p1:=aex 0 j0 e j1 p0.2 x1;simp;refine mB.mk cG (c2R 9 e) ?_
 simp;refine cJ (ds:=[.sl (strs [[111,102],[123]])]) aG (aH l [[111,102],[123]] j1 p1.2 (by omega) hV.fin (by simp)) (by simp [strs]) (by simp) (fun u2 j2 x2=>?_) (fun n e hx=>by first|exact Q1.fail hx _|(simp;exact Q1.fail hx _)|(simp;exact fun s=>Q1.fail hx s));have Q2:=Q1.step x2;have p2:=aA.exp hV.fin _ _ j1 u2 j2 p1.2 x2;simp;have hone:=eX hV [59] (d0C l ex) (fun out i=>out.length≤i) low b0x (b9O hV e) (fun a=>(b0z hV aex a).le (by omega)) (fun a i sO hi h=>b4U hV hex aex e a i sO hi h) (c2Y hV aex) (fun a i h=>by omega) [] j2 (by omega) p2.2 (by simp);refine hM.mk (wJ dT hone [(100000,100000),(100001,1),(100002,3)] (fun a j hx=>?_) ?_ ?_ ?_ rfl rfl (fun ws j3 x3=>?_) (fun n e hx2=>Q2.fail hx2 _))
 ·simp [xV,aQ,aX,aT,aS,bC,getKey]
 ·simp [xV,aQ,aX,aT,aS,bC,getKey]
 ·simp [aU,bE,rk]
 ·simp [xV,aU,bE,rk,cS,dC]
 ·have Q3:=Q2.step x3;have p3:=aA.list hV.fin (fun a=>b0z hV aex a) [] j2 ws j3 p2.2 x3;simp [bD,xV,aU,bE,rk,cS,dC,bQ,gU,gE,eJ];refine cJ (ds:=[.sl (strs [[125]])]) aG (aH l [[125]] j3 p3.2 (by omega) hV.fin (by simp)) (by simp [strs]) (by simp) (fun u4 j4 x4=>?_) (fun n e hx=>by first|exact Q3.fail hx _|(simp;exact Q3.fail hx _)|(simp;exact fun s=>Q3.fail hx s));have Q4:=Q3.step x4;have p4:=aA.exp hV.fin _ _ j3 u4 j4 p3.2 x4;simp;exact Q4.ok _ j4 _ _ rfl (.inr rfl) (by simp)
end
def b0A (out:List (Nm×Ty)):List (Nat×aZ):=[(100001,.cells [.ptr 100000 0]),(100002,.cells [.d (.int .i64 6),.d (.str []),.d (.int .i64 0),.d (.sl []),.d (.sl (out.map a2g)),.d (.sl []),.d (.sl [])])]
abbrev d6E:List (TypeId×List VM.Loc):=[(135,[.c 100002 4])]
abbrev d0D (rdP:List Tok→Nat→Nat→mH Pr)(l:List Tok)(out:List (Nm×Ty)):aR (List (Nm×Ty)):=do
 let w ← bN bA l
 let b ← cM l [58]
 let t ← (if b then cB bA bF rdP l else pure pC)
 pure (out++[(w,t)])
theorem c5O:xR l K3 [.ptr 100001 0,.ptr 100002 0] b0A d6E:=by
 constructor
 all_goals intros
 all_goals first
  |rfl
  |simp [b0A,aQ,aX,aT,aS,bC,getKey,aU,bE,cS,rk,dC,bQ, *]
theorem b0B (out:List (Nm×Ty)):aA l 1 (d0D rdP l out):=(aA.word hV.fin).bl fun _=>(aA.skip hV.fin _).bl fun _=>aA.bl (aA.ite ((gZ hV).le (by omega)) (aA.aO _)) fun _=>aA.aO _
theorem c2Z (a:List (Nm×Ty))(i:Nat)(b:List (Nm×Ty))(j:Nat)(hi:i<l.length)(h:a.length≤i)(hx:d0D rdP l a i= .ok b j):b.length≤j:=by have h1:=b0B hV a i b j hi hx;obtain ⟨_,_,_,hx⟩:=bZ hx;obtain ⟨_,_,_,hx⟩:=bZ hx;obtain ⟨_,_,_,hx⟩:=bZ hx;cases hx;simp;omega
theorem b9P (out:List (Nm×Ty))(i:Nat)(hi:i<l.length)(hout:out.length≤i):kM G 118 [.ptr 100001 0,.ptr 100002 0] (b0A out) d6E l i (d0D rdP l out i) (fun _=> .cT []) b0A:=by
 have hl:=hV.len;obtain ⟨j0,rfl⟩:∃j0,j0=i:=⟨_,rfl⟩;have p0:j0≤j0∧j0<l.length:=⟨d8T _,hi⟩;refine kM.dB Tryz.func118 rfl Tryz.ntmps118 rfl (by simp) ?_
 intro Q Q0;simp [b0A];refine cJ cX (dO hV.kw l j0 p0.2 (by omega)) (by simp) (by simp) (fun c j1 x1=>?_) (fun n e hx=>by first|exact Q0.fail hx _|(simp;exact Q0.fail hx _)|(simp;exact fun s=>Q0.fail hx s));have Q1:=Q0.step x1;have p1:=aA.word hV.fin j0 c j1 p0.2 x1;simp;cases hs:aJ l j1 [58] with
 |false=>
  have Q2:=Q1.step (jD hs);rw [if_neg (by decide)] at Q2;refine bI (ds:=[.str [58]]) (d:= .d (.bool false)) aE (aW l j1 [58] p1.2 (by omega) hs) (by simp) (by simp) ?_
  simp;have Q3:=Q2.step (gI _ _);refine qW ⟨rfl,d8G.2 fun c hc=>?_,?_⟩ ?_
  ·obtain ⟨y,_,rfl⟩:=List.mem_map.1 hc;rw [a0W]
   rfl
  ·have hb:Tryz.prog.bytesOf 135≤1000:=by decide
   rw [List.length_map]
   calc (out.length+1)*(Tryz.prog.bytesOf 135+1)≤50001*1001:=Nat.mul_le_mul (by omega) (by omega)
    _≤140737488355328:=by decide
  simp;exact Q3.ok _ j1 .normal _ rfl (.inl rfl) (by simp [b0A,a0W,pC,mD,uA])
 |true=>
  have Q2:=Q1.step (jC hs);rw [if_pos rfl] at Q2;refine bI (ds:=[.str [58]]) (d:= .d (.bool true)) aE (aV l j1 [58] p1.2 (by omega) hs) (by simp) (by simp) ?_
  have p2:j1+1≤j1+1∧j1+1<l.length:=⟨d8T _,aF hV.fin p1.2 hs⟩;obtain ⟨j2,hj2⟩:∃j2,j1+1=j2:=⟨_,rfl⟩;rw [hj2] at Q2 p2 ⊢;simp;refine cJ cU ((kW hV j2 p2.2)) (by simp) (by simp) (fun t j3 x3=>?_) (fun n e hx=>by first|exact Q2.fail hx _|(simp;exact Q2.fail hx _)|(simp;exact fun s=>Q2.fail hx s));have Q3:=Q2.step x3;have p3:=gZ hV j2 t j3 p2.2 x3;simp;refine qW ⟨rfl,d8G.2 fun c hc=>?_,?_⟩ ?_
  ·obtain ⟨y,_,rfl⟩:=List.mem_map.1 hc;rw [a0W]
   rfl
  ·have hb:Tryz.prog.bytesOf 135≤1000:=by decide
   rw [List.length_map]
   calc (out.length+1)*(Tryz.prog.bytesOf 135+1)≤50001*1001:=Nat.mul_le_mul (by omega) (by omega)
    _≤140737488355328:=by decide
  simp;exact Q3.ok _ j3 .normal _ rfl (.inl rfl) (by simp [b0A,a0W,uA])
section
variable {ex:Nat→aR bW} {low:Nat} (hex:∀i,low≤i→i<l.length→pS G 34 [] l i (ex 0 i) rO) (aex:∀k,aA l 1 (ex k))
include hex aex
theorem b4V (i:Nat)(hlow:low≤i)(hi:i<l.length):pS G 70 [] l i (sZ bA bF rdP l ex i) rO:=by
 have hl:=hV.len;obtain ⟨j0,rfl⟩:∃j0,j0=i:=⟨_,rfl⟩;have p0:j0≤j0∧j0<l.length:=⟨d8T _,hi⟩;refine kM.dB Tryz.func70 rfl Tryz.ntmps70 rfl (by simp) ?_
 intro Q Q0;unfold sZ at Q0;simp;refine cJ (ds:=[.sl (strs [[40]])]) aG (aH l [[40]] j0 p0.2 (by omega) hV.fin (by simp)) (by simp [strs]) (by simp) (fun u1 j1 x1=>?_) (fun n e hx=>by first|exact Q0.fail hx _|(simp;exact Q0.fail hx _)|(simp;exact fun s=>Q0.fail hx s));have Q1:=Q0.step x1;have p1:=aA.exp hV.fin _ _ j0 u1 j1 p0.2 x1;simp;have hone:=eX hV [44] (d0D rdP l) (fun out i=>out.length≤i) 0 a8h (c5O hV) (fun a=>(b0B hV a).le (by omega)) (fun a i sO hi h=>b9P hV a i hi h) (c2Z hV) (fun a i h=>by omega) [] j1 (by omega) p1.2 (by simp);refine hM.mk (wJ dT hone [(100000,100000),(100001,1),(100002,3)] (fun a j hx=>?_) ?_ ?_ ?_ rfl rfl (fun ws j2 x2=>?_) (fun n e hx2=>Q1.fail hx2 _))
 ·simp [b0A,aQ,aX,aT,aS,bC,getKey]
 ·simp [b0A,aQ,aX,aT,aS,bC,getKey]
 ·simp [aU,bE,rk]
 ·simp [b0A,aU,bE,rk,cS,dC]
 ·have Q2:=Q1.step x2;have p2:=aA.list hV.fin (fun a=>b0B hV a) [] j1 ws j2 p1.2 x2;simp [bD,b0A,aU,bE,rk,cS,dC,bQ,gU,gE,eJ];refine cJ (ds:=[.sl (strs [[41],[45,62]])]) aG (aH l [[41],[45,62]] j2 p2.2 (by omega) hV.fin (by simp)) (by simp [strs]) (by simp) (fun u3 j3 x3=>?_) (fun n e hx=>by first|exact Q2.fail hx _|(simp;exact Q2.fail hx _)|(simp;exact fun s=>Q2.fail hx s));have Q3:=Q2.step x3;have p3:=aA.exp hV.fin _ _ j2 u3 j3 p2.2 x3;simp;refine cJ cC ((hex j3 (by omega) p3.2)) (by simp) (by simp) (fun e j4 x4=>?_) (fun n e hx=>by first|exact Q3.fail hx _|(simp;exact Q3.fail hx _)|(simp;exact fun s=>Q3.fail hx s));have Q4:=Q3.step x4;have p4:=aex 0 j3 e j4 p3.2 x4;simp;exact Q4.ok _ j4 _ _ rfl (.inr rfl) (by simp [dW])
end
end
end
section
open Go Go.VM
variable {G:GT}
theorem a8i:VM.Enters Tryz.prog 79:=VM.Enters.mk Tryz.func79 rfl
theorem zB:VM.Enters Tryz.prog 133:=VM.Enters.mk Tryz.func133 rfl
theorem a3v:VM.Enters Tryz.prog 134:=VM.Enters.mk Tryz.func134 rfl
section
variable {rdP:List Tok→Nat→Nat→mH Pr} {l:List Tok} (hV:mO G rdP l)
include hV
def b1V (nm:Nm)(out:List Nm×List Ty):List (Nat×aZ):=[(100001,.cells [.d (.str nm),.d (.sl (strs out.1)),.d (.sl (out.2.map tyC))]),(100002,.cells [.ptr 100000 0])]
abbrev d6F:List (TypeId×List VM.Loc):=[(9,[.c 100001 1]),(45,[.c 100001 2])]
abbrev d0E (rdP:List Tok→Nat→Nat→mH Pr)(l:List Tok)(out:List Nm×List Ty):aR (List Nm×List Ty):=do
 let w ← bN bA l
 aL l [[58]]
 let t ← cB bA bF rdP l
 pure (out.1++[w],out.2++[t])
theorem c5P (nm:Nm):xR l K3 [.ptr 100001 0,.ptr 100002 0] (b1V nm) d6F:=by
 constructor
 all_goals intros
 all_goals first
  |rfl
  |simp [b1V,aQ,aX,aT,aS,bC,getKey,aU,bE,cS,rk,dC,bQ, *]
theorem b0C (out:List Nm×List Ty):aA l 1 (d0E rdP l out):=(aA.word hV.fin).bl fun _=>((aA.exp hV.fin _ _).le (by omega)).bl fun _=>((gZ hV).le (by omega)).bl fun _=>aA.aO _
theorem c3a (a:List Nm×List Ty)(i:Nat)(b:List Nm×List Ty)(j:Nat)(hi:i<l.length)(h:a.1.length≤i∧a.2.length≤i)(hx:d0E rdP l a i= .ok b j):b.1.length≤j∧b.2.length≤j:=by have h1:=b0C hV a i b j hi hx;have h2:=b3d a i b j hx;omega
theorem b9Q (nm:Nm)(out:List Nm×List Ty)(i:Nat)(hi:i<l.length)(hout:out.1.length≤i∧out.2.length≤i):kM G 134 [.ptr 100001 0,.ptr 100002 0] (b1V nm out) d6F l i (d0E rdP l out i) (fun _=> .cT []) (b1V nm):=by
 have hl:=hV.len;obtain ⟨j0,rfl⟩:∃j0,j0=i:=⟨_,rfl⟩;have p0:j0≤j0∧j0<l.length:=⟨d8T _,hi⟩;refine kM.dB Tryz.func134 rfl Tryz.ntmps134 rfl (by simp) ?_
 intro Q Q0;simp [b1V];refine kG [0] 3 [2] (.op 1 (.call [4,5,6,7] .none) (.call [1,4,5,6,7] .none)) (gS (bN bA l j0)) (by kernel_rfl) (by kernel_rfl) ?_
 simp;refine ⟨?_,?_⟩
 all_goals
  refine tJ cX (dO hV.kw l j0 p0.2 (by omega)) (by simp) (by simp) (fun w j1 x1=>?_) (fun n e hx=>by first|exact Q0.fail hx _|(simp;exact Q0.fail hx _)|(simp;exact fun s=>Q0.fail hx s));have Q1:=Q0.step x1;have p1:=aA.word hV.fin j0 w j1 p0.2 x1;refine dG.mk ?_
  simp;refine eU (by omega) ?_
  simp;refine cJ (ds:=[.sl (strs [[58]])]) aG (aH l [[58]] j1 p1.2 (by omega) hV.fin (by simp)) (by simp [strs]) (by simp) (fun u2 j2 x2=>?_) (fun n e hx=>by first|exact Q1.fail hx _|(simp;exact Q1.fail hx _)|(simp;exact fun s=>Q1.fail hx s));have Q2:=Q1.step x2;have p2:=aA.exp hV.fin _ _ j1 u2 j2 p1.2 x2;simp;refine dX 6 (t:=28) (e:=45) (T:=147) (s:=13) (z:=17) (r:=18) (p:=19) (q:=16) (x:=15) (b:=20) (y:=0) (fd:=2) [0] 3 [2] (a1y 1 4 5) (gS (cB bA bF rdP l j2)) rfl rfl rfl rfl rfl (by kernel_rfl) (by kernel_rfl) rfl ?_
  simp
  repeat' apply And.intro
  all_goals
   refine tJ cU ((kW hV j2 p2.2)) (by simp) (by simp) (fun t j3 x3=>?_) (fun n e hx=>by first|exact Q2.fail hx _|(simp;exact Q2.fail hx _)|(simp;exact fun s=>Q2.fail hx s));have Q3:=Q2.step x3;have p3:=gZ hV j2 t j3 p2.2 x3;refine dG.mk ?_
   simp;refine ⟨_,_,_,_,_,_,_,_,_,by simp,rfl,rfl,?_,rfl,rfl,?_,by simp,rfl,rfl,rfl,rfl,by decide,rfl,?_⟩
   ·intro c hc
    first
     |(obtain ⟨y,_,rfl⟩:=List.mem_map.1 hc
       rw [cY]
       rfl)
     |(simp only [d8K] at hc
       subst hc
       rfl)
   ·simp<;>omega
   exact Q3.ok _ j3 .normal _ rfl (.inl rfl) (by simp [b1V,cY,a0j])
def a4E (nm:Nm)(vs:List Nm)(ps:List psV)(out:List a3K):List (Nat×aZ):=[(100001,.cells [.ptr 100000 0]),(100002,.cells [.d (.str nm),.d (.sl (strs vs)),.d (.sl (ps.map mF)),.d (.sl (out.map b2J))])]
abbrev d6G:List (TypeId×List VM.Loc):=[(147,[.c 100002 3])]
abbrev c3b (rdP:List Tok→Nat→Nat→mH Pr)(l:List Tok)(out:List a3K):aR (List a3K):=do
 let c ← a7D bA bF rdP l
 pure (out++[c])
theorem c3c:aA l 1 (a7D bA bF rdP l):=aA.con hV.fin hV.pU.pred
theorem b0D (out:List a3K):aA l 1 (c3b rdP l out):=(c3c hV).bl fun _=>aA.aO _
theorem b3f (a:List a3K)(i:Nat)(b:List a3K)(j:Nat)(hi:i<l.length)(h:a.length≤i)(hx:c3b rdP l a i= .ok b j):b.length≤j:=by have h1:=b0D hV a i b j hi hx;obtain ⟨_,_,_,hx⟩:=bZ hx;cases hx;simp;omega
theorem b7z (nm:Nm)(vs:List Nm)(ps:List psV):xR l K3 [.ptr 100001 0,.ptr 100002 0] (a4E nm vs ps) d6G:=by
 constructor
 all_goals intros
 all_goals first
  |rfl
  |simp [a4E,aQ,aX,aT,aS,bC,getKey,aU,bE,cS,rk,dC,bQ, *]
theorem b0E (nm:Nm)(vs:List Nm)(ps:List psV)(out:List a3K)(i:Nat)(hi:i<l.length)(hout:out.length≤i):kM G 133 [.ptr 100001 0,.ptr 100002 0] (a4E nm vs ps out) d6G l i (c3b rdP l out i) (fun _=> .cT []) (a4E nm vs ps):=by
 have hl:=hV.len;obtain ⟨j0,rfl⟩:∃j0,j0=i:=⟨_,rfl⟩;have p0:j0≤j0∧j0<l.length:=⟨d8T _,hi⟩;refine kM.dB Tryz.func133 rfl Tryz.ntmps133 rfl (by simp) ?_
 intro Q Q0;unfold c3b a7D at Q0;have Q0:=Q0.assoc;simp [a4E];refine cJ gW (jM l j0 p0.2 (by omega)) (by simp) (by simp) (fun c j1 x1=>?_) (fun n e hx=>by first|exact Q0.fail hx _|(simp;exact Q0.fail hx _)|(simp;exact fun s=>Q0.fail hx s));have Q1:=Q0.step x1;have p1:=aA.title hV.fin j0 c j1 p0.2 x1;have Q1:=Q1.assoc;simp;cases hs:aJ l j1 [40] with
 |false=>
  have Q2:=Q1.step (jD hs);rw [if_neg (by decide)] at Q2;have Q2:=Q2.step (gI _ _);refine bI (ds:=[.str [40]]) (d:= .d (.bool false)) aE (aW l j1 [40] p1.2 (by omega) hs) (by simp) (by simp) ?_
  simp;refine qW ⟨fun x _=>rfl,by omega⟩ ?_
  simp;exact Q2.ok _ j1 .normal _ rfl (.inl rfl) (by simp [a4E,b2J,uA])
 |true=>
  have Q2:=Q1.step (jC hs);rw [if_pos rfl] at Q2;refine bI (ds:=[.str [40]]) (d:= .d (.bool true)) aE (aV l j1 [40] p1.2 (by omega) hs) (by simp) (by simp) ?_
  have p2:j1+1≤j1+1∧j1+1<l.length:=⟨d8T _,aF hV.fin p1.2 hs⟩;obtain ⟨j2,hj2⟩:∃j,j1+1=j:=⟨_,rfl⟩;rw [hj2] at Q2 p2 ⊢;have Q2:=Q2.assoc;simp;have hone:=eX hV [44] (d0E rdP l) (fun out i=>out.1.length≤i∧out.2.length≤i) 0 a3v (c5P hV c) (fun a=>(b0C hV a).le (by omega)) (fun a i sO hi h=>b9Q hV c a i hi h) (c3a hV) (fun a i h=>by omega) ([],[]) j2 (by omega) p2.2 (by simp);refine hM.mk (wJ dT hone [(100000,100000),(100001,2),(100002,100001)] (fun a j hx=>?_) ?_ ?_ ?_ rfl rfl (fun ws j3 x3=>?_) (fun n e hx2=>Q2.fail hx2 _))
  ·simp [b1V,aQ,aX,aT,aS,bC,getKey]
  ·simp [b1V,aQ,aX,aT,aS,bC,getKey]
  ·simp [aU,bE,rk]
  ·simp [b1V,aU,bE,rk,cS,dC]
  ·have Q3:=Q2.step x3;have p3:=aA.list hV.fin (fun a=>b0C hV a) ([],[]) j2 ws j3 p2.2 x3;obtain ⟨ns,ts⟩:=ws;simp only at Q3;have Q3:=Q3.assoc;simp [bD,b1V,aU,bE,rk,cS,dC,bQ,gU,gE,eJ];refine cJ (ds:=[.sl (strs [[41]])]) aG (aH l [[41]] j3 p3.2 (by omega) hV.fin (by simp)) (by simp [strs]) (by simp) (fun u4 j4 x4=>?_) (fun n e hx=>by first|exact Q3.fail hx _|(simp;exact Q3.fail hx _)|(simp;exact fun s=>Q3.fail hx s));have Q4:=Q3.step x4;have p4:=aA.exp hV.fin _ _ j3 u4 j4 p3.2 x4;have Q4:=Q4.step (gI _ _);simp;refine qW ⟨fun x _=>rfl,by omega⟩ ?_
   simp;exact Q4.ok _ j4 .normal _ rfl (.inl rfl) (by simp [a4E,b2J])
theorem b0F (i:Nat)(hi:i<l.length):pS G 79 [] l i (a0K bA bF rdP l i) (fun d=> .d (.agg (a9I d))):=by
 have hl:=hV.len;obtain ⟨j0,rfl⟩:∃j0,j0=i:=⟨_,rfl⟩;have p0:j0≤j0∧j0<l.length:=⟨d8T _,hi⟩;refine kM.dB Tryz.func79 rfl Tryz.ntmps79 rfl (by simp) ?_
 intro Q Q0;unfold a0K at Q0;simp;refine cJ gW (jM l j0 p0.2 (by omega)) (by simp) (by simp) (fun nm j1 x1=>?_) (fun n e hx=>by first|exact Q0.fail hx _|(simp;exact Q0.fail hx _)|(simp;exact fun s=>Q0.fail hx s));have Q1:=Q0.step x1;have p1:=aA.title hV.fin j0 nm j1 p0.2 x1;simp;refine SW.vY (ι:={ x:List Nm×Nat×Nat // j1≤x.2.1∧x.2.1<l.length∧l.length<x.2.2+x.2.1∧x.1.length≤x.2.1∧dF (fun i=>jJ bA (aK l i)) (vQ l) x.2.2 x.1 x.2.1=oW l (fun i=>jJ bA (aK l i)) (vQ l) [] j1 }) (fun _=>[]) (fun x=>[(1,.cells [.ptr 100000 0]),(2,.cells [.d (.str []),.d .aN,.d .aN,.d .aN]),(3,.cells [.d (.str nm),.d (.sl (strs x.1.1)),.d .aN,.d .aN]),(100000,rdO l x.1.2.1)]) (fun _=>[(9,[.c 3 1])]) (fun x=>l.length-x.1.2.1) ⟨([],j1,l.length+2),d8T _,p1.2,by simp only;omega,by simp,rfl⟩ (by simp [strs]) ?_
 rintro ⟨⟨out,j3,g⟩,hb,hj3,hg,ho,hp⟩;simp only at hb hj3 hg ho hp;obtain ⟨g,rfl⟩:∃k,g=k+1:=⟨g-1,by omega⟩;have p3:j1≤j3∧j3<l.length:=⟨hb,hj3⟩;have ht:=cO (G:=G) l j3 j3 0 (by omega) (by omega) (by intro e;subst e;simp at hi) (by omega);simp;refine bI (i:=j3) (ds:=[.int .i64 0]) bS ht (by simp) (by simp) ?_
 simp;refine mB.mk jL (kL hV.kw (aK l j3)) ?_
 cases hc:jJ bA (aK l j3) with
 |true=>
  simp;refine kG [0] 3 [2] (.op 1 (.call [4,5,6,7] .none) (.call [1,4,5,6,7] .none)) (gS (bN bA l j3)) (by kernel_rfl) (by kernel_rfl) ?_
  simp;refine ⟨?_,?_⟩
  all_goals
   refine tJ (i:=j3) (ds:=[]) cX (dO hV.kw l j3 hj3 (by omega)) (by simp) (by simp) (fun w2 j4 x4=>?_) (fun n e hx=>?_)
   ·have p4:=aA.word (kw:=bA) hV.fin j3 w2 j4 hj3 x4;have h1:vQ l out j3= .ok (out++[w2]) j4:=(aY x4).trans rfl;rw [uC hV hc h1] at hp;refine dG.mk ?_
    simp;refine eU (by first|omega|(simp;omega)) ?_
    simp;exact bR.mk ⟨(out++[w2],j4,g),by simp only;omega,p4.2,by simp only;omega,by simp;omega,hp⟩ (by simp [a0j]) (by simp;omega)
   ·have h1:vQ l out j3= .bad n e:=cW hx;rw [pH hV hc h1] at hp;simp
    first|exact Q1.fail hp.symm _|exact fun s=>Q1.fail hp.symm s
 |false=>
  rw [uD hV hc] at hp;have Q3:=Q1.step hp.symm;simp;cases hs:aJ l j3 [60] with
  |false=>
   have Q4:=Q3.step (jD hs);rw [if_neg (by decide)] at Q4;have Q3:=Q4.step (gI _ _);refine bI (ds:=[.str [60]]) (d:= .d (.bool false)) aE (aW l j3 [60] p3.2 (by omega) hs) (by simp) (by simp) ?_
   simp;refine cJ (ds:=[.sl (strs [[61]])]) aG (aH l [[61]] j3 p3.2 (by omega) hV.fin (by simp)) (by simp [strs]) (by simp) (fun u6 j6 x6=>?_) (fun n e hx=>by first|exact Q3.fail hx _|(simp;exact Q3.fail hx _)|(simp;exact fun s=>Q3.fail hx s));have Q6:=Q3.step x6;have p6:=aA.exp hV.fin _ _ j3 u6 j6 p3.2 x6;simp;have hone:=eX hV [124] (c3b rdP l) (fun out i=>out.length≤i) 0 zB (b7z hV nm out []) (fun a=>(b0D hV a).le (by omega)) (fun a i sO hi h=>b0E hV nm out [] a i hi h) (b3f hV) (fun a i h=>by omega) [] j6 (by omega) p6.2 (by simp);refine hM.mk (wJ dT hone [(100000,100000),(100001,1),(100002,3)] (fun a j hx=>?_) ?_ ?_ ?_ rfl rfl (fun cs j7 x7=>?_) (fun n e hx2=>Q6.fail hx2 _))
   ·simp [a4E,aQ,aX,aT,aS,bC,getKey]
   ·simp [a4E,aQ,aX,aT,aS,bC,getKey]
   ·simp [aU,bE,rk]
   ·simp [a4E,aU,bE,rk,cS,dC]
   ·have Q7:=Q6.step x7;simp [bD,a4E,aU,bE,rk,cS,dC,bQ,gU,gE,eJ];exact Q7.ok _ j7 _ _ rfl (.inr rfl) (by simp [a9I])
  |true=>
   have Q4:=Q3.step (jC hs);rw [if_pos rfl] at Q4;refine bI (ds:=[.str [60]]) (d:= .d (.bool true)) aE (aV l j3 [60] p3.2 (by omega) hs) (by simp) (by simp) ?_
   have p4:j3+1≤j3+1∧j3+1<l.length:=⟨d8T _,aF hV.fin p3.2 hs⟩;obtain ⟨j4,hj4⟩:∃j,j3+1=j:=⟨_,rfl⟩;rw [hj4] at Q4 p4 ⊢;have Q4:=Q4.assoc;simp;refine cJ yY ((a0S hV false j4 p4.2)) (by simp) (by simp) (fun ps j5 x5=>?_) (fun n e hx=>by first|exact Q4.fail hx _|(simp;exact Q4.fail hx _)|(simp;exact fun s=>Q4.fail hx s));have Q5:=Q4.step x5;have p5:=(aA.vars hV.fin false) j4 ps j5 p4.2 x5;have Q5:=Q5.assoc;simp;refine cJ (ds:=[.sl (strs [[62]])]) aG (aH l [[62]] j5 p5.2 (by omega) hV.fin (by simp)) (by simp [strs]) (by simp) (fun u8 j8 x8=>?_) (fun n e hx=>by first|exact Q5.fail hx _|(simp;exact Q5.fail hx _)|(simp;exact fun s=>Q5.fail hx s));have Q8:=Q5.step x8;have p8:=aA.exp hV.fin _ _ j5 u8 j8 p5.2 x8;have Q8:=Q8.step (gI _ _);simp;refine cJ (ds:=[.sl (strs [[61]])]) aG (aH l [[61]] j8 p8.2 (by omega) hV.fin (by simp)) (by simp [strs]) (by simp) (fun u6 j6 x6=>?_) (fun n e hx=>by first|exact Q8.fail hx _|(simp;exact Q8.fail hx _)|(simp;exact fun s=>Q8.fail hx s));have Q6:=Q8.step x6;have p6:=aA.exp hV.fin _ _ j8 u6 j6 p8.2 x6;simp;have hone:=eX hV [124] (c3b rdP l) (fun out i=>out.length≤i) 0 zB (b7z hV nm out ps) (fun a=>(b0D hV a).le (by omega)) (fun a i sO hi h=>b0E hV nm out ps a i hi h) (b3f hV) (fun a i h=>by omega) [] j6 (by omega) p6.2 (by simp);refine hM.mk (wJ dT hone [(100000,100000),(100001,1),(100002,3)] (fun a j hx=>?_) ?_ ?_ ?_ rfl rfl (fun cs j7 x7=>?_) (fun n e hx2=>Q6.fail hx2 _))
   ·simp [a4E,aQ,aX,aT,aS,bC,getKey]
   ·simp [a4E,aQ,aX,aT,aS,bC,getKey]
   ·simp [aU,bE,rk]
   ·simp [a4E,aU,bE,rk,cS,dC]
   ·have Q7:=Q6.step x7;simp [bD,a4E,aU,bE,rk,cS,dC,bQ,gU,gE,eJ];exact Q7.ok _ j7 _ _ rfl (.inr rfl) (by simp [a9I])
end
end
section
open Go Go.VM
variable {G:GT}
theorem b1W:VM.Enters Tryz.prog 273:=VM.Enters.mk Tryz.func273 rfl
theorem b7A:VM.Enters Tryz.prog 264:=VM.Enters.mk Tryz.func264 rfl
section
variable {rdP:List Tok→Nat→Nat→mH Pr} {l:List Tok} (hV:mO G rdP l) (hN:∀i, -9223372036854775807≤(aK l i).n∧(aK l i).n≤9223372036854775807)
include hV hN
section
variable {ex:Nat→aR bW} {low:Nat} (hex:∀i,low≤i→i<l.length→pS G 34 [] l i (ex 0 i) rO) (aex:∀k,aA l 1 (ex k))
include hex aex
theorem b4W (i:Nat)(hlow:low≤i+1)(hi:i<l.length):pS G 273 [] l i (dI bA bF rdP l ex i) rO:=by
 have hl:=hV.len;obtain ⟨j0,rfl⟩:∃j0,j0=i:=⟨_,rfl⟩;have p0:j0≤j0∧j0<l.length:=⟨d8T _,hi⟩;refine kM.dB Tryz.func273 rfl Tryz.ntmps273 rfl (by simp) ?_
 intro Q Q0;unfold dI at Q0;simp;refine cJ (ds:=[.sl (strs [[40]])]) aG (aH l [[40]] j0 p0.2 (by omega) hV.fin (by simp)) (by simp [strs]) (by simp) (fun u1 j1 x1=>?_) (fun n e hx=>by first|exact Q0.fail hx _|(simp;exact Q0.fail hx _)|(simp;exact fun s=>Q0.fail hx s));have Q1:=Q0.step x1;have p1:=aA.exp hV.fin _ _ j0 u1 j1 p0.2 x1;simp;have hb:=jB (G:=G) l j1 [45] p1.2 (by omega);have ht1:=cO (G:=G) l j1 (j1+1) 1 (by omega) (by omega) (by intro e;subst e;simp at hi) (by omega);have ht2:=cO (G:=G) l j1 (j1+2) 2 (by omega) (by omega) (by intro e;subst e;simp at hi) (by omega);refine bI (ds:=[.str [45]]) gA hb (by simp) (by simp) ?_
 cases hs:aJ l j1 [45] with
 |false=>
  have Q1:=Q1.yD (by simp [hs]);simp;refine cJ cC ((hex j1 (by omega) p1.2)) (by simp) (by simp) (fun e j2 x2=>?_) (fun n e hx=>by first|exact Q1.fail hx _|(simp;exact Q1.fail hx _)|(simp;exact fun s=>Q1.fail hx s));have Q2:=Q1.step x2;have p2:=aex 0 j1 e j2 p1.2 x2;simp;cases hc:aJ l j2 [58] with
  |false=>
   have Q3:=Q2.step (jD hc);rw [if_neg (by decide)] at Q3;refine bI (ds:=[.str [58]]) (d:= .d (.bool false)) aE (aW l j2 [58] p2.2 (by omega) hc) (by simp) (by simp) ?_
   simp;have Q2:=Q3.step (gI _ _);refine cJ (ds:=[.sl (strs [[41]])]) aG (aH l [[41]] j2 p2.2 (by omega) hV.fin (by simp)) (by simp [strs]) (by simp) (fun u5 j5 x5=>?_) (fun n e hx=>by first|exact Q2.fail hx _|(simp;exact Q2.fail hx _)|(simp;exact fun s=>Q2.fail hx s));have Q5:=Q2.step x5;have p5:=aA.exp hV.fin _ _ j2 u5 j5 p2.2 x5;simp;exact Q5.ok _ j5 _ _ rfl (.inr rfl) (by simp [dW,cY])
  |true=>
   have Q3:=Q2.step (jC hc);rw [if_pos rfl] at Q3;refine bI (ds:=[.str [58]]) (d:= .d (.bool true)) aE (aV l j2 [58] p2.2 (by omega) hc) (by simp) (by simp) ?_
   have p3:j2+1≤j2+1∧j2+1<l.length:=⟨d8T _,aF hV.fin p2.2 hc⟩;obtain ⟨j3,hj3⟩:∃j,j2+1=j:=⟨_,rfl⟩;rw [hj3] at Q3 p3 ⊢;simp;have Q3:=Q3.assoc;refine kY 3 [2] (.op 0 (.op 1 (.call [4,5,6] .none) (.call [1,4,5,6] .none)) (.call [0,1,4,5,6] .none)) (gS (cB bA bF rdP l j3)) (by kernel_rfl) (by kernel_rfl) ?_
   simp
   repeat' apply And.intro
   all_goals
    refine tJ cU ((kW hV j3 p3.2)) (by simp) (by simp) (fun t j4 x4=>?_) (fun n e hx=>by first|exact Q3.fail hx _|(simp;exact Q3.fail hx _)|(simp;exact fun s=>Q3.fail hx s));have Q4:=Q3.step x4;have p4:=gZ hV j3 t j4 p3.2 x4;refine dG.mk ?_
    simp;have Q4:=Q4.step (gI _ _);refine cJ (ds:=[.sl (strs [[41]])]) aG (aH l [[41]] j4 p4.2 (by omega) hV.fin (by simp)) (by simp [strs]) (by simp) (fun u5 j5 x5=>?_) (fun n e hx=>by first|exact Q4.fail hx _|(simp;exact Q4.fail hx _)|(simp;exact fun s=>Q4.fail hx s));have Q5:=Q4.step x5;have p5:=aA.exp hV.fin _ _ j4 u5 j5 p4.2 x5;simp;exact Q5.ok _ j5 _ _ rfl (.inr rfl) (by simp [dW,cY])
 |true=>
  simp;refine bI (ds:=[.int .i64 1]) bS ht1 (by simp) (by simp) ?_
  by_cases hk:(aK l (j1+1)).kind=3
  ·simp [cR,hk];refine bI (ds:=[.int .i64 2]) bS ht2 (by simp) (by simp) ?_
   simp;refine mB.mk jV (kV (aK l (j1+2)) [41]) ?_
   cases hf:dN (aK l (j1+2)) [41] with
   |false=>
    have Q1:=Q1.yD (by simp [hf]);simp;refine cJ cC ((hex j1 (by omega) p1.2)) (by simp) (by simp) (fun e j2 x2=>?_) (fun n e hx=>by first|exact Q1.fail hx _|(simp;exact Q1.fail hx _)|(simp;exact fun s=>Q1.fail hx s));have Q2:=Q1.step x2;have p2:=aex 0 j1 e j2 p1.2 x2;simp;cases hc:aJ l j2 [58] with
    |false=>
     have Q3:=Q2.step (jD hc);rw [if_neg (by decide)] at Q3;refine bI (ds:=[.str [58]]) (d:= .d (.bool false)) aE (aW l j2 [58] p2.2 (by omega) hc) (by simp) (by simp) ?_
     simp;have Q2:=Q3.step (gI _ _);refine cJ (ds:=[.sl (strs [[41]])]) aG (aH l [[41]] j2 p2.2 (by omega) hV.fin (by simp)) (by simp [strs]) (by simp) (fun u5 j5 x5=>?_) (fun n e hx=>by first|exact Q2.fail hx _|(simp;exact Q2.fail hx _)|(simp;exact fun s=>Q2.fail hx s));have Q5:=Q2.step x5;have p5:=aA.exp hV.fin _ _ j2 u5 j5 p2.2 x5;simp;exact Q5.ok _ j5 _ _ rfl (.inr rfl) (by simp [dW,cY])
    |true=>
     have Q3:=Q2.step (jC hc);rw [if_pos rfl] at Q3;refine bI (ds:=[.str [58]]) (d:= .d (.bool true)) aE (aV l j2 [58] p2.2 (by omega) hc) (by simp) (by simp) ?_
     have p3:j2+1≤j2+1∧j2+1<l.length:=⟨d8T _,aF hV.fin p2.2 hc⟩;obtain ⟨j3,hj3⟩:∃j,j2+1=j:=⟨_,rfl⟩;rw [hj3] at Q3 p3 ⊢;simp;have Q3:=Q3.assoc;refine kY 3 [2] (.op 0 (.op 1 (.call [4,5,6] .none) (.call [1,4,5,6] .none)) (.call [0,1,4,5,6] .none)) (gS (cB bA bF rdP l j3)) (by kernel_rfl) (by kernel_rfl) ?_
     simp
     repeat' apply And.intro
     all_goals
      refine tJ cU ((kW hV j3 p3.2)) (by simp) (by simp) (fun t j4 x4=>?_) (fun n e hx=>by first|exact Q3.fail hx _|(simp;exact Q3.fail hx _)|(simp;exact fun s=>Q3.fail hx s));have Q4:=Q3.step x4;have p4:=gZ hV j3 t j4 p3.2 x4;refine dG.mk ?_
      simp;have Q4:=Q4.step (gI _ _);refine cJ (ds:=[.sl (strs [[41]])]) aG (aH l [[41]] j4 p4.2 (by omega) hV.fin (by simp)) (by simp [strs]) (by simp) (fun u5 j5 x5=>?_) (fun n e hx=>by first|exact Q4.fail hx _|(simp;exact Q4.fail hx _)|(simp;exact fun s=>Q4.fail hx s));have Q5:=Q4.step x5;have p5:=aA.exp hV.fin _ _ j4 u5 j5 p4.2 x5;simp;exact Q5.ok _ j5 _ _ rfl (.inr rfl) (by simp [dW,cY])
   |true=>
    have Q1:=Q1.ifp (by simp [hs,hk,hf]);simp;refine bI (ds:=[.int .i64 1]) bS ht1 (by simp) (by simp) ?_
    have hn:=hN (j1+1);have hw3:IntKind.i64.wrap ((j1:Int)+3)=((j1+3:Nat):Int):=by rw [wrap64 (by omega)];omega
    have hw4:IntKind.i64.wrap (-(aK l (j1+1)).n)= -(aK l (j1+1)).n:=wrap64 (by omega);simp [cR,hw3,hw4];exact Q1.ok _ (j1+3) _ _ rfl (.inr rfl) (by simp)
  ·have Q1:=Q1.yD (by simp [hk]);simp [cR,hk];refine cJ cC ((hex j1 (by omega) p1.2)) (by simp) (by simp) (fun e j2 x2=>?_) (fun n e hx=>by first|exact Q1.fail hx _|(simp;exact Q1.fail hx _)|(simp;exact fun s=>Q1.fail hx s));have Q2:=Q1.step x2;have p2:=aex 0 j1 e j2 p1.2 x2;simp;cases hc:aJ l j2 [58] with
   |false=>
    have Q3:=Q2.step (jD hc);rw [if_neg (by decide)] at Q3;refine bI (ds:=[.str [58]]) (d:= .d (.bool false)) aE (aW l j2 [58] p2.2 (by omega) hc) (by simp) (by simp) ?_
    simp;have Q2:=Q3.step (gI _ _);refine cJ (ds:=[.sl (strs [[41]])]) aG (aH l [[41]] j2 p2.2 (by omega) hV.fin (by simp)) (by simp [strs]) (by simp) (fun u5 j5 x5=>?_) (fun n e hx=>by first|exact Q2.fail hx _|(simp;exact Q2.fail hx _)|(simp;exact fun s=>Q2.fail hx s));have Q5:=Q2.step x5;have p5:=aA.exp hV.fin _ _ j2 u5 j5 p2.2 x5;simp;exact Q5.ok _ j5 _ _ rfl (.inr rfl) (by simp [dW,cY])
   |true=>
    have Q3:=Q2.step (jC hc);rw [if_pos rfl] at Q3;refine bI (ds:=[.str [58]]) (d:= .d (.bool true)) aE (aV l j2 [58] p2.2 (by omega) hc) (by simp) (by simp) ?_
    have p3:j2+1≤j2+1∧j2+1<l.length:=⟨d8T _,aF hV.fin p2.2 hc⟩;obtain ⟨j3,hj3⟩:∃j,j2+1=j:=⟨_,rfl⟩;rw [hj3] at Q3 p3 ⊢;simp;have Q3:=Q3.assoc;refine kY 3 [2] (.op 0 (.op 1 (.call [4,5,6] .none) (.call [1,4,5,6] .none)) (.call [0,1,4,5,6] .none)) (gS (cB bA bF rdP l j3)) (by kernel_rfl) (by kernel_rfl) ?_
    simp
    repeat' apply And.intro
    all_goals
     refine tJ cU ((kW hV j3 p3.2)) (by simp) (by simp) (fun t j4 x4=>?_) (fun n e hx=>by first|exact Q3.fail hx _|(simp;exact Q3.fail hx _)|(simp;exact fun s=>Q3.fail hx s));have Q4:=Q3.step x4;have p4:=gZ hV j3 t j4 p3.2 x4;refine dG.mk ?_
     simp;have Q4:=Q4.step (gI _ _);refine cJ (ds:=[.sl (strs [[41]])]) aG (aH l [[41]] j4 p4.2 (by omega) hV.fin (by simp)) (by simp [strs]) (by simp) (fun u5 j5 x5=>?_) (fun n e hx=>by first|exact Q4.fail hx _|(simp;exact Q4.fail hx _)|(simp;exact fun s=>Q4.fail hx s));have Q5:=Q4.step x5;have p5:=aA.exp hV.fin _ _ j4 u5 j5 p4.2 x5;simp;exact Q5.ok _ j5 _ _ rfl (.inr rfl) (by simp [dW,cY])
theorem b9R (i:Nat)(hlow:low≤i+1)(hi:i<l.length):pS G 264 [] l i (mV bA bF rdP l ex i) rO:=by
 have hl:=hV.len;obtain ⟨j0,rfl⟩:∃j0,j0=i:=⟨_,rfl⟩;have p0:j0≤j0∧j0<l.length:=⟨d8T _,hi⟩;have ht:=cO (G:=G) l j0 j0 0 (by omega) (by omega) (by intro e;subst e;simp at hi) (by omega);refine kM.dB Tryz.func264 rfl Tryz.ntmps264 rfl (by simp) ?_
 intro Q Q0;unfold mV at Q0;simp;refine bI (ds:=[.int .i64 0]) bS ht (by simp) (by simp) ?_
 by_cases hk:(aK l j0).kind=3
 ·have Q0:=Q0.ifp hk;have hw:=bP (show j0<9223372036854775807 by omega);simp [cR,hk,hw];exact Q0.ok _ (j0+1) _ _ rfl (.inr rfl) (by simp)
 have Q0:=Q0.yD hk;simp [cR,hk];cases h1:aJ l j0 [116,114,117,101] with
 |true=>
  have Q0:=Q0.ifp h1;refine bI (ds:=[.str [116,114,117,101]]) (d:= .d (.bool true)) aE (aV l j0 [116,114,117,101] p0.2 (by omega) h1) (by simp) (by simp) ?_
  have p1:j0+1≤j0+1∧j0+1<l.length:=⟨d8T _,aF hV.fin p0.2 h1⟩;simp;exact Q0.ok _ (j0+1) _ _ rfl (.inr rfl) (by simp)
 |false=>
 have Q0:=Q0.yD (by rw [h1];decide);refine bI (ds:=[.str [116,114,117,101]]) (d:= .d (.bool false)) aE (aW l j0 [116,114,117,101] p0.2 (by omega) h1) (by simp) (by simp) ?_
 simp;cases h2:aJ l j0 [102,97,108,115,101] with
 |true=>
  have Q0:=Q0.ifp h2;refine bI (ds:=[.str [102,97,108,115,101]]) (d:= .d (.bool true)) aE (aV l j0 [102,97,108,115,101] p0.2 (by omega) h2) (by simp) (by simp) ?_
  have p1:j0+1≤j0+1∧j0+1<l.length:=⟨d8T _,aF hV.fin p0.2 h2⟩;simp;exact Q0.ok _ (j0+1) _ _ rfl (.inr rfl) (by simp)
 |false=>
 have Q0:=Q0.yD (by rw [h2];decide);refine bI (ds:=[.str [102,97,108,115,101]]) (d:= .d (.bool false)) aE (aW l j0 [102,97,108,115,101] p0.2 (by omega) h2) (by simp) (by simp) ?_
 simp;cases h3:aJ l j0 [110,101,119] with
 |true=>
  have Q1:=Q0.ifp h3;refine bI (ds:=[.str [110,101,119]]) (d:= .d (.bool true)) aE (aV l j0 [110,101,119] p0.2 (by omega) h3) (by simp) (by simp) ?_
  have p1:j0+1≤j0+1∧j0+1<l.length:=⟨d8T _,aF hV.fin p0.2 h3⟩;obtain ⟨j1,hj1⟩:∃j,j0+1=j:=⟨_,rfl⟩;rw [hj1] at Q1 p1 ⊢;simp;refine cJ b0q (b3e hV hex aex 22 j1 (by omega) p1.2) (by simp) (by simp) (fun t j h=>?_) (fun n e h=>by first|exact Q1.bad n e _ h|(simp;exact Q1.bad n e _ h)|(simp;exact fun s=>Q1.bad n e s h));simp;exact Q1.ok t j _ _ h (.inr rfl) (by simp)
 |false=>
 have Q0:=Q0.yD (by rw [h3];decide);refine bI (ds:=[.str [110,101,119]]) (d:= .d (.bool false)) aE (aW l j0 [110,101,119] p0.2 (by omega) h3) (by simp) (by simp) ?_
 simp;cases h4:aJ l j0 [103,101,116] with
 |true=>
  have Q1:=Q0.ifp h4;refine bI (ds:=[.str [103,101,116]]) (d:= .d (.bool true)) aE (aV l j0 [103,101,116] p0.2 (by omega) h4) (by simp) (by simp) ?_
  have p1:j0+1≤j0+1∧j0+1<l.length:=⟨d8T _,aF hV.fin p0.2 h4⟩;obtain ⟨j1,hj1⟩:∃j,j0+1=j:=⟨_,rfl⟩;rw [hj1] at Q1 p1 ⊢;simp;refine cJ b0q (b3e hV hex aex 23 j1 (by omega) p1.2) (by simp) (by simp) (fun t j h=>?_) (fun n e h=>by first|exact Q1.bad n e _ h|(simp;exact Q1.bad n e _ h)|(simp;exact fun s=>Q1.bad n e s h));simp;exact Q1.ok t j _ _ h (.inr rfl) (by simp)
 |false=>
 have Q0:=Q0.yD (by rw [h4];decide);refine bI (ds:=[.str [103,101,116]]) (d:= .d (.bool false)) aE (aW l j0 [103,101,116] p0.2 (by omega) h4) (by simp) (by simp) ?_
 simp;cases h5:aJ l j0 [115,101,116] with
 |true=>
  have Q1:=Q0.ifp h5;refine bI (ds:=[.str [115,101,116]]) (d:= .d (.bool true)) aE (aV l j0 [115,101,116] p0.2 (by omega) h5) (by simp) (by simp) ?_
  have p1:j0+1≤j0+1∧j0+1<l.length:=⟨d8T _,aF hV.fin p0.2 h5⟩;obtain ⟨j1,hj1⟩:∃j,j0+1=j:=⟨_,rfl⟩;rw [hj1] at Q1 p1 ⊢;simp;refine cJ (ds:=[.sl (strs [[40]])]) aG (aH l [[40]] j1 p1.2 (by omega) hV.fin (by simp)) (by simp [strs]) (by simp) (fun u2 j2 x2=>?_) (fun n e hx=>by first|exact Q1.fail hx _|(simp;exact Q1.fail hx _)|(simp;exact fun s=>Q1.fail hx s));have Q2:=Q1.step x2;have p2:=aA.exp hV.fin _ _ j1 u2 j2 p1.2 x2;simp;refine cJ cC ((hex j2 (by omega) p2.2)) (by simp) (by simp) (fun x j3 x3=>?_) (fun n e hx=>by first|exact Q2.fail hx _|(simp;exact Q2.fail hx _)|(simp;exact fun s=>Q2.fail hx s));have Q3:=Q2.step x3;have p3:=aex 0 j2 x j3 p2.2 x3;simp;refine cJ (ds:=[.sl (strs [[44]])]) aG (aH l [[44]] j3 p3.2 (by omega) hV.fin (by simp)) (by simp [strs]) (by simp) (fun u4 j4 x4=>?_) (fun n e hx=>by first|exact Q3.fail hx _|(simp;exact Q3.fail hx _)|(simp;exact fun s=>Q3.fail hx s));have Q4:=Q3.step x4;have p4:=aA.exp hV.fin _ _ j3 u4 j4 p3.2 x4;simp;refine cJ cC ((hex j4 (by omega) p4.2)) (by simp) (by simp) (fun y j5 x5=>?_) (fun n e hx=>by first|exact Q4.fail hx _|(simp;exact Q4.fail hx _)|(simp;exact fun s=>Q4.fail hx s));have Q5:=Q4.step x5;have p5:=aex 0 j4 y j5 p4.2 x5;simp;refine cJ (ds:=[.sl (strs [[41]])]) aG (aH l [[41]] j5 p5.2 (by omega) hV.fin (by simp)) (by simp [strs]) (by simp) (fun u6 j6 x6=>?_) (fun n e hx=>by first|exact Q5.fail hx _|(simp;exact Q5.fail hx _)|(simp;exact fun s=>Q5.fail hx s));have Q6:=Q5.step x6;have p6:=aA.exp hV.fin _ _ j5 u6 j6 p5.2 x6;simp;refine mB.mk cG (jS 24 x y) ?_
  simp;exact Q6.ok _ j6 _ _ rfl (.inr rfl) (by simp)
 |false=>
 have Q0:=Q0.yD (by rw [h5];decide);refine bI (ds:=[.str [115,101,116]]) (d:= .d (.bool false)) aE (aW l j0 [115,101,116] p0.2 (by omega) h5) (by simp) (by simp) ?_
 simp;refine mB.mk jL (kL hV.kw (aK l j0)) ?_
 cases h6:jJ bA (aK l j0) with
 |true=>
  have Q0:=Q0.ifp h6;simp;refine cJ (ds:=[]) cX (dO hV.kw l j0 hi (by omega)) (by simp) (by simp) (fun s j hx=>?_) (fun n e hx=>by unfold bN mE at hx;rw [if_pos h6] at hx;cases hx);have p1:=aA.word (kw:=bA) hV.fin _ _ _ p0.2 hx;unfold bN mE at hx;rw [if_pos h6] at hx;cases hx;have Q1:=Q0;obtain ⟨j1,hj1⟩:∃j,j0+1=j:=⟨_,rfl⟩;rw [hj1] at Q1 p1 ⊢;have hb1:=jB (G:=G) l j1 [91] p1.2 (by omega);have hb2:=jB (G:=G) l j1 [40] p1.2 (by omega);simp;refine bI (ds:=[.str [91]]) gA hb1 (by simp) (by simp) ?_
  cases h7:aJ l j1 [91] with
  |true=>have Q1:=Q1.yD (by simp [h7]);simp;refine cJ vV ((xS hV j1 p1.2)) (by simp) (by simp) (fun ts j3 x3=>?_) (fun n e hx=>by first|exact Q1.fail hx _|(simp;exact Q1.fail hx _)|(simp;exact fun s=>Q1.fail hx s));have Q3:=Q1.step x3;have p3:=(aA.types hV.fin hV.pU.pred) j1 ts j3 p1.2 x3;simp;refine cJ zA ((a4C hV hex aex j3 (by omega) p3.2)) (by simp) (by simp) (fun ks j4 x4=>?_) (fun n e hx=>by first|exact Q3.fail hx _|(simp;exact Q3.fail hx _)|(simp;exact fun s=>Q3.fail hx s));have Q4:=Q3.step x4;have p4:=(aA.eP hV.fin aex) j3 ks j4 p3.2 x4;simp;exact Q4.ok _ j4 _ _ rfl (.inr rfl) (by simp)
  |false=>
   simp;refine bI (ds:=[.str [40]]) gA hb2 (by simp) (by simp) ?_
   cases h8:aJ l j1 [40] with
   |true=>have Q1:=Q1.yD (by simp [h8]);simp;refine cJ vV ((xS hV j1 p1.2)) (by simp) (by simp) (fun ts j3 x3=>?_) (fun n e hx=>by first|exact Q1.fail hx _|(simp;exact Q1.fail hx _)|(simp;exact fun s=>Q1.fail hx s));have Q3:=Q1.step x3;have p3:=(aA.types hV.fin hV.pU.pred) j1 ts j3 p1.2 x3;simp;refine cJ zA ((a4C hV hex aex j3 (by omega) p3.2)) (by simp) (by simp) (fun ks j4 x4=>?_) (fun n e hx=>by first|exact Q3.fail hx _|(simp;exact Q3.fail hx _)|(simp;exact fun s=>Q3.fail hx s));have Q4:=Q3.step x4;have p4:=(aA.eP hV.fin aex) j3 ks j4 p3.2 x4;simp;exact Q4.ok _ j4 _ _ rfl (.inr rfl) (by simp)
   |false=>have Q1:=Q1.ifp (by simp [h7,h8]);simp;exact Q1.ok _ j1 _ _ rfl (.inr rfl) (by simp)
 |false=>
 have Q0:=Q0.yD (by rw [h6];decide);simp;by_cases hk2:(aK l j0).kind=2
 ·have h7:kT (aK l j0)=true:=by simp [kT,hk2]
  have Q0:=Q0.ifp h7;simp [hk2];refine cJ (ds:=[]) gW (jM l j0 hi (by omega)) (by simp) (by simp) (fun s j hx=>?_) (fun n e hx=>by unfold eV mE at hx;rw [if_pos h7] at hx;cases hx);have p1:=aA.title hV.fin _ _ _ p0.2 hx;unfold eV mE at hx;rw [if_pos h7] at hx;cases hx;have Q1:=Q0;obtain ⟨j1,hj1⟩:∃j,j0+1=j:=⟨_,rfl⟩;rw [hj1] at Q1 p1 ⊢;simp;refine cJ vV ((xS hV j1 p1.2)) (by simp) (by simp) (fun ts j3 x3=>?_) (fun n e hx=>by first|exact Q1.fail hx _|(simp;exact Q1.fail hx _)|(simp;exact fun s=>Q1.fail hx s));have Q3:=Q1.step x3;have p3:=(aA.types hV.fin hV.pU.pred) j1 ts j3 p1.2 x3;simp;have hb2:=jB (G:=G) l j3 [40] p3.2 (by omega);refine bI (ds:=[.str [40]]) gA hb2 (by simp) (by simp) ?_
  cases h8:aJ l j3 [40] with
  |false=>have Q4:=Q3.step (a:=[]) (j:=j3) (by simp [h8]);simp;exact Q4.ok _ j3 _ _ rfl (.inr rfl) (by simp)
  |true=>
   have e1:(fun j=>if aJ l j [40] then eN l ex j else .ok [] j:aR (List bW)) j3=eN l ex j3:=by simp [h8]
   simp;refine cJ zA ((a4C hV hex aex j3 (by omega) p3.2)) (by simp) (by simp) (fun ks j4 x4=>?_) (fun n e hx=>by first|exact Q3.fail (e1.trans hx) _|(simp;exact Q3.fail (e1.trans hx) _)|(simp;exact fun s=>Q3.fail (e1.trans hx) s));have Q4:=Q3.step (e1.trans x4);have p4:=(aA.eP hV.fin aex) j3 ks j4 p3.2 x4;simp;exact Q4.ok _ j4 _ _ rfl (.inr rfl) (by simp)
 ·have h7:kT (aK l j0)=false:=by simp [kT,hk2]
  have Q0:=Q0.yD (by rw [h7];decide);simp [hk2];refine cJ b1W (b4W hV hN hex aex j0 (by omega) p0.2) (by simp) (by simp) (fun t j h=>?_) (fun n e h=>by first|exact Q0.bad n e _ h|(simp;exact Q0.bad n e _ h)|(simp;exact fun s=>Q0.bad n e s h));simp;exact Q0.ok t j _ _ h (.inr rfl) (by simp)
end
end
end
section
open Go Go.VM
variable {G:GT}
theorem xW:VM.Enters Tryz.prog 229:=VM.Enters.mk Tryz.func229 rfl
theorem rZ:VM.Enters Tryz.prog 207:=VM.Enters.mk Tryz.func207 rfl
theorem b0G:VM.Enters Tryz.prog 191:=VM.Enters.mk Tryz.func191 rfl
theorem b0H:VM.Enters Tryz.prog 122:=VM.Enters.mk Tryz.func122 rfl
theorem c3d:VM.Enters Tryz.prog 73:=VM.Enters.mk Tryz.func73 rfl
section
variable {l:List Tok} {ops:List (Nm×Int)} {one:aR bW} {g:Nat} {e x:bW} {i j:Nat} {p:Nm×Int}
theorem wL (h:(ops.find? fun p=>aJ l i p.1)=none):cN l ops one (g+1) e i= .ok e i:=by rw [cN];simp only [h]
theorem sA (h:(ops.find? fun p=>aJ l i p.1)=some p)(h1:one (i+1)= .ok x j):cN l ops one (g+1) e i=cN l ops one g (bJ p.2 [e,x]) j:=by rw [cN];simp only [h,h1]
theorem qH {n m:Int}(h:(ops.find? fun p=>aJ l i p.1)=some p)(h1:one (i+1)= .bad n m):cN l ops one (g+1) e i= .bad n m:=by rw [cN];simp only [h,h1]
end
section
variable {rdP:List Tok→Nat→Nat→mH Pr} {l:List Tok} (hV:mO G rdP l) (hN:∀i, -9223372036854775807≤(aK l i).n∧(aK l i).n≤9223372036854775807)
include hV hN
section
variable {ex:Nat→aR bW} {low:Nat} (hex:∀i,low≤i→i<l.length→pS G 34 [] l i (ex 0 i) rO) (h3:∀i,low≤i→i<l.length→pS G 168 [] l i (ex 3 i) rO) (h7:∀i,low≤i→i<l.length→pS G 247 [] l i (ex 7 i) rO) (aex:∀k,aA l 1 (ex k))
include hex h3 h7 aex
omit h3 in
theorem a7U (i:Nat)(hlow:low≤i+1)(hi:i<l.length):pS G 247 [] l i (mA bA bF rdP l ex i) rO:=by
 have hl:=hV.len;obtain ⟨j0,rfl⟩:∃j0,j0=i:=⟨_,rfl⟩;have p0:j0≤j0∧j0<l.length:=⟨d8T _,hi⟩;refine kM.dB Tryz.func247 rfl Tryz.ntmps247 rfl (by simp) ?_
 intro Q Q0;unfold mA at Q0;simp;cases hs:aJ l j0 [45] with
 |true=>
  have Q1:=Q0.ifp hs;refine bI (ds:=[.str [45]]) (d:= .d (.bool true)) aE (aV l j0 [45] p0.2 (by omega) hs) (by simp) (by simp) ?_
  have p1:j0+1≤j0+1∧j0+1<l.length:=⟨d8T _,aF hV.fin p0.2 hs⟩;obtain ⟨j1,hj1⟩:∃j,j0+1=j:=⟨_,rfl⟩;rw [hj1] at Q1 p1 ⊢;simp;refine cJ tD ((h7 j1 (by omega) p1.2)) (by simp) (by simp) (fun e j2 x2=>?_) (fun n e hx=>by first|exact Q1.fail hx _|(simp;exact Q1.fail hx _)|(simp;exact fun s=>Q1.fail hx s));have Q2:=Q1.step x2;have p2:=aex 7 j1 e j2 p1.2 x2;simp;refine mB.mk cG (a3h 15 e) ?_
  simp;exact Q2.ok _ j2 _ _ rfl (.inr rfl) (by simp)
 |false=>
  have Q0:=Q0.yD (by rw [hs];decide);refine bI (ds:=[.str [45]]) (d:= .d (.bool false)) aE (aW l j0 [45] p0.2 (by omega) hs) (by simp) (by simp) ?_
  simp;refine cJ b7A (b9R hV hN hex aex j0 (by omega) p0.2) (by simp) (by simp) (fun t j h=>?_) (fun n e h=>by first|exact Q0.bad n e _ h|(simp;exact Q0.bad n e _ h)|(simp;exact fun s=>Q0.bad n e s h));simp;exact Q0.ok t j _ _ h (.inr rfl) (by simp)
omit h3 in
theorem b1X (i:Nat)(hlow:low≤i+1)(hi:i<l.length):pS G 229 [] l i (tA bA bF rdP l ex i) rO:=by
 refine kM.dB Tryz.func229 rfl Tryz.ntmps229 rfl (by simp) ?_
 intro Q Q0;unfold tA pR at Q0;have hl:=hV.len;obtain ⟨j0,rfl⟩:∃j0,j0=i:=⟨_,rfl⟩;have p0:j0≤j0∧j0<l.length:=⟨d8T _,hi⟩;generalize hone:mA bA bF rdP l ex=one at *;have hcon:∀i,low≤i+1→i<l.length→pS G 247 [] l i (one i) rO:=by rw [← hone];exact a7U hV hN hex h7 aex
 have aone:aA l 1 one:=by
  first
   |assumption
   |(rw [← hone]
     exact aA.unG hV.fin aex hV.pU.pred)
 simp;refine cJ tD ((hcon j0 (by omega) p0.2)) (by simp) (by simp) (fun e j1 x1=>?_) (fun n e hx=>by first|exact Q0.fail hx _|(simp;exact Q0.fail hx _)|(simp;exact fun s=>Q0.fail hx s));have Q1:=Q0.step x1;have p1:=aone j0 e j1 p0.2 x1;simp;refine SW.vY (ι:={ x:bW×Nat×Nat // j1≤x.2.1∧x.2.1<l.length∧l.length<x.2.2+x.2.1∧cN l [([42],12),([100,105,118],13),([109,111,100],14)] one x.2.2 x.1 x.2.1=cN l [([42],12),([100,105,118],13),([109,111,100],14)] one (l.length+2) e j1 }) (fun _=>[]) (fun x=>[(2,.cells [.d (.int .i64 0),.d (.str []),.d (.int .i64 0),.d .aN,.d .aN,.d .aN,.d .aN]),(3,.cells ((tK x.1.1).map .d)),(100000,rdO l x.1.2.1)]) (fun _=>[]) (fun x=>l.length-x.1.2.1) ⟨(e,j1,l.length+2),d8T _,p1.2,by simp only;omega,rfl⟩ (by simp) ?_
 rintro ⟨⟨e2,j2,g⟩,hb,hj2,hg,hp⟩;simp only at hb hj2 hg hp;obtain ⟨g,rfl⟩:∃k,g=k+1:=⟨g-1,by omega⟩;have p2:j1≤j2∧j2<l.length:=⟨hb,hj2⟩;simp;cases s1:aJ l j2 [42] with
 |true=>
  have hf:([([42],12),([100,105,118],13),([109,111,100],14)].find? fun p:Nm×Int=>aJ l j2 p.1)=some ([42],12):=by simp [s1]
  have hn:=aF hV.fin hj2 s1;refine bI (ds:=[.str [42]]) (d:= .d (.bool true)) aE (aV l j2 [42] p2.2 (by omega) s1) (by simp) (by simp) ?_
  simp;refine kY 2 [1] (.op 0 (.call [3,4,5] .none) (.call [0,3,4,5] .none)) (gS (one (j2+1))) (by kernel_rfl) (by kernel_rfl) ?_
  simp;refine ⟨?_,?_⟩
  all_goals
   refine tJ (i:=j2+1) (ds:=[]) tD (hcon (j2+1) (by omega) hn) (by simp) (by simp) (fun x j3 x3=>?_) (fun n e hx=>?_)
   ·have p3:=aone (j2+1) x j3 hn x3;rw [sA hf x3] at hp;refine dG.mk ?_
    simp;refine aI.mk cG (jS 12 e2 x) ?_
    simp;exact bR.mk ⟨(bJ 12 [e2,x],j3,g),by simp only;omega,p3.2,by simp only;omega,hp⟩ (by simp) (by simp;omega)
   ·rw [qH hf hx] at hp;simp
    first|exact Q1.bad _ _ _ hp.symm|exact fun s=>Q1.bad _ _ s hp.symm
 |false=>
 refine bI (ds:=[.str [42]]) (d:= .d (.bool false)) aE (aW l j2 [42] p2.2 (by omega) s1) (by simp) (by simp) ?_
 simp;cases s2:aJ l j2 [100,105,118] with
 |true=>
  have hf:([([42],12),([100,105,118],13),([109,111,100],14)].find? fun p:Nm×Int=>aJ l j2 p.1)=some ([100,105,118],13):=by simp [s1,s2]
  have hn:=aF hV.fin hj2 s2;refine bI (ds:=[.str [100,105,118]]) (d:= .d (.bool true)) aE (aV l j2 [100,105,118] p2.2 (by omega) s2) (by simp) (by simp) ?_
  simp;refine kY 2 [1] (.op 0 (.call [3,4,5] .none) (.call [0,3,4,5] .none)) (gS (one (j2+1))) (by kernel_rfl) (by kernel_rfl) ?_
  simp;refine ⟨?_,?_⟩
  all_goals
   refine tJ (i:=j2+1) (ds:=[]) tD (hcon (j2+1) (by omega) hn) (by simp) (by simp) (fun x j3 x3=>?_) (fun n e hx=>?_)
   ·have p3:=aone (j2+1) x j3 hn x3;rw [sA hf x3] at hp;refine dG.mk ?_
    simp;refine aI.mk cG (jS 13 e2 x) ?_
    simp;exact bR.mk ⟨(bJ 13 [e2,x],j3,g),by simp only;omega,p3.2,by simp only;omega,hp⟩ (by simp) (by simp;omega)
   ·rw [qH hf hx] at hp;simp
    first|exact Q1.bad _ _ _ hp.symm|exact fun s=>Q1.bad _ _ s hp.symm
 |false=>
 refine bI (ds:=[.str [100,105,118]]) (d:= .d (.bool false)) aE (aW l j2 [100,105,118] p2.2 (by omega) s2) (by simp) (by simp) ?_
 simp;cases s3:aJ l j2 [109,111,100] with
 |true=>
  have hf:([([42],12),([100,105,118],13),([109,111,100],14)].find? fun p:Nm×Int=>aJ l j2 p.1)=some ([109,111,100],14):=by simp [s1,s2,s3]
  have hn:=aF hV.fin hj2 s3;refine bI (ds:=[.str [109,111,100]]) (d:= .d (.bool true)) aE (aV l j2 [109,111,100] p2.2 (by omega) s3) (by simp) (by simp) ?_
  simp;refine kY 2 [1] (.op 0 (.call [3,4,5] .none) (.call [0,3,4,5] .none)) (gS (one (j2+1))) (by kernel_rfl) (by kernel_rfl) ?_
  simp;refine ⟨?_,?_⟩
  all_goals
   refine tJ (i:=j2+1) (ds:=[]) tD (hcon (j2+1) (by omega) hn) (by simp) (by simp) (fun x j3 x3=>?_) (fun n e hx=>?_)
   ·have p3:=aone (j2+1) x j3 hn x3;rw [sA hf x3] at hp;refine dG.mk ?_
    simp;refine aI.mk cG (jS 14 e2 x) ?_
    simp;exact bR.mk ⟨(bJ 14 [e2,x],j3,g),by simp only;omega,p3.2,by simp only;omega,hp⟩ (by simp) (by simp;omega)
   ·rw [qH hf hx] at hp;simp
    first|exact Q1.bad _ _ _ hp.symm|exact fun s=>Q1.bad _ _ s hp.symm
 |false=>
 refine bI (ds:=[.str [109,111,100]]) (d:= .d (.bool false)) aE (aW l j2 [109,111,100] p2.2 (by omega) s3) (by simp) (by simp) ?_
 have hf:([([42],12),([100,105,118],13),([109,111,100],14)].find? fun p:Nm×Int=>aJ l j2 p.1)=none:=by simp [s1,s2,s3]
 have Q2:=hp.symm.trans (wL hf);simp;exact Q1.ok _ j2 _ _ Q2 (.inr rfl) (by simp)
omit h3 in
theorem pI (i:Nat)(hlow:low≤i+1)(hi:i<l.length):pS G 207 [] l i (bX bA bF rdP l ex i) rO:=by
 refine kM.dB Tryz.func207 rfl Tryz.ntmps207 rfl (by simp) ?_
 intro Q Q0;unfold bX pR at Q0;have hl:=hV.len;obtain ⟨j0,rfl⟩:∃j0,j0=i:=⟨_,rfl⟩;have p0:j0≤j0∧j0<l.length:=⟨d8T _,hi⟩;generalize hone:tA bA bF rdP l ex=one at *;have hcon:∀i,low≤i+1→i<l.length→pS G 229 [] l i (one i) rO:=by rw [← hone];exact b1X hV hN hex h7 aex
 have aone:aA l 1 one:=by
  first
   |assumption
   |(rw [← hone]
     exact aA.b6N hV.fin aex hV.pU.pred)
 simp;refine cJ xW ((hcon j0 (by omega) p0.2)) (by simp) (by simp) (fun e j1 x1=>?_) (fun n e hx=>by first|exact Q0.fail hx _|(simp;exact Q0.fail hx _)|(simp;exact fun s=>Q0.fail hx s));have Q1:=Q0.step x1;have p1:=aone j0 e j1 p0.2 x1;simp;refine SW.vY (ι:={ x:bW×Nat×Nat // j1≤x.2.1∧x.2.1<l.length∧l.length<x.2.2+x.2.1∧cN l [([43],10),([45],11)] one x.2.2 x.1 x.2.1=cN l [([43],10),([45],11)] one (l.length+2) e j1 }) (fun _=>[]) (fun x=>[(2,.cells [.d (.int .i64 0),.d (.str []),.d (.int .i64 0),.d .aN,.d .aN,.d .aN,.d .aN]),(3,.cells ((tK x.1.1).map .d)),(100000,rdO l x.1.2.1)]) (fun _=>[]) (fun x=>l.length-x.1.2.1) ⟨(e,j1,l.length+2),d8T _,p1.2,by simp only;omega,rfl⟩ (by simp) ?_
 rintro ⟨⟨e2,j2,g⟩,hb,hj2,hg,hp⟩;simp only at hb hj2 hg hp;obtain ⟨g,rfl⟩:∃k,g=k+1:=⟨g-1,by omega⟩;have p2:j1≤j2∧j2<l.length:=⟨hb,hj2⟩;simp;cases s1:aJ l j2 [43] with
 |true=>
  have hf:([([43],10),([45],11)].find? fun p:Nm×Int=>aJ l j2 p.1)=some ([43],10):=by simp [s1]
  have hn:=aF hV.fin hj2 s1;refine bI (ds:=[.str [43]]) (d:= .d (.bool true)) aE (aV l j2 [43] p2.2 (by omega) s1) (by simp) (by simp) ?_
  simp;refine kY 2 [1] (.op 0 (.call [3,4,5] .none) (.call [0,3,4,5] .none)) (gS (one (j2+1))) (by kernel_rfl) (by kernel_rfl) ?_
  simp;refine ⟨?_,?_⟩
  all_goals
   refine tJ (i:=j2+1) (ds:=[]) xW (hcon (j2+1) (by omega) hn) (by simp) (by simp) (fun x j3 x3=>?_) (fun n e hx=>?_)
   ·have p3:=aone (j2+1) x j3 hn x3;rw [sA hf x3] at hp;refine dG.mk ?_
    simp;refine aI.mk cG (jS 10 e2 x) ?_
    simp;exact bR.mk ⟨(bJ 10 [e2,x],j3,g),by simp only;omega,p3.2,by simp only;omega,hp⟩ (by simp) (by simp;omega)
   ·rw [qH hf hx] at hp;simp
    first|exact Q1.bad _ _ _ hp.symm|exact fun s=>Q1.bad _ _ s hp.symm
 |false=>
 refine bI (ds:=[.str [43]]) (d:= .d (.bool false)) aE (aW l j2 [43] p2.2 (by omega) s1) (by simp) (by simp) ?_
 simp;cases s2:aJ l j2 [45] with
 |true=>
  have hf:([([43],10),([45],11)].find? fun p:Nm×Int=>aJ l j2 p.1)=some ([45],11):=by simp [s1,s2]
  have hn:=aF hV.fin hj2 s2;refine bI (ds:=[.str [45]]) (d:= .d (.bool true)) aE (aV l j2 [45] p2.2 (by omega) s2) (by simp) (by simp) ?_
  simp;refine kY 2 [1] (.op 0 (.call [3,4,5] .none) (.call [0,3,4,5] .none)) (gS (one (j2+1))) (by kernel_rfl) (by kernel_rfl) ?_
  simp;refine ⟨?_,?_⟩
  all_goals
   refine tJ (i:=j2+1) (ds:=[]) xW (hcon (j2+1) (by omega) hn) (by simp) (by simp) (fun x j3 x3=>?_) (fun n e hx=>?_)
   ·have p3:=aone (j2+1) x j3 hn x3;rw [sA hf x3] at hp;refine dG.mk ?_
    simp;refine aI.mk cG (jS 11 e2 x) ?_
    simp;exact bR.mk ⟨(bJ 11 [e2,x],j3,g),by simp only;omega,p3.2,by simp only;omega,hp⟩ (by simp) (by simp;omega)
   ·rw [qH hf hx] at hp;simp
    first|exact Q1.bad _ _ _ hp.symm|exact fun s=>Q1.bad _ _ s hp.symm
 |false=>
 refine bI (ds:=[.str [45]]) (d:= .d (.bool false)) aE (aW l j2 [45] p2.2 (by omega) s2) (by simp) (by simp) ?_
 have hf:([([43],10),([45],11)].find? fun p:Nm×Int=>aJ l j2 p.1)=none:=by simp [s1,s2]
 have Q2:=hp.symm.trans (wL hf);simp;exact Q1.ok _ j2 _ _ Q2 (.inr rfl) (by simp)
omit h3 in
theorem b1Y (i:Nat)(hlow:low≤i+1)(hi:i<l.length):pS G 191 [] l i (kU bA bF rdP l ex i) rO:=by
 have hl:=hV.len;obtain ⟨j0,rfl⟩:∃j0,j0=i:=⟨_,rfl⟩;have p0:j0≤j0∧j0<l.length:=⟨d8T _,hi⟩;refine kM.dB Tryz.func191 rfl Tryz.ntmps191 rfl (by simp) ?_
 intro Q Q0;unfold kU at Q0;simp;refine cJ rZ ((pI hV hN hex h7 aex j0 (by omega) p0.2)) (by simp) (by simp) (fun e j1 x1=>?_) (fun n e hx=>by first|exact Q0.fail hx _|(simp;exact Q0.fail hx _)|(simp;exact fun s=>Q0.fail hx s));have Q1:=Q0.step x1;have p1:=aA.a1w hV.fin aex hV.pU.pred j0 e j1 p0.2 x1;simp;have hc:=pI hV hN hex h7 aex;cases hs1:aJ l j1 [61,61] with
 |true=>
  have Q2:=Q1.ifp hs1;refine bI (ds:=[.str [61,61]]) (d:= .d (.bool true)) aE (aV l j1 [61,61] p1.2 (by omega) hs1) (by simp) (by simp) ?_
  have p2:j1+1≤j1+1∧j1+1<l.length:=⟨d8T _,aF hV.fin p1.2 hs1⟩;obtain ⟨j2,hj2⟩:∃j,j1+1=j:=⟨_,rfl⟩;rw [hj2] at Q2 p2 ⊢;simp;refine kY 2 [1] (.op 0 (.call [3,4,5] .none) (.call [0,3,4,5] .none)) (gS (bX bA bF rdP l ex j2)) (by kernel_rfl) (by kernel_rfl) ?_
  simp;refine ⟨?_,?_⟩
  all_goals
   refine tJ rZ ((pI hV hN hex h7 aex j2 (by omega) p2.2)) (by simp) (by simp) (fun x j3 x3=>?_) (fun n e hx=>by first|exact Q2.fail hx _|(simp;exact Q2.fail hx _)|(simp;exact fun s=>Q2.fail hx s));have Q3:=Q2.step x3;have p3:=aA.a1w hV.fin aex hV.pU.pred j2 x j3 p2.2 x3;refine dG.mk ?_
   simp;refine aI.mk cG (jS 16 e x) ?_
   simp;exact Q3.ok _ j3 _ _ rfl (.inr rfl) (by simp)
 |false=>
 have Q1:=Q1.yD (by rw [hs1];decide);refine bI (ds:=[.str [61,61]]) (d:= .d (.bool false)) aE (aW l j1 [61,61] p1.2 (by omega) hs1) (by simp) (by simp) ?_
 simp;cases hs2:aJ l j1 [33,61] with
 |true=>
  have Q2:=Q1.ifp hs2;refine bI (ds:=[.str [33,61]]) (d:= .d (.bool true)) aE (aV l j1 [33,61] p1.2 (by omega) hs2) (by simp) (by simp) ?_
  have p2:j1+1≤j1+1∧j1+1<l.length:=⟨d8T _,aF hV.fin p1.2 hs2⟩;obtain ⟨j2,hj2⟩:∃j,j1+1=j:=⟨_,rfl⟩;rw [hj2] at Q2 p2 ⊢;simp;refine kY 2 [1] (.op 0 (.call [3,4,5,6,7] .none) (.call [0,3,4,5,6,7] .none)) (gS (bX bA bF rdP l ex j2)) (by kernel_rfl) (by kernel_rfl) ?_
  simp;refine ⟨?_,?_⟩
  all_goals
   refine tJ rZ ((pI hV hN hex h7 aex j2 (by omega) p2.2)) (by simp) (by simp) (fun x j3 x3=>?_) (fun n e hx=>by first|exact Q2.fail hx _|(simp;exact Q2.fail hx _)|(simp;exact fun s=>Q2.fail hx s));have Q3:=Q2.step x3;have p3:=aA.a1w hV.fin aex hV.pU.pred j2 x j3 p2.2 x3;refine dG.mk ?_
   simp;refine aI.mk cG (jS 16 e x) ?_
   simp;refine aI.mk cG (a3h 21 (bJ 16 [e,x])) ?_
   simp;exact Q3.ok _ j3 _ _ rfl (.inr rfl) (by simp)
 |false=>
 have Q1:=Q1.yD (by rw [hs2];decide);refine bI (ds:=[.str [33,61]]) (d:= .d (.bool false)) aE (aW l j1 [33,61] p1.2 (by omega) hs2) (by simp) (by simp) ?_
 simp;have hc:=pI hV hN hex h7 aex;cases hs3:aJ l j1 [60] with
 |true=>
  have Q2:=Q1.ifp hs3;refine bI (ds:=[.str [60]]) (d:= .d (.bool true)) aE (aV l j1 [60] p1.2 (by omega) hs3) (by simp) (by simp) ?_
  have p2:j1+1≤j1+1∧j1+1<l.length:=⟨d8T _,aF hV.fin p1.2 hs3⟩;obtain ⟨j2,hj2⟩:∃j,j1+1=j:=⟨_,rfl⟩;rw [hj2] at Q2 p2 ⊢;simp;refine kY 2 [1] (.op 0 (.call [3,4,5] .none) (.call [0,3,4,5] .none)) (gS (bX bA bF rdP l ex j2)) (by kernel_rfl) (by kernel_rfl) ?_
  simp;refine ⟨?_,?_⟩
  all_goals
   refine tJ rZ ((pI hV hN hex h7 aex j2 (by omega) p2.2)) (by simp) (by simp) (fun x j3 x3=>?_) (fun n e hx=>by first|exact Q2.fail hx _|(simp;exact Q2.fail hx _)|(simp;exact fun s=>Q2.fail hx s));have Q3:=Q2.step x3;have p3:=aA.a1w hV.fin aex hV.pU.pred j2 x j3 p2.2 x3;refine dG.mk ?_
   simp;refine aI.mk cG (jS 17 e x) ?_
   simp;exact Q3.ok _ j3 _ _ rfl (.inr rfl) (by simp)
 |false=>
 have Q1:=Q1.yD (by rw [hs3];decide);refine bI (ds:=[.str [60]]) (d:= .d (.bool false)) aE (aW l j1 [60] p1.2 (by omega) hs3) (by simp) (by simp) ?_
 simp;have hc:=pI hV hN hex h7 aex;cases hs4:aJ l j1 [60,61] with
 |true=>
  have Q2:=Q1.ifp hs4;refine bI (ds:=[.str [60,61]]) (d:= .d (.bool true)) aE (aV l j1 [60,61] p1.2 (by omega) hs4) (by simp) (by simp) ?_
  have p2:j1+1≤j1+1∧j1+1<l.length:=⟨d8T _,aF hV.fin p1.2 hs4⟩;obtain ⟨j2,hj2⟩:∃j,j1+1=j:=⟨_,rfl⟩;rw [hj2] at Q2 p2 ⊢;simp;refine kY 2 [1] (.op 0 (.call [3,4,5] .none) (.call [0,3,4,5] .none)) (gS (bX bA bF rdP l ex j2)) (by kernel_rfl) (by kernel_rfl) ?_
  simp;refine ⟨?_,?_⟩
  all_goals
   refine tJ rZ ((pI hV hN hex h7 aex j2 (by omega) p2.2)) (by simp) (by simp) (fun x j3 x3=>?_) (fun n e hx=>by first|exact Q2.fail hx _|(simp;exact Q2.fail hx _)|(simp;exact fun s=>Q2.fail hx s));have Q3:=Q2.step x3;have p3:=aA.a1w hV.fin aex hV.pU.pred j2 x j3 p2.2 x3;refine dG.mk ?_
   simp;refine aI.mk cG (jS 18 e x) ?_
   simp;exact Q3.ok _ j3 _ _ rfl (.inr rfl) (by simp)
 |false=>
 have Q1:=Q1.yD (by rw [hs4];decide);refine bI (ds:=[.str [60,61]]) (d:= .d (.bool false)) aE (aW l j1 [60,61] p1.2 (by omega) hs4) (by simp) (by simp) ?_
 simp;cases hs5:aJ l j1 [62] with
 |true=>
  have Q2:=Q1.ifp hs5;refine bI (ds:=[.str [62]]) (d:= .d (.bool true)) aE (aV l j1 [62] p1.2 (by omega) hs5) (by simp) (by simp) ?_
  have p2:j1+1≤j1+1∧j1+1<l.length:=⟨d8T _,aF hV.fin p1.2 hs5⟩;obtain ⟨j2,hj2⟩:∃j,j1+1=j:=⟨_,rfl⟩;rw [hj2] at Q2 p2 ⊢;simp;refine kY 1 [0] (.op 2 (.call [3,4,5] .none) (.call [2,3,4,5] .none)) (gS (bX bA bF rdP l ex j2)) (by kernel_rfl) (by kernel_rfl) ?_
  simp;refine ⟨?_,?_⟩
  all_goals
   refine tJ rZ ((pI hV hN hex h7 aex j2 (by omega) p2.2)) (by simp) (by simp) (fun x j3 x3=>?_) (fun n e hx=>by first|exact Q2.fail hx _|(simp;exact Q2.fail hx _)|(simp;exact fun s=>Q2.fail hx s));have Q3:=Q2.step x3;have p3:=aA.a1w hV.fin aex hV.pU.pred j2 x j3 p2.2 x3;refine dG.mk ?_
   simp;refine aI.mk cG (jS 17 x e) ?_
   simp;exact Q3.ok _ j3 _ _ rfl (.inr rfl) (by simp)
 |false=>
 have Q1:=Q1.yD (by rw [hs5];decide);refine bI (ds:=[.str [62]]) (d:= .d (.bool false)) aE (aW l j1 [62] p1.2 (by omega) hs5) (by simp) (by simp) ?_
 simp;cases hs6:aJ l j1 [62,61] with
 |true=>
  have Q2:=Q1.ifp hs6;refine bI (ds:=[.str [62,61]]) (d:= .d (.bool true)) aE (aV l j1 [62,61] p1.2 (by omega) hs6) (by simp) (by simp) ?_
  have p2:j1+1≤j1+1∧j1+1<l.length:=⟨d8T _,aF hV.fin p1.2 hs6⟩;obtain ⟨j2,hj2⟩:∃j,j1+1=j:=⟨_,rfl⟩;rw [hj2] at Q2 p2 ⊢;simp;refine kY 1 [0] (.op 2 (.call [3,4,5] .none) (.call [2,3,4,5] .none)) (gS (bX bA bF rdP l ex j2)) (by kernel_rfl) (by kernel_rfl) ?_
  simp;refine ⟨?_,?_⟩
  all_goals
   refine tJ rZ ((pI hV hN hex h7 aex j2 (by omega) p2.2)) (by simp) (by simp) (fun x j3 x3=>?_) (fun n e hx=>by first|exact Q2.fail hx _|(simp;exact Q2.fail hx _)|(simp;exact fun s=>Q2.fail hx s));have Q3:=Q2.step x3;have p3:=aA.a1w hV.fin aex hV.pU.pred j2 x j3 p2.2 x3;refine dG.mk ?_
   simp;refine aI.mk cG (jS 18 x e) ?_
   simp;exact Q3.ok _ j3 _ _ rfl (.inr rfl) (by simp)
 |false=>
 have Q1:=Q1.yD (by rw [hs6];decide);refine bI (ds:=[.str [62,61]]) (d:= .d (.bool false)) aE (aW l j1 [62,61] p1.2 (by omega) hs6) (by simp) (by simp) ?_
 simp;exact Q1.ok _ j1 _ _ rfl (.inr rfl) (by simp)
theorem b3g (i:Nat)(hlow:low≤i+1)(hi:i<l.length):pS G 168 [] l i (mP bA bF rdP l ex i) rO:=by
 have hl:=hV.len;obtain ⟨j0,rfl⟩:∃j0,j0=i:=⟨_,rfl⟩;have p0:j0≤j0∧j0<l.length:=⟨d8T _,hi⟩;refine kM.dB Tryz.func168 rfl Tryz.ntmps168 rfl (by simp) ?_
 intro Q Q0;unfold mP at Q0;simp;cases hs:aJ l j0 [33] with
 |true=>
  have Q1:=Q0.ifp hs;refine bI (ds:=[.str [33]]) (d:= .d (.bool true)) aE (aV l j0 [33] p0.2 (by omega) hs) (by simp) (by simp) ?_
  have p1:j0+1≤j0+1∧j0+1<l.length:=⟨d8T _,aF hV.fin p0.2 hs⟩;obtain ⟨j1,hj1⟩:∃j,j0+1=j:=⟨_,rfl⟩;rw [hj1] at Q1 p1 ⊢;simp;refine cJ a4B ((h3 j1 (by omega) p1.2)) (by simp) (by simp) (fun e j2 x2=>?_) (fun n e hx=>by first|exact Q1.fail hx _|(simp;exact Q1.fail hx _)|(simp;exact fun s=>Q1.fail hx s));have Q2:=Q1.step x2;have p2:=aex 3 j1 e j2 p1.2 x2;simp;refine mB.mk cG (a3h 21 e) ?_
  simp;exact Q2.ok _ j2 _ _ rfl (.inr rfl) (by simp)
 |false=>
  have Q0:=Q0.yD (by rw [hs];decide);refine bI (ds:=[.str [33]]) (d:= .d (.bool false)) aE (aW l j0 [33] p0.2 (by omega) hs) (by simp) (by simp) ?_
  simp;refine cJ b0G (b1Y hV hN hex h7 aex j0 (by omega) p0.2) (by simp) (by simp) (fun t j h=>?_) (fun n e h=>by first|exact Q0.bad n e _ h|(simp;exact Q0.bad n e _ h)|(simp;exact fun s=>Q0.bad n e s h));simp;exact Q0.ok t j _ _ h (.inr rfl) (by simp)
theorem c3e (i:Nat)(hlow:low≤i+1)(hi:i<l.length):pS G 122 [] l i (a4q bA bF rdP l ex i) rO:=by
 refine kM.dB Tryz.func122 rfl Tryz.ntmps122 rfl (by simp) ?_
 intro Q Q0;unfold a4q pR at Q0;have hl:=hV.len;obtain ⟨j0,rfl⟩:∃j0,j0=i:=⟨_,rfl⟩;have p0:j0≤j0∧j0<l.length:=⟨d8T _,hi⟩;generalize hone:mP bA bF rdP l ex=one at *;have hcon:∀i,low≤i+1→i<l.length→pS G 168 [] l i (one i) rO:=by rw [← hone];exact b3g hV hN hex h3 h7 aex
 have aone:aA l 1 one:=by
  first
   |assumption
   |(rw [← hone]
     exact aA.a0L hV.fin aex hV.pU.pred)
 simp;refine cJ a4B ((hcon j0 (by omega) p0.2)) (by simp) (by simp) (fun e j1 x1=>?_) (fun n e hx=>by first|exact Q0.fail hx _|(simp;exact Q0.fail hx _)|(simp;exact fun s=>Q0.fail hx s));have Q1:=Q0.step x1;have p1:=aone j0 e j1 p0.2 x1;simp;refine SW.vY (ι:={ x:bW×Nat×Nat // j1≤x.2.1∧x.2.1<l.length∧l.length<x.2.2+x.2.1∧cN l [([38,38],19)] one x.2.2 x.1 x.2.1=cN l [([38,38],19)] one (l.length+2) e j1 }) (fun _=>[]) (fun x=>[(2,.cells [.d (.int .i64 0),.d (.str []),.d (.int .i64 0),.d .aN,.d .aN,.d .aN,.d .aN]),(3,.cells ((tK x.1.1).map .d)),(100000,rdO l x.1.2.1)]) (fun _=>[]) (fun x=>l.length-x.1.2.1) ⟨(e,j1,l.length+2),d8T _,p1.2,by simp only;omega,rfl⟩ (by simp) ?_
 rintro ⟨⟨e2,j2,g⟩,hb,hj2,hg,hp⟩;simp only at hb hj2 hg hp;obtain ⟨g,rfl⟩:∃k,g=k+1:=⟨g-1,by omega⟩;have p2:j1≤j2∧j2<l.length:=⟨hb,hj2⟩;simp;cases s1:aJ l j2 [38,38] with
 |true=>
  have hf:([([38,38],19)].find? fun p:Nm×Int=>aJ l j2 p.1)=some ([38,38],19):=by simp [s1]
  have hn:=aF hV.fin hj2 s1;refine bI (ds:=[.str [38,38]]) (d:= .d (.bool true)) aE (aV l j2 [38,38] p2.2 (by omega) s1) (by simp) (by simp) ?_
  simp;refine kY 2 [1] (.op 0 (.call [3,4,5] .none) (.call [0,3,4,5] .none)) (gS (one (j2+1))) (by kernel_rfl) (by kernel_rfl) ?_
  simp;refine ⟨?_,?_⟩
  all_goals
   refine tJ (i:=j2+1) (ds:=[]) a4B (hcon (j2+1) (by omega) hn) (by simp) (by simp) (fun x j3 x3=>?_) (fun n e hx=>?_)
   ·have p3:=aone (j2+1) x j3 hn x3;rw [sA hf x3] at hp;refine dG.mk ?_
    simp;refine aI.mk cG (jS 19 e2 x) ?_
    simp;exact bR.mk ⟨(bJ 19 [e2,x],j3,g),by simp only;omega,p3.2,by simp only;omega,hp⟩ (by simp) (by simp;omega)
   ·rw [qH hf hx] at hp;simp
    first|exact Q1.bad _ _ _ hp.symm|exact fun s=>Q1.bad _ _ s hp.symm
 |false=>
 refine bI (ds:=[.str [38,38]]) (d:= .d (.bool false)) aE (aW l j2 [38,38] p2.2 (by omega) s1) (by simp) (by simp) ?_
 have hf:([([38,38],19)].find? fun p:Nm×Int=>aJ l j2 p.1)=none:=by simp [s1]
 have Q2:=hp.symm.trans (wL hf);simp;exact Q1.ok _ j2 _ _ Q2 (.inr rfl) (by simp)
theorem b9S:aA l 1 (a4q bA bF rdP l ex):=aA.lvl hV.fin (aA.a0L hV.fin aex hV.pU.pred)
theorem c5Q (i:Nat)(hlow:low≤i+1)(hi:i<l.length):pS G 73 [] l i (xO bA bF rdP l ex i) rO:=by
 refine kM.dB Tryz.func73 rfl Tryz.ntmps73 rfl (by simp) ?_
 intro Q Q0;unfold xO pR at Q0;have aor:=b9S hV hN hex h3 h7 aex;have hl:=hV.len;obtain ⟨j0,rfl⟩:∃j0,j0=i:=⟨_,rfl⟩;have p0:j0≤j0∧j0<l.length:=⟨d8T _,hi⟩;generalize hone:a4q bA bF rdP l ex=one at *;have hcon:∀i,low≤i+1→i<l.length→pS G 122 [] l i (one i) rO:=by rw [← hone];exact c3e hV hN hex h3 h7 aex
 have aone:aA l 1 one:=by
  first
   |assumption
   |(rw [← hone]
     exact (fun _ _ _=>aor) hV.fin aex hV.pU.pred)
 simp;refine cJ b0H ((hcon j0 (by omega) p0.2)) (by simp) (by simp) (fun e j1 x1=>?_) (fun n e hx=>by first|exact Q0.fail hx _|(simp;exact Q0.fail hx _)|(simp;exact fun s=>Q0.fail hx s));have Q1:=Q0.step x1;have p1:=aone j0 e j1 p0.2 x1;simp;refine SW.vY (ι:={ x:bW×Nat×Nat // j1≤x.2.1∧x.2.1<l.length∧l.length<x.2.2+x.2.1∧cN l [([124,124],20)] one x.2.2 x.1 x.2.1=cN l [([124,124],20)] one (l.length+2) e j1 }) (fun _=>[]) (fun x=>[(2,.cells [.d (.int .i64 0),.d (.str []),.d (.int .i64 0),.d .aN,.d .aN,.d .aN,.d .aN]),(3,.cells ((tK x.1.1).map .d)),(100000,rdO l x.1.2.1)]) (fun _=>[]) (fun x=>l.length-x.1.2.1) ⟨(e,j1,l.length+2),d8T _,p1.2,by simp only;omega,rfl⟩ (by simp) ?_
 rintro ⟨⟨e2,j2,g⟩,hb,hj2,hg,hp⟩;simp only at hb hj2 hg hp;obtain ⟨g,rfl⟩:∃k,g=k+1:=⟨g-1,by omega⟩;have p2:j1≤j2∧j2<l.length:=⟨hb,hj2⟩;simp;cases s1:aJ l j2 [124,124] with
 |true=>
  have hf:([([124,124],20)].find? fun p:Nm×Int=>aJ l j2 p.1)=some ([124,124],20):=by simp [s1]
  have hn:=aF hV.fin hj2 s1;refine bI (ds:=[.str [124,124]]) (d:= .d (.bool true)) aE (aV l j2 [124,124] p2.2 (by omega) s1) (by simp) (by simp) ?_
  simp;refine kY 2 [1] (.op 0 (.call [3,4,5] .none) (.call [0,3,4,5] .none)) (gS (one (j2+1))) (by kernel_rfl) (by kernel_rfl) ?_
  simp;refine ⟨?_,?_⟩
  all_goals
   refine tJ (i:=j2+1) (ds:=[]) b0H (hcon (j2+1) (by omega) hn) (by simp) (by simp) (fun x j3 x3=>?_) (fun n e hx=>?_)
   ·have p3:=aone (j2+1) x j3 hn x3;rw [sA hf x3] at hp;refine dG.mk ?_
    simp;refine aI.mk cG (jS 20 e2 x) ?_
    simp;exact bR.mk ⟨(bJ 20 [e2,x],j3,g),by simp only;omega,p3.2,by simp only;omega,hp⟩ (by simp) (by simp;omega)
   ·rw [qH hf hx] at hp;simp
    first|exact Q1.bad _ _ _ hp.symm|exact fun s=>Q1.bad _ _ s hp.symm
 |false=>
 refine bI (ds:=[.str [124,124]]) (d:= .d (.bool false)) aE (aW l j2 [124,124] p2.2 (by omega) s1) (by simp) (by simp) ?_
 have hf:([([124,124],20)].find? fun p:Nm×Int=>aJ l j2 p.1)=none:=by simp [s1]
 have Q2:=hp.symm.trans (wL hf);simp;exact Q1.ok _ j2 _ _ Q2 (.inr rfl) (by simp)
end
end
end
end Go.Proofs.YtjpodcmhcenjjaaGreatDoor
section
namespace Go.VM
open Go Go.RowKit
section
variable {P:Program} {G:GT} {st:St}
theorem oX {all:Array Oper}{QQ:Exit→Act→World→Prop}{a a':Act}{w w':World}{o:Oper}{rest:List Oper}(hg:o.guard=none){v:Value}(hrun:(execOp a.eval o).run P w= .ok (.value v) w'∨((execOp a.eval o).run P w= .ok .skip w'∧v=Go.undef))(ha:a.put o.dst v=a')(h:wpList P all QQ rest a' w'):wpList P all QQ (o::rest) a w:=by
 have hw:∀y,Region.wanted o y=true:=fun y=>by unfold Region.wanted;rw [hg]
 unfold wpList;rw [if_pos (hw _)];left;unfold Oper.wp;rcases hrun with h1|⟨h1,rfl⟩
 ·rw [h1]
  show wpList P all QQ rest (a.put o.dst v) w'
  rw [ha];exact h
 ·rw [h1]
  show wpList P all QQ rest (a.put o.dst Go.undef) w'
  rw [ha];exact h
def d6H (P:Program)(G:GT)(t:TypeId)(x d s:Tmp)(j:Nat)(parts:Array (Nat×Operand))(Q:St→Prop)(st:St):Prop:=
 ∃(outB outA outS:Out) (k off:Nat),(s<st.tmps.length∧x<st.tmps.length∧d<st.tmps.length)∧a3Z P G t parts st=some outB∧a6i P (some d) t (finish outB.st (some x) outB.v outB.act)=some outA∧pJ P G t (.tmp d) (.tmp x) (finish outA.st (some d) outA.v outA.act)=some outS∧(finish outA.st (some d) outA.v outA.act).eval G (.tmp d)= .ptr k off∧outS.st.eval G (.tmp d)= .ptr k off∧(∃cs,getKey k (finish outA.st (some d) outA.v outA.act).H=some (.cells cs))∧
  (∀(o:Oper),o.op= .build t parts→∀base R μ a w,Rel P G base R μ st a w→∃cs:Array Value,(execOp a.eval o).run P w= .ok (.value (.agg cs)) w∧cs[j]? =some (a.eval (.tmp s))∧cs.size=P.cellsOf t)∧(getKey k outS.st.H).isSome=true∧Q { outS.st with own:=addAlias (.t s) (.c k (off+j)) outS.st.own }
theorem LW.d4P {all:Array Oper}{t:TypeId}{x d s:Tmp}{j:Nat}{parts:Array (Nat×Operand)}{y0 y1 y2:TypeId}{p0 p1 p2:String}{f0 f1 f2:Array Edge}{Q:Exit→St→Prop}(hne:x≠s∧x≠d∧d≠s)(hct:P.cellsOf t≠0)(h:d6H P G t x d s j parts (fun s'=>Q .normal s') st):
  LW P G all [⟨some x,.build t parts,y0,p0,f0,none⟩,⟨some d,.alloc t,y1,p1,f1,none⟩,⟨none,.store t (.tmp d) (.tmp x),y2,p2,f2,none⟩] st Q:=by
 unfold LW;intro base R μ a w hr QQ hk;obtain ⟨outB,outA,outS,k,off,k0,k1,kA,k2,k3,k4,⟨cs0,k5⟩,hraw,k6,k7⟩:=h;obtain ⟨cs,e0,e1,e2⟩:=hraw ⟨some x,.build t parts,y0,p0,f0,none⟩ rfl base R μ a w hr;obtain ⟨v,w0,R0,μ0,hrun,hr1,hv1,ha1,hs1⟩:=b2o (o:=⟨some x,.build t parts,y0,p0,f0,none⟩) rfl k1 base R μ a w hr;rw [e0] at hrun;have hv:v= .agg cs∧w0=w:=by
  rcases hrun with hrun|⟨hrun,_⟩
  ·cases hrun;exact ⟨rfl,rfl⟩
  ·cases hrun
 obtain ⟨rfl,rfl⟩:=hv;have hr2:=hr1.put (dst:=some x) hv1 ha1;generalize ha:a.put (some x) (.agg cs)=a0 at hr2;have hsa:s<a.tmps.size:=by rw [hr.size];exact k0.1
 have hxa:x<a.tmps.size:=by rw [hr.size];exact k0.2.1
 have hda:d<a.tmps.size:=by rw [hr.size];exact k0.2.2
 have hxv0:a0.eval (.tmp x)= .agg cs:=by rw [← ha];exact dR _ _ hxa
 have es0:a0.eval (.tmp s)=a.eval (.tmp s):=by rw [← ha];exact bU _ _ (Ne.symm hne.1)
 obtain ⟨vA,w1,R1,μ1,hrunA,hrA,hvA,haA,hsA⟩:=b2p (o:=⟨some d,.alloc t,y1,p1,f1,none⟩) rfl kA base R0 μ0 a0 w0 hr2;have hr2:=hrA.put (dst:=some d) hvA haA;generalize hb:a0.put (some d) vA=a1 at hr2;have hsa1:s<a1.tmps.size:=by rw [← hb,size_put, ← ha,size_put];exact hsa
 have es:a1.eval (.tmp s)=a.eval (.tmp s):=by rw [← hb,bU _ _ (Ne.symm hne.2.2)];exact es0
 have hxv:a1.eval (.tmp x)= .agg cs:=by rw [← hb,bU _ _ hne.2.1];exact hxv0
 obtain ⟨v2,w2,R2,μ2,hrun2,hr3,_,_,hs2⟩:=a2S (o:=⟨none,.store t (.tmp d) (.tmp x),y2,p2,f2,none⟩) rfl k2 base R1 μ1 a1 w1 hr2;obtain ⟨_,_,cur,T0,hh,hcz,_⟩:=hr2.gT k _ k5;have had:=hr2.dQ k3;have hcc:(Value.agg cs).cells=cs:=rfl;have k2':=k2;unfold pJ at k2;rw [k3] at k2;split at k2;rotate_left
 ·cases k2
 rename_i k' off' ys hk' hys;cases hk';rw [k5] at k2;simp only at k2;split at k2;rotate_left
 ·cases k2
 rename_i hcd;have hvx:rQ ((finish outA.st (some d) outA.v outA.act).eval G (.tmp x))=some ys:=hys;obtain ⟨hvs,hvc⟩:=zW (hr2.eval (.tmp x)) hvx;rw [hxv,hcc] at hvs hvc;have hone:∀u∈cs.toList,u.oneCell'=true:=fun u hu=>by
  obtain ⟨i,hi⟩:=d8U hu;have hil:i<ys.length:=by rw [← hvs];simpa using (d8E.1 hi).1
  obtain ⟨_,_,h2⟩:=hvc i ys[i] (by simp [hil]);have:cs.getD i undef=u:=by
   have:cs[i]? =some u:=by simpa using hi
   simp [d8F,this]
  rw [this] at h2;exact h2
 have hfit:off+cs.size≤cur.size:=by rw [hcz,hvs];omega
 have hst:=qU (P:=P) (a:=a1) (w:=w1) (o:=⟨none,.store t (.tmp d) (.tmp x),y2,p2,f2,none⟩) rfl had hh (by rw [hxv,hcc];exact e2) hct (by rw [hxv,hcc];exact hone) (by rw [hxv,hcc];exact hfit);rw [hxv,hcc] at hst;have hw2:w2=w1.setRow (μ1 k) (spl cur off cs.toList):=by
  rw [hst] at hrun2;rcases hrun2 with hrun2|⟨hrun2,_⟩
  ·cases hrun2
  ·cases hrun2;rfl
 have hμ:μ2 k=μ1 k:=by have h1:=hr3.dQ k4;rw [had] at h1;have h2:=(Addr.mk.inj (Option.some.inj (Value.pointer.inj h1))).1;exact h2.symm
 have hcell:∀u,w2.cell? ⟨μ2 k,off+j,none⟩=some u→u=a1.eval (.tmp s):=fun u hu=>by
  have hjl:j<cs.size:=(d8M.1 e1).1;rw [hμ,hw2,cell_of_row _ _ _ _ T0 (0,0) (setRow_heap w1 (μ1 k) cur _ T0 _ hh),a5t (by simpa using hfit),if_neg (by omega),if_pos (by simp;omega),Nat.add_sub_cancel_left] at hu;have:cs.toList[j]? =some (a.eval (.tmp s)):=by simpa using e1
  rw [this] at hu;cases hu;exact es.symm
 have hr4:=hr3.alias (t:=s) (k:=k) (off:=off+j) (Option.isSome_iff_exists.1 k6) hsa1 hcell;refine oX rfl (.inl e0) ha ?_
 refine oX rfl hrunA hb ?_
 refine oX (w':=w2) rfl (.inr ⟨by rw [hw2];exact hst,rfl⟩) rfl ?_
 unfold wpList;exact hk _ _ _ _ R2 μ2 k7 hr4 ((hs1.trans hsA).trans hs2)
end
end Go.VM
end
namespace Go.Proofs.YtjpodcmhcenjjaaGreatDoor
section
open Go Go.VM
variable {G:GT}
theorem c5R {R:Nat→Nat→Prop}{w:World}{v:Value}{es:List (List D)}(h:V R w v (.sl es)):∃ao n c,v= .slice ao n c:=by
 cases h with
 |emp ao cap=>exact ⟨_,_,_,rfl⟩
 |sl b o n cap size es f h1 h2 h3 h4 h5 h6 h7=>exact ⟨_,_,_,rfl⟩
theorem c3f {a:Act}{w:World}{o:Oper}(ho:o.op= .build 30 #[(0,.const (.int .i64 25)),(1,.tmp 44),(3,.tmp 46)]){s:ByteArray}{a1:Option Addr}{n1 c1:Nat}(h2:a.eval (.tmp 44)= .string s)(h1:a.eval (.tmp 46)= .slice a1 n1 c1):
  (execOp a.eval o).run Tryz.prog w= .ok (.value (.agg #[.int .i64 25,.string s,.int .i64 0,.slice a1 n1 c1,.slice none 0 0,.slice none 0 0,.slice none 0 0])) w:=by
 have hz:(Tryz.prog.info? 30).bind (·.zero)=some (.agg #[.int .i64 0,.string ⟨#[]⟩,.int .i64 0,.slice none 0 0,.slice none 0 0,.slice none 0 0,.slice none 0 0]):=by kernel_rfl
 obtain ⟨i,hi,hz⟩:=d8R.1 hz;simp [execOp,ho,Instr.build,zeroValue,typeInfo,hi,hz];rw [h1,h2]
 rfl
section
variable {α:Type} {Q:Exit→St→Prop} {l:List Tok} {i:Nat} {enc:α→DV} {e:TypeId} {r:mH α}
theorem d7I {f:FuncId}{ds:List D}{av:List DV}{st:St}{ls:List (Option VM.Loc)}{dst:Option Tmp}{KK:St→Prop}(he:VM.Enters Tryz.prog f)(hc:RdO G f ds l i e r enc)(hw:WkT av (.ptr 100000 0::ds.map .d))(hH:getKey 100000 st.H=some (rdO l i))(hok:∀a j,r= .ok a j→KK (bD K1 dst st st.own (enc a) (rH l j) [(e,[.t 0])]))(hbad:∀n e,r= .bad n e→Q (.panic (wI (mR n e))) (yS st))(hk:∀a,aX K1 (enc a)=true∧bE K1 (enc a)=enc a:=by intro a;exact ⟨rfl,rfl⟩):tM Tryz.prog G f av ls dst st KK Q (gS r):=by
 rw [← b7g (l:=l) (enc:=enc) (Y:=fun _=>[]) (own:=[(e,[.t 0])]) r];refine tM.mk he hc K1 (fun d H1 own1 hx=>?_) (fun v hx=>?_) ?_ ?_ rfl rfl (fun d H1 own1 hx=>?_) (fun v hx=>?_)
 ·cases r with
  |bad n e=>cases hx
  |ok a j=>cases hx;simp [aQ,aX,aT,aS,gJ,bC,getKey,(hk a).1]
 ·simp [aQ,aX,aT,aS,gJ,bC,getKey]
 ·simpa [aU,bE,rk,jU] using hw
 ·simp only [cS,rdO,List.append_nil,List.map_cons,List.map_nil,rk,if_true,dC,aU,bE,WkH,and_true];exact ⟨_,hH,by simp [WkO]⟩
 ·cases r with
  |bad n e=>cases hx
  |ok a j=>cases hx;exact hok a j rfl
 ·cases r with
  |bad n e=>cases hx;exact hbad n e rfl
  |ok a j=>cases hx
end
section
variable {rdP:List Tok→Nat→Nat→mH Pr} {l:List Tok} (hV:mO G rdP l) (hN:∀i, -9223372036854775807≤(aK l i).n∧(aK l i).n≤9223372036854775807)
include hV hN
section
variable {ex:Nat→aR bW} {low:Nat} (hex:∀i,low≤i→i<l.length→pS G 34 [] l i (ex 0 i) rO) (h3:∀i,low≤i→i<l.length→pS G 168 [] l i (ex 3 i) rO) (h7:∀i,low≤i→i<l.length→pS G 247 [] l i (ex 7 i) rO) (aex:∀k,aA l 1 (ex k))
include hex h3 h7 aex
omit hN hex h3 h7 in
theorem c3g (i:Nat)(ks:List bW)(j:Nat)(hi:i<l.length)(h:eN l ex i= .ok ks j):ks.length≤j:=by unfold eN at h;obtain ⟨_,k1,h1,h⟩:=bZ h;obtain ⟨es,k2,h2,h⟩:=bZ h;obtain ⟨_,k3,h3,h⟩:=bZ h;have a1:=aA.exp hV.fin _ _ i _ k1 hi h1;have a2:=qG hV (one:=b7s ex) (fun a p=>a.length≤p) (fun a p b q hp ha hab=>⟨b0r hV aex a p b q hp ha hab,(a6F hV aex a p b q hp hab).2⟩) (fun a p h=>by omega) _ _ _ _ _ a1.2 (by simp) h2;have a3:=aA.exp hV.fin _ _ k2 _ k3 a2.2 h3;cases h;omega
theorem b9T (i:Nat)(hlow:low≤i+1)(hi:i<l.length):pS G 34 [] l i (sH bA bF rdP l ex i) rO:=by
 have hl:=hV.len;obtain ⟨j0,rfl⟩:∃j0,j0=i:=⟨_,rfl⟩;have p0:j0≤j0∧j0<l.length:=⟨d8T _,hi⟩;refine kM.a3I Tryz.func34 rfl Tryz.ntmps34 rfl (by simp) ?_
 intro Q Q0;unfold sH at Q0;refine SW.pL (SW.xk ?_);simp;refine SW.pL (SW.d4t ?_);refine SW.pL (SW.xk ?_);simp;cases s1:aJ l j0 [108,101,116] with
 |true=>
  have Q1:=Q0.ifp s1;refine bI (ds:=[.str [108,101,116]]) (d:= .d (.bool true)) aE (aV l j0 [108,101,116] p0.2 (by omega) s1) (by simp) (by simp) ?_
  have p1:j0+1≤j0+1∧j0+1<l.length:=⟨d8T _,aF hV.fin p0.2 s1⟩;obtain ⟨j1,hj1⟩:∃j,j0+1=j:=⟨_,rfl⟩;rw [hj1] at Q1 p1 ⊢;simp;refine SW.a3N rfl ?_
  refine SW.xk ?_
  simp;refine cJ b9L (c2U hV hex aex j1 (by omega) p1.2) (by simp) (by simp) (fun t j h=>?_) (fun n e h=>by first|exact Q1.bad n e _ h|(simp;exact Q1.bad n e _ h)|(simp;exact fun s=>Q1.bad n e s h));simp;exact Q1.ok t j _ _ h (.inr rfl) (by simp)
 |false=>
 have Q0:=Q0.yD (by rw [s1];decide);refine bI (ds:=[.str [108,101,116]]) (d:= .d (.bool false)) aE (aW l j0 [108,101,116] p0.2 (by omega) s1) (by simp) (by simp) ?_
 simp;refine SW.a7I rfl ?_
 refine SW.pL (SW.xk ?_);simp;cases s2:aJ l j0 [105,102] with
 |true=>
  have Q1:=Q0.ifp s2;refine bI (ds:=[.str [105,102]]) (d:= .d (.bool true)) aE (aV l j0 [105,102] p0.2 (by omega) s2) (by simp) (by simp) ?_
  have p1:j0+1≤j0+1∧j0+1<l.length:=⟨d8T _,aF hV.fin p0.2 s2⟩;obtain ⟨j1,hj1⟩:∃j,j0+1=j:=⟨_,rfl⟩;rw [hj1] at Q1 p1 ⊢;simp;refine SW.a3N rfl ?_
  refine SW.xk ?_
  simp;refine cJ cC ((hex j1 (by omega) p1.2)) (by simp) (by simp) (fun a j2 x2=>?_) (fun n e hx=>by first|exact Q1.fail hx _|(simp;exact Q1.fail hx _)|(simp;exact fun s=>Q1.fail hx s));have Q2:=Q1.step x2;have p2:=aex 0 j1 a j2 p1.2 x2;simp;refine cJ (ds:=[.sl (strs [[116,104,101,110]])]) aG (aH l [[116,104,101,110]] j2 p2.2 (by omega) hV.fin (by simp)) (by simp [strs]) (by simp) (fun u3 j3 x3=>?_) (fun n e hx=>by first|exact Q2.fail hx _|(simp;exact Q2.fail hx _)|(simp;exact fun s=>Q2.fail hx s));have Q3:=Q2.step x3;have p3:=aA.exp hV.fin _ _ j2 u3 j3 p2.2 x3;simp;refine cJ cC ((hex j3 (by omega) p3.2)) (by simp) (by simp) (fun b j4 x4=>?_) (fun n e hx=>by first|exact Q3.fail hx _|(simp;exact Q3.fail hx _)|(simp;exact fun s=>Q3.fail hx s));have Q4:=Q3.step x4;have p4:=aex 0 j3 b j4 p3.2 x4;simp;refine cJ (ds:=[.sl (strs [[101,108,115,101]])]) aG (aH l [[101,108,115,101]] j4 p4.2 (by omega) hV.fin (by simp)) (by simp [strs]) (by simp) (fun u5 j5 x5=>?_) (fun n e hx=>by first|exact Q4.fail hx _|(simp;exact Q4.fail hx _)|(simp;exact fun s=>Q4.fail hx s));have Q5:=Q4.step x5;have p5:=aA.exp hV.fin _ _ j4 u5 j5 p4.2 x5;simp;refine kY 3 [2] (.op 0 (.op 1 (.call [4,5,6] .none) (.call [1,4,5,6] .none)) (.op 1 (.op 0 (.call [4,5,6] .none) (.call [0,4,5,6] .none)) (.call [0,1,4,5,6] .none))) (gS (ex 0 j5)) (by kernel_rfl) (by kernel_rfl) ?_
  simp
  repeat' apply And.intro
  all_goals
   refine tJ cC ((hex j5 (by omega) p5.2)) (by simp) (by simp) (fun c j6 x6=>?_) (fun n e hx=>by first|exact Q5.fail hx _|(simp;exact Q5.fail hx _)|(simp;exact fun s=>Q5.fail hx s));have Q6:=Q5.step x6;have p6:=aex 0 j5 c j6 p5.2 x6;refine dG.mk ?_
   simp;refine aI.mk cG (c2S 8 a b c) ?_
   simp;exact Q6.ok _ j6 _ _ rfl (.inr rfl) (by simp)
 |false=>
 have Q0:=Q0.yD (by rw [s2];decide);refine bI (ds:=[.str [105,102]]) (d:= .d (.bool false)) aE (aW l j0 [105,102] p0.2 (by omega) s2) (by simp) (by simp) ?_
 simp;refine SW.a7I rfl ?_
 refine SW.pL (SW.xk ?_);simp;cases s3:aJ l j0 [99,97,115,101] with
 |true=>
  have Q1:=Q0.ifp s3;refine bI (ds:=[.str [99,97,115,101]]) (d:= .d (.bool true)) aE (aV l j0 [99,97,115,101] p0.2 (by omega) s3) (by simp) (by simp) ?_
  have p1:j0+1≤j0+1∧j0+1<l.length:=⟨d8T _,aF hV.fin p0.2 s3⟩;obtain ⟨j1,hj1⟩:∃j,j0+1=j:=⟨_,rfl⟩;rw [hj1] at Q1 p1 ⊢;simp;refine SW.a3N rfl ?_
  refine SW.xk ?_
  simp;refine cJ b4T (b7y hV hex aex j1 (by omega) p1.2) (by simp) (by simp) (fun t j h=>?_) (fun n e h=>by first|exact Q1.bad n e _ h|(simp;exact Q1.bad n e _ h)|(simp;exact fun s=>Q1.bad n e s h));simp;exact Q1.ok t j _ _ h (.inr rfl) (by simp)
 |false=>
 have Q0:=Q0.yD (by rw [s3];decide);refine bI (ds:=[.str [99,97,115,101]]) (d:= .d (.bool false)) aE (aW l j0 [99,97,115,101] p0.2 (by omega) s3) (by simp) (by simp) ?_
 simp;refine SW.a7I rfl ?_
 refine SW.pL (SW.xk ?_);simp;cases s4:aJ l j0 [102,117,110] with
 |true=>
  have Q1:=Q0.ifp s4;refine bI (ds:=[.str [102,117,110]]) (d:= .d (.bool true)) aE (aV l j0 [102,117,110] p0.2 (by omega) s4) (by simp) (by simp) ?_
  have p1:j0+1≤j0+1∧j0+1<l.length:=⟨d8T _,aF hV.fin p0.2 s4⟩;obtain ⟨j1,hj1⟩:∃j,j0+1=j:=⟨_,rfl⟩;rw [hj1] at Q1 p1 ⊢;simp;refine SW.a3N rfl ?_
  refine SW.xk ?_
  simp;refine cJ b1U (b4V hV hex aex j1 (by omega) p1.2) (by simp) (by simp) (fun t j h=>?_) (fun n e h=>by first|exact Q1.bad n e _ h|(simp;exact Q1.bad n e _ h)|(simp;exact fun s=>Q1.bad n e s h));simp;exact Q1.ok t j _ _ h (.inr rfl) (by simp)
 |false=>
 have Q0:=Q0.yD (by rw [s4];decide);refine bI (ds:=[.str [102,117,110]]) (d:= .d (.bool false)) aE (aW l j0 [102,117,110] p0.2 (by omega) s4) (by simp) (by simp) ?_
 simp;refine SW.a7I rfl ?_
 refine SW.pL (SW.xk ?_);simp;cases s5:aJ l j0 [117,115,101] with
 |true=>
  have Q1:=Q0.ifp s5;refine bI (ds:=[.str [117,115,101]]) (d:= .d (.bool true)) aE (aV l j0 [117,115,101] p0.2 (by omega) s5) (by simp) (by simp) ?_
  have p1:j0+1≤j0+1∧j0+1<l.length:=⟨d8T _,aF hV.fin p0.2 s5⟩;obtain ⟨j1,hj1⟩:∃j,j0+1=j:=⟨_,rfl⟩;rw [hj1] at Q1 p1 ⊢;simp;refine SW.a3N rfl ?_
  refine SW.pL (SW.lw ?_);refine LW.at 1 1 (gS (bN bA l j1)) rfl ⟨_,rfl⟩ ?_
  simp;refine tJ (ds:=[]) cX (dO hV.kw l j1 p1.2 (by omega)) (by simp) (by simp) (fun nm j2 x2=>?_) (fun n e hx=>Q1.fail hx _);have Q2:=Q1.step x2;have p2:=aA.word hV.fin j1 nm j2 p1.2 x2;simp;refine LW.at 1 3 (gS (eN l ex j2)) rfl ⟨_,rfl⟩ ?_
  simp;refine d7I zA (b0s hV hex aex j2 (by omega) p2.2) (by simp) (by simp) (fun ks j3 x3=>?_) (fun n e hx=>Q2.fail hx _);have Q3:=Q2.step x3;have p3:=aA.eP hV.fin aex j2 ks j3 p2.2 x3;have hks:=c3g hV aex j2 ks j3 p2.2 x3;simp [bD,aU,bE,rk,cS,dC,bQ,gU,gE,eJ];refine LW.d4P (s:=46) (j:=3) (by decide) (by decide+kernel) ?_
  refine ⟨_,_,_,_,_,by simp,rfl,rfl,rfl,rfl,rfl,⟨_,rfl⟩,?_,rfl,?_⟩
  ·intro o ho base R μ a w hr;obtain ⟨ao,n1,c1,hs1⟩:=c5R (hr.jF (x:= .tmp 46) rfl);have hs2:=(hr.jF (x:= .tmp 44) rfl).mJ;exact ⟨_,c3f ho hs2 hs1,by rw [hs1];rfl,by kernel_rfl⟩
  refine SW.xk ?_
  simp [addAlias];refine cJ (ds:=[.sl (strs [[105,110]])]) aG (aH l [[105,110]] j3 p3.2 (by omega) hV.fin (by simp)) (by simp [strs]) (by simp) (fun u4 j4 x4=>?_) (fun n e hx=>by first|exact Q3.fail hx _|(simp;exact Q3.fail hx _)|(simp;exact fun s=>Q3.fail hx s));have Q4:=Q3.step x4;have p4:=aA.exp hV.fin _ _ j3 u4 j4 p3.2 x4;simp;refine kG [0,2] 3 [] (.op 1 (.call [4,5,6,7] .none) (.call [1,4,5,6,7] .none)) (gS (ex 0 j4)) (by kernel_rfl) (by kernel_rfl) ?_
  simp;refine ⟨?_,?_⟩
  all_goals
   refine tJ cC ((hex j4 (by omega) p4.2)) (by simp) (by simp) (fun b j5 x5=>?_) (fun n e hx=>by first|exact Q4.fail hx _|(simp;exact Q4.fail hx _)|(simp;exact fun s=>Q4.fail hx s));have Q5:=Q4.step x5;have p5:=aex 0 j4 b j5 p4.2 x5;refine dG.mk ?_
   simp;refine eU ⟨fun x _=>by rw [dW];rfl,by omega⟩ ?_
   simp;exact Q5.ok _ j5 _ _ rfl (.inr rfl) (by simp [dW])
 |false=>
 have Q0:=Q0.yD (by rw [s5];decide);refine bI (ds:=[.str [117,115,101]]) (d:= .d (.bool false)) aE (aW l j0 [117,115,101] p0.2 (by omega) s5) (by simp) (by simp) ?_
 simp;refine SW.a7I rfl ?_
 refine SW.xk ?_
 simp;refine SW.xk ?_
 simp;refine cJ c3d (c5Q hV hN hex h3 h7 aex j0 (by omega) p0.2) (by simp) (by simp) (fun t j h=>?_) (fun n e h=>by first|exact Q0.bad n e _ h|(simp;exact Q0.bad n e _ h)|(simp;exact fun s=>Q0.bad n e s h));simp;exact Q0.ok t j _ _ h (.inr rfl) (by simp)
end
theorem b3h:∀n,(∀i,i<l.length→l.length<n+i→pS G 34 [] l i (jG bA bF rdP l n 0 i) rO)∧(∀i,i<l.length→l.length<n+i→pS G 168 [] l i (jG bA bF rdP l n 3 i) rO)∧(∀i,i<l.length→l.length<n+i→pS G 247 [] l i (jG bA bF rdP l n 7 i) rO)
 |0=>⟨fun i hi h=>by omega,fun i hi h=>by omega,fun i hi h=>by omega⟩
 |n+1=>by
  obtain ⟨k0,k3,k7⟩:=b3h n;have aex:=aA.exF (kw:=bA) (andP:=bF) hV.fin hV.pU.pred n;refine ⟨fun i hi h=>?_,fun i hi h=>?_,fun i hi h=>?_⟩
  ·exact b9T hV hN (ex:=jG bA bF rdP l n) (low:=i+1) (fun i' h1 h2=>k0 i' h2 (by omega)) (fun i' h1 h2=>k3 i' h2 (by omega)) (fun i' h1 h2=>k7 i' h2 (by omega)) aex i (d8T _) hi
  ·exact b3g hV hN (ex:=jG bA bF rdP l n) (low:=i+1) (fun i' h1 h2=>k0 i' h2 (by omega)) (fun i' h1 h2=>k3 i' h2 (by omega)) (fun i' h1 h2=>k7 i' h2 (by omega)) aex i (d8T _) hi
  ·exact a7U hV hN (ex:=jG bA bF rdP l n) (low:=i+1) (fun i' h1 h2=>k0 i' h2 (by omega)) (fun i' h1 h2=>k7 i' h2 (by omega)) aex i (d8T _) hi
theorem zC (i:Nat)(hi:i<l.length):pS G 34 [] l i (a2b bA bF rdP l i) rO:=(b3h hV hN _).1 i hi (by omega)
omit hN in
theorem a4F:aA l 1 (a2b bA bF rdP l):=aA.expr hV.fin hV.pU.pred
end
end
section
open Go Go.VM
variable {G:GT}
theorem a2A:VM.Enters Tryz.prog 107:=VM.Enters.mk Tryz.func107 rfl
theorem a0X:VM.Enters Tryz.prog 58:=VM.Enters.mk Tryz.func58 rfl
abbrev a8j (d:kR):List D:= .str d.name:: .sl (strs d.params)::(tK d.body++ .int .i64 d.mode:: .bool d.typed::b4S d.sig)
theorem a5P (d:kR):b4g d=a8j d:=by
 rw [b4g,dW,d0z]
 rfl
abbrev a8k:kR:=⟨[],[],a1u,0,false,a7Y⟩
abbrev d7J:Option kR→DV:=fun o=> .cT [.agg (a8j (o.getD a8k)),.bool o.isSome]
section
variable {rdP:List Tok→Nat→Nat→mH Pr} {l:List Tok} (hV:mO G rdP l) (hN:∀i, -9223372036854775807≤(aK l i).n∧(aK l i).n≤9223372036854775807)
include hV
theorem a4G (mode:Int)(i:Nat)(hi:i<l.length):pS G 107 [.int .i64 mode] l i (a0I bA l mode i) (fun d=> .d (.agg (a8j d))):=by
 have hl:=hV.len;obtain ⟨j0,rfl⟩:∃j0,j0=i:=⟨_,rfl⟩;have p0:j0≤j0∧j0<l.length:=⟨d8T _,hi⟩;refine kM.dB Tryz.func107 rfl Tryz.ntmps107 rfl (by simp) ?_
 intro Q Q0;unfold a0I at Q0;simp;refine cJ cX (dO hV.kw l j0 p0.2 (by omega)) (by simp) (by simp) (fun nm j1 x1=>?_) (fun n e hx=>by first|exact Q0.fail hx _|(simp;exact Q0.fail hx _)|(simp;exact fun s=>Q0.fail hx s));have Q1:=Q0.step x1;have p1:=aA.word hV.fin j0 nm j1 p0.2 x1;simp;have hb:=jB (G:=G) l j1 [40] p1.2 (by omega);refine bI (ds:=[.str [40]]) gA hb (by simp) (by simp) ?_
 cases hs:aJ l j1 [40] with
 |false=>have Q2:=Q1.step (a:=[]) (j:=j1) (by simp [hs]);simp;exact Q2.ok _ j1 _ _ rfl (.inr rfl) (by simp [a1u,a7Y,pC,mD])
 |true=>
  simp;have ht1:=cO (G:=G) l j1 (j1+1) 1 (by omega) (by omega) (by intro e;subst e;simp at hi) (by omega);refine bI (ds:=[.int .i64 1]) bS ht1 (by simp) (by simp) ?_
  simp;refine mB.mk jV (kV (aK l (j1+1)) [41]) ?_
  cases hf:dN (aK l (j1+1)) [41] with
  |true=>
   have Q2:=Q1.step (a:=[]) (j:=j1+2) (by simp [hs,hf]);have hw2:IntKind.i64.wrap ((j1:Int)+2)=((j1+2:Nat):Int):=by rw [wrap64 (by omega)];omega
   simp [hw2];exact Q2.ok _ (j1+2) _ _ rfl (.inr rfl) (by simp [a1u,a7Y,pC,mD])
  |false=>
   have e1:(fun i=>if aJ l i [40] then (if dN (aK l (i+1)) [41] then .ok [] (i+2) else cV bA l i) else .ok [] i:aR (List Nm)) j1=cV bA l j1:=by simp [hs,hf]
   simp;refine cJ a0R (a2q hV j1 p1.2) (by simp) (by simp) (fun ns j3 x3=>?_) (fun n e hx=>by first|exact Q1.fail (e1.trans hx) _|(simp;exact Q1.fail (e1.trans hx) _)|(simp;exact fun s=>Q1.fail (e1.trans hx) s));have Q3:=Q1.step (e1.trans x3);have p3:=aA.words hV.fin j1 ns j3 p1.2 x3;simp;exact Q3.ok _ j3 _ _ rfl (.inr rfl) (by simp [a1u,a7Y,pC,mD])
theorem a6H:aA l 1 (a1o bA bF rdP l):=aA.sig hV.fin hV.pU
include hN
theorem a3i (i:Nat)(hi:i<l.length):pS G 58 [] l i (xP bA bF rdP l i) d7J:=by
 have hl:=hV.len;obtain ⟨j0,rfl⟩:∃j0,j0=i:=⟨_,rfl⟩;have p0:j0≤j0∧j0<l.length:=⟨d8T _,hi⟩;refine kM.dB Tryz.func58 rfl Tryz.ntmps58 rfl (by simp) ?_
 intro Q Q0;unfold xP at Q0;simp;cases s1:aJ l j0 [100,101,102] with
 |true=>
  have Q1:=Q0.ifp s1;refine bI (ds:=[.str [100,101,102]]) (d:= .d (.bool true)) aE (aV l j0 [100,101,102] p0.2 (by omega) s1) (by simp) (by simp) ?_
  have p1:j0+1≤j0+1∧j0+1<l.length:=⟨d8T _,aF hV.fin p0.2 s1⟩;obtain ⟨j1,hj1⟩:∃j,j0+1=j:=⟨_,rfl⟩;rw [hj1] at Q1 p1 ⊢;simp;refine cJ a2A ((a4G hV 0 j1 p1.2)) (by simp) (by simp) (fun d j2 x2=>?_) (fun n e hx=>by first|exact Q1.fail hx _|(simp;exact Q1.fail hx _)|(simp;exact fun s=>Q1.fail hx s));have Q2:=Q1.step x2;have p2:=(aA.head hV.fin 0) j1 d j2 p1.2 x2;simp;cases s2:aJ l j2 [58] with
  |false=>
   have Q3:=Q2.step (jD s2);rw [if_neg (by decide)] at Q3;refine bI (ds:=[.str [58]]) (d:= .d (.bool false)) aE (aW l j2 [58] p2.2 (by omega) s2) (by simp) (by simp) ?_
   simp;have Q2:=Q3.step (gI _ _);unfold a0J at Q2;refine cJ (ds:=[.sl (strs [[61]])]) aG (aH l [[61]] j2 p2.2 (by omega) hV.fin (by simp)) (by simp [strs]) (by simp) (fun u8 j8 x8=>?_) (fun n e hx=>by first|exact Q2.fail hx _|(simp;exact Q2.fail hx _)|(simp;exact fun s=>Q2.fail hx s));have Q8:=Q2.step x8;have p8:=aA.exp hV.fin _ _ j2 u8 j8 p2.2 x8;simp;refine cJ cC ((zC hV hN j8 p8.2)) (by simp) (by simp) (fun e j9 x9=>?_) (fun n e hx=>by first|exact Q8.fail hx _|(simp;exact Q8.fail hx _)|(simp;exact fun s=>Q8.fail hx s));have Q9:=Q8.step x9;have p9:=a4F hV j8 e j9 p8.2 x9;simp;exact Q9.ok _ j9 _ _ rfl (.inr rfl) (by simp)
  |true=>
   have Q3:=Q2.step (jC s2);rw [if_pos rfl] at Q3;refine bI (ds:=[.str [58]]) (d:= .d (.bool true)) aE (aV l j2 [58] p2.2 (by omega) s2) (by simp) (by simp) ?_
   have p3:j2+1≤j2+1∧j2+1<l.length:=⟨d8T _,aF hV.fin p2.2 s2⟩;obtain ⟨j3,hj3⟩:∃j,j2+1=j:=⟨_,rfl⟩;rw [hj3] at Q3 p3 ⊢;simp;have Q3:=Q3.assoc;refine cJ a4D ((a6G hV j3 p3.2)) (by simp) (by simp) (fun s j4 x4=>?_) (fun n e hx=>by first|exact Q3.fail hx _|(simp;exact Q3.fail hx _)|(simp;exact fun s=>Q3.fail hx s));have Q4:=Q3.step x4;have p4:=a6H hV j3 s j4 p3.2 x4;simp;have Q4:=Q4.step (gI _ _);unfold a0J at Q4;refine cJ (ds:=[.sl (strs [[61]])]) aG (aH l [[61]] j4 p4.2 (by omega) hV.fin (by simp)) (by simp [strs]) (by simp) (fun u8 j8 x8=>?_) (fun n e hx=>by first|exact Q4.fail hx _|(simp;exact Q4.fail hx _)|(simp;exact fun s=>Q4.fail hx s));have Q8:=Q4.step x8;have p8:=aA.exp hV.fin _ _ j4 u8 j8 p4.2 x8;simp;refine cJ cC ((zC hV hN j8 p8.2)) (by simp) (by simp) (fun e j9 x9=>?_) (fun n e hx=>by first|exact Q8.fail hx _|(simp;exact Q8.fail hx _)|(simp;exact fun s=>Q8.fail hx s));have Q9:=Q8.step x9;have p9:=a4F hV j8 e j9 p8.2 x9;simp;exact Q9.ok _ j9 _ _ rfl (.inr rfl) (by simp)
 |false=>
 have Q0:=Q0.yD (by rw [s1];decide);refine bI (ds:=[.str [100,101,102]]) (d:= .d (.bool false)) aE (aW l j0 [100,101,102] p0.2 (by omega) s1) (by simp) (by simp) ?_
 simp;cases s2:aJ l j0 [97,115,115,117,109,101] with
 |true=>
  have Q1:=Q0.ifp s2;refine bI (ds:=[.str [97,115,115,117,109,101]]) (d:= .d (.bool true)) aE (aV l j0 [97,115,115,117,109,101] p0.2 (by omega) s2) (by simp) (by simp) ?_
  have p1:j0+1≤j0+1∧j0+1<l.length:=⟨d8T _,aF hV.fin p0.2 s2⟩;obtain ⟨j1,hj1⟩:∃j,j0+1=j:=⟨_,rfl⟩;rw [hj1] at Q1 p1 ⊢;simp;refine cJ a2A ((a4G hV 1 j1 p1.2)) (by simp) (by simp) (fun d j2 x2=>?_) (fun n e hx=>by first|exact Q1.fail hx _|(simp;exact Q1.fail hx _)|(simp;exact fun s=>Q1.fail hx s));have Q2:=Q1.step x2;have p2:=(aA.head hV.fin 1) j1 d j2 p1.2 x2;simp;refine cJ (ds:=[.sl (strs [[58]])]) aG (aH l [[58]] j2 p2.2 (by omega) hV.fin (by simp)) (by simp [strs]) (by simp) (fun u3 j3 x3=>?_) (fun n e hx=>by first|exact Q2.fail hx _|(simp;exact Q2.fail hx _)|(simp;exact fun s=>Q2.fail hx s));have Q3:=Q2.step x3;have p3:=aA.exp hV.fin _ _ j2 u3 j3 p2.2 x3;simp;refine cJ a4D ((a6G hV j3 p3.2)) (by simp) (by simp) (fun s j4 x4=>?_) (fun n e hx=>by first|exact Q3.fail hx _|(simp;exact Q3.fail hx _)|(simp;exact fun s=>Q3.fail hx s));have Q4:=Q3.step x4;have p4:=a6H hV j3 s j4 p3.2 x4;simp;exact Q4.ok _ j4 _ _ rfl (.inr rfl) (by simp)
 |false=>
 have Q0:=Q0.yD (by rw [s2];decide);refine bI (ds:=[.str [97,115,115,117,109,101]]) (d:= .d (.bool false)) aE (aW l j0 [97,115,115,117,109,101] p0.2 (by omega) s2) (by simp) (by simp) ?_
 simp;cases s3:aJ l j0 [114,101,102,108,101,99,116] with
 |true=>
  have Q1:=Q0.ifp s3;refine bI (ds:=[.str [114,101,102,108,101,99,116]]) (d:= .d (.bool true)) aE (aV l j0 [114,101,102,108,101,99,116] p0.2 (by omega) s3) (by simp) (by simp) ?_
  have p1:j0+1≤j0+1∧j0+1<l.length:=⟨d8T _,aF hV.fin p0.2 s3⟩;obtain ⟨j1,hj1⟩:∃j,j0+1=j:=⟨_,rfl⟩;rw [hj1] at Q1 p1 ⊢;simp;refine cJ a2A ((a4G hV 2 j1 p1.2)) (by simp) (by simp) (fun d j2 x2=>?_) (fun n e hx=>by first|exact Q1.fail hx _|(simp;exact Q1.fail hx _)|(simp;exact fun s=>Q1.fail hx s));have Q2:=Q1.step x2;have p2:=(aA.head hV.fin 2) j1 d j2 p1.2 x2;simp;refine cJ (ds:=[.sl (strs [[58]])]) aG (aH l [[58]] j2 p2.2 (by omega) hV.fin (by simp)) (by simp [strs]) (by simp) (fun u3 j3 x3=>?_) (fun n e hx=>by first|exact Q2.fail hx _|(simp;exact Q2.fail hx _)|(simp;exact fun s=>Q2.fail hx s));have Q3:=Q2.step x3;have p3:=aA.exp hV.fin _ _ j2 u3 j3 p2.2 x3;simp;refine cJ a4D ((a6G hV j3 p3.2)) (by simp) (by simp) (fun s j4 x4=>?_) (fun n e hx=>by first|exact Q3.fail hx _|(simp;exact Q3.fail hx _)|(simp;exact fun s=>Q3.fail hx s));have Q4:=Q3.step x4;have p4:=a6H hV j3 s j4 p3.2 x4;simp;unfold a0J at Q4;refine cJ (ds:=[.sl (strs [[61]])]) aG (aH l [[61]] j4 p4.2 (by omega) hV.fin (by simp)) (by simp [strs]) (by simp) (fun u8 j8 x8=>?_) (fun n e hx=>by first|exact Q4.fail hx _|(simp;exact Q4.fail hx _)|(simp;exact fun s=>Q4.fail hx s));have Q8:=Q4.step x8;have p8:=aA.exp hV.fin _ _ j4 u8 j8 p4.2 x8;simp;refine cJ cC ((zC hV hN j8 p8.2)) (by simp) (by simp) (fun e j9 x9=>?_) (fun n e hx=>by first|exact Q8.fail hx _|(simp;exact Q8.fail hx _)|(simp;exact fun s=>Q8.fail hx s));have Q9:=Q8.step x9;have p9:=a4F hV j8 e j9 p8.2 x9;simp;exact Q9.ok _ j9 _ _ rfl (.inr rfl) (by simp)
 |false=>
 have Q0:=Q0.yD (by rw [s3];decide);refine bI (ds:=[.str [114,101,102,108,101,99,116]]) (d:= .d (.bool false)) aE (aW l j0 [114,101,102,108,101,99,116] p0.2 (by omega) s3) (by simp) (by simp) ?_
 simp;exact Q0.ok _ j0 _ _ rfl (.inr rfl) (by simp [a1u,a7Y,pC,mD])
end
end
end Go.Proofs.YtjpodcmhcenjjaaGreatDoor
section
namespace Go.VM
open Go Go.RowKit
section
variable {P:Program} {G:GT} {st:St} {base:cZ} {R:Nat→Nat→Prop} {μ:Nat→Nat} {a:Act} {w:World}
def a5Q (P:Program)(G:GT)(f:FuncId)(d8B:List DV)(ls:List (Option Loc))(dst:Option Tmp)(st:St)(K:St→Prop)(Q:Exit→St→Prop):Prop:=∃x0,tM P G f d8B ls dst st K Q x0
theorem a5Q.mk {f:FuncId}{d8B:List DV}{ls:List (Option Loc)}{dst:Option Tmp}{K:St→Prop}{Q:Exit→St→Prop}{x0:Bool}(h:tM P G f d8B ls dst st K Q x0):a5Q P G f d8B ls dst st K Q:=⟨x0,h⟩
def a2B (P:Program)(G:GT)(all:Array Oper)(o:Oper)(st:St)(K:St→Prop)(Q:Exit→St→Prop):Prop:=
 match eA o all st.tmps with
 |some true=>
  match gP G o st with
  |some (f,ds)=>(∃r own,(Enters P f∧CS P G f ds r own)∧K (finish st o.dst r (a1M own)))∨∃s',(Enters P f∧mC P G f (ds.map .d) (jH o) st o.dst s')∧K s'
  |none=>
   match dD G o st with
   |some (f,d8B)=>a5Q P G f d8B (jH o) o.dst st K Q
   |none=>
    match jO P G o st with
    |some out=>K (finish out.st o.dst out.v (a5a false all o out.v out.act))
    |none=>False
 |some false=>K (finish st o.dst (.cT []) .no)
 |none=>False
theorem b7B {all:Array Oper}{o:Oper}{K:St→Prop}{Q:Exit→St→Prop}(h:a2B P G all o st K Q)(hr:Rel P G base R μ st a w){KK:Act→World→Prop}{QQ:Exit→Act→World→Prop}(hk:∀s v w' R' μ',K s→Rel P G base R' μ' s (a.put o.dst v) w'→Step base R w R' w'→KK (a.put o.dst v) w')(hq:∀c s w' R' μ',Q (.panic c) s→Rel P G base R' μ' s a w'→Step base R w R' w'→QQ (.panic c) a w'):if Region.wanted o (yielded all a.tmps) then o.wp P a w KK QQ∨(o.asks P a w∧LetsOut QQ) else KK (a.put o.dst Go.undef) w:=by
 have go:kO P G false all o K st→if Region.wanted o (yielded all a.tmps) then o.wp P a w KK QQ∨(o.asks P a w∧LetsOut QQ) else KK (a.put o.dst Go.undef) w:=fun h1=>pQ h1 hr hk
 unfold a2B at h;split at h
 ·rename_i hw;split at h
  ·rename_i f ds hc;refine go ?_
   unfold kO;rw [hw,hc];rcases h with ⟨r,own,h1,h2⟩|⟨s',h1,h2⟩
   ·exact .inl ⟨r,own,h1,fun e=>Bool.noConfusion e,by simpa using h2⟩
   ·exact .inr ⟨by simp [pP],s',h1,h2⟩
  ·rename_i hc;split at h
   ·rename_i f d8B hH;obtain ⟨x0,h0⟩:=h;unfold tM at h0;obtain ⟨he,h1,h2⟩:=h0;cases x0 with
    |true=>
     obtain ⟨s',h3,h4⟩:=h1 rfl;refine go ?_
     unfold kO;rw [hw,hc,hH];simp only [pP,Bool.false_and,yJ,Bool.false_eq_true,if_false];exact ⟨s',⟨he,h3⟩,h4⟩
    |false=>obtain ⟨v,h3,h4⟩:=h2 rfl;rw [zY hr hw,if_pos rfl];exact .inl (a4u hH ⟨he,h3⟩ hr fun R' w' hs hb=>hq _ _ w' R' μ h4 (hr.a5y hs hb) hs)
   ·rename_i hH;split at h
    ·rename_i out hv;refine go ?_
     unfold kO;rw [hw,hc,hH,hv];exact h
    ·exact h.elim
 ·rename_i hw;refine go ?_
  unfold kO;rw [hw];exact h
 ·exact h.elim
inductive OT where
 |stop
 |none
 |op (i:Nat) (next more:OT)
def a5R (j:Nat):OT→Bool
 | .op i _ more=>i==j||a5R j more
 |_=>false
def okT (ops:Array Oper)(T:OT)(listed:Array Bool):Bool:=match T with
 | .stop=>Region.ready .any ops listed==[]
 |T=> !(Region.ready .any ops listed).isEmpty&&(Region.ready .any ops listed).all fun j=>a5R j T
def zD (ops:Array Oper):OT→Nat→Array Bool→Bool
 | .stop,_,_=>true
 | .none,_,_=>true
 | .op _ _ _,0,_=>false
 | .op i next more,n+1,listed=>okT ops next (listed.setIfInBounds i true)&&zD ops next n (listed.setIfInBounds i true)&&zD ops more (n+1) listed
def VT (P:Program)(G:GT)(ops:Array Oper)(Q:Exit→St→Prop):OT→St→Prop
 | .stop,st=>Q .normal st
 | .none,_=>True
 | .op i next more,st=>(match ops[i]? with
  |some o=>a2B P G ops o st (VT P G ops Q next) Q
  |none=>False)∧VT P G ops Q more st
theorem c5S {ops:Array Oper}{Q:Exit→St→Prop}{i n:Nat}{listed:Array Bool}:∀(T:OT),zD ops T (n+1) listed=true→a5R i T=true→VT P G ops Q T st→∃next,okT ops next (listed.setIfInBounds i true)=true∧zD ops next n (listed.setIfInBounds i true)=true∧∃o,ops[i]? =some o∧a2B P G ops o st (VT P G ops Q next) Q
 | .stop,_,h,_=>by simp [a5R] at h
 | .none,_,h,_=>by simp [a5R] at h
 | .op j next more,ht,ha,hv=>by
  simp only [zD,d8D] at ht;simp only [a5R,d8P,beq_iff_eq] at ha;simp only [VT] at hv;rcases ha with rfl|ha
  ·refine ⟨next,ht.1.1,ht.1.2,?_⟩;have:=hv.1;split at this
   ·rename_i o ho;exact ⟨o,ho,this⟩
   ·exact this.elim
  ·exact c5S more ht.2 ha hv.2
theorem d2F {ops:Array Oper}{Q:Exit→St→Prop}:∀(n:Nat) (T:OT) (listed:Array Bool) (st:St),okT ops T listed=true→zD ops T n listed=true→VT P G ops Q T st→∀(base:cZ) (R:Nat→Nat→Prop) (μ:Nat→Nat) (a:Act) (w:World),Rel P G base R μ st a w→
  ∀QQ:Exit→Act→World→Prop,(∀e s a' w' R' μ',Q e s→Rel P G base R' μ' s a' w'→Step base R w R' w'→QQ e a' w')→wpAny P .any ops QQ n listed a w
 |0,T,listed,st,ho,ht,hv,base,R,μ,a,w,hr,QQ,hk=>by
  cases T with
  |stop=>exact ⟨by simpa [okT] using ho,hk _ st a w R μ hv hr (.refl _ _ _)⟩
  |none=>simp only [okT,d8D,Bool.not_eq_true',List.isEmpty_eq_false_iff,d8G] at ho;obtain ⟨h1,h2⟩:=ho;obtain ⟨x,hx⟩:=List.exists_mem_of_ne_nil _ h1;have:=h2 x hx;simp [a5R] at this
  |op i next more=>simp [zD] at ht
 |n+1,T,listed,st,ho,ht,hv,base,R,μ,a,w,hr,QQ,hk=>by
  cases T with
  |stop=>
   have hrd:Region.ready .any ops listed=[]:=by simpa [okT] using ho
   refine ⟨fun _=>hk _ st a w R μ hv hr (.refl _ _ _),fun i hi=>?_⟩;rw [hrd] at hi;cases hi
  |none=>simp only [okT,d8D,Bool.not_eq_true',List.isEmpty_eq_false_iff,d8G] at ho;obtain ⟨h1,h2⟩:=ho;obtain ⟨x,hx⟩:=List.exists_mem_of_ne_nil _ h1;have:=h2 x hx;simp [a5R] at this
  |op i0 next0 more0=>simp only [okT,d8D,Bool.not_eq_true',List.isEmpty_eq_false_iff,d8G] at ho;refine ⟨fun h=>(ho.1 h).elim,fun i hi=>?_⟩;obtain ⟨next,q1,q2,o,q3,q4⟩:=c5S _ ht (ho.2 i hi) hv;unfold wpOp;rw [q3];exact b7B q4 hr (fun s v w' R' μ' p1 p2 p3=>d2F n next _ s q1 q2 p1 base R' μ' _ w' p2 QQ fun e s a' w2 R2 μ2 k1 k2 k3=>hk e s a' w2 R2 μ2 k1 k2 (p3.trans k3)) fun c s w' R' μ' p1 p2 p3=>hk _ s a w' R' μ' p1 p2 p3
theorem b3i {id:Nat}{ops:Array Oper}{Q:Exit→St→Prop}(T:OT)(hm:P.follows .mixedOrders=true)(hB:(okT ops T (Array.replicate ops.size false)&&zD ops T ops.size (Array.replicate ops.size false))=true)(h:VT P G ops Q T st):SW P G (.region id ops true) st Q:=by rw [d8D] at hB;intro base R μ a w hr;obtain ⟨hr',hs'⟩:=hr.drew;exact wp_region_any hm (d2F ops.size T _ st hB.1 hB.2 h base R μ a w.drew hr' _ fun e s a' w' R' μ' q1 q2 q3=>⟨s,R',μ',q1,q2,hs'.trans q3⟩)
attribute [simp] VT a2B
end
attribute [irreducible] a5Q
end Go.VM
end
namespace Go.Proofs.YtjpodcmhcenjjaaGreatDoor
section
open Go Go.VM
variable {G:GT}
theorem b4X:VM.Enters Tryz.prog 80:=VM.Enters.mk Tryz.func80 rfl
theorem b0I:VM.Enters Tryz.prog 135:=VM.Enters.mk Tryz.func135 rfl
theorem a8l:VM.Enters Tryz.prog 81:=VM.Enters.mk Tryz.func81 rfl
abbrev d2G (x:a9A):List D:= .str x.cls::(tyD x.type++[.sl (x.xN.map mF),.sl (x.defs.map b4g)])
theorem c5T (x:a9A):c0T x=d2G x:=by
 rw [c0T,cY]
 rfl
section
variable {rdP:List Tok→Nat→Nat→mH Pr} {l:List Tok} (hV:mO G rdP l) (hN:∀i, -9223372036854775807≤(aK l i).n∧(aK l i).n≤9223372036854775807)
include hV
def clX (nm v:Nm)(out:List (Nm×Ty)):List (Nat×aZ):=[(100001,.cells [.ptr 100000 0]),(100002,.cells [.d (.str nm),.d (.str v),.d (.sl (out.map a2g))])]
abbrev clO:List (TypeId×List VM.Loc):=[(148,[.c 100002 2])]
abbrev clM (rdP:List Tok→Nat→Nat→mH Pr)(l:List Tok)(out:List (Nm×Ty)):aR (List (Nm×Ty)):=do
 let w ← bN bA l
 aL l [[58]]
 let t ← cB bA bF rdP l
 pure (out++[(w,t)])
theorem d0F (nm v:Nm):xR l K3 [.ptr 100001 0,.ptr 100002 0] (clX nm v) clO:=by
 constructor
 all_goals intros
 all_goals first
  |rfl
  |simp [clX,aQ,aX,aT,aS,bC,getKey,aU,bE,cS,rk,dC,bQ, *]
theorem c1l (out:List (Nm×Ty)):aA l 1 (clM rdP l out):=(aA.word hV.fin).bl fun _=>((aA.exp hV.fin _ _).le (by omega)).bl fun _=>((gZ hV).le (by omega)).bl fun _=>aA.aO _
theorem c5U (a:List (Nm×Ty))(i:Nat)(b:List (Nm×Ty))(j:Nat)(hi:i<l.length)(h:a.length≤i)(hx:clM rdP l a i= .ok b j):b.length≤j:=by have h1:=c1l hV a i b j hi hx;obtain ⟨_,_,_,hx⟩:=bZ hx;obtain ⟨_,_,_,hx⟩:=bZ hx;obtain ⟨_,_,_,hx⟩:=bZ hx;cases hx;simp;omega
theorem c3h (nm v:Nm)(out:List (Nm×Ty))(i:Nat)(hi:i<l.length)(hout:out.length≤i):kM G 135 [.ptr 100001 0,.ptr 100002 0] (clX nm v out) clO l i (clM rdP l out i) (fun _=> .cT []) (clX nm v):=by
 have hl:=hV.len;obtain ⟨j0,rfl⟩:∃j0,j0=i:=⟨_,rfl⟩;have p0:j0≤j0∧j0<l.length:=⟨d8T _,hi⟩;refine kM.dB Tryz.func135 rfl Tryz.ntmps135 rfl (by simp) ?_
 intro Q Q0;simp [clX];refine cJ cX (dO hV.kw l j0 p0.2 (by omega)) (by simp) (by simp) (fun w j1 x1=>?_) (fun n e hx=>by first|exact Q0.fail hx _|(simp;exact Q0.fail hx _)|(simp;exact fun s=>Q0.fail hx s));have Q1:=Q0.step x1;have p1:=aA.word hV.fin j0 w j1 p0.2 x1;simp;refine cJ (ds:=[.sl (strs [[58]])]) aG (aH l [[58]] j1 p1.2 (by omega) hV.fin (by simp)) (by simp [strs]) (by simp) (fun u2 j2 x2=>?_) (fun n e hx=>by first|exact Q1.fail hx _|(simp;exact Q1.fail hx _)|(simp;exact fun s=>Q1.fail hx s));have Q2:=Q1.step x2;have p2:=aA.exp hV.fin _ _ j1 u2 j2 p1.2 x2;simp;refine kG [0,2] 4 [3] (.op 1 (.call [5,6,7,8,9] .none) (.call [1,5,6,7,8,9] .none)) (gS (cB bA bF rdP l j2)) (by kernel_rfl) (by kernel_rfl) ?_
 simp;refine ⟨?_,?_⟩
 all_goals
  refine tJ cU ((kW hV j2 p2.2)) (by simp) (by simp) (fun t j3 x3=>?_) (fun n e hx=>by first|exact Q2.fail hx _|(simp;exact Q2.fail hx _)|(simp;exact fun s=>Q2.fail hx s));have Q3:=Q2.step x3;have p3:=gZ hV j2 t j3 p2.2 x3;refine dG.mk ?_
  simp;refine eU ⟨rfl,d8G.2 fun c hc=>?_,?_⟩ ?_
  ·obtain ⟨y,_,rfl⟩:=List.mem_map.1 hc;rw [a0W]
   rfl
  ·have hb:Tryz.prog.bytesOf 148≤1000:=by decide
   rw [List.length_map]
   calc (out.length+1)*(Tryz.prog.bytesOf 148+1)≤50001*1001:=Nat.mul_le_mul (by omega) (by omega)
    _≤140737488355328:=by decide
  simp;exact Q3.ok _ j3 .normal _ rfl (.inl rfl) (by simp [clX,a0W])
def clT:OT:=(.op 0 (.op 1 (.op 2 (.op 3 (.op 4 (.op 5 (.op 6 .stop .none) .none) (.op 5 (.op 4 (.op 6 .stop .none) .none) .none)) (.op 5 (.op 3 (.op 4 (.op 6 .stop .none) .none) .none) .none)) (.op 5 (.op 2 (.op 3 (.op 4 (.op 6 .stop .none) .none) .none) .none) .none)) (.op 2 (.op 1 (.op 3 (.op 4 (.op 5 (.op 6 .stop .none) .none) (.op 5 (.op 4 (.op 6 .stop .none) .none) .none)) (.op 5 (.op 3 (.op 4 (.op 6 .stop .none) .none) .none) .none)) (.op 5 (.op 1 (.op 3 (.op 4 (.op 6 .stop .none) .none) .none) .none) .none)) (.op 5 (.op 1 (.op 2 (.op 3 (.op 4 (.op 6 .stop .none) .none) .none) .none) (.op 2 (.op 1 (.op 3 (.op 4 (.op 6 .stop .none) .none) .none) .none) .none)) .none))) (.op 2 (.op 0 (.op 1 (.op 3 (.op 4 (.op 5 (.op 6 .stop .none) .none) (.op 5 (.op 4 (.op 6 .stop .none) .none) .none)) (.op 5 (.op 3 (.op 4 (.op 6 .stop .none) .none) .none) .none)) (.op 5 (.op 1 (.op 3 (.op 4 (.op 6 .stop .none) .none) .none) .none) .none)) (.op 5 (.op 0 (.op 1 (.op 3 (.op 4 (.op 6 .stop .none) .none) .none) .none) .none) .none)) (.op 5 (.op 0 (.op 1 (.op 2 (.op 3 (.op 4 (.op 6 .stop .none) .none) .none) .none) (.op 2 (.op 1 (.op 3 (.op 4 (.op 6 .stop .none) .none) .none) .none) .none)) (.op 2 (.op 0 (.op 1 (.op 3 (.op 4 (.op 6 .stop .none) .none) .none) .none) .none) .none)) .none)))
abbrev d6I (l:List Tok):aR (Nm×Nm):=do
 let nm ← eV l
 let v ← bN bA l
 pure (nm,v)
theorem b7D (i:Nat)(hi:i<l.length):pS G 80 [] l i (wG bA bF rdP l i) (fun x=> .d (.agg (b6O x))):=by
 have hl:=hV.len;obtain ⟨j0,rfl⟩:∃j0,j0=i:=⟨_,rfl⟩;have p0:j0≤j0∧j0<l.length:=⟨d8T _,hi⟩;refine kM.a3I Tryz.func80 rfl Tryz.ntmps80 rfl (by simp) ?_
 intro Q Q0;unfold wG at Q0;refine SW.pL (SW.xk ?_);simp;refine SW.b7w (d6I l j0) (fun x j=>⟨.ptr 100000 0:: .ptr 1 0:: .ptr 2 0:: .ptr 3 0::List.replicate 12 .undef,[(1,.cells [.ptr 100000 0]),(2,.cells [.d (.str []),.d (.str []),.d .aN]),(3,.cells [.d (.str x.1),.d (.str x.2),.d .aN]),(100000,rdO l j)],[]⟩) ?_ fun x j2 hx=>?_
 ·refine b3i clT (by kernel_rfl) (by kernel_rfl) ?_
  simp [clT]
  repeat' apply And.intro
  all_goals
   refine a5Q.mk (tJ (ds:=[]) gW (jM l j0 p0.2 (by omega)) (by simp) (by simp) (fun nm j1 x1=>?_) (fun n e hx=>Q0.fail hx _));have Q1:=Q0.step x1;have p1:=aA.title hV.fin j0 nm j1 p0.2 x1;simp
   repeat' apply And.intro
   all_goals
    refine a5Q.mk (tJ (ds:=[]) cX (dO hV.kw l j1 p1.2 (by omega)) (by simp) (by simp) (fun v j2 x2=>?_) (fun n e hx=>Q1.fail hx _));have hr:d6I l j0= .ok (nm,v) j2:=(aY x1).trans ((aY x2).trans rfl);simp
    repeat' apply And.intro
    all_goals exact ⟨nm,v,j2,hr,by simp⟩
 obtain ⟨nm,v⟩:=x;obtain ⟨nm',j1,x1,hx⟩:=bZ hx;obtain ⟨v',j2',x2,hx⟩:=bZ hx;cases hx;have Q2:=(Q0.step x1).step x2;have p1:=aA.title hV.fin j0 nm j1 p0.2 x1;have p2:=aA.word (kw:=bA) hV.fin j1 v j2 p1.2 x2;refine SW.xk ?_
 simp [List.replicate];refine cJ (ds:=[.sl (strs [[119,105,116,104]])]) aG (aH l [[119,105,116,104]] j2 p2.2 (by omega) hV.fin (by simp)) (by simp [strs]) (by simp) (fun u3 j3 x3=>?_) (fun n e hx=>by first|exact Q2.fail hx _|(simp;exact Q2.fail hx _)|(simp;exact fun s=>Q2.fail hx s));have Q3:=Q2.step x3;have p3:=aA.exp hV.fin _ _ j2 u3 j3 p2.2 x3;simp;have hone:=eX hV [44] (clM rdP l) (fun out i=>out.length≤i) 0 b0I (d0F hV nm v) (fun a=>(c1l hV a).le (by omega)) (fun a i sO hi h=>c3h hV nm v a i hi h) (c5U hV) (fun a i h=>by omega) [] j3 (by omega) p3.2 (by simp);refine hM.mk (wJ dT hone [(100000,100000),(100001,1),(100002,3)] (fun a j hx=>?_) ?_ ?_ ?_ rfl rfl (fun ms j4 x4=>?_) (fun n e hx2=>Q3.fail hx2 _))
 ·simp [clX,aQ,aX,aT,aS,bC,getKey]
 ·simp [clX,aQ,aX,aT,aS,bC,getKey]
 ·simp [aU,bE,rk]
 ·simp [clX,aU,bE,rk,cS,dC]
 ·have Q4:=Q3.step x4;simp [bD,clX,aU,bE,rk,cS,dC,bQ,gU,gE,eJ];exact Q4.ok _ j4 _ _ rfl (.inr rfl) (by simp [b6O])
include hN
abbrev b1Z (rdP:List Tok→Nat→Nat→mH Pr)(l:List Tok)(out:List kR):aR (List kR):=do
 let d ← xP bA bF rdP l
 aL l [[59]]
 pure (out++[d.getD a8k])
omit hN in
theorem a3j:aA l 0 (xP bA bF rdP l):=aA.b9q hV.fin hV.pU
theorem b0J (i:Nat)(hi:i<l.length):pS G 81 [] l i (a2c bA bF rdP l i) (fun x=> .d (.agg (d2G x))):=by
 have hl:=hV.len;obtain ⟨j0,rfl⟩:∃j0,j0=i:=⟨_,rfl⟩;have p0:j0≤j0∧j0<l.length:=⟨d8T _,hi⟩;refine kM.dB Tryz.func81 rfl Tryz.ntmps81 rfl (by simp) ?_
 intro Q Q0;unfold a2c at Q0;simp;refine cJ gW (jM l j0 p0.2 (by omega)) (by simp) (by simp) (fun c j1 x1=>?_) (fun n e hx=>by first|exact Q0.fail hx _|(simp;exact Q0.fail hx _)|(simp;exact fun s=>Q0.fail hx s));have Q1:=Q0.step x1;have p1:=aA.title hV.fin j0 c j1 p0.2 x1;simp;refine cJ a5K ((b4M hV j1 p1.2)) (by simp) (by simp) (fun t j2 x2=>?_) (fun n e hx=>by first|exact Q1.fail hx _|(simp;exact Q1.fail hx _)|(simp;exact fun s=>Q1.fail hx s));have Q2:=Q1.step x2;have p2:=(aA.rX hV.fin ((gZ hV).le (by omega)) hV.pU.pred) j1 t j2 p1.2 x2;simp;cases hs:aJ l j2 [119,104,101,114,101] with
 |false=>
  have Q3:=Q2.step (jD hs);rw [if_neg (by decide)] at Q3;have Q2:=Q3.step (gI _ _);refine bI (ds:=[.str [119,104,101,114,101]]) (d:= .d (.bool false)) aE (aW l j2 [119,104,101,114,101] p2.2 (by omega) hs) (by simp) (by simp) ?_
  simp;refine cJ (ds:=[.sl (strs [[123]])]) aG (aH l [[123]] j2 p2.2 (by omega) hV.fin (by simp)) (by simp [strs]) (by simp) (fun u5 j5 x5=>?_) (fun n e hx=>by first|exact Q2.fail hx _|(simp;exact Q2.fail hx _)|(simp;exact fun s=>Q2.fail hx s));have Q5:=Q2.step x5;have p5:=aA.exp hV.fin _ _ j2 u5 j5 p2.2 x5;simp;refine SW.vY (ι:={ x:List kR×Nat×Nat // j5≤x.2.1∧x.2.1<l.length∧l.length<x.2.2+x.2.1∧x.1.length≤x.2.1∧dF (fun i=>aJ l i [100,101,102]) (b1Z rdP l) x.2.2 x.1 x.2.1=oW l (fun i=>aJ l i [100,101,102]) (b1Z rdP l) [] j5 }) (fun _=>[]) (fun x=>[(2,.cells (.d (.str [])::((tyD pC).map .d++[.d .aN,.d .aN]))),(3,.cells (.d (.str c)::((tyD t).map .d++[.d (.sl (List.map mF [])),.d (.sl (x.1.1.map b4g))]))),(100000,rdO l x.1.2.1)]) (fun _=>[(70,[.c 3 11])]) (fun x=>l.length-x.1.2.1) ⟨([],j5,l.length+2),d8T _,p5.2,by simp only;omega,by simp,rfl⟩ (by simp [pC,mD]) ?_
  rintro ⟨⟨out,j6,g⟩,hb,hj6,hg,ho,hp⟩;simp only at hb hj6 hg ho hp;obtain ⟨g,rfl⟩:∃k,g=k+1:=⟨g-1,by omega⟩;have p6:j5≤j6∧j6<l.length:=⟨hb,hj6⟩;have hbb:=jB (G:=G) l j6 [100,101,102] p6.2 (by omega);simp;refine bI (i:=j6) (ds:=[.str [100,101,102]]) gA hbb (by simp) (by simp) ?_
  cases hc:aJ l j6 [100,101,102] with
  |true=>
   have E0:xU Q (dF (fun i=>aJ l i [100,101,102]) (b1Z rdP l) (g+1) out j6) (dF (fun i=>aJ l i [100,101,102]) (b1Z rdP l) (g+1) out j6):=⟨rfl,fun n e s h=>Q5.fail (hp.symm.trans h) s⟩;simp;refine cJ (i:=j6) (ds:=[]) a0X (a3i hV hN j6 hj6) (by simp) (by simp) (fun d j7 x7=>?_) (fun n e hx=>by simp;exact Q5.fail (hp.symm.trans (pH hV hc (cW hx))) _);have p7:=a3j hV j6 d j7 hj6 x7;simp;refine cJ (ds:=[.sl (strs [[59]])]) aG (aH l [[59]] j7 p7.2 (by omega) hV.fin (by simp)) (by simp [strs]) (by simp) (fun u j8 x8=>?_) (fun n e hx=>by simp;exact Q5.fail (hp.symm.trans (pH hV hc ((aY x7).trans (cW hx)))) _);have p8:=aA.exp hV.fin _ _ j7 u j8 p7.2 x8;have h1:b1Z rdP l out j6= .ok (out++[d.getD a8k]) j8:=(aY x7).trans ((aY x8).trans rfl);rw [uC hV hc h1] at hp;generalize d.getD a8k=D0 at hp ⊢;simp;refine qW (by first|omega|exact ⟨fun x _=>by rw [a5P];rfl,by omega⟩) ?_
   simp;exact bR.mk ⟨(out++[D0],j8,g),by simp only;omega,p8.2,by simp only;omega,by simp;omega,hp⟩ (by simp [a5P]) (by simp;omega)
  |false=>rw [uD hV hc] at hp;have Q6:=Q5.step hp.symm;simp;refine cJ (ds:=[.sl (strs [[125]])]) aG (aH l [[125]] j6 p6.2 (by omega) hV.fin (by simp)) (by simp [strs]) (by simp) (fun u7 j7 x7=>?_) (fun n e hx=>by first|exact Q6.fail hx _|(simp;exact Q6.fail hx _)|(simp;exact fun s=>Q6.fail hx s));have Q7:=Q6.step x7;have p7:=aA.exp hV.fin _ _ j6 u7 j7 p6.2 x7;simp;exact Q7.ok _ j7 _ _ rfl (.inr rfl) (by simp)
 |true=>
  have Q3:=Q2.step (jC hs);rw [if_pos rfl] at Q3;refine bI (ds:=[.str [119,104,101,114,101]]) (d:= .d (.bool true)) aE (aV l j2 [119,104,101,114,101] p2.2 (by omega) hs) (by simp) (by simp) ?_
  have p3:j2+1≤j2+1∧j2+1<l.length:=⟨d8T _,aF hV.fin p2.2 hs⟩;obtain ⟨j3,hj3⟩:∃j,j2+1=j:=⟨_,rfl⟩;rw [hj3] at Q3 p3 ⊢;simp;refine cJ a5N ((a7S hV j3 p3.2)) (by simp) (by simp) (fun ns j4 x4=>?_) (fun n e hx=>by first|exact Q3.fail hx _|(simp;exact Q3.fail hx _)|(simp;exact fun s=>Q3.fail hx s));have Q4:=Q3.step x4;have p4:=(a2z hV) j3 ns j4 p3.2 x4;simp;refine cJ (ds:=[.sl (strs [[123]])]) aG (aH l [[123]] j4 p4.2 (by omega) hV.fin (by simp)) (by simp [strs]) (by simp) (fun u5 j5 x5=>?_) (fun n e hx=>by first|exact Q4.fail hx _|(simp;exact Q4.fail hx _)|(simp;exact fun s=>Q4.fail hx s));have Q5:=Q4.step x5;have p5:=aA.exp hV.fin _ _ j4 u5 j5 p4.2 x5;simp;refine SW.vY (ι:={ x:List kR×Nat×Nat // j5≤x.2.1∧x.2.1<l.length∧l.length<x.2.2+x.2.1∧x.1.length≤x.2.1∧dF (fun i=>aJ l i [100,101,102]) (b1Z rdP l) x.2.2 x.1 x.2.1=oW l (fun i=>aJ l i [100,101,102]) (b1Z rdP l) [] j5 }) (fun _=>[]) (fun x=>[(2,.cells (.d (.str [])::((tyD pC).map .d++[.d .aN,.d .aN]))),(3,.cells (.d (.str c)::((tyD t).map .d++[.d (.sl (List.map mF ns)),.d (.sl (x.1.1.map b4g))]))),(100000,rdO l x.1.2.1)]) (fun _=>[(70,[.c 3 11])]) (fun x=>l.length-x.1.2.1) ⟨([],j5,l.length+2),d8T _,p5.2,by simp only;omega,by simp,rfl⟩ (by simp [pC,mD]) ?_
  rintro ⟨⟨out,j6,g⟩,hb,hj6,hg,ho,hp⟩;simp only at hb hj6 hg ho hp;obtain ⟨g,rfl⟩:∃k,g=k+1:=⟨g-1,by omega⟩;have p6:j5≤j6∧j6<l.length:=⟨hb,hj6⟩;have hbb:=jB (G:=G) l j6 [100,101,102] p6.2 (by omega);simp;refine bI (i:=j6) (ds:=[.str [100,101,102]]) gA hbb (by simp) (by simp) ?_
  cases hc:aJ l j6 [100,101,102] with
  |true=>
   have E0:xU Q (dF (fun i=>aJ l i [100,101,102]) (b1Z rdP l) (g+1) out j6) (dF (fun i=>aJ l i [100,101,102]) (b1Z rdP l) (g+1) out j6):=⟨rfl,fun n e s h=>Q5.fail (hp.symm.trans h) s⟩;simp;refine cJ (i:=j6) (ds:=[]) a0X (a3i hV hN j6 hj6) (by simp) (by simp) (fun d j7 x7=>?_) (fun n e hx=>by simp;exact Q5.fail (hp.symm.trans (pH hV hc (cW hx))) _);have p7:=a3j hV j6 d j7 hj6 x7;simp;refine cJ (ds:=[.sl (strs [[59]])]) aG (aH l [[59]] j7 p7.2 (by omega) hV.fin (by simp)) (by simp [strs]) (by simp) (fun u j8 x8=>?_) (fun n e hx=>by simp;exact Q5.fail (hp.symm.trans (pH hV hc ((aY x7).trans (cW hx)))) _);have p8:=aA.exp hV.fin _ _ j7 u j8 p7.2 x8;have h1:b1Z rdP l out j6= .ok (out++[d.getD a8k]) j8:=(aY x7).trans ((aY x8).trans rfl);rw [uC hV hc h1] at hp;generalize d.getD a8k=D0 at hp ⊢;simp;refine qW (by first|omega|exact ⟨fun x _=>by rw [a5P];rfl,by omega⟩) ?_
   simp;exact bR.mk ⟨(out++[D0],j8,g),by simp only;omega,p8.2,by simp only;omega,by simp;omega,hp⟩ (by simp [a5P]) (by simp;omega)
  |false=>rw [uD hV hc] at hp;have Q6:=Q5.step hp.symm;simp;refine cJ (ds:=[.sl (strs [[125]])]) aG (aH l [[125]] j6 p6.2 (by omega) hV.fin (by simp)) (by simp [strs]) (by simp) (fun u7 j7 x7=>?_) (fun n e hx=>by first|exact Q6.fail hx _|(simp;exact Q6.fail hx _)|(simp;exact fun s=>Q6.fail hx s));have Q7:=Q6.step x7;have p7:=aA.exp hV.fin _ _ j6 u7 j7 p6.2 x7;simp;exact Q7.ok _ j7 _ _ rfl (.inr rfl) (by simp)
end
end
section
open Go Go.VM
variable {G:GT}
theorem b0K:VM.Enters Tryz.prog 82:=VM.Enters.mk Tryz.func82 rfl
theorem a6I:VM.Enters Tryz.prog 138:=VM.Enters.mk Tryz.func138 rfl
theorem b7E:VM.Enters Tryz.prog 83:=VM.Enters.mk Tryz.func83 rfl
theorem b0L:VM.Enters Tryz.prog 66:=VM.Enters.mk Tryz.func66 rfl
abbrev a2C:=Nm×List Nm×Pr
abbrev d2H (c:a2C):List D:= .str c.1:: .sl (strs c.2.1)::rG c.2.2
abbrev d2I (x:a9B):List D:= .str x.name:: .str x.data:: .str x.result:: .sl (x.cases.map d2H)::prD x.inv
theorem c5V (x:a9B):b6P x=d2I x:=by
 rw [b6P,gF]
 rfl
abbrev d2J (q:a9C):List D:= .str q.name:: .sl (q.vars.map mF)::prD q.body
theorem c5W (q:a9C):c0U q=d2J q:=by
 rw [c0U,gF]
 rfl
section
variable {rdP:List Tok→Nat→Nat→mH Pr} {l:List Tok} (hV:mO G rdP l)
include hV
def b0M (nm dn sn:Nm)(out:List a2C):List (Nat×aZ):=[(100001,.cells [.ptr 100000 0]),(100002,.cells [.d (.str nm),.d (.str dn),.d (.str sn),.d (.sl (out.map d2H)),.d (.int .i64 0),.d (.str []),.d (.int .i64 0),.d (.sl [])])]
abbrev d6J:List (TypeId×List VM.Loc):=[(151,[.c 100002 3])]
abbrev d0G (rdP:List Tok→Nat→Nat→mH Pr)(l:List Tok)(out:List a2C):aR (List a2C):=do
 let c ← eV l
 let ns ← (fun i=>if aJ l i [40] then cV bA l i else .ok [] i:aR (List Nm))
 aL l [[61]]
 let p ← cQ rdP l
 pure (out++[(c,ns,p)])
theorem c5X (nm dn sn:Nm):xR l K3 [.ptr 100001 0,.ptr 100002 0] (b0M nm dn sn) d6J:=by
 constructor
 all_goals intros
 all_goals first
  |rfl
  |simp [b0M,aQ,aX,aT,aS,bC,getKey,aU,bE,cS,rk,dC,bQ, *]
theorem b0N (out:List a2C):aA l 1 (d0G rdP l out):=by
 refine (aA.title hV.fin).bl fun _=>aA.bl (fun i b j hi h=>?_) fun _=>((aA.exp hV.fin _ _).le (by omega)).bl fun _=>hV.pU.pred.bl fun _=>aA.aO _
 split at h
 ·exact ((aA.words hV.fin).le (by omega)) _ _ _ hi h
 ·cases h;omega
theorem c3i (a:List a2C)(i:Nat)(b:List a2C)(j:Nat)(hi:i<l.length)(h:a.length≤i)(hx:d0G rdP l a i= .ok b j):b.length≤j:=by have h1:=b0N hV a i b j hi hx;obtain ⟨_,_,_,hx⟩:=bZ hx;obtain ⟨_,_,_,hx⟩:=bZ hx;obtain ⟨_,_,_,hx⟩:=bZ hx;obtain ⟨_,_,_,hx⟩:=bZ hx;cases hx;simp;omega
theorem b9U (nm dn sn:Nm)(out:List a2C)(i:Nat)(hi:i<l.length)(hout:out.length≤i):kM G 138 [.ptr 100001 0,.ptr 100002 0] (b0M nm dn sn out) d6J l i (d0G rdP l out i) (fun _=> .cT []) (b0M nm dn sn):=by
 have hl:=hV.len;obtain ⟨j0,rfl⟩:∃j0,j0=i:=⟨_,rfl⟩;have p0:j0≤j0∧j0<l.length:=⟨d8T _,hi⟩;refine kM.dB Tryz.func138 rfl Tryz.ntmps138 rfl (by simp) ?_
 intro Q Q0;simp [b0M];refine cJ gW (jM l j0 p0.2 (by omega)) (by simp) (by simp) (fun c j1 x1=>?_) (fun n e hx=>by first|exact Q0.fail hx _|(simp;exact Q0.fail hx _)|(simp;exact fun s=>Q0.fail hx s));have Q1:=Q0.step x1;have p1:=aA.title hV.fin j0 c j1 p0.2 x1;simp;have hb:=jB (G:=G) l j1 [40] p1.2 (by omega);refine bI (ds:=[.str [40]]) gA hb (by simp) (by simp) ?_
 cases hs:aJ l j1 [40] with
 |false=>
  have Q1:=Q1.step (a:=[]) (j:=j1) (by simp [hs]);simp;refine cJ (ds:=[.sl (strs [[61]])]) aG (aH l [[61]] j1 p1.2 (by omega) hV.fin (by simp)) (by simp [strs]) (by simp) (fun u4 j4 x4=>?_) (fun n e hx=>by first|exact Q1.fail hx _|(simp;exact Q1.fail hx _)|(simp;exact fun s=>Q1.fail hx s));have Q4:=Q1.step x4;have p4:=aA.exp hV.fin _ _ j1 u4 j4 p1.2 x4;simp;refine cJ oL (qF hV j4 p4.2) (by simp) (by simp) (fun p j5 x5=>?_) (fun n e hx=>by first|exact Q4.fail hx _|(simp;exact Q4.fail hx _)|(simp;exact fun s=>Q4.fail hx s));have Q5:=Q4.step x5;have p5:=hV.pU.pred j4 p j5 p4.2 x5;simp;refine qW (by first|omega|exact ⟨fun x _=>by rw [gF];rfl,by omega⟩) ?_
  simp;exact Q5.ok _ j5 .normal _ rfl (.inl rfl) (by simp [b0M,gF,uA])
 |true=>
  have e1:(fun i=>if aJ l i [40] then cV bA l i else .ok [] i:aR (List Nm)) j1=cV bA l j1:=by simp [hs]
  simp;refine cJ a0R (a2q hV j1 p1.2) (by simp) (by simp) (fun ns j3 x3=>?_) (fun n e hx=>by first|exact Q1.fail (e1.trans hx) _|(simp;exact Q1.fail (e1.trans hx) _)|(simp;exact fun s=>Q1.fail (e1.trans hx) s));have Q3:=Q1.step (e1.trans x3);have p3:=aA.words hV.fin j1 ns j3 p1.2 x3;simp;refine cJ (ds:=[.sl (strs [[61]])]) aG (aH l [[61]] j3 p3.2 (by omega) hV.fin (by simp)) (by simp [strs]) (by simp) (fun u4 j4 x4=>?_) (fun n e hx=>by first|exact Q3.fail hx _|(simp;exact Q3.fail hx _)|(simp;exact fun s=>Q3.fail hx s));have Q4:=Q3.step x4;have p4:=aA.exp hV.fin _ _ j3 u4 j4 p3.2 x4;simp;refine cJ oL (qF hV j4 p4.2) (by simp) (by simp) (fun p j5 x5=>?_) (fun n e hx=>by first|exact Q4.fail hx _|(simp;exact Q4.fail hx _)|(simp;exact fun s=>Q4.fail hx s));have Q5:=Q4.step x5;have p5:=hV.pU.pred j4 p j5 p4.2 x5;simp;refine qW (by first|omega|exact ⟨fun x _=>by rw [gF];rfl,by omega⟩) ?_
  simp;exact Q5.ok _ j5 .normal _ rfl (.inl rfl) (by simp [b0M,gF,uA])
theorem b2a (i:Nat)(hi:i<l.length):pS G 82 [] l i (a2d bA rdP l i) (fun x=> .d (.agg (d2I x))):=by
 have hl:=hV.len;obtain ⟨j0,rfl⟩:∃j0,j0=i:=⟨_,rfl⟩;have p0:j0≤j0∧j0<l.length:=⟨d8T _,hi⟩;refine kM.dB Tryz.func82 rfl Tryz.ntmps82 rfl (by simp) ?_
 intro Q Q0;unfold a2d at Q0;simp;refine cJ cX (dO hV.kw l j0 p0.2 (by omega)) (by simp) (by simp) (fun nm j1 x1=>?_) (fun n e hx=>by first|exact Q0.fail hx _|(simp;exact Q0.fail hx _)|(simp;exact fun s=>Q0.fail hx s));have Q1:=Q0.step x1;have p1:=aA.word hV.fin j0 nm j1 p0.2 x1;simp;refine cJ (ds:=[.sl (strs [[58]])]) aG (aH l [[58]] j1 p1.2 (by omega) hV.fin (by simp)) (by simp [strs]) (by simp) (fun u2 j2 x2=>?_) (fun n e hx=>by first|exact Q1.fail hx _|(simp;exact Q1.fail hx _)|(simp;exact fun s=>Q1.fail hx s));have Q2:=Q1.step x2;have p2:=aA.exp hV.fin _ _ j1 u2 j2 p1.2 x2;simp;refine cJ gW (jM l j2 p2.2 (by omega)) (by simp) (by simp) (fun dn j3 x3=>?_) (fun n e hx=>by first|exact Q2.fail hx _|(simp;exact Q2.fail hx _)|(simp;exact fun s=>Q2.fail hx s));have Q3:=Q2.step x3;have p3:=aA.title hV.fin j2 dn j3 p2.2 x3;simp;refine cJ (ds:=[.sl (strs [[45,62]])]) aG (aH l [[45,62]] j3 p3.2 (by omega) hV.fin (by simp)) (by simp [strs]) (by simp) (fun u4 j4 x4=>?_) (fun n e hx=>by first|exact Q3.fail hx _|(simp;exact Q3.fail hx _)|(simp;exact fun s=>Q3.fail hx s));have Q4:=Q3.step x4;have p4:=aA.exp hV.fin _ _ j3 u4 j4 p3.2 x4;simp;refine cJ yX (a0Q hV.kw l j4 p4.2 (by omega)) (by simp) (by simp) (fun sn j5 x5=>?_) (fun n e hx=>by first|exact Q4.fail hx _|(simp;exact Q4.fail hx _)|(simp;exact fun s=>Q4.fail hx s));have Q5:=Q4.step x5;have p5:=aA.sort hV.fin j4 sn j5 p4.2 x5;simp;refine cJ (ds:=[.sl (strs [[123]])]) aG (aH l [[123]] j5 p5.2 (by omega) hV.fin (by simp)) (by simp [strs]) (by simp) (fun u6 j6 x6=>?_) (fun n e hx=>by first|exact Q5.fail hx _|(simp;exact Q5.fail hx _)|(simp;exact fun s=>Q5.fail hx s));have Q6:=Q5.step x6;have p6:=aA.exp hV.fin _ _ j5 u6 j6 p5.2 x6;simp;have hone:=eX hV [59] (d0G rdP l) (fun out i=>out.length≤i) 0 a6I (c5X hV nm dn sn) (fun a=>(b0N hV a).le (by omega)) (fun a i sO hi h=>b9U hV nm dn sn a i hi h) (c3i hV) (fun a i h=>by omega) [] j6 (by omega) p6.2 (by simp);refine hM.mk (wJ dT hone [(100000,100000),(100001,1),(100002,3)] (fun a j hx=>?_) ?_ ?_ ?_ rfl rfl (fun cs j7 x7=>?_) (fun n e hx2=>Q6.fail hx2 _))
 ·simp [b0M,aQ,aX,aT,aS,bC,getKey]
 ·simp [b0M,aQ,aX,aT,aS,bC,getKey]
 ·simp [aU,bE,rk]
 ·simp [b0M,aU,bE,rk,cS,dC]
 ·have Q7:=Q6.step x7;have p7:=aA.list hV.fin (fun a=>b0N hV a) [] j6 cs j7 p6.2 x7;simp [bD,b0M,aU,bE,rk,cS,dC,bQ,gU,gE,eJ];refine cJ (ds:=[.sl (strs [[125]])]) aG (aH l [[125]] j7 p7.2 (by omega) hV.fin (by simp)) (by simp [strs]) (by simp) (fun u8 j8 x8=>?_) (fun n e hx=>by first|exact Q7.fail hx _|(simp;exact Q7.fail hx _)|(simp;exact fun s=>Q7.fail hx s));have Q8:=Q7.step x8;have p8:=aA.exp hV.fin _ _ j7 u8 j8 p7.2 x8;simp;cases hs:aJ l j8 [105,110,118,97,114,105,97,110,116] with
  |false=>
   have Q9:=Q8.step (jD hs);rw [if_neg (by decide)] at Q9;have Q9:=Q9.step (gI _ _);refine bI (ds:=[.str [105,110,118,97,114,105,97,110,116]]) (d:= .d (.bool false)) aE (aW l j8 [105,110,118,97,114,105,97,110,116] p8.2 (by omega) hs) (by simp) (by simp) ?_
   simp;exact Q9.ok _ j8 _ _ rfl (.inr rfl) (by simp [mD])
  |true=>
   have Q9:=Q8.step (jC hs);rw [if_pos rfl] at Q9;refine bI (ds:=[.str [105,110,118,97,114,105,97,110,116]]) (d:= .d (.bool true)) aE (aV l j8 [105,110,118,97,114,105,97,110,116] p8.2 (by omega) hs) (by simp) (by simp) ?_
   have p9:j8+1≤j8+1∧j8+1<l.length:=⟨d8T _,aF hV.fin p8.2 hs⟩;obtain ⟨j9,hj9⟩:∃j,j8+1=j:=⟨_,rfl⟩;rw [hj9] at Q9 p9 ⊢;simp;refine cJ oL (qF hV j9 p9.2) (by simp) (by simp) (fun p j10 x10=>?_) (fun n e hx=>by first|exact Q9.fail hx _|(simp;exact Q9.fail hx _)|(simp;exact fun s=>Q9.fail hx s));have Q10:=Q9.step x10;have p10:=hV.pU.pred j9 p j10 p9.2 x10;simp;exact Q10.ok _ j10 _ _ rfl (.inr rfl) (by simp)
theorem b9V (i:Nat)(hi:i<l.length):pS G 83 [] l i (a2e bA rdP l i) (fun x=> .d (.agg (d2J x))):=by
 have hl:=hV.len;obtain ⟨j0,rfl⟩:∃j0,j0=i:=⟨_,rfl⟩;have p0:j0≤j0∧j0<l.length:=⟨d8T _,hi⟩;refine kM.dB Tryz.func83 rfl Tryz.ntmps83 rfl (by simp) ?_
 intro Q Q0;unfold a2e at Q0;simp;refine cJ cX (dO hV.kw l j0 p0.2 (by omega)) (by simp) (by simp) (fun nm j1 x1=>?_) (fun n e hx=>by first|exact Q0.fail hx _|(simp;exact Q0.fail hx _)|(simp;exact fun s=>Q0.fail hx s));have Q1:=Q0.step x1;have p1:=aA.word hV.fin j0 nm j1 p0.2 x1;simp;refine cJ (ds:=[.sl (strs [[40]])]) aG (aH l [[40]] j1 p1.2 (by omega) hV.fin (by simp)) (by simp [strs]) (by simp) (fun u2 j2 x2=>?_) (fun n e hx=>by first|exact Q1.fail hx _|(simp;exact Q1.fail hx _)|(simp;exact fun s=>Q1.fail hx s));have Q2:=Q1.step x2;have p2:=aA.exp hV.fin _ _ j1 u2 j2 p1.2 x2;simp;refine cJ yY ((a0S hV true j2 p2.2)) (by simp) (by simp) (fun vs j3 x3=>?_) (fun n e hx=>by first|exact Q2.fail hx _|(simp;exact Q2.fail hx _)|(simp;exact fun s=>Q2.fail hx s));have Q3:=Q2.step x3;have p3:=(aA.vars hV.fin true) j2 vs j3 p2.2 x3;simp;refine cJ (ds:=[.sl (strs [[41],[58]])]) aG (aH l [[41],[58]] j3 p3.2 (by omega) hV.fin (by simp)) (by simp [strs]) (by simp) (fun u4 j4 x4=>?_) (fun n e hx=>by first|exact Q3.fail hx _|(simp;exact Q3.fail hx _)|(simp;exact fun s=>Q3.fail hx s));have Q4:=Q3.step x4;have p4:=aA.exp hV.fin _ _ j3 u4 j4 p3.2 x4;simp;refine cJ oL (qF hV j4 p4.2) (by simp) (by simp) (fun p j5 x5=>?_) (fun n e hx=>by first|exact Q4.fail hx _|(simp;exact Q4.fail hx _)|(simp;exact fun s=>Q4.fail hx s));have Q5:=Q4.step x5;have p5:=hV.pU.pred j4 p j5 p4.2 x5;simp;exact Q5.ok _ j5 _ _ rfl (.inr rfl) (by simp)
theorem b3j (i:Nat)(hi:i<l.length):pS G 66 [] l i (a0d l i) (fun _=> .cT []):=by
 have hl:=hV.len;obtain ⟨j0,rfl⟩:∃j0,j0=i:=⟨_,rfl⟩;have p0:j0≤j0∧j0<l.length:=⟨d8T _,hi⟩;have ht:=cO (G:=G) l j0 j0 0 (by omega) (by omega) (by intro e;subst e;simp at hi) (by omega);refine kM.dB Tryz.func66 rfl Tryz.ntmps66 rfl (by simp) ?_
 intro Q Q0;unfold a0d at Q0;simp;refine bI (ds:=[.int .i64 0]) bS ht (by simp) (by simp) ?_
 by_cases hk:(aK l j0).kind=0
 ·have Q0:=Q0.ifp hk;simp [cR,hk];exact Q0.ok _ j0 _ _ rfl (.inl rfl) (by simp)
 ·have Q0:=Q0.yD hk;simp [cR,hk];refine cJ (ds:=[]) sK (uB (α:=Unit) l j0 p0.2 (by omega) fun _=> .cT []) (by simp) (by simp) (fun a j hx=>by unfold cH at hx;cases hx) (fun n e hx=>Q0.bad n e _ hx)
end
end
end Go.Proofs.YtjpodcmhcenjjaaGreatDoor
