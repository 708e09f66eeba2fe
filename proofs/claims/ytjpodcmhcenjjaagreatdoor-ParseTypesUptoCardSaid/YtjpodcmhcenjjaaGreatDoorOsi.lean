/- Lemmas that the law of this claim needs (ZP PsH PsI PsJ PsK PwH PwI). No condition. -/
import Derived.Test.YtjpodcmhcenjjaaGreatDoorOsa
import Derived.Test.YtjpodcmhcenjjaaGreatDoorOsd
import Derived.Test.YtjpodcmhcenjjaaGreatDoorOsh
import Derived.RangeFuncNested
import Derived.RangeFuncBound
import Derived.RangeFuncCalls
import Derived.RangeFuncLeaves
import Derived.Shelf.Abstract
import Derived.WalkKit
import Derived.OwnWalkIn
import Derived.TacticsInMore
import Derived.LoopNIn
import Derived.LoopIn
import Derived.Test.YtjpodcmhcenjjaaGreatDoorProg
set_option linter.unusedVariables false
set_option linter.unusedSimpArgs false
set_option linter.unusedSectionVars false
set_option maxRecDepth 100000
set_option maxHeartbeats 64000000
open Go.Proofs.Tryz
section
section
namespace Go.Proofs.YtjpodcmhcenjjaaGreatDoor
open Go Go.VM
def a8l:Pr:=⟨0,[],0,[]⟩
def a0d:Pr:=⟨2,[],1,[]⟩
def a3L:Pr:=⟨2,[],0,[]⟩
instance:DecidableEq Pr:=λa b=>if h:a0c a b=true then isTrue ((a9G a b).1 h) else isFalse λe=>h ((a9G a b).2 e)
def rX(p:Pr):Bool:=decide (p=a8l)||decide (p=a0d)
def zI:Pr->List Pr
 |⟨op,nm,n,[a,b]⟩=>if op=15 then zI a++zI b else [⟨op,nm,n,[a,b]⟩]
 |⟨op,nm,n,l⟩=>if rX ⟨op,nm,n,l⟩ then [] else [⟨op,nm,n,l⟩]
theorem c6G(nm:Nm)(n:Int)(a b:Pr):zI ⟨15,nm,n,[a,b]⟩=zI a++zI b:=by rw[zI,if_pos rfl]
theorem c9X{p:Pr}(h:rX p=true):p.kids=[]:=by simp only[rX,f7T,decide_eq_true_eq]at h;rcases h with rfl|rfl<;>rfl
theorem c0x{p:Pr}(h: ¬(p.op=15/\p.kids.length=2)):zI p=if rX p then [] else [p]:=by
 obtain⟨op,nm,n,l⟩:=p
 match l,h with
 |[],_=>rw[zI];simp
 |[a],_=>rw[zI];simp
 |[a,b],h=>
  have h5: ¬op=15:=λe=>h ⟨e,rfl⟩;rw[zI,if_neg h5];cases hv:rX ⟨op,nm,n,[a,b]⟩with
  |false=>simp
  |true=>have:=c9X hv;simp at this
 |a::b::c::r,_=>rw[zI];simp
mutual
theorem b8K:∀p:Pr,(zI p).length<=bH p
 |⟨op,nm,n,l⟩=>by
  by_cases h:op=15/\l.length=2
  .match l,h with
   |[a,b],⟨h15,_⟩=>subst h15;rw[c6G];have h1:=b8K a;have h2:=b8K b;simp only[List.length_append,bH,cW];omega
  .rw[c0x h];have:=c3f ⟨op,nm,n,l⟩;split<;>simp<;>omega
end
def e8u(ns:List Nm)(bys:List Pr)(op:Int)(nm:Nm):Option Pr:=if op=3/\0<=a5g nm ns 0 then bys[(a5g nm ns 0).toNat]? else none
mutual
def e4W (ns:List Nm) (bys:List Pr):Pr->Pr
 |⟨op,nm,n,l⟩=>match e8u ns bys op nm with
  |some u=>u
  |none=>⟨op,nm,n,c8q ns bys l⟩
def c8q (ns:List Nm) (bys:List Pr):List Pr->List Pr
 |[]=>[]
 |t::r=>e4W ns bys t::c8q ns bys r
end
mutual
def b2I:Pr->Nat
 |⟨_,_,_,l⟩=>tK l 0+1
def tK:List Pr->Nat->Nat
 |[],n=>n
 |t::r,n=>tK r (max n (b2I t))
end
theorem c8r(p:Pr):b2I p=tK p.kids 0+1:=by cases p;rfl
theorem b8L:∀(a b:List Pr) (n:Nat),tK (a++b) n=tK b (tK a n)
 |[],b,n=>by simp[tK]
 |t::a,b,n=>by simp only[List.cons_append,tK,b8L a b]
theorem b4U{l:List Pr}{i:Nat}(h:i<l.length)(n:Nat):tK (l.take (i+1)) n=max (tK (l.take i) n) (b2I l[i]):=by rw[f7W h,b8L];simp[tK]
mutual
theorem d9v:∀p:Pr,b2I p<=bH p
 |⟨op,nm,n,l⟩=>by have:=a9H l 0;simp only[b2I,bH];omega
theorem a9H:∀(l:List Pr) (n:Nat),tK l n<=n+cW l
 |[],n=>by simp[tK]
 |t::r,n=>by have h1:=d9v t;have h2:=a9H r (max n (b2I t));simp only[tK,cW];omega
end
theorem c9Y:∀ {l:List Pr} {k:Pr},k∈l->bH k<=cW l
 |t::r,k,h=>by
  simp only[cW];rcases List.mem_cons.1 h with rfl|h
  .omega
  .have:=c9Y h;omega
end Go.Proofs.YtjpodcmhcenjjaaGreatDoor
end
section
namespace Go.Proofs.YtjpodcmhcenjjaaGreatDoor
open Go Go.VM
variable {G:GT}
theorem c9Z{α:Type}(f:α->List D){l:List α}{i:Nat}(h:i<l.length):List.take (i+1) (List.map f l)=List.take i (List.map f l)++[f l[i]]:=by have:=d3b f h;rw[List.map_take,List.map_take]at this;exact this
theorem d9w{α:Type}{f:α->List D}{k:Nat}(hf:∀a,(f a).length=k){l:List α}{i:Nat}:∀(x:List D),x∈List.take i (List.map f l)->x.length=k:=λx hx=>by obtain⟨t,_,rfl⟩:=List.mem_map.1 (List.mem_of_mem_take hx);exact hf t
abbrev prO(op:Int)(nm:Nm)(n:Int)(k:D):aW:=.cells [.d (.int .i64 op),.d (.str nm),.d (.int .i64 n),.d k]
theorem tV:VM.Enters prog 128:=.mk func128 rfl
theorem d0a:VM.Enters prog 169:=.mk func169 rfl
theorem d3R(l l':List Pr)(hN:cW l<=900000000)(ih:∀k∈l,∀u:Pr,bH k<=900000000->CS prog G 128 [.agg (zP k),.agg (zP u)] (.d (.bool (a0c k u))) none):
  CH prog G 169 ⟨[.d (.sl (l.map qH)),.d (.sl (l'.map qH)),.fn 128],[],[]⟩ ⟨[.d (.bool (c9W l l'))],[],[]⟩:=by
 have hl:=gE l;refine CH.aR func169 rfl ntmps169 rfl (by simp) ?_;by_cases h3:l.length=l'.length
 .have hq:c9W l l'=vD l l':=by simp[c9W,h3]
  simp[h3];refine SW.eE (ι:={i:Nat//i<=l.length/\vD (l.drop i) (l'.drop i)=vD l l' }) (λi=>[(15,.d (.int .i64 i.1))]) (λ_=>[]) (λ_=>[]) (λi=>l.length-i.1) ⟨0,by simp⟩ (by simp) ?_;rintro⟨i,hi,hR⟩
  try simp only at hi hR
  by_cases aE:i<l.length
  .have b9P:i<l'.length:=by omega
   have hg:=vV aE;have hg':=vV b9P;have hw:=aY (show i<9223372036854775807 by omega);have hb2:=qI aE;have hb3:=hU l (i+1);rw[b4T aE b9P]at hR;simp[b9P,aE,hg,hg'];refine⟨kL.mk (by kernel_rfl),?_⟩;refine aD.mk tV (ih l[i] (List.getElem_mem aE) l'[i] (by omega)) ?_;cases hs:a0c l[i] l'[i]
   .rw[hs,Bool.false_and]at hR;simp[hs,hq, <- hR]
   .rw[hs,Bool.true_and]at hR;simp[hs];exact aX.mk ⟨i+1,aE,hR⟩ (by simp[hw]) (by simp;omega)
  .have:i=l.length:=by omega
   subst this;rw[b8J]at hR;simp[hq, <- hR, <- h3]
 .have h3': ¬((l.length:Int)=(l'.length:Int)):=by omega
  have hq:c9W l l'=false:=by simp[c9W,h3]
  simp[h3,h3',hq]
theorem a0e:∀t u:Pr,bH t<=900000000->CS prog G 128 [.agg (zP t),.agg (zP u)] (.d (.bool (a0c t u))) none:=by
 refine Pr.ind λt ih=>?_;obtain⟨op,nm,n,l⟩:=t;intro u hN;obtain⟨op',nm',n',l'⟩:=u;simp only at ih;have hn:=oO ⟨op,nm,n,l⟩;have hq:=c8p ⟨op,nm,n,l⟩ ⟨op',nm',n',l'⟩;simp only at hn hq;have hE:=d3R (G:=G) l l' (by omega) ih;have hA:(decide (l.length=l'.length)&&vD l l')=c9W l l':=rfl;rw[hA]at hq;refine CS.aR func128 rfl ntmps128 rfl ?_;by_cases h1:op=op'
 .by_cases h2:nm=nm'
  .by_cases h4:n=n'
   .simp only[h1,h2,h4,decide_true,Bool.true_and]at hq;simp[h1,h2,h4];refine eY.ro d0a hE [] (by simp) (by simp) (by simp) (by simp) (by simp) ?_;simp[hq]
   .simp only[h1,h2,h4,decide_true,decide_false,Bool.true_and,Bool.false_and]at hq;simp[h1,h2,h4,hq]
  .simp only[h1,h2,decide_true,decide_false,Bool.true_and,Bool.false_and]at hq;simp[h1,h2,hq]
 .simp only[h1,decide_false,Bool.false_and]at hq;simp[h1,hq]
theorem rY:VM.Enters prog 170:=.mk func170 rfl
def a3M(b:Bool):Pr:=if b then a0d else a3L
theorem tE(b:Bool):CS prog G 170 [.bool b] (.d (.agg (zP (a3M b)))) none:=by refine CS.aR func170 rfl ntmps170 rfl ?_;cases b<;>simp[a3M,a0d,a3L]
theorem b2c:VM.Enters prog 182:=.mk func182 rfl
theorem b4V:CS prog G 182 [] (.d (.agg (zP a0d))) none:=by refine CS.aR func182 rfl ntmps182 rfl ?_;simp[a0d]
theorem a9I(a b:Pr):a0c a b=decide (a=b):=by rw[Bool.eq_iff_iff,a9G];simp
theorem b7e:VM.Enters prog 171:=.mk func171 rfl
theorem c0y(p:Pr)(h:bH p<=900000000):CS prog G 171 [.agg (zP p)] (.d (.bool (rX p))) none:=by
 have e1:=a0e (G:=G) p a8l h;have e2:=a0e (G:=G) p a0d h;rw[a9I]at e1 e2;refine CS.aR func171 rfl ntmps171 rfl ?_;simp;refine⟨kL.mk (by kernel_rfl),?_⟩;refine aD.mk tV (CS.args e1 (by simp[a8l])) ?_;by_cases hz:p=a8l
 .simp[hz,rX]
 .simp[hz,rX];refine aD.mk rY (tE true) ?_;simp;refine aD.mk tV (CS.args e2 (by simp[a0d,a3M])) ?_;simp
theorem b2d:VM.Enters prog 184:=.mk func184 rfl
theorem b4W(p:Pr)(h:bH p<=900000000):CS prog G 184 [.agg (zP p)] (.d (.bool (rX p))) none:=by
 have e1:=a0Z (G:=G) p a8l h;have e2:=a0Z (G:=G) p a0d h;rw[a9I]at e1 e2;refine CS.aR func184 rfl ntmps184 rfl ?_;simp;refine⟨kL.mk (by kernel_rfl),?_⟩;refine aD.mk b2c (b4V ) ?_;simp;refine aD.mk vE e2 ?_;by_cases hz:p=a0d
 .simp[hz,rX]
 .simp[hz,rX];refine aD.mk vE (CS.args e1 (by simp[a8l])) ?_;simp
theorem zJ:VM.Enters prog 172:=.mk func172 rfl
theorem b4X:∀p:Pr,bH p<=900000000->CS prog G 172 [.agg (zP p)] (.d (.agg (zP p))) none:=by
 refine Pr.ind λp ih=>?_;obtain⟨op,nm,n,l⟩:=p;intro hN;simp only at ih;have hn:=oO ⟨op,nm,n,l⟩;simp only at hn;have hl:=gE l;refine CS.aR func172 rfl ntmps172 rfl ?_;simp;refine SW.eE (ι:={i:Nat//i<=l.length}) (λi=>[(16,.d (.int .i64 i.1))]) (λi=>[(1,prO op nm n (.sl (l.map qH))),(2,prO 0 [] 0 .aF),(3,prO op nm n (.sl ((l.take i.1).map qH)))]) (λ_=>[(43,[.c 3 3])]) (λi=>l.length-i.1) ⟨0,by simp⟩ (by simp) ?_;rintro⟨i,hi⟩;by_cases aE:i<l.length
 .have hg:=vV aE;have hw:=aY (show i<9223372036854775807 by omega);have hs2:=c9Z qH aE;rw[cN]at hs2;have h4:∀(x:List D),x∈List.take i (List.map qH l)->x.length=4:=d9w (by simp);have hb2:=qI aE;have hb3:=hU l (i+1);simp[aE,hg];refine⟨kL.mk (by kernel_rfl),?_⟩;refine aD.mk zJ (ih l[i] (List.getElem_mem aE) (by omega)) ?_;simp;refine cF ⟨h4,by omega⟩ ?_;simp;exact aX.mk ⟨i+1,aE⟩ (by simp[hw,hs2]) (by simp;omega)
 .have:i=l.length:=by omega
  subst this;simp
end Go.Proofs.YtjpodcmhcenjjaaGreatDoor
end
section
namespace Go.Proofs.YtjpodcmhcenjjaaGreatDoor
open Go Go.VM
variable {G:GT}
theorem a9J:VM.Enters prog 223:=.mk func223 rfl
theorem c3S(p:Pr):bH p<=900000000->CS prog G 223 [.agg (zP p)] (.d (.int .i64 (b2I p))) none:=by
 revert p
 refine Pr.ind λp ih=>?_;obtain⟨op,nm,n,l⟩:=p;intro hN;simp only at ih;have hn:=oO ⟨op,nm,n,l⟩;have hd:=c8r ⟨op,nm,n,l⟩;simp only at hn hd;have hl:=gE l;have hle:=a9H l 0;refine CS.aR func223 rfl ntmps223 rfl ?_;simp;refine SW.eE (ι:={i:Nat//i<=l.length}) (λi=>[(3,.d (.int .i64 (tK (l.take i.1) 0))),(9,.d (.int .i64 i.1))]) (λ_=>[(1,prO op nm n (.sl (l.map qH)))]) (λ_=>[]) (λi=>l.length-i.1) ⟨0,by simp⟩ (by simp[tK]) ?_;rintro⟨i,hi⟩;by_cases aE:i<l.length
 .have hg:=vV aE;have hw:=aY (show i<9223372036854775807 by omega);have hs:=b4U aE 0;have hb2:=qI aE;have hb3:=hU l (i+1);simp[aE,hg];refine aD.mk a9J (ih l[i] (List.getElem_mem aE) (by omega)) ?_;simp;exact aX.mk ⟨i+1,aE⟩ (by simp[hw,hs];split<;>omega) (by simp;omega)
 .have:i=l.length:=by omega
  subst this;have hw:IntKind.i64.wrap ((tK l 0:Int)+1)=((tK l 0+1:Nat):Int):=aY (by omega);simp[hw,hd]
end Go.Proofs.YtjpodcmhcenjjaaGreatDoor
end
section
namespace Go.Proofs.YtjpodcmhcenjjaaGreatDoor
open Go Go.VM Go.RowKit Go.Shelf
attribute [local go_sem] Oper.semAt_some
structure bT (X:Nat->Prop) (W W':World):Prop where
 os:W'.os=W.os
 tape:W'.tape=W.tape
 output:W'.output=W.output
 size:W.heap.size<=W'.heap.size
 block:∀k,k<W.heap.size-> ¬X k->W'.heap[k]? =W.heap[k]?
theorem bT.refl(X:Nat->Prop)(W:World):bT X W W:=⟨rfl,rfl,rfl,f7X _,λ_ _ _=>rfl⟩
theorem bT.trans{X:Nat->Prop}{A B C:World}(h:bT X A B)(k:bT X B C):bT X A C:=
 ⟨k.os.trans h.os,k.tape.trans h.tape,k.output.trans h.output,Nat.le_trans h.size k.size,λi hi hx=>(k.block i (Nat.lt_of_lt_of_le hi h.size) hx).trans (h.block i hi hx)⟩
abbrev NoX:Nat->Prop:=λ_=>False
theorem bT.up{X:Nat->Prop}{A B:World}(h:bT NoX A B):bT X A B:=⟨h.os,h.tape,h.output,h.size,λk hk _=>h.block k hk λe=>e⟩
theorem bT.cell{X:Nat->Prop}{A B:World}(h:bT X A B){b o:Nat}(hb:b<A.heap.size)(hx: ¬X b):B.cell? ⟨b,o,none⟩=A.cell? ⟨b,o,none⟩:=by unfold World.cell?;rw[h.block b hb hx]
theorem bT.alloc{X:Nat->Prop}{A B:World}(h:bT X A B)(o:Obj):bT X A (B.alloc o):=
 h.trans ⟨rfl,rfl,rfl,by simp,λk hk _=>by
  show(B.heap.push o)[k]? =_
  rw[Array.getElem?_push,if_neg (by omega)]⟩
theorem d3S{R:Nat->Nat->Prop}{w:World}{v:Value}{p:Pr}(h:V R w v (.agg (qH p))):
  ∃(ao:Option Addr) (cap:Nat) (nm:ByteArray),v=.agg #[.int .i64 p.op,.string nm,.int .i64 p.n,.slice ao p.kids.length cap]/\
   ∀(i:Nat) (hi:i<p.kids.length),∃b o,ao=some ⟨b,o,none⟩/\∃f:Nat->Value,(∀j,j<4->R b (o+i*4+j)/\w.cell? ⟨b,o+i*4+j,none⟩=some (f j))/\V R w (.agg #[f 0,f 1,f 2,f 3]) (.agg (qH p.kids[i])):=by
 obtain⟨op,nm,n,ks⟩:=p;rw[cN]at h;cases h with
 |agg cs _ h1 h2 h3=>
  obtain⟨l⟩:=cs
  match l,h1 with
  |[c0,c1,c2,c3],_=>
   have g0:=h3 0 _ rfl;have g1:=h3 1 _ rfl;have g2:=h3 2 _ rfl;have g3:=h3 3 _ rfl;simp at g0 g1 g2 g3;obtain⟨es,hes⟩:∃es,ks.map qH=es:=⟨_,rfl⟩;simp only[hes]at g3;cases g0;cases g1;cases g2;have hlen:es.length=ks.length:=by rw[<-hes];simp
   cases g3 with
   |emp ao cap=>
    have h0:ks=[]:=by simpa using hes
    subst h0;exact⟨ao,cap,_,rfl,λi hi=>by simp at hi⟩
   |sl b o m cap size es f k1 k2 k3 k4 k5 k6 k7=>
    have hm:m=ks.length:=by omega
    subst hm;refine⟨_,cap,_,rfl,λi hi=>⟨b,o,rfl,f i,?_⟩⟩;simp only at hi;have hg:es[i]? =some (qH ks[i]):=by rw[<-hes];simp[hi]
    have hs:size=4:=by have:=k4 _ (f7M hg);rw[cN]at this;simpa using this.symm
    subst hs;refine⟨λj hj=>k5 i j hi hj,?_⟩;have q:∀(j:Nat) (d:D),(qH ks[i])[j]? =some d->V R w (f i j) d:=λj d hd=>k7 i j _ d hg hd;have q1:∀(j:Nat) (d:D),(qH ks[i])[j]? =some d->d.one=true:=λj d hd=>k6 i j _ d hg hd;refine .agg _ _ (by rw[cN];rfl) q1 λj d hd=>?_;have hj:j<4:=by have:=(f7I.1 hd).1;rw[cN]at this;simpa using this
    have hv:=q j d hd
    match j,hj with
    |0,_=>exact hv
    |1,_=>exact hv
    |2,_=>exact hv
    |3,_=>exact hv
mutual
def a1q:Pr->List Pr
 |⟨op,nm,n,l⟩=>⟨op,nm,n,l⟩::oJ l
def oJ:List Pr->List Pr
 |[]=>[]
 |p::r=>a1q p++oJ r
end
theorem a6y(p:Pr):a1q p=p::oJ p.kids:=by cases p;rfl
theorem b0S:∀a b:List Pr,oJ (a++b)=oJ a++oJ b
 |[],b=>by simp[oJ]
 |p::a,b=>by simp only[List.cons_append,oJ,b0S a b,List.append_assoc]
theorem b4Y{l:List Pr}{i:Nat}(h:i<l.length):oJ (l.take (i+1))=oJ (l.take i)++a1q l[i]:=by rw[f7W h,b0S];simp[oJ]
theorem a5G(l:List Pr)(i:Nat):oJ l=oJ (l.take i)++oJ (l.drop i):=by rw[<-b0S,List.take_append_drop]
def Yields(P:Program)(L:List Pr)(l:Nat)(X:Nat->Prop)(R:Nat->Nat->Prop)(w0:World)(J Jx:List Pr->World->Prop):Prop:=
 ∀(m:Nat) (pre:List Pr) (v:Value) (p:Pr) (W:World),pre++[p] <+:L->V R w0 v (.agg (qH p))->bT X w0 W->J pre W->YieldAt Fence.wide m P l #[v] W λe W'=>(e=.returned (.bool true)/\J (pre++[p]) W'/\bT X W W')\/(e=.returned (.bool false)/\Jx (pre++[p]) W'/\bT X W W')
theorem d3T(W:World)(cs:Array Value)(T:TypeId){j:Nat}{v:Value}(h:cs[j]? =some v):(W.alloc (.cells cs T)).cell? ⟨W.heap.size,j,none⟩=some v:=by unfold World.cell?;rw[World.alloc_heap_new];simp[h]
theorem d3U(L:List Pr)(l:Nat)(X:Nat->Prop)(R:Nat->Nat->Prop)(w0:World)(hX:∀b o,R b o-> ¬X b)(hR:∀b o,R b o->b<w0.heap.size)(hX2:∀k,X k->k<w0.heap.size)(J Jx:List Pr->World->Prop)(hJ:∀s A B,J s A->bT NoX A B->J s B)(hY:Yields prog L l X R w0 J Jx):
  ∀(p:Pr) (n:Nat) (v:Value) (pre:List Pr) (W:World),bH p<=1000000->pre++a1q p <+:L->V R w0 v (.agg (qH p))->bT X w0 W->J pre W->
   CallsIn Fence.wide n prog 238 #[v,.func (.yield l) #[] #[]] W λe W'=>(e=.returned (.bool true)/\J (pre++a1q p) W'/\bT X W W')\/(e=.returned (.bool false)/\∃q,q <+:a1q p/\Jx (pre++q) W'/\bT X W W'):=by
 refine Pr.ind λp ih=>?_;intro n v pre W hN hL hv hW hJ0;have hN1:=oO p;have hN2:=gE p.kids;have hpk:∀(k:Nat) (h:k<p.kids.length),(pre++p::oJ (p.kids.take k))++a1q p.kids[k] <+:L:=λk h=>by refine List.IsPrefix.trans ⟨oJ (p.kids.drop (k+1)),?_⟩ hL;rw[a6y p,a5G p.kids k,f7U h];simp[oJ]
 obtain⟨ao,cap,nm,rfl,hk⟩:=d3S hv;have hJ1:=hJ _ _ (W.alloc (.cells #[.int .i64 p.op,.string nm,.int .i64 p.n,.slice ao p.kids.length cap] 43)) hJ0 ((bT.refl NoX W).alloc _);have hW1:=hW.alloc (.cells #[.int .i64 p.op,.string nm,.int .i64 p.n,.slice ao p.kids.length cap] 43);obtain⟨fn,tmps,assign,body,hy,hYR⟩:=hY (n-1) pre _ p _ (((List.prefix_append_right_inj pre).2 ⟨oJ p.kids,by rw[a6y];rfl⟩).trans hL) hv hW1 hJ1;refine callsIn_of_wp func238 rfl trivial ?_ rfl;simp only[ntmps238,List.size_toArray,List.length_cons,List.length_nil,Nat.reduceAdd,Nat.reduceSub,Array.replicate_succ,Array.replicate_zero,List.push_toArray,List.append_toArray,List.nil_append,List.cons_append]
 gi_wp2
 refine⟨λh=>(by cases h),?_⟩;have hbx: ¬X W.heap.size:=λh=>by have:=hX2 _ h;have:=hW.size;omega
 refine hYR.mono ?_;rintro e W3 (⟨rfl,hJ3,hK3⟩|⟨rfl,hJ3,hK3⟩)
 .have hWK:bT X W W3:=((bT.refl X W).alloc _).trans hK3;have f5w:W3.cell? ⟨W.heap.size,3,none⟩=some (.slice ao p.kids.length cap):=(hK3.cell (by simp) hbx).trans (d3T W _ _ rfl)
  gi_wp2
  gi_loopw [14] (λi wr=>∃k:Nat,k<=p.kids.length/\i=.int .i64 k/\J (pre++p::oJ (p.kids.take k)) wr/\bT X W wr) (λi _=>p.kids.length-(intOf i).toNat)
  case atStart=>exact⟨0,Nat.zero_le _,rfl,by simpa[oJ]using hJ3,hWK⟩
  case round=>
   obtain⟨k,hkl,rfl,hJk,hKk⟩:=hrel;by_cases aE:k<p.kids.length
   .obtain⟨b,o,rfl,f,hf,hfv⟩:=hk k aE;have hcx:∀j,j<4->wr.cell? ⟨b,o+k*4+j,none⟩=some (f j):=λj hj=>((hW.trans hKk).cell (hR _ _ (hf j hj).1) (hX _ _ (hf j hj).1)).trans (hf j hj).2;have h0:=hcx 0 (by omega);rw[Nat.add_zero]at h0;have h1:=hcx 1 (by omega);have h2:=hcx 2 (by omega);have h3:=hcx 3 (by omega);have e8z:=hfv;have hb2:=qI aE;have hb3:=hU p.kids (k+1);obtain⟨ao2,f2b,nm2,he,_⟩:=d3S hfv;simp only[Value.agg.injEq,Array.mk.injEq,List.cons.injEq,and_true]at he;obtain⟨e0,e1,e2,e3⟩:=he;rw[e0]at h0;rw[e1]at h1;rw[e2]at h2;rw[e3]at h3;rw[e0,e1,e2,e3]at e8z
    gi_wp2
    refine⟨trivial,λh=>(by cases h),(ih p.kids[k] (List.getElem_mem aE) (n-1) _ _ _ (by omega) (hpk k aE) e8z ((hW.trans hKk).alloc _) (hJ _ _ _ hJk ((bT.refl NoX wr).alloc _))).mono ?_⟩;rintro e W4 (⟨rfl,hJ4,hK4⟩|⟨rfl,q,hq,hJ4,hK4⟩)
    .have e8A:RowKit.wrap64 ((k:Int)+1)=(k:Int)+1:=by unfold RowKit.wrap64;omega
     gi_wp2
     go_roundw
     case rel=>exact⟨k+1,aE,by simp[e8A],by rw[b4Y aE];simpa using hJ4,(hKk.alloc _).trans hK4⟩
     case measure=>simp[intOf,e8A];omega
    .gi_wp2
     go_ret
     refine .inr ⟨rfl,p::oJ (p.kids.take k)++q,?_,by simpa using hJ4,(hKk.alloc _).trans hK4⟩;rw[a6y,a5G p.kids k,f7U aE];obtain⟨r,hr⟩:=hq;exact⟨r++oJ (p.kids.drop (k+1)),by simp[oJ, <- hr]⟩
   .obtain rfl:k=p.kids.length:=by omega
    gi_wp2
    go_ret
    exact .inl ⟨rfl,by rw[a6y];simpa using hJk,hKk⟩
 .gi_wp2
  go_ret
  exact .inr ⟨rfl,[p],⟨oJ p.kids,by rw[a6y];rfl⟩,hJ3,((bT.refl X W).alloc _).trans hK3⟩
end Go.Proofs.YtjpodcmhcenjjaaGreatDoor
end
section
namespace Go.Proofs.YtjpodcmhcenjjaaGreatDoor
open Go Go.VM Go.RowKit Go.Shelf
attribute [local go_sem] Oper.semAt_some
theorem d0b{G:GT}{R:Nat->Nat->Prop}{w0 w:World}(h:a6I G (yY w0.heap.size) R w0)(hs:w0.heap.size<=w.heap.size)(hR:∀b o,R b o->b<w0.heap.size)(hb:∀k,k<w0.heap.size->w.heap[k]? =w0.heap[k]?):a6I G (yY w.heap.size) R w:=by
 intro g cs hg;obtain⟨h1,h2,arr,T,fr,h3,h4⟩:=h g cs hg;have hl:g<w0.heap.size:=by simpa[yY]using h2
 have hc:∀b o,R b o->w.cell? ⟨b,o,none⟩=w0.cell? ⟨b,o,none⟩:=λb o hbo=>by unfold World.cell?;rw[hb b (hR b o hbo)]
 refine⟨λj d hj=>?_,by simp only[yY];omega,arr,T,fr,(hb g hl).trans h3,h4⟩;obtain⟨a1,a2,v,a3,a4⟩:=h1 j d hj;exact⟨a1,a2,v,(hc _ _ a2).trans a3,a4.step (λ_ _ h=>h) hc⟩
theorem bT.bI{R R':Nat->Nat->Prop}{w w':World}(h:Step (yY w.heap.size) R w R' w'):bT NoX w w':=
 ⟨h.below.os,h.below.tape,h.below.output,h.below.size,λk hk _=>h.below.block k (by simp only[yY];omega)⟩
theorem d9y{P:Program}{G:GT}{f:FuncId}{ds:List D}{k:IntKind}{z:Int}{own:Option TypeId}(h:CS P G f ds (.d (.int k z)) own){w:World}{R:Nat->Nat->Prop}{args:Array Value}(m:Nat)(hg:a6I G (yY w.heap.size) R w)(hR:∀b o,R b o->b<w.heap.size)(hs:args.size=ds.length)(hv:∀(i:Nat) (d:D),ds[i]? =some d->V R w (args.getD i undef) d):CallsIn Fence.wide m P f args w λe w'=>e=.returned (.int k z)/\bT NoX w w':=
 callsIn_wide.2 ((h w R args hg hR hs hv).mono λe w' ⟨v,R',he,zS,mD,_,_⟩=>by
  cases zS id with
  |d v x hvx=>cases hvx;exact⟨he,bT.bI mD⟩)
theorem bT.weaken{X Y:Nat->Prop}{A B:World}(h:bT X A B)(hXY:∀k,X k->Y k):bT Y A B:=⟨h.os,h.tape,h.output,h.size,λk hk hy=>h.block k hk λhx=>hy (hXY k hx)⟩
theorem bT.putObj{X:Nat->Prop}(A:World){l:Nat}(hl:X l)(o:Obj):bT X A (A.putObj l o):=⟨rfl,rfl,rfl,by simp,λk _ hx=>World.putObj_heap_other λe=>hx (e▸hl)⟩
theorem a5H{X:Nat->Prop}{A B:World}(h:bT X A B)(hX:∀k,X k->A.heap.size<=k):bT NoX A B:=⟨h.os,h.tape,h.output,h.size,λk hk _=>h.block k hk λhx=>by have:=hX k hx;omega⟩
theorem c6H(L:List Pr)(l:Nat)(X:Nat->Prop)(R:Nat->Nat->Prop)(w0:World)(hX:∀b o,R b o-> ¬X b)(hR:∀b o,R b o->b<w0.heap.size)(hX2:∀k,X k->k<w0.heap.size)(J Jx:List Pr->World->Prop)(hJ:∀s A B,J s A->bT NoX A B->J s B)(hY:Yields prog L l X R w0 J Jx)(p:Pr)(n:Nat)(c0 c1 c2 c3:Value)(W:World)(bx:Nat)(hbx:W.heap[bx]? =some (.cells #[c0,c1,c2,c3] 43 (0,0)))(hN:bH p<=1000000)(hL:a1q p=L)(hv:V R w0 (.agg #[c0,c1,c2,c3]) (.agg (qH p)))(hW:bT X w0 W)(hJ0:J [] W):
  CallsIn Fence.wide n prog 237 #[.func (.yield l) #[] #[],.pointer (some ⟨bx,0,none⟩)] W λe W'=>∃v,e=.returned v/\((J L W'/\bT X W W')\/∃q,q <+:L/\Jx q W'/\bT X W W'):=by
 have f2d:=d3U L l X R w0 hX hR hX2 J Jx hJ hY p (n-1) _ [] W hN (by rw[List.nil_append,hL];exact List.prefix_rfl) hv hW hJ0;obtain⟨ao,cap,nm,he,_⟩:=d3S hv;simp only[Value.agg.injEq,Array.mk.injEq,List.cons.injEq,and_true]at he;obtain⟨rfl,rfl,rfl,rfl⟩:=he;have e0:W.cell? ⟨bx,0,none⟩=some (.int .i64 p.op):=by unfold World.cell?;rw[hbx];rfl
 have e1:W.cell? ⟨bx,1,none⟩=some (.string nm):=by unfold World.cell?;rw[hbx];rfl
 have e2:W.cell? ⟨bx,2,none⟩=some (.int .i64 p.n):=by unfold World.cell?;rw[hbx];rfl
 have e3:W.cell? ⟨bx,3,none⟩=some (.slice ao p.kids.length cap):=by unfold World.cell?;rw[hbx];rfl
 refine callsIn_of_wp func237 rfl trivial ?_ rfl;simp only[ntmps237,List.size_toArray,List.length_cons,List.length_nil,Nat.reduceAdd,Nat.reduceSub,Array.replicate_succ,Array.replicate_zero,List.push_toArray,List.append_toArray,List.nil_append,List.cons_append]
 gi_wp2
 refine⟨trivial,λh=>(by cases h),f2d.mono ?_⟩;rintro e W4 (⟨rfl,hJ4,hK4⟩|⟨rfl,q,hq,hJ4,hK4⟩)
 .gi_wp2
  first|go_ret|go_ret2|go_end0
  rw[hL]at hJ4;exact⟨_,rfl,.inl ⟨hJ4,hK4⟩⟩
 .gi_wp2
  first|go_ret|go_ret2|go_end0
  rw[hL]at hq;exact⟨_,rfl,.inr ⟨q,hq,hJ4,hK4⟩⟩
theorem d0c(n:Nat)(c0 c1 c2 c3:Value)(W:World):CallsIn Fence.wide n prog 216 #[.agg #[c0,c1,c2,c3]] W λe W'=>e=.returned (.func (.func 237) #[] #[.pointer (some ⟨W.heap.size,0,none⟩)])/\W'=W.alloc (.cells #[c0,c1,c2,c3] 43):=by
 refine callsIn_of_wp func216 rfl trivial ?_ rfl;simp only[ntmps216,List.size_toArray,List.length_cons,List.length_nil,Nat.reduceAdd,Nat.reduceSub,Array.replicate_succ,Array.replicate_zero,List.push_toArray,List.append_toArray,List.nil_append,List.cons_append]
 gi_wp2
 first|go_ret|go_ret2|go_end0
 exact⟨rfl,rfl⟩
theorem d3W(n:Nat){g:Operand}{ps:Array Tmp}{assign body:Code}{Q:Exit->Act->World->Prop}{a:Act}{W:World}{bx:Nat}{c0 c1 c2 c3:Value}(hg:a.eval g=.func (.func 237) #[] #[.pointer (some ⟨bx,0,none⟩)])(hbx:W.heap[bx]? =some (.cells #[c0,c1,c2,c3] 43 (0,0)))(hps:ps.size=1){R:Nat->Nat->Prop}{p:Pr}(hv:V R W (.agg #[c0,c1,c2,c3]) (.agg (qH p)))(hN:bH p<=1000000)(hR:∀b o,R b o->b<W.heap.size)(b1:Nat)(hb1:b1<W.heap.size)(hRb:∀b o,R b o->b≠b1)(hbb:bx≠b1)(I Ix:List Pr->World->Prop)(hI:∀s A B,I s A->(∀k,k<W.heap.size->B.heap[k]? =A.heap[k]?)->I s B)(hIx:∀s A B,Ix s A->(∀k,k<W.heap.size->B.heap[k]? =A.heap[k]?)->Ix s B)(h0:I [] W)(hround:∀(m l:Nat) (pre:List Pr) (q:Pr) (vq:Value) (W1:World),W.heap.size<=l->l<W1.heap.size->pre++[q] <+:a1q p->V R W vq (.agg (qH q))->bT (λk=>k=b1) W W1->I pre W1->
   assign.wpIn (Fence.wide.inRound l) m prog (Exit.then (λa₁ w₁=>bT NoX W1 w₁/\∀w2,bT (λk=>k=l) w₁ w2->body.wpIn (Fence.wide.inRound l) m prog (λe _ w3=>match e with
    | .normal=>bT (λk=>k=b1) w2 w3/\I (pre++[q]) w3
    | .ret=>bT (λk=>k=b1) w2 w3/\Ix (pre++[q]) w3
    |_=>False) a₁ w2) (λ_ _ _=>False)) {tmps:=(ps.zip #[vq]).foldl (λt (p,v)=>t.setIfInBounds p v) a.tmps,defers:=[]} W1)(hdone:∀(D:Nat) (W':World),W.heap.size<=D->I (a1q p) W'->bT (λk=>k=b1) W W'->W'.heap[D]? =some (.deferred (some []))->Q .normal {a with defers:={target:=.collected D,args:=#[]}::a.defers} W')(hstop:∀(D:Nat) (pre:List Pr) (W':World),W.heap.size<=D->pre <+:a1q p->Ix pre W'->bT (λk=>k=b1) W W'->W'.heap[D]? =some (.deferred (some []))->Q .ret {a with defers:={target:=.collected D,args:=#[]}::a.defers} W'):
  (Code.rangeFunc g ps assign body).wpIn Fence.wide n prog Q a W:=by
 refine wpIn_rangeFunc ?_;intro fn hfn;rw[show Fence.wide.round=none from rfl];obtain⟨rec,c0z⟩:∃rec:LoopState->Option Code->Loop,rec=λst pe=>{state:=st,pending:=pe,fn,tmps:=a.tmps,params:=ps,assign,body,defers:=W.heap.size}:=⟨_,rfl⟩;obtain⟨W1,hW1⟩:∃W1,(W.alloc (.deferred (some []))).alloc (.loop (rec .ready none))=W1:=⟨_,rfl⟩;have hL1:W1.heap[W.heap.size+1]? =some (.loop (rec .ready none)):=by rw[<-hW1];have:=World.alloc_heap_new (W.alloc (.deferred (some []))) (.loop (rec .ready none));rwa[World.size_alloc]at this
 have hD1:W1.heap[W.heap.size]? =some (.deferred (some [])):=by rw[<-hW1];exact(Below.heap_alloc _ _ _ (by simp)).trans (World.alloc_heap_new W _)
 have hK1:bT NoX W W1:=by rw[<-hW1];exact((bT.refl _ _).alloc _).alloc _
 have hs1:W1.heap.size=W.heap.size+2:=by rw[<-hW1];simp
 have hI1:I [] W1:=hI _ _ _ h0 λk hk=>hK1.block k hk id;have hv1:V R W1 (.agg #[c0,c1,c2,c3]) (.agg (qH p)):=hv.step (λ_ _ h=>h) λb o hbo=>hK1.cell (hR b o hbo) id;have yO:∀ {A:World},bT (λk=>k=W.heap.size+1\/k=b1) W1 A->bT (λk=>k=b1) W A:=λh=>⟨h.os.trans hK1.os,h.tape.trans hK1.tape,h.output.trans hK1.output,Nat.le_trans hK1.size h.size,λk hk hx=>(h.block k (by omega) (by rintro(e|e);(· omega);exact hx e)).trans (hK1.block k hk id)⟩
 refine⟨W.heap.size+1,[{target:=.collected W.heap.size,args:=#[]}],W1,{target:=.fn (.func 237) #[.pointer (some ⟨bx,0,none⟩)],args:=#[.func (.yield (W.heap.size+1)) #[] #[]]},W1,237,
  #[.func (.yield (W.heap.size+1)) #[] #[],.pointer (some ⟨bx,0,none⟩)],W1,?_,?_,?_,?_,λh=>(by cases h),?_⟩
 .rw[<-hW1,c0z];exact run_enterLoop_outer _ _ _ _ _
 .simp only[resolve,hg];simp[go_sem]
 .exact λf' _=>trivial
 .simp[invoke,go_sem,enters_of func237 (by kernel_rfl) rfl]
 .refine(c6H (a1q p) (W.heap.size+1) (λk=>k=W.heap.size+1\/k=b1) R W1 (λb o hbo=>by rintro(e|e);(· have:=hR b o hbo;omega);exact hRb b o hbo e) (λb o hbo=>by have:=hR b o hbo;omega) (λk hk=>by rcases hk with e|e<;>omega)
   (λpre A=>I pre A/\A.heap[W.heap.size+1]? =some (.loop (rec .ready none))/\A.heap[W.heap.size]? =some (.deferred (some [])))
   (λpre A=>Ix pre A/\A.heap[W.heap.size+1]? =some (.loop (rec .done (some .ret)))/\A.heap[W.heap.size]? =some (.deferred (some [])))
   ?hj ?hy p _ c0 c1 c2 c3 W1 bx ((hK1.block _ (f7Q.1 hbx).1 id).trans hbx) hN rfl hv1 (bT.refl _ _) ⟨hI1,hL1,hD1⟩).mono ?_
  case hj=>rintro s A B ⟨hi,hl,hd⟩ hk;have aE:W.heap.size+1<A.heap.size:=(f7Q.1 hl).1;exact⟨hI _ _ _ hi λk hk'=>hk.block k (by omega) id,(hk.block _ aE id).trans hl,(hk.block _ (by omega) id).trans hd⟩
  case hy=>
   rintro m pre vq q A a7R hvq hKA ⟨hi,hl,hd⟩;have aE:W.heap.size+1<A.heap.size:=(f7Q.1 hl).1;have hy:=run_yield (P:=prog) (args:=#[vq]) hl (by rw[c0z];exact hps.symm);rw[c0z]at hy;refine⟨fn,_,assign,body,hy,roundIn_of_wpIn hfn ?_⟩
   clear hy
   have hvW:V R W vq (.agg (qH q)):=hvq.step (λ_ _ h=>h) λb o hbo=>(hK1.cell (hR b o hbo) id).symm;refine wpIn_mono (hround m (W.heap.size+1) pre q vq A (by omega) aE a7R hvW (yO hKA) hi) ?_;rintro e a1 w1 hq;cases e with
   |normal=>
    obtain⟨hka,oW⟩:=hq;have hl1:=(hka.block _ aE id).trans hl;refine⟨_,run_beginRound hl1 (by rw[c0z]),?_⟩;have hkb:bT (λk=>k=W.heap.size+1) w1 (w1.putObj (W.heap.size+1) (.loop {rec .ready none with state:=.busy})):=bT.putObj (X:=λk=>k=W.heap.size+1) _ rfl _;have hl2:(w1.putObj (W.heap.size+1) (.loop {rec .ready none with state:=.busy})).heap[W.heap.size+1]? =some (.loop {rec .ready none with state:=.busy}):=World.putObj_heap_same (f7Q.1 hl1).1;have jG:=hka.size;refine wpIn_mono (oW _ hkb) ?_;have fin:∀(jump:Option Code) (w3:World),bT (λk=>k=b1) (w1.putObj (W.heap.size+1) (.loop {rec .ready none with state:=.busy})) w3->
      (Instr.endRound (W.heap.size+1) jump).run prog w3=.ok (.bool jump.isNone) (w3.putObj (W.heap.size+1) (.loop (rec (if jump.isNone then .ready else .done) jump)))/\
      (w3.putObj (W.heap.size+1) (.loop (rec (if jump.isNone then .ready else .done) jump))).heap[W.heap.size+1]? =some (.loop (rec (if jump.isNone then .ready else .done) jump))/\
      (w3.putObj (W.heap.size+1) (.loop (rec (if jump.isNone then .ready else .done) jump))).heap[W.heap.size]? =some (.deferred (some []))/\
      bT (λk=>k=W.heap.size+1\/k=b1) A (w3.putObj (W.heap.size+1) (.loop (rec (if jump.isNone then .ready else .done) jump))):=λjump w3 hk3=>by
     have hl3:=(hk3.block _ (by simp;omega) (by omega)).trans hl2;have:=run_endRound (P:=prog) jump hl3;rw[c0z]at this|-;refine⟨this,World.putObj_heap_same (f7Q.1 hl3).1,?_,?_⟩
     .refine(World.putObj_heap_other (by omega)).trans ((hk3.block _ (by simp;omega) (by omega)).trans ?_);exact(World.putObj_heap_other (by omega)).trans ((hka.block _ (by omega) id).trans hd)
     .exact(hka.weaken λ_ h=>h.elim).trans ((hkb.weaken λ_ h=>.inl h).trans ((hk3.weaken λ_ h=>.inr h).trans (bT.putObj _ (.inl rfl) _)))
    rintro e a3 w3 hp;cases e with
    |normal=>obtain⟨hk3,hi3⟩:=hp;obtain⟨h1,h2,h3,h4⟩:=fin none w3 hk3;exact⟨_,_,h1,.inl ⟨rfl,⟨hI _ _ _ hi3 λk hk=>World.putObj_heap_other (by omega),h2,h3⟩,h4⟩⟩
    |ret=>obtain⟨hk3,hi3⟩:=hp;obtain⟨h1,h2,h3,h4⟩:=fin (some .ret) w3 hk3;exact⟨_,_,h1,.inr ⟨rfl,⟨hIx _ _ _ hi3 λk hk=>World.putObj_heap_other (by omega),h2,h3⟩,h4⟩⟩
    |exit id=>exact hp.elim
    |goto t=>exact hp.elim
    |panic ch=>exact hp.elim
    |outgrown=>exact hp.elim
   |ret=>exact hq.elim
   |exit id=>exact hq.elim
   |goto t=>exact hq.elim
   |panic ch=>exact hq.elim
   |outgrown=>exact hq.elim
  .rintro e W2 ⟨v,rfl,(⟨⟨hi,hl,hd⟩,hK⟩|⟨pre,a7R,⟨hi,hl,hd⟩,hK⟩)⟩
   .refine⟨none,_,by have:=run_endLoop (P:=prog) hl (by rw[c0z];simp);rw[c0z]at this;exact this,?_⟩;exact hdone _ _ (f7X _) (hI _ _ _ hi λk hk=>World.putObj_heap_other (by omega)) (yO (hK.trans (bT.putObj _ (.inl rfl) _))) ((World.putObj_heap_other (by omega)).trans hd)
   .refine⟨some .ret,_,by have:=run_endLoop (P:=prog) hl (by rw[c0z];simp);rw[c0z]at this;exact this,?_⟩;exact wpIn_ret (hstop _ pre _ (f7X _) a7R (hIx _ _ _ hi λk hk=>World.putObj_heap_other (by omega)) (yO (hK.trans (bT.putObj _ (.inl rfl) _))) ((World.putObj_heap_other (by omega)).trans hd))
theorem a5I{W:World}{b:Nat}{v:Value}{T:TypeId}(h:W.heap[b]? =some (.cells #[v] T (0,0))):W.cell? ⟨b,0,none⟩=some v/\W.frozen? ⟨b,0,none⟩=false:=by unfold World.cell? World.frozen?;rw[h];simp
theorem zK{W:World}{b:Nat}{cs:Array Value}{T:TypeId}(h:W.heap[b]? =some (.cells cs T (0,0)))(j:Nat)(v:Value)(hj:cs[j]? =some v):W.cell? ⟨b,j,none⟩=some v:=by unfold World.cell?;rw[h];simp[hj]
theorem c0A{W:World}{b:Nat}{v:Value}{T:TypeId}(h:W.heap[b]? =some (.cells #[v] T (0,0)))(u:Value):(W.setCell ⟨b,0,none⟩ u).heap[b]? =some (.cells #[u] T (0,0)):=by
 obtain⟨aE,hh⟩:=f7Q.1 h
 show(W.heap.modify b _)[b]? =_
 rw[f7Z (by rw[Array.size_modify];exact aE),Array.getElem_modify_self,hh];simp
theorem bT.set{X:Nat->Prop}(A:World){b:Nat}(hl:X b)(u:Value):bT X A (A.setCell ⟨b,0,none⟩ u):=⟨rfl,rfl,rfl,by show A.heap.size<=(A.heap.modify _ _).size;rw[Array.size_modify];exact f7X _,λk _ hx=>Below.heap_setCell A ⟨b,0,none⟩ u k λe=>hx (by rw[show k=b from e];exact hl)⟩
def oE(e:Pr->Int):List Pr->Int
 |[]=>0
 |p::r=>if e p=0 then oE e r else e p
theorem b2e{e:Pr->Int}:∀ {l:List Pr},(∀q∈l,e q=0)->oE e l=0
 |[],_=>rfl
 |p::r,h=>by rw[oE,if_pos (h p (by simp))];exact b2e λq hq=>h q (by simp[hq])
theorem b8M{e:Pr->Int}{p:Pr}:∀ {l r:List Pr},(∀q∈l,e q=0)->e p≠0->oE e (l++p::r)=e p
 |[],r,_,hp=>by simp[oE,hp]
 |q::l,r,h,hp=>by rw[List.cons_append,oE,if_pos (h q (by simp))];exact b8M (λq hq=>h q (by simp[hq])) hp
def b2J(e:Pr->Int)(p:Pr):Int:=if 400<bH p then 7 else if 40<b2I p then 8 else oE e (a1q p)
theorem b7f{G:GT}(e:Pr->Int)(p:Pr)(hN:bH p<=1000000)(f2f:CS prog G 214 [.agg (qH p)] (.d (.int .i64 (bH p))) none)(f2g:CS prog G 215 [.agg (qH p)] (.d (.int .i64 (b2I p))) none)(e8B:∀q∈a1q p,CS prog G 217 [.agg (qH q)] (.d (.int .i64 (e q))) none):CS prog G 199 [.agg (qH p)] (.d (.int .i64 (b2J e p))) none:=by
 refine CS.c7W λw R args hg hR hs hv=>?_;have ha:args=#[args.getD 0 undef]:=by
  obtain⟨l⟩:=args
  match l,hs with
  |[a],_=>rfl
 have hv0:=hv 0 _ rfl;rw[ha];generalize args.getD 0 undef=v at hv0
 clear hv ha hs args
 obtain⟨ao,cap,nm,rfl,hk⟩:=d3S hv0;refine(callsIn_wide (n:=10)).1 (callsIn_of_wp_marks func199 rfl trivial ?_ rfl);simp only[ntmps199,List.size_toArray,List.length_cons,List.length_nil,Nat.reduceAdd,Nat.reduceSub,Array.replicate_succ,Array.replicate_zero,List.push_toArray,List.append_toArray,List.nil_append,List.cons_append];have a1A:∀ {f:FuncId} {z:Int} (m:Nat) (q:Pr) (vq:Value) (W:World),CS prog G f [.agg (qH q)] (.d (.int .i64 z)) none->V R w vq (.agg (qH q))->bT NoX w W->
   CallsIn Fence.wide m prog f #[vq] W λe w'=>e=.returned (.int .i64 z)/\bT NoX W w':=λm q vq W hc hvq hW=>by
  refine d9y hc (R:=R) m (d0b hg hW.size hR λk hk=>hW.block k hk id) (λb o hbo=>Nat.lt_of_lt_of_le (hR b o hbo) hW.size) rfl λi d hd=>?_
  match i,hd with
  |0,hd=>cases hd;exact hvq.step (λ_ _ h=>h) λb o hbo=>hW.cell (hR b o hbo) id
 gi_wp2
 obtain⟨W2,hW2⟩:∃W2,(w.alloc (.cells #[.int .i64 p.op,.string nm,.int .i64 p.n,.slice ao p.kids.length cap] 43)).alloc (.cells #[.int .i64 0] 31)=W2:=⟨_,rfl⟩;have hK2:bT NoX w W2:=by rw[<-hW2];exact((bT.refl _ _).alloc _).alloc _
 have hs2:W2.heap.size=w.heap.size+2:=by rw[<-hW2];simp
 have hB2:W2.heap[w.heap.size+1]? =some (.cells #[.int .i64 0] 31 (0,0)):=by rw[<-hW2];have:=World.alloc_heap_new (w.alloc (.cells #[.int .i64 p.op,.string nm,.int .i64 p.n,.slice ao p.kids.length cap] 43)) (.cells #[.int .i64 0] 31);rwa[World.size_alloc]at this
 have hA2:W2.heap[w.heap.size]? =some (.cells #[.int .i64 p.op,.string nm,.int .i64 p.n,.slice ao p.kids.length cap] 43 (0,0)):=by rw[<-hW2];exact(Below.heap_alloc _ _ _ (by simp)).trans (World.alloc_heap_new w _)
 rw[hW2];refine⟨trivial,(a1A _ p _ _ f2f hv0 hK2).mono ?_⟩;rintro _ W3 ⟨rfl,hK3⟩;have hB3:=(hK3.block _ (by omega) id).trans hB2;have hA3:=(hK3.block _ (by omega) id).trans hA2;have hs3:=hK3.size;obtain⟨hc3,hf3⟩:=a5I hB3;have q0:=(zK hA3 0 _ rfl);have q1:=(zK hA3 1 _ rfl);have q2:=(zK hA3 2 _ rfl);have q3:=(zK hA3 3 _ rfl);have fin:∀ {W:World} {z:Int} {K:World},K.heap[w.heap.size+1]? =some (.cells #[.int .i64 z] 31 (0,0))->bT NoX w W->z=b2J e p->∃v,Ending.returned (.int .i64 z)=.returned v/\V R W v (.int .i64 (b2J e p))/\Below w.heap.size w W:=λh hk hz=>⟨_,rfl,hz▸ .int _ _,⟨hk.os,hk.tape,hk.output,hk.size,λk h'=>hk.block k h' id⟩⟩;by_cases h1:400<bH p
 .gi_wp2
  have hS:=c0A hB3 (.int .i64 7);have hc:=(a5I hS).1;exact⟨_,by simp[results,f199,go_sem,hc],fin hS (a5H (((hK2.trans hK3).weaken λ_ h=>h.elim).trans (bT.set (X:=λk=>k=w.heap.size+1) _ rfl _)) (by intro k hk;omega)) (by simp[b2J,h1])⟩
 .gi_wp2
  refine⟨trivial,(a1A _ p _ _ f2g hv0 (hK2.trans hK3)).mono ?_⟩;rintro _ W4 ⟨rfl,hK4⟩;have hs4:=hK4.size;have hB4:=(hK4.block _ (by omega) id).trans hB3;have hA4:=(hK4.block _ (by omega) id).trans hA3;obtain⟨hc4,hf4⟩:=a5I hB4;have r0:=(zK hA4 0 _ rfl);have r1:=(zK hA4 1 _ rfl);have r2:=(zK hA4 2 _ rfl);have r3:=(zK hA4 3 _ rfl);have e8F:=(hK2.trans hK3).trans hK4;by_cases h2:40<b2I p
  .gi_wp2
   have hS:=c0A hB4 (.int .i64 8);have hc:=(a5I hS).1;exact⟨_,by simp[results,f199,go_sem,hc],fin hS (a5H ((e8F.weaken λ_ h=>h.elim).trans (bT.set (X:=λk=>k=w.heap.size+1) _ rfl _)) (by intro k hk;omega)) (by simp[b2J,h1,h2])⟩
  .gi_wp2
   refine⟨trivial,(d0c _ _ _ _ _ _).mono ?_⟩;rintro _ W5 ⟨rfl,rfl⟩
   gi_wp2
   obtain⟨W5,hW5⟩:∃W5,W4.alloc (.cells #[.int .i64 p.op,.string nm,.int .i64 p.n,.slice ao p.kids.length cap] 43)=W5:=⟨_,rfl⟩;have hK5:bT NoX W4 W5:=by rw[<-hW5];exact(bT.refl _ _).alloc _
   have hB5:=(hK5.block _ (by omega) id).trans hB4;have hA5:W5.heap[W4.heap.size]? =some (.cells #[.int .i64 p.op,.string nm,.int .i64 p.n,.slice ao p.kids.length cap] 43 (0,0)):=by rw[<-hW5];exact World.alloc_heap_new _ _
   have hs5:W5.heap.size=W4.heap.size+1:=by rw[<-hW5];simp
   have d3X:=e8F.trans hK5;rw[hW5];refine d3W 10 (W:=W5) (R:=R) (p:=p) rfl hA5 rfl (hv0.step (λ_ _ h=>h) λb o hbo=>d3X.cell (hR b o hbo) id) hN (λb o hbo=>by have:=hR b o hbo;omega) (w.heap.size+1) (by omega) (λb o hbo=>by have:=hR b o hbo;omega) (by omega)
    (λpre A=>A.heap[w.heap.size+1]? =some (.cells #[.int .i64 0] 31 (0,0))/\∀q∈pre,e q=0)
    (λpre A=>∃d3Y q,pre=d3Y++[q]/\(∀x∈d3Y,e x=0)/\e q≠0/\A.heap[w.heap.size+1]? =some (.cells #[.int .i64 (e q)] 31 (0,0)))
    (λs A B h hk=>⟨(hk _ (by omega)).trans h.1,h.2⟩) (λs A B ⟨d3Y,q,h1,h2,h3,h4⟩ hk=>⟨d3Y,q,h1,h2,h3,(hk _ (by omega)).trans h4⟩) ⟨hB5,by simp⟩ ?hround ?hdone ?hstop
   case hround=>
    rintro m l pre q vq W6 hl hl6 a7R hvq hK6 ⟨hB6,hz⟩;obtain⟨ao2,f2b,nm2,rfl,_⟩:=d3S hvq;have hqm:q∈a1q p:=a7R.subset (by simp);have hvw:V R w _ (.agg (qH q)):=hvq.step (λ_ _ h=>h) λb o hbo=>(d3X.cell (hR b o hbo) id).symm
    gi_wp2
    refine⟨(bT.refl _ _).alloc _,λw2 hk2=>?_⟩;have hA7:=(hk2.block W6.heap.size (by simp) (by omega)).trans (World.alloc_heap_new _ _);have hs6:=hK6.size;have hB7:=((hk2.block (w.heap.size+1) (by simp;omega) (by omega)).trans (Below.heap_alloc _ _ _ (by omega))).trans hB6;have hs7:=hk2.size;simp only[World.size_alloc]at hs7;have f2k:bT NoX w w2:=a5H (X:=λk=>k=w.heap.size+1\/k=l) ((d3X.weaken λ_ h=>h.elim).trans ((hK6.weaken λ_ h=>.inl h).trans (((bT.refl _ _).alloc _).trans (hk2.weaken λ_ h=>.inr h)))) (by rintro k (hk|hk)<;>omega);have t0:=(zK hA7 0 _ rfl);have t1:=(zK hA7 1 _ rfl);have t2:=(zK hA7 2 _ rfl);have t3:=(zK hA7 3 _ rfl)
    gi_wp2
    refine⟨trivial,λh=>(by cases h),(CallsIn.inRound l (a1A _ q _ _ (e8B q hqm) hvw f2k)).mono ?_⟩;rintro _ W8 ⟨rfl,hK8⟩;have hB8:=(hK8.block _ (by omega) id).trans hB7;obtain⟨hc8,hf8⟩:=a5I hB8;by_cases he:e q=0
    .gi_wp2
     have dB:∀x,x∈pre\/x=q->e x=0:=λx hx=>hx.elim (hz x) λhx=>by subst hx;exact he
     first|exact dB|exact⟨hK8.up,dB⟩|exact⟨hK8.up,hB8,dB⟩
    .gi_wp2
     have hS:=c0A hB8 (.int .i64 (e q));exact⟨hK8.up.trans (bT.set (X:=λk=>k=w.heap.size+1) _ rfl _),pre,q,⟨rfl,rfl⟩,hz,he,hS⟩
   case hdone=>
    rintro D W' hD ⟨hB',hz⟩ hK' hD';obtain⟨yU,hf'⟩:=a5I hB'
    gi_wp2
    have hS:=c0A hB' (.int .i64 0);have hDs:=((bT.set (X:=λk=>k=w.heap.size+1) W' rfl (.int .i64 0)).block D (f7Q.1 hD').1 (by omega)).trans hD';refine⟨by simp,.inl ⟨_,_,rfl,run_takeDeferred hDs,?_⟩⟩;have hS2:=(World.putObj_heap_other (r:=D) (o:=.deferred none) (show w.heap.size+1≠D by omega)).trans hS;have hc:=(a5I hS2).1;exact⟨_,by simp[results,f199,go_sem,hc],fin hS2 (a5H (X:=λk=>k=w.heap.size+1\/k=D) ((d3X.weaken λ_ h=>h.elim).trans ((hK'.weaken λ_ h=>.inl h).trans ((bT.set (X:=λk=>k=w.heap.size+1\/k=D) _ (.inl rfl) _).trans (bT.putObj _ (.inr rfl) _)))) (by rintro k (hk|hk)<;>omega)) (by simp[b2J,h1,h2,b2e hz])⟩
   case hstop=>
    rintro D pre W' hD a7R ⟨d3Y,q,rfl,hz,hq,hB'⟩ hK' hD'
    gi_wp2
    refine⟨by simp,.inl ⟨_,_,rfl,run_takeDeferred hD',?_⟩⟩;have hS2:=(World.putObj_heap_other (r:=D) (o:=.deferred none) (show w.heap.size+1≠D by omega)).trans hB';have hc:=(a5I hS2).1;have hfe:oE e (a1q p)=e q:=by obtain⟨r,hr⟩:=a7R;rw[<-hr,List.append_assoc];exact b8M hz hq
    exact⟨_,by simp[results,f199,go_sem,hc],fin hS2 (a5H (X:=λk=>k=w.heap.size+1\/k=D) ((d3X.weaken λ_ h=>h.elim).trans ((hK'.weaken λ_ h=>.inl h).trans (bT.putObj _ (.inr rfl) _))) (by rintro k (hk|hk)<;>omega)) (by simp[b2J,h1,h2,hfe])⟩
end Go.Proofs.YtjpodcmhcenjjaaGreatDoor
end
section
namespace Go.Proofs.YtjpodcmhcenjjaaGreatDoor
open Go Go.VM
variable {G:GT}
def vH(op:Int):Bool:=decide (op=3)||(decide (op=4)||decide (op=5))
def oN(op:Int):Int:=if op=1\/op=2\/op=3 then 0 else if op=4\/op=5 then 1 else if op=9\/op=14 then 1 else 2
def tW(op:Int):Int:=if op=1\/op=2\/op=3 then 0 else if op=4\/op=5 then 24 else if op=9\/op=14 then 1 else 2
def a9K(l:List Pr):Int:=match l with
 |[]=>1
 |k::_=>k.op
def yS(op:Int)(nm:Nm):Bool:=(decide (op=3)&&decide (nm=[118]))||(decide (op=4)&&(decide (nm=[116,97,103])||decide (nm=[118,97,108])))
def a4D(op:Int)(nm:Nm)(n:Int)(len:Int):Bool:=(!vH op&& !decide (nm=[]))||(!decide (op=1)&& !decide (op=2)&& !decide (n=0))||decide (len<oN op)||decide (tW op<len)
def tN(op n:Int):Bool:=(decide (op=1)&& !inB n)||(decide (op=2)&& !decide (n=0)&& !decide (n=1))
def a1U(p:Pr):Int:=
 if p.op<1\/18<p.op then 1
 else if a4D p.op p.name p.n p.kids.length then 1
 else if tN p.op p.n then 2
 else if vH p.op&& !pW p.name&& !yS p.op p.name then 3
 else if p.op=8/\a9K p.kids≠1 then 6
 else 0
theorem pO:VM.Enters prog 240:=.mk func240 rfl
theorem rE(op:Int):CS prog G 240 [.int .i64 op] (.d (.bool (vH op))) none:=by
 refine CS.aR func240 rfl ntmps240 rfl ?_;by_cases h3:op=3
 .simp[h3,vH]
 .by_cases h4:op=4
  .simp[h4,vH]
  .simp[h3,h4,vH]
theorem b7g:VM.Enters prog 239:=.mk func239 rfl
theorem c0B(op:Int):CS prog G 239 [.int .i64 op] (.bY [.int .i64 (oN op),.int .i64 (tW op)]) none:=by
 refine CS.aR func239 rfl ntmps239 rfl ?_;by_cases h1:op=1
 .simp[h1,oN,tW]
 by_cases h2:op=2
 .simp[h2,oN,tW]
 by_cases h3:op=3
 .simp[h3,oN,tW]
 by_cases h4:op=4
 .simp[h4,oN,tW]
 by_cases h5:op=5
 .simp[h5,oN,tW]
 by_cases h9:op=9
 .simp[h9,oN,tW]
 by_cases h14:op=14
 .simp[h14,oN,tW]
 .simp[h1,h2,h3,h4,h5,h9,h14,oN,tW]
theorem d0d{op:Int}(h:vH op=true):op=3\/op=4\/op=5:=by simpa[vH]using h
theorem d0e{op:Int}(h:vH op=false): ¬op=3/\ ¬op=4/\ ¬op=5:=by simpa[vH]using h
theorem c0C(hG:G 1=some dP)(p:Pr)(hlen:p.kids.length<=900000000):CS prog G 217 [.agg (zP p)] (.d (.int .i64 (a1U p))) none:=by
 obtain⟨op,nm,n,l⟩:=p;simp only at hlen;have hm:a1U ⟨op,nm,n,l⟩=if op<1\/18<op then 1 else if a4D op nm n l.length then 1 else if tN op n then 2 else if vH op&& !pW nm&& !yS op nm then 3 else if op=8/\a9K l≠1 then 6 else 0:=rfl;refine CS.aR func217 rfl ntmps217 rfl ?_;by_cases a1:op<1
 .simp[a1]at hm;simp[a1,hm]
 by_cases a2:18<op
 .simp[a2]at hm;simp[a1,a2,hm]
 rw[if_neg (by omega)]at hm;simp[a1,a2];refine aD.mk b7g (c0B op) ?_;simp;refine aD.mk pO (rE op) ?_;cases hn:vH op
 .obtain⟨n3,n4,n5⟩:=d0e hn;by_cases b1:nm=[];rotate_left
  .have b1':nm.isEmpty=false:=by cases nm<;>simp at b1|-
   simp[a4D,hn,b1]at hm;simp (maxSteps:=4000000) [hn,b1,b1',hm]
  subst b1;by_cases o1:op=1
  .subst o1;have el:oN 1=0:=rfl;have em:tW 1=0:=rfl;by_cases k0:l=[];rotate_left
   .have kl:0<l.length:=List.length_pos_iff.2 k0;have kl': ¬((l.length:Int)<0):=by omega
    simp[a4D,hn,el,em,kl,kl']at hm;simp (maxSteps:=4000000) [hn,el,em,kl,kl',hm]
   subst k0;simp[a4D,hn,el,em]at hm;simp (maxSteps:=4000000) [hn,el,em];refine aD.mk c2Y (c7Z n) ?_;cases hi:inB n
   .simp[tN,hi]at hm;simp[hm]
   .simp[tN,hi]at hm;simp;refine aD.mk pO (rE 1) ?_;simp (maxSteps:=4000000) [hn,hm]
  by_cases o2:op=2
  .subst o2;have el:oN 2=0:=rfl;have em:tW 2=0:=rfl;by_cases k0:l=[];rotate_left
   .have kl:0<l.length:=List.length_pos_iff.2 k0;have kl': ¬((l.length:Int)<0):=by omega
    simp[a4D,hn,el,em,kl,kl']at hm;simp (maxSteps:=4000000) [hn,el,em,kl,kl',hm]
   subst k0;simp[a4D,hn,el,em]at hm;by_cases c0:n=0
   .simp[tN,c0]at hm;simp (maxSteps:=4000000) [hn,el,em,c0];refine aD.mk pO (rE 2) ?_;simp (maxSteps:=4000000) [hn,hm]
   .by_cases c1:n=1
    .simp[tN,c1]at hm;simp (maxSteps:=4000000) [hn,el,em,c1];refine aD.mk pO (rE 2) ?_;simp (maxSteps:=4000000) [hn,hm]
    .simp[tN,c0,c1]at hm;simp (maxSteps:=4000000) [hn,el,em,c0,c1,hm]
  by_cases c0:n=0;rotate_left
  .simp[a4D,hn,o1,o2,c0]at hm;simp (maxSteps:=4000000) [hn,o1,o2,c0,hm]
  subst c0;by_cases d1:(l.length:Int)<oN op
  .simp[a4D,hn,d1]at hm;simp (maxSteps:=4000000) [hn,o1,o2,d1,hm]
  by_cases d2:tW op<(l.length:Int)
  .simp[a4D,hn,d1,d2]at hm;simp (maxSteps:=4000000) [hn,o1,o2,d1,d2,hm]
  simp[a4D,tN,hn,o1,o2,d1,d2]at hm;simp (maxSteps:=4000000) [hn,o1,o2,d1,d2];refine aD.mk pO (rE op) ?_;by_cases o8:op=8
  .subst o8;have el:oN 8=2:=rfl
   match l,d1 with
   |[],d1=>exact absurd (by rw[el];simp) d1
   |k::r,d1=>
    by_cases e1:k.op=1
    .simp[a9K,e1]at hm;simp (maxSteps:=4000000) [hn,e1,hm]
    .simp[a9K,e1]at hm;simp (maxSteps:=4000000) [hn,e1,hm]
  .simp[o8]at hm;simp (maxSteps:=4000000) [hn,o8,hm]
 .have ho:=d0d hn;have o1: ¬op=1:=by omega
  have o2: ¬op=2:=by omega
  have o8: ¬op=8:=by omega
  by_cases c0:n=0;rotate_left
  .simp[a4D,hn,o1,o2,c0]at hm;simp (maxSteps:=4000000) [hn,o1,o2,c0,hm]
  subst c0;by_cases d1:(l.length:Int)<oN op
  .simp[a4D,hn,d1]at hm;simp (maxSteps:=4000000) [hn,o1,o2,d1,hm]
  by_cases d2:tW op<(l.length:Int)
  .simp[a4D,hn,d1,d2]at hm;simp (maxSteps:=4000000) [hn,o1,o2,d1,d2,hm]
  simp[a4D,tN,hn,o1,o2,o8,d1,d2]at hm;simp (maxSteps:=4000000) [hn,o1,o2,d1,d2];refine aD.mk pO (rE op) ?_;simp[hn];refine aD.mk c6f (c9x hG nm) ?_;cases hc:pW nm;rotate_left
  .simp[hc]at hm;simp[eD,o8,hm]
  simp[hc]at hm;simp[eD];by_cases o3:op=3
  .subst o3;by_cases v1:nm=[118]
   .simp[yS,v1]at hm;simp[v1,hm]
   .simp[yS,v1]at hm;simp[v1,hm]
  by_cases o4:op=4
  .subst o4;by_cases v1:nm=[116,97,103]
   .simp[yS,v1]at hm;simp[v1,hm]
   .by_cases v2:nm=[118,97,108]
    .simp[yS,v2]at hm;simp[v2,hm]
    .simp[yS,v1,v2]at hm;simp[v1,v2,hm]
  .simp[yS,o3,o4]at hm;simp[o3,o4,hm]
theorem b5a:VM.Enters prog 214:=.mk func214 rfl
theorem b7h(p:Pr):bH p<=900000000->CS prog G 214 [.agg (zP p)] (.d (.int .i64 (bH p))) none:=by
 revert p
 refine Pr.ind λp ih=>?_;obtain⟨op,nm,n,l⟩:=p;intro hN;simp only at ih;have hn:=oO ⟨op,nm,n,l⟩;simp only at hn;have hl:=gE l;refine CS.aR func214 rfl ntmps214 rfl ?_;simp;refine SW.eE (ι:={i:Nat//i<=l.length}) (λi=>[(3,.d (.int .i64 (1+cW (l.take i.1):Nat))),(9,.d (.int .i64 i.1))]) (λ_=>[(1,prO op nm n (.sl (l.map qH)))]) (λ_=>[]) (λi=>l.length-i.1) ⟨0,by simp⟩ (by simp[cW]) ?_;rintro⟨i,hi⟩;by_cases aE:i<l.length
 .have hg:=vV aE;have hw:=aY (show i<9223372036854775807 by omega);have hb2:=qI aE;have hb3:=hU l (i+1);have hw2:IntKind.i64.wrap (((1+cW (l.take i):Nat):Int)+(bH l[i]:Int))=((1+cW (l.take (i+1)):Nat):Int):=by rw[wrap64 (by omega),hb2];omega
  simp[aE,hg];refine aD.mk b5a (ih l[i] (List.getElem_mem aE) (by omega)) ?_;simp;exact aX.mk ⟨i+1,aE⟩ (by simp at hw2;simp[hw,hw2]) (by simp;omega)
 .have:i=l.length:=by omega
  subst this;simp[hn]
theorem b5b:VM.Enters prog 215:=.mk func215 rfl
theorem b7i(p:Pr):bH p<=900000000->CS prog G 215 [.agg (zP p)] (.d (.int .i64 (b2I p))) none:=by
 revert p
 refine Pr.ind λp ih=>?_;obtain⟨op,nm,n,l⟩:=p;intro hN;simp only at ih;have hn:=oO ⟨op,nm,n,l⟩;have hd:=c8r ⟨op,nm,n,l⟩;simp only at hn hd;have hl:=gE l;have hle:=a9H l 0;refine CS.aR func215 rfl ntmps215 rfl ?_;simp;refine SW.eE (ι:={i:Nat//i<=l.length}) (λi=>[(3,.d (.int .i64 (tK (l.take i.1) 0))),(9,.d (.int .i64 i.1))]) (λ_=>[(1,prO op nm n (.sl (l.map qH)))]) (λ_=>[]) (λi=>l.length-i.1) ⟨0,by simp⟩ (by simp[tK]) ?_;rintro⟨i,hi⟩;by_cases aE:i<l.length
 .have hg:=vV aE;have hw:=aY (show i<9223372036854775807 by omega);have hs:=b4U aE 0;have hb2:=qI aE;have hb3:=hU l (i+1);simp[aE,hg];refine aD.mk b5b (ih l[i] (List.getElem_mem aE) (by omega)) ?_;simp;exact aX.mk ⟨i+1,aE⟩ (by simp[hw,hs];split<;>omega) (by simp;omega)
 .have:i=l.length:=by omega
  subst this;have hw:IntKind.i64.wrap ((tK l 0:Int)+1)=((tK l 0+1:Nat):Int):=aY (by omega);simp[hw,hd]
mutual
theorem c3T:∀(p q:Pr),q∈a1q p->bH q<=bH p
 |⟨op,nm,n,l⟩,q,h=>by
  simp only[a1q,List.mem_cons]at h;rcases h with rfl|h
  .exact f7X _
  .have:=b8N l q h;simp only[bH];omega
theorem b8N:∀(l:List Pr) (q:Pr),q∈oJ l->bH q<=cW l
 |[],q,h=>by simp[oJ]at h
 |t::r,q,h=>by
  simp only[oJ,List.mem_append]at h;simp only[cW];rcases h with h|h
  .have:=c3T t q h;omega
  .have:=b8N r q h;omega
end
def a5J(p:Pr):Int:=b2J a1U p
theorem b5c:VM.Enters prog 199:=.mk func199 rfl
theorem b7j(hG:G 1=some dP)(p:Pr)(hN:bH p<=1000000):CS prog G 199 [.agg (zP p)] (.d (.int .i64 (a5J p))) none:=by
 have h:=b7f (G:=G) a1U p hN (by have:=b7h (G:=G) p (by omega);rwa[cN]) (by have:=b7i (G:=G) p (by omega);rwa[cN]) (λq hq=>by
  have h1:=c3T p q hq;have h2:=oO q;have h3:=gE q.kids;have:=c0C hG q (by omega)
  rwa[cN])
 rwa[cN]at h
end Go.Proofs.YtjpodcmhcenjjaaGreatDoor
end
end
namespace Go.Proofs.YtjpodcmhcenjjaaGreatDoor
section
open Go Go.VM
variable {G:GT}
def b5d(p:Pr)(s:Pr×Bool):Option (Pr×Bool):=if rX p then some s else if a0c p (a3M false) then none else if s.2 then some (⟨15,[],0,[s.1,p]⟩,true) else some (p,true)
def b2K:List Pr->Pr×Bool->Pr
 |[],s=>s.1
 |p::r,s=>match b5d p s with
  |none=>a3M false
  |some s=>b2K r s
def bQ(a b:Pr):Pr:=b2K [a,b] (a3M true,false)
theorem c0D:VM.Enters prog 129:=.mk func129 rfl
theorem b5e(b:Bool):bH (a3M b)=1:=by cases b<;>simp[a3M,a0d,a3L,bH,cW]
theorem b5f(op:Int)(a b:Pr):bH ⟨op,[],0,[a,b]⟩=bH a+bH b+1:=by simp[bH,cW];omega
theorem c3U(L:List Pr)(hL:∀p∈L,bH p<=1000000)(hl:L.length<=1000):CS prog G 129 [.sl (L.map qH)] (.d (.agg (zP (b2K L (a3M true,false))))) none:=by
 generalize hR:b2K L (a3M true,false)=R;refine CS.aR func129 rfl ntmps129 rfl ?_;simp;refine aD.mk rY (tE true) ?_;simp;refine SW.eE (ι:={x:Nat×Pr×Bool//x.1<=L.length/\b2K (L.drop x.1) x.2=R}) (λx=>[(4,.d (.bool x.1.2.2)),(10,.d (.int .i64 x.1.1))]) (λx=>[(2,.cells [.d (.int .i64 0),.d (.str []),.d (.int .i64 0),.d .aF]),(3,.cells ((zP x.1.2.1).map .d))]) (λ_=>[]) (λx=>L.length-x.1.1) ⟨(0,a3M true,false),by simpa using hR⟩ (by simp) ?_;rintro⟨⟨k,out,some⟩,hk,hp⟩;simp only at hk hp;by_cases aE:k<L.length
 .have hg:(L.map qH)[k]? =.some (qH L[k]):=by simp[aE]
  have hw:=aY (show k<9223372036854775807 by omega);have hd:L.drop k=L[k]::L.drop (k+1):=f7U aE;have hb:=hL L[k] (List.getElem_mem aE);rw[hd]at hp;obtain⟨p,hP⟩:∃p,L[k]=p:=⟨_,rfl⟩;rw[hP]at hg hd hb hp;have hv:=c0y (G:=G) p (by omega);have hs:=a0e (G:=G) p (a3M false) (by omega);have hc:=b4X (G:=G) p (by omega);simp only[b2K,b5d]at hp;simp[aE,hP];refine aD.mk b7e hv ?_;cases h1:rX p with
  |true=>rw[h1]at hp;simp;exact aX.mk ⟨(k+1,out,some),aE,by simpa using hp⟩ (by simp[hw]) (by simp;omega)
  |false=>
   rw[h1]at hp;simp;refine⟨kL.mk (by kernel_rfl),?_⟩;refine aD.mk rY (tE false) ?_;simp;refine aD.mk tV hs ?_;cases h2:a0c p (a3M false)with
   |true=>rw[h2]at hp;simp at hp;simp;refine aD.mk rY (tE false) ?_;simp[<-hp]
   |false=>
    rw[h2]at hp;cases some with
    |true=>simp;refine⟨kL.mk (by kernel_rfl),?_⟩;refine aD.mk zJ hc ?_;simp;exact aX.mk ⟨(k+1,⟨15,[],0,[out,p]⟩,true),aE,by simpa using hp⟩ (by simp[hw]) (by simp;omega)
    |false=>simp;refine aD.mk zJ hc ?_;simp;exact aX.mk ⟨(k+1,p,true),aE,by simpa using hp⟩ (by simp[hw]) (by simp;omega)
 .have hd:L.drop k=[]:=List.drop_eq_nil_of_le (by omega);rw[hd]at hp;simp only[b2K]at hp;simp[aE, <- hp]
end
section
open Go Go.VM
variable {G:GT}
abbrev zL:Ty->DV:=λt=>.d (.agg (tyD t))
abbrev f2n:Option Ty->DV:=λo=>.bY [.agg (tyD (o.getD mW)),.bool o.isSome]
theorem b2f:VM.Enters prog 74:=.mk func74 rfl
theorem b2L:VM.Enters prog 123:=.mk func123 rfl
theorem a5K:VM.Enters prog 77:=.mk func77 rfl
theorem cO:VM.Enters prog 39:=.mk func39 rfl
theorem a9L:VM.Enters prog 124:=.mk func124 rfl
section
variable {aI:List Tok->Nat->Nat->kN Pr} {l:List Tok} (hV:oS G aI l)
include hV
theorem b5g(i:Nat)(hi:i<l.length):qT G 74 [] l i (eO aU l i) f2n:=by
 have hl:=hV.len;have ht:=cJ (G:=G) l i i 0 (by omega) (by omega) (by intro e;subst e;simp at hi) (by omega);obtain⟨j0,rfl⟩:∃j0,j0=i:=⟨_,rfl⟩;have p0:j0<=j0/\j0<l.length:=⟨f7X _,hi⟩;refine mX.bS func74 rfl ntmps74 rfl (by simp) ?_;intro Q Q0;simp;cases h1:aL l j0 [73,110,116]with
 |true=>refine rdT h1 p0 hV.fin λp1=>?_;simp;exact Q0.ok _ (j0+1) _ _ (by unfold eO;rw[if_pos h1]) (.inr rfl) (by simp[tU,eA])
 |false=>
 refine xK h1 p0 ?_;simp;cases h2:aL l j0 [66,111,111,108]with
 |true=>refine rdT h2 p0 hV.fin λp1=>?_;simp;exact Q0.ok _ (j0+1) _ _ (by unfold eO;rw[if_neg (by rw[h1];decide),if_pos h2]) (.inr rfl) (by simp[tU,eA])
 |false=>
 refine xK h2 p0 ?_;simp;cases h3:aL l j0 [67,101,108,108]with
 |true=>refine rdT h3 p0 hV.fin λp1=>?_;simp;exact Q0.ok _ (j0+1) _ _ (by unfold eO;rw[if_neg (by rw[h1];decide),if_neg (by rw[h2];decide),if_pos h3]) (.inr rfl) (by simp[tU,eA])
 |false=>
 refine xK h3 p0 ?_;simp;refine mY (ds:=[.int .i64 0]) bR ht ?_;simp;refine mQ.mk kQ (mR hV.kw (aK l j0)) ?_;cases h4:jY aU (aK l j0)with
 |true=>simp;refine rdX (ds:=[]) cQ (dD hV.kw l j0 hi (by omega)) (λs j hx=>?_) (λn e hx=>by unfold bL mB at hx;rw[if_pos h4]at hx;cases hx);unfold bL mB at hx;rw[if_pos h4]at hx;cases hx;simp;exact Q0.ok _ (j0+1) _ _ (by unfold eO;rw[if_neg (by rw[h1];decide),if_neg (by rw[h2];decide),if_neg (by rw[h3];decide),if_pos h4]) (.inr rfl) (by simp[tU,eA])
 |false=>simp;exact Q0.ok none j0 _ _ (by unfold eO;rw[if_neg (by rw[h1];decide),if_neg (by rw[h2];decide),if_neg (by rw[h3];decide),if_neg (by rw[h4];decide)]) (.inr rfl) (by simp[mW,eA])
theorem b5h(i:Nat)(hi:i<l.length):CH prog G 123 ⟨[.ptr 100000 0],rH l i,[]⟩ ⟨[.d (.bool (b1Q aU l i))],rH l i,[]⟩:=by
 have hl:=hV.len;have ht:=cJ (G:=G) l i i 0 (by omega) (by omega) (by intro e;subst e;simp at hi) (by omega);have hb:=jS (G:=G) l i [123] hi (by omega);have hc:=jS (G:=G) l i [40] hi (by omega);have hw:=mR hV.kw (aK l i);unfold b1Q;refine CH.aR func123 rfl ntmps123 rfl (by simp) ?_;simp;refine c0p (i:=i) (ds:=[.int .i64 0]) bR ht ?_;generalize aK l i=T at ht hw|-;obtain⟨k,x,n,ln⟩:=T;simp[bG];refine aD.mk kQ hw ?_;cases h1:jY aU ⟨k,x,n,ln⟩with
 |true=>simp
 |false=>
  by_cases h2:k=2
  .simp[h2,rM]
  .simp[h2,rM];refine c0p (i:=i) (ds:=[.str [123]]) eV hb ?_;cases h3:aL l i [123]with
   |true=>simp
   |false=>simp;refine c0p (i:=i) (ds:=[.str [40]]) eV hc ?_;simp
def TyI(t:Ty)(i j:Nat):Prop:=(t.pred.op=0->t.pred=a8l)/\bH t.pred+i<=j+1
section
variable {ty:aZ Ty} {low:Nat} (kH:∀i,low<=i->i<l.length->qT G 39 [] l i (ty i) zL) (mT:aB l 0 ty) (ity:∀i t j,i<l.length->ty i=.ok t j->TyI t i j)
include kH mT ity
theorem a7k(i:Nat)(gW:low<=i+1)(hi:i<l.length):qT G 77 [] l i (vW bQ aI l ty i) zL:=by
 have hl:=hV.len;obtain⟨j0,rfl⟩:∃j0,j0=i:=⟨_,rfl⟩;have p0:j0<=j0/\j0<l.length:=⟨f7X _,hi⟩;refine mX.bS func77 rfl ntmps77 rfl (by simp) ?_;intro Q Q0;unfold vW at Q0;simp;refine dG Q0 p0 hV.fin λu1 j1 x1 Q1 p1=>?_;simp;refine rP Q1 p1 cO ((kH j1 (by omega) p1.2)) (mT) λt j2 x2 Q2 p2=>?_;have it:=ity j1 t j2 p1.2 x2;obtain⟨op,nm,args,ns,p,ps⟩:=t;simp only at Q2;simp;by_cases h6:op=6
 .rw[if_pos h6]at Q2;simp[h6];refine rdX (ds:=[]) vB (xF (α:=Ty) l j2 p2.2 (by omega) λ_=>.bY []) (λa j hx=>by unfold dN at hx;cases hx) (λn e hx=>Q2.bad n e _ hx)
 rw[if_neg h6]at Q2;simp[h6];refine dG Q2 p2 hV.fin λu3 j3 x3 Q3 p3=>?_;simp;refine rP Q3 p3 pY (sQ hV j3 p3.2) (hV.sB.pred) λq j4 x4 Q4 p4=>?_;simp;refine dG Q4 p4 hV.fin λu5 j5 x5 Q5 p5=>?_;simp;have hq:=hV.nod _ _ _ _ p3.2 x4;have hs:=a0e (G:=G) p a8l (by have:=it.2;simp only at this;omega);refine mQ.mk tV (CS.args hs (by simp[a8l])) ?_;rw[a9I];have h0:=it.1;simp only at h0;by_cases hz:p=a8l
 .subst hz;simp;exact Q5.ok _ j5 _ _ rfl (.inr rfl) (by simp[a8l])
 .have tO: ¬p.op=0:=λe=>hz (h0 e);have ha:=c3U (G:=G) [p,q] (by intro x hx;have h1:=it.2;simp only at h1;simp only[List.mem_cons,List.not_mem_nil,or_false]at hx;rcases hx with rfl|rfl<;>omega) (by simp)
  simp[hz];refine mQ.mk c0D (by simpa using ha) ?_;simp;exact Q5.ok _ j5 _ _ rfl (.inr rfl) (by simp[tO,bQ])
theorem b2h(i:Nat)(gW:low<=i+1)(hi:i<l.length):qT G 124 [] l i (gR aU bQ aI l ty i) zL:=by
 have hl:=hV.len;obtain⟨j0,rfl⟩:∃j0,j0=i:=⟨_,rfl⟩;have p0:j0<=j0/\j0<l.length:=⟨f7X _,hi⟩;have ht:=cJ (G:=G) l j0 j0 0 (by omega) (by omega) (by intro e;subst e;simp at hi) (by omega);refine mX.bS func124 rfl ntmps124 rfl (by simp) ?_;intro Q Q0;unfold gR at Q0;simp;refine rP Q0 p0 b2f (b5g hV j0 hi) (aB.base hV.fin) λo j1 x1 Q1 p1=>?_;cases o with
 |some t=>obtain⟨op,nm,args,ns,p,ps⟩:=t;simp;exact Q1.ok _ j1 _ _ rfl (.inr rfl) (by simp)
 |none=>
 have hj:=uY x1;subst hj;simp only at Q1;simp[mW,eA];refine mY (ds:=[.int .i64 0]) bR ht ?_;cases hti:rM (aK l j1)with
 |true=>
  rw[hti,if_pos rfl]at Q1;have hk:(aK l j1).kind=2:=by simpa[rM]using hti
  have htt:=kR (G:=G) l j1 p1.2 (by omega);have hx:jB l j1=.ok (aK l j1).text (j1+1):=by unfold jB mB;rw[if_pos hti]
  generalize aK l j1=T at Q1 hk hx|-;obtain⟨k,x,n,ln⟩:=T;simp only at hk;subst hk;simp[bG];refine rdX (ds:=[]) jD htt (λs j h=>?_) (λn e h=>by rw[hx]at h;cases h);rw[hx]at h;cases h;simp;exact Q1.ok _ (j1+1) _ _ rfl (.inr rfl) (by simp[tU,eA])
 |false=>
  rw[hti,if_neg (by decide)]at Q1;have hk: ¬(aK l j1).kind=2:=by simpa[rM]using hti
  generalize aK l j1=T at hk|-;obtain⟨k,x,n,ln⟩:=T;simp only at hk;simp[bG,hk];have hb:=jS (G:=G) l j1 [123] p1.2 (by omega);refine mY (ds:=[.str [123]]) eV hb ?_;cases hs:aL l j1 [123]with
  |true=>rw[hs,if_pos rfl]at Q1;simp;refine rdX (ds:=[]) a5K (a7k hV kH mT ity j1 gW p1.2) (λt j h=>?_) (λn e h=>Q1.bad n e _ h);simp;exact Q1.ok t j _ _ h (.inr rfl) (by simp)
  |false=>rw[hs,if_neg (by decide)]at Q1;simp;refine dG Q1 p1 hV.fin λu2 j2 x2 Q2 p2=>?_;simp;refine rP Q2 p2 cO ((kH j2 (by omega) p2.2)) (mT) λt j3 x3 Q3 p3=>?_;simp;refine dG Q3 p3 hV.fin λu4 j4 x4 Q4 p4=>?_;simp;exact Q4.ok t j4 _ _ rfl (.inr rfl) (by simp)
end
end
end
section
open Go Go.VM
variable {G:GT}
theorem c3V:VM.Enters prog 75:=.mk func75 rfl
theorem b7k:VM.Enters prog 125:=.mk func125 rfl
section
variable {aI:List Tok->Nat->Nat->kN Pr} {l:List Tok} (hV:oS G aI l)
include hV
def a7l(nm:Nm)(args:List Ty)(out:List Pr):List (Nat×aW):=[(100001,.cells [.ptr 100000 0]),(100002,.cells [.d (.int .i64 4),.d (.str nm),.d (.sl (args.map tyC)),.d (.sl []),.d (.int .i64 0),.d (.str []),.d (.int .i64 0),.d (.sl []),.d (.sl (out.map qH))])]
abbrev e1X:List (TypeId×List VM.Loc):=[(43,[.c 100002 8])]
abbrev c3W(aI:List Tok->Nat->Nat->kN Pr)(l:List Tok)(out:List Pr):aZ (List Pr):=do
 aV l [[118],[46]]
 let p <- kO aI l
 pure (out++[p])
theorem c3X(nm:Nm)(args:List Ty)(out:List Pr)(i:Nat)(hi:i<l.length)(a0B:out.length<=i):mX G 125 [.ptr 100001 0,.ptr 100002 0] (a7l nm args out) e1X l i (c3W aI l out i) (λ_=>.bY []) (a7l nm args):=by
 have hl:=hV.len;obtain⟨j0,rfl⟩:∃j0,j0=i:=⟨_,rfl⟩;have p0:j0<=j0/\j0<l.length:=⟨f7X _,hi⟩;refine mX.bS func125 rfl ntmps125 rfl (by simp) ?_;intro Q Q0;simp[a7l];refine dG Q0 p0 hV.fin λu1 j1 x1 Q1 p1=>?_;simp;refine dK 6 (t:=41) (e:=43) (T:=45) (s:=6) (z:=10) (r:=11) (p:=12) (q:=9) (x:=8) (b:=13) (y:=1) (fd:=5) [0] 3 [2] (a4C 1 4 5) (gX (kO aI l j1)) rfl rfl rfl rfl rfl (by kernel_rfl) (by kernel_rfl) rfl ?_;simp
 repeat' apply And.intro
 all_goals
  refine pD Q1 p1 pY (sQ hV j1 p1.2) (hV.sB.pred) λq j2 x2 Q2 p2=>cI.mk ?_;simp
 all_goals
  refine⟨_,_,_,_,_,_,_,_,_,by simp,rfl,rfl,?_,rfl,rfl,?_,by simp,rfl,rfl,rfl,rfl,by decide,rfl,?_⟩
  .intro c hc
   first
    |(obtain⟨y,_,rfl⟩:=List.mem_map.1 hc
      rw[cN]
      rfl)
    |(simp only[f7O]at hc
      subst hc
      rfl)
  .simp<;>omega
  exact Q2.ok _ j2 .normal _ rfl (.inl rfl) (by simp[a7l,cN])
theorem d0f(nm:Nm)(args:List Ty):a0Y l K3 [.ptr 100001 0,.ptr 100002 0] (a7l nm args) e1X:=by
 constructor
 all_goals intros
 all_goals first
  |rfl
  |simp[a7l,aJ,aT,aN,aM,bC,getKey,aQ,bA,cH,rk,cP,bM, *]
theorem d0g(a:List Pr)(i:Nat)(b:List Pr)(j:Nat)(h:c3W aI l a i=.ok b j):b.length=a.length+1:=by
 simp only[c3W,cX]at h
 repeat' split at h
 all_goals first|cases h|skip
 all_goals simp
theorem b0T(out:List Pr):aB l 1 (c3W aI l out):=(aB.exp hV.fin _ _).bl λ_=>hV.sB.pred.bl λ_=>aB.bE _
theorem xL{α:Type}{c:Nat->Bool}{one:α->aZ α}{g:Nat}{a b:α}{i j:Nat}(hc:c i=true)(h:one a i=.ok b j):dQ c one (g+1) a i=dQ c one g b j:=by rw[dQ];simp only[hc,if_true,h]
theorem rF{α:Type}{c:Nat->Bool}{one:α->aZ α}{g:Nat}{a:α}{i:Nat}{n e:Int}(hc:c i=true)(h:one a i=.bad n e):dQ c one (g+1) a i=.bad n e:=by rw[dQ];simp only[hc,if_true,h]
theorem xM{α:Type}{c:Nat->Bool}{one:α->aZ α}{g:Nat}{a:α}{i:Nat}(hc:c i=false):dQ c one (g+1) a i=.ok a i:=by rw[dQ];simp only[hc,Bool.false_eq_true,if_false]
section
variable {ty:aZ Ty} {low:Nat} (kH:∀i,low<=i->i<l.length->qT G 39 [] l i (ty i) zL) (mT:aB l 0 ty) (ity:∀i t j,i<l.length->ty i=.ok t j->TyI t i j)
include kH mT ity
abbrev d9A(aI:List Tok->Nat->Nat->kN Pr)(l:List Tok)(ty:aZ Ty)(out:List Ty):aZ (List Ty):=do let t <- gR aU bQ aI l ty;pure (out++[t])
theorem c6I(i:Nat)(gW:low<=i+1)(hi:i<l.length):qT G 75 [] l i (uB aU bQ aI l ty i) zL:=by
 have hl:=hV.len;obtain⟨j0,rfl⟩:∃j0,j0=i:=⟨_,rfl⟩;have p0:j0<=j0/\j0<l.length:=⟨f7X _,hi⟩;refine mX.bS func75 rfl ntmps75 rfl (by simp) ?_;intro Q Q0;unfold uB at Q0;simp;refine rP Q0 p0 jD (kR l j0 p0.2 (by omega)) (aB.title hV.fin) λnm j1 x1 Q1 p1=>?_;simp;refine SW.yP (ι:={x:List Ty×Nat×Nat//j1<=x.2.1/\x.2.1<l.length/\l.length<x.2.2+x.2.1/\x.1.length<=x.2.1/\dQ (b1Q aU l) (d9A aI l ty) x.2.2 x.1 x.2.1=rN l (b1Q aU l) (d9A aI l ty) [] j1}) (λ_=>[]) (λx=>[(1,.cells [.ptr 100000 0]),(2,.cells [.d (.int .i64 0),.d (.str []),.d .aF,.d .aF,.d (.int .i64 0),.d (.str []),.d (.int .i64 0),.d .aF,.d .aF]),(3,.cells [.d (.int .i64 4),.d (.str nm),.d (.sl (x.1.1.map tyC)),.d .aF,.d (.int .i64 0),.d (.str []),.d (.int .i64 0),.d .aF,.d .aF]),(100000,rdO l x.1.2.1)]) (λ_=>[(45,[.c 3 2])]) (λx=>l.length-x.1.2.1) ⟨([],j1,l.length+2),f7X _,p1.2,by simp only;omega,by simp,rfl⟩ (by simp) ?_;rintro⟨⟨out,j2,g⟩,hb,sM,hg,ho,hp⟩;simp only at hb sM hg ho hp;obtain⟨g,rfl⟩:∃k,g=k+1:=⟨g-1,by omega⟩;simp;refine mY (i:=j2) (ds:=[]) b2L (b5h hV j2 sM) ?_;by_cases hc:b1Q aU l j2=true
 .simp[hc];refine dK 6 (t:=28) (e:=45) (T:=45) (s:=10) (z:=14) (r:=15) (p:=16) (q:=13) (x:=12) (b:=17) (y:=3) (fd:=2) [0] 3 [2] (a4C 1 4 5) (gX (gR aU bQ aI l ty j2)) rfl rfl rfl rfl rfl (by kernel_rfl) (by kernel_rfl) rfl ?_;simp
  repeat' apply And.intro
  all_goals
   refine rdZ (ds:=[]) a9L (b2h hV kH mT ity j2 (by omega) sM) (λt j3 x3=>?_) (λn e hx=>?_)
   .have p3:=aB.zF hV.fin mT hV.sB.pred j2 t j3 sM x3;have h1:d9A aI l ty out j2=.ok (out++[t]) j3:=(bN x3).trans rfl;rw[xL hV hc h1]at hp;refine cI.mk ?_;simp;refine⟨_,_,_,_,_,_,_,_,_,by simp,rfl,rfl,?_,rfl,rfl,?_,by simp,rfl,rfl,rfl,rfl,by decide,rfl,?_⟩
    .intro c hc
     first
      |(obtain⟨y,_,rfl⟩:=List.mem_map.1 hc
        rw[bU]
        rfl)
      |(simp only[f7O]at hc
        subst hc
        rfl)
    .simp<;>omega
    refine aX.mk ⟨(out++[t],j3,g),by simp only;omega,p3.2,by simp only;omega,by simp;omega,hp⟩ (by simp[bU]) (by simp;omega)
   .have h1:d9A aI l ty out j2=.bad n e:=gQ hx;rw[rF hV hc h1]at hp;simp;exact λs=>Q1.fail hp.symm s
 .have hc:=Bool.eq_false_iff.2 hc;rw[xM hV hc]at hp;have Q2:=Q1.step hp.symm;have p2:j1<=j2/\j2<l.length:=⟨hb,sM⟩;simp[hc];cases hs:aL l j2 [60]with
  |false=>have Q3:=Q2.step (jU hs);rw[if_neg (by decide)]at Q3;refine xK hs p2 ?_;simp;exact Q3.ok _ j2 _ _ rfl (.inr rfl) (by simp[tU,eA])
  |true=>
   have Q3:=Q2.step (jT hs);rw[if_pos rfl]at Q3;refine rdT hs p2 hV.fin λp3=>?_;obtain⟨j3,hj3⟩:∃j3,j2+1=j3:=⟨_,rfl⟩;rw[hj3]at Q3 p3|-;simp;have kD:=eP hV [44] (c3W aI l) (λout i=>out.length<=i) 0 b7k (d0f hV nm out) (λa=>(b0T hV a).le (by omega)) (λa i _ hi h=>c3X hV nm out a i hi h) (λa i b j hi h hx=>by have h1:=b0T hV a i b j hi hx;have h2:=d0g hV a i b j hx;omega) (λa i h=>by omega) [] j3 (by omega) p3.2 (by simp)
   refine dC.mk (a0b dH kD [(100000,100000),(100001,1),(100002,3)] (λa j hx=>?_) ?_ ?_ ?_ rfl rfl (λws j4 x4=>?_) (λn e wN=>Q3.fail wN _))
   .simp[a7l,aJ,aT,aN,aM,bC,getKey]
   .simp[a7l,aJ,aT,aN,aM,bC,getKey]
   .simp[aQ,bA,rk]
   .simp[a7l,aQ,bA,rk,cH,cP]
   .have Q4:=Q3.step x4;have p4:=aB.list hV.fin (λa=>b0T hV a) [] j3 ws j4 p3.2 x4;simp[bD,a7l,aQ,bA,rk,cH,cP,bM,jA,eZ,dJ];refine dG Q4 p4 hV.fin λu5 j5 x5 Q5 p5=>?_;simp;exact Q5.ok _ j5 _ _ rfl (.inr rfl) (by simp[tU,eA])
end
end
end
section
open Go Go.VM
variable {G:GT}
theorem c6J:VM.Enters prog 78:=.mk func78 rfl
theorem c0E:VM.Enters prog 130:=.mk func130 rfl
theorem c0F:VM.Enters prog 131:=.mk func131 rfl
section
variable {aI:List Tok->Nat->Nat->kN Pr} {l:List Tok} (hV:oS G aI l)
include hV
def a1r(out:List Nm×List Ty):List (Nat×aW):=[(100001,.cells [.d (.int .i64 6),.d (.str []),.d (.sl (out.2.map tyC)),.d (.sl (strs out.1)),.d (.int .i64 0),.d (.str []),.d (.int .i64 0),.d (.sl []),.d (.sl [])]),(100002,.cells [.ptr 100000 0])]
abbrev e5c:List (TypeId×List VM.Loc):=[(45,[.c 100001 2]),(9,[.c 100001 3])]
abbrev a5L(l:List Tok)(ty:aZ Ty)(out:List Nm×List Ty):aZ (List Nm×List Ty):=do
 let w <- bL aU l
 aV l [[58]]
 let t <- ty
 pure (out.1++[w],out.2++[t])
abbrev a4m(ty:aZ Ty)(out:List Nm×List Ty):aZ (List Nm×List Ty):=do
 let t <- ty
 pure (out.1,out.2++[t])
theorem sR{α:Type}{c:Nm}{one:α->aZ α}(I:α->Nat->Prop)(h1:∀a i b j,i<l.length->I a i->one a i=.ok b j->I b j/\j<l.length)(hm:∀a i,I a i->I a (i+1)):∀(g:Nat) (a:α) (i:Nat) (b:α) (j:Nat),i<l.length->I a i->gA l c one g a i=.ok b j->I b j/\j<l.length
 |0,a,i,b,j,_,_,h=>by unfold gA at h;cases h
 |g+1,a,i,b,j,hi,ha,h=>by
  unfold gA at h;split at h
  .cases h
  .rename_i b' j' ho;have k1:=h1 a i b' j' hi ha ho;split at h
   .rename_i hs;exact sR I h1 hm g b' (j'+1) b j (aH hV.fin k1.2 hs) (hm _ _ k1.1) h
   .cases h;exact k1
theorem c3Y:a0Y l K3 [.ptr 100001 0,.ptr 100002 0] a1r e5c:=by
 constructor
 all_goals intros
 all_goals first
  |rfl
  |simp[a1r,aJ,aT,aN,aM,bC,getKey,aQ,bA,cH,rk,cP,bM, *]
omit hV in
theorem b8O{ty:aZ Ty}(a:List Nm×List Ty)(i:Nat)(b:List Nm×List Ty)(j:Nat)(h:a5L l ty a i=.ok b j):b.1.length=a.1.length+1/\b.2.length=a.2.length+1:=by
 simp only[a5L,cX]at h
 repeat' split at h
 all_goals first|cases h|skip
 all_goals simp
omit hV in
theorem d0h{ty:aZ Ty}(a:List Nm×List Ty)(i:Nat)(b:List Nm×List Ty)(j:Nat)(h:a4m ty a i=.ok b j):b.1=a.1/\b.2.length=a.2.length+1:=by
 simp only[a4m,cX]at h
 repeat' split at h
 all_goals first|cases h|skip
 all_goals simp
section
variable {ty:aZ Ty} {low:Nat} (kH:∀i,low<=i->i<l.length->qT G 39 [] l i (ty i) zL) (mT:aB l 1 ty)
include kH mT
theorem c6K(out:List Nm×List Ty)(i:Nat)(gW:low<=i)(hi:i<l.length)(a0B:out.1.length<=i/\out.2.length<=i):mX G 130 [.ptr 100001 0,.ptr 100002 0] (a1r out) e5c l i (a5L l ty out i) (λ_=>.bY []) a1r:=by
 have hl:=hV.len;obtain⟨j0,rfl⟩:∃j0,j0=i:=⟨_,rfl⟩;have p0:j0<=j0/\j0<l.length:=⟨f7X _,hi⟩;refine mX.bS func130 rfl ntmps130 rfl (by simp) ?_;intro Q Q0;simp[a1r];refine gH [0] 3 [2] (.op 1 (.call [4,5,6,7] .none) (.call [1,4,5,6,7] .none)) (gX (bL aU l j0)) (by kernel_rfl) (by kernel_rfl) ?_;simp;refine⟨?_,?_⟩
 all_goals
  refine pD Q0 p0 cQ (dD hV.kw l j0 p0.2 (by omega)) (aB.word hV.fin) λw j1 x1 Q1 p1=>cI.mk ?_;simp;refine cF (by omega) ?_;simp;refine dG Q1 p1 hV.fin λu2 j2 x2 Q2 p2=>?_;simp;refine dK 6 (t:=28) (e:=45) (T:=45) (s:=13) (z:=17) (r:=18) (p:=19) (q:=16) (x:=15) (b:=20) (y:=0) (fd:=2) [0] 3 [2] (a4C 1 4 5) (gX (ty j2)) rfl rfl rfl rfl rfl (by kernel_rfl) (by kernel_rfl) rfl ?_;simp
  repeat' apply And.intro
  all_goals
   refine pD Q2 p2 cO ((kH j2 (by omega) p2.2)) (mT) λt j3 x3 Q3 p3=>cI.mk ?_;simp;refine⟨_,_,_,_,_,_,_,_,_,by simp,rfl,rfl,?_,rfl,rfl,?_,by simp,rfl,rfl,rfl,rfl,by decide,rfl,?_⟩
   .intro c hc
    first
     |(obtain⟨y,_,rfl⟩:=List.mem_map.1 hc
       rw[bU]
       rfl)
     |(simp only[f7O]at hc
       subst hc
       rfl)
   .simp<;>omega
   exact Q3.ok _ j3 .normal _ rfl (.inl rfl) (by simp[a1r,bU,a0o])
theorem c6L(out:List Nm×List Ty)(i:Nat)(gW:low<=i)(hi:i<l.length)(a0B:out.1.length<=i/\out.2.length<=i):mX G 131 [.ptr 100001 0,.ptr 100002 0] (a1r out) e5c l i (a4m ty out i) (λ_=>.bY []) a1r:=by
 have hl:=hV.len;obtain⟨j2,rfl⟩:∃j2,j2=i:=⟨_,rfl⟩;have p2:j2<=j2/\j2<l.length:=⟨f7X _,hi⟩;refine mX.bS func131 rfl ntmps131 rfl (by simp) ?_;intro Q Q2;simp[a1r];refine dK 6 (t:=28) (e:=45) (T:=45) (s:=3) (z:=7) (r:=8) (p:=9) (q:=6) (x:=5) (b:=10) (y:=0) (fd:=2) [0] 3 [2] (a4C 1 4 5) (gX (ty j2)) rfl rfl rfl rfl rfl (by kernel_rfl) (by kernel_rfl) rfl ?_;simp
 repeat' apply And.intro
 all_goals
  refine pD Q2 p2 cO ((kH j2 (by omega) p2.2)) (mT) λt j3 x3 Q3 p3=>cI.mk ?_;simp;refine⟨_,_,_,_,_,_,_,_,_,by simp,rfl,rfl,?_,rfl,rfl,?_,by simp,rfl,rfl,rfl,rfl,by decide,rfl,?_⟩
  .intro c hc
   first
    |(obtain⟨y,_,rfl⟩:=List.mem_map.1 hc
      rw[bU]
      rfl)
    |(simp only[f7O]at hc
      subst hc
      rfl)
  .simp<;>omega
  exact Q3.ok _ j3 .normal _ rfl (.inl rfl) (by simp[a1r,bU])
theorem b0U(out:List Nm×List Ty):aB l 1 (a5L l ty out):=(aB.word hV.fin).bl λ_=>((aB.exp hV.fin _ _).le (by omega)).bl λ_=>(mT.le (by omega)).bl λ_=>aB.bE _
omit hV in
theorem a6z(out:List Nm×List Ty):aB l 1 (a4m ty out):=mT.bl λ_=>aB.bE _
theorem b5i(a:List Nm×List Ty)(i:Nat)(b:List Nm×List Ty)(j:Nat)(hi:i<l.length)(h:a.1.length<=i/\a.2.length<=i)(hx:a5L l ty a i=.ok b j):(b.1.length<=j/\b.2.length<=j)/\j<l.length:=by have h1:=b0U hV kH mT a i b j hi hx;have h2:=b8O a i b j hx;omega
omit hV in
theorem a8m(a:List Nm×List Ty)(i:Nat)(b:List Nm×List Ty)(j:Nat)(hi:i<l.length)(h:a.1.length<=i/\a.2.length<=i)(hx:a4m ty a i=.ok b j):(b.1.length<=j/\b.2.length<=j)/\j<l.length:=by have h1:=a6z kH mT a i b j hi hx;have h2:=d0h a i b j hx;rw[h2.1];omega
theorem d0i(i:Nat)(gW:low<=i+1)(hi:i<l.length):qT G 78 [] l i (vX aU l ty i) zL:=by
 have hl:=hV.len;obtain⟨j0,rfl⟩:∃j0,j0=i:=⟨_,rfl⟩;have p0:j0<=j0/\j0<l.length:=⟨f7X _,hi⟩;refine mX.bS func78 rfl ntmps78 rfl (by simp) ?_;intro Q Q0;unfold vX at Q0;simp;refine dG Q0 p0 hV.fin λu1 j1 x1 Q1 p1=>?_;simp;have ht:=cJ (G:=G) l j1 j1 0 (by omega) (by omega) (by intro e;subst e;simp at hi) (by omega);have ht1:=cJ (G:=G) l j1 (j1+1) 1 (by omega) (by omega) (by intro e;subst e;simp at hi) (by omega);refine mY (ds:=[.int .i64 0]) bR ht ?_;simp;refine mQ.mk kQ (mR hV.kw (aK l j1)) ?_;have hK:∀(b:Bool),(jY aU (aK l j1)&&cK (aK l (j1+1)) [58])=b->((λi=>if jY aU (aK l i)&&cK (aK l (i+1)) [58] then dE l [44] (a5L l ty) ([],[]) i else dE l [44] (a4m ty) ([],[]) i:aZ (List Nm×List Ty)) j1)=if b then dE l [44] (a5L l ty) ([],[]) j1 else dE l [44] (a4m ty) ([],[]) j1:=λb hb=>by simp only[hb]
 have e8J:=eP hV [44] (a5L l ty) (λout i=>out.1.length<=i/\out.2.length<=i) low c0E (c3Y hV) (λa=>(b0U hV kH mT a).le (by omega)) (λa i rT hi h=>c6K hV kH mT a i rT hi h) (λa i b j hi h hx=>(b5i hV kH mT a i b j hi h hx).1) (λa i h=>by omega) ([],[]) j1 (by omega) p1.2 (by simp);have e1Y:=eP hV [44] (a4m ty) (λout i=>out.1.length<=i/\out.2.length<=i) low c0F (c3Y hV) (λa=>(a6z kH mT a).le (by omega)) (λa i rT hi h=>c6L hV kH mT a i rT hi h) (λa i b j hi h hx=>(a8m kH mT a i b j hi h hx).1) (λa i h=>by omega) ([],[]) j1 (by omega) p1.2 (by simp);cases hw:jY aU (aK l j1)with
 |false=>
  have hx:=hK false (by rw[hw];rfl);rw[if_neg (by decide)]at hx;simp;refine dC.mk (a0b dH e1Y [(100000,100000),(100001,3),(100002,1)] (λa j hx=>?_) ?_ ?_ ?_ rfl rfl (λws j2 x2=>?_) (λn e wN=>Q1.fail (hx.trans wN) _))
  .simp[a1r,aJ,aT,aN,aM,bC,getKey]
  .simp[a1r,aJ,aT,aN,aM,bC,getKey]
  .simp[aQ,bA,rk]
  .simp[a1r,aQ,bA,rk,cH,cP]
  .have Q2:=Q1.step (hx.trans x2);have p2:=aB.list hV.fin (λa=>a6z kH mT a) ([],[]) j1 ws j2 p1.2 x2;have hlen:ws.1.length<=50000/\ws.2.length<=50000:=by have:=sR hV (one:=a4m ty) (λa i=>a.1.length<=i/\a.2.length<=i) (a8m kH mT) (λa i h=>by omega) _ _ _ _ _ p1.2 (by simp) x2;omega
   simp[bD,a1r,aQ,bA,rk,cH,cP,bM,jA,eZ,dJ];obtain⟨ns,ts⟩:=ws;simp only at Q2 hlen;refine dG Q2 p2 hV.fin λu3 j3 x3 Q3 p3=>?_;simp;by_cases hn:ns.length=0
   .have hn0:ns=[]:=List.eq_nil_of_length_eq_zero hn;subst hn0;by_cases h1:ts.length=1
    .obtain⟨t,rfl⟩:=List.length_eq_one_iff.1 h1;have hb:=jS (G:=G) l j3 [45,62] p3.2 (by omega);simp;refine mY (ds:=[.str [45,62]]) eV hb ?_;cases hs:aL l j3 [45,62]with
     |false=>have Q3:=Q3.ifp (by simp[hs]);simp;exact Q3.ok _ j3 _ _ rfl (.inr rfl) (by simp[bU])
     |true=>
      have Q3:=Q3.wP (by simp[hs]);simp;refine dG Q3 p3 hV.fin λu4 j4 x4 Q4 p4=>?_;simp;refine dK 6 (t:=28) (e:=45) (T:=45) (s:=48) (z:=52) (r:=53) (p:=54) (q:=51) (x:=50) (b:=55) (y:=3) (fd:=2) [0] 3 [2] (a4C 1 4 5) (gX (ty j4)) rfl rfl rfl rfl rfl (by kernel_rfl) (by kernel_rfl) rfl ?_;simp
      repeat' apply And.intro
      all_goals
       refine pD Q4 p4 cO ((kH j4 (by omega) p4.2)) (mT) λt5 j5 x5 Q5 p5=>cI.mk ?_;simp;refine⟨_,_,_,_,_,_,_,_,_,by simp,rfl,rfl,?_,rfl,rfl,?_,by simp,rfl,rfl,rfl,rfl,by decide,rfl,?_⟩
       .intro c hc
        first
         |(obtain⟨y,_,rfl⟩:=List.mem_map.1 hc
           rw[bU]
           rfl)
         |(simp only[f7O]at hc
           subst hc
           rfl)
       .simp<;>omega
       simp;exact Q5.ok _ j5 _ _ rfl (.inr rfl) (by simp[tU,eA,bU])
    .have Q3:=Q3.wP (by simp[h1]);simp[h1];refine dG Q3 p3 hV.fin λu4 j4 x4 Q4 p4=>?_;simp;refine dK 6 (t:=28) (e:=45) (T:=45) (s:=48) (z:=52) (r:=53) (p:=54) (q:=51) (x:=50) (b:=55) (y:=3) (fd:=2) [0] 3 [2] (a4C 1 4 5) (gX (ty j4)) rfl rfl rfl rfl rfl (by kernel_rfl) (by kernel_rfl) rfl ?_;simp
     repeat' apply And.intro
     all_goals
      refine pD Q4 p4 cO ((kH j4 (by omega) p4.2)) (mT) λt5 j5 x5 Q5 p5=>cI.mk ?_;simp;refine⟨_,_,_,_,_,_,_,_,_,by simp,rfl,rfl,?_,rfl,rfl,?_,by simp,rfl,rfl,rfl,rfl,by decide,rfl,?_⟩
      .intro c hc
       first
        |(obtain⟨y,_,rfl⟩:=List.mem_map.1 hc
          rw[bU]
          rfl)
        |(simp only[f7O]at hc
          subst hc
          rfl)
      .simp<;>omega
      simp;exact Q5.ok _ j5 _ _ rfl (.inr rfl) (by simp[tU,eA,bU])
   .have Q3:=Q3.wP (by simp[hn]);have hn': ¬(ns.length:Int)=0:=by omega
    have hn2: ¬ns=[]:=λe=>hn (by rw[e];rfl);simp[hn,hn',hn2];refine dG Q3 p3 hV.fin λu4 j4 x4 Q4 p4=>?_;simp;refine dK 6 (t:=28) (e:=45) (T:=45) (s:=48) (z:=52) (r:=53) (p:=54) (q:=51) (x:=50) (b:=55) (y:=3) (fd:=2) [0] 3 [2] (a4C 1 4 5) (gX (ty j4)) rfl rfl rfl rfl rfl (by kernel_rfl) (by kernel_rfl) rfl ?_;simp
    repeat' apply And.intro
    all_goals
     refine pD Q4 p4 cO ((kH j4 (by omega) p4.2)) (mT) λt5 j5 x5 Q5 p5=>cI.mk ?_;simp;refine⟨_,_,_,_,_,_,_,_,_,by simp,rfl,rfl,?_,rfl,rfl,?_,by simp,rfl,rfl,rfl,rfl,by decide,rfl,?_⟩
     .intro c hc
      first
       |(obtain⟨y,_,rfl⟩:=List.mem_map.1 hc
         rw[bU]
         rfl)
       |(simp only[f7O]at hc
         subst hc
         rfl)
     .simp<;>omega
     simp;exact Q5.ok _ j5 _ _ rfl (.inr rfl) (by simp[tU,eA,bU])
 |true=>
  simp;refine mY (ds:=[.int .i64 1]) bR ht1 ?_;simp;refine mQ.mk mC (oD (aK l (j1+1)) [58]) ?_;cases hf:cK (aK l (j1+1)) [58]with
  |false=>
   have hx:=hK false (by rw[hw,hf];rfl);rw[if_neg (by decide)]at hx;simp;refine dC.mk (a0b dH e1Y [(100000,100000),(100001,3),(100002,1)] (λa j hx=>?_) ?_ ?_ ?_ rfl rfl (λws j2 x2=>?_) (λn e wN=>Q1.fail (hx.trans wN) _))
   .simp[a1r,aJ,aT,aN,aM,bC,getKey]
   .simp[a1r,aJ,aT,aN,aM,bC,getKey]
   .simp[aQ,bA,rk]
   .simp[a1r,aQ,bA,rk,cH,cP]
   .have Q2:=Q1.step (hx.trans x2);have p2:=aB.list hV.fin (λa=>a6z kH mT a) ([],[]) j1 ws j2 p1.2 x2;have hlen:ws.1.length<=50000/\ws.2.length<=50000:=by have:=sR hV (one:=a4m ty) (λa i=>a.1.length<=i/\a.2.length<=i) (a8m kH mT) (λa i h=>by omega) _ _ _ _ _ p1.2 (by simp) x2;omega
    simp[bD,a1r,aQ,bA,rk,cH,cP,bM,jA,eZ,dJ];obtain⟨ns,ts⟩:=ws;simp only at Q2 hlen;refine dG Q2 p2 hV.fin λu3 j3 x3 Q3 p3=>?_;simp;by_cases hn:ns.length=0
    .have hn0:ns=[]:=List.eq_nil_of_length_eq_zero hn;subst hn0;by_cases h1:ts.length=1
     .obtain⟨t,rfl⟩:=List.length_eq_one_iff.1 h1;have hb:=jS (G:=G) l j3 [45,62] p3.2 (by omega);simp;refine mY (ds:=[.str [45,62]]) eV hb ?_;cases hs:aL l j3 [45,62]with
      |false=>have Q3:=Q3.ifp (by simp[hs]);simp;exact Q3.ok _ j3 _ _ rfl (.inr rfl) (by simp[bU])
      |true=>
       have Q3:=Q3.wP (by simp[hs]);simp;refine dG Q3 p3 hV.fin λu4 j4 x4 Q4 p4=>?_;simp;refine dK 6 (t:=28) (e:=45) (T:=45) (s:=48) (z:=52) (r:=53) (p:=54) (q:=51) (x:=50) (b:=55) (y:=3) (fd:=2) [0] 3 [2] (a4C 1 4 5) (gX (ty j4)) rfl rfl rfl rfl rfl (by kernel_rfl) (by kernel_rfl) rfl ?_;simp
       repeat' apply And.intro
       all_goals
        refine pD Q4 p4 cO ((kH j4 (by omega) p4.2)) (mT) λt5 j5 x5 Q5 p5=>cI.mk ?_;simp;refine⟨_,_,_,_,_,_,_,_,_,by simp,rfl,rfl,?_,rfl,rfl,?_,by simp,rfl,rfl,rfl,rfl,by decide,rfl,?_⟩
        .intro c hc
         first
          |(obtain⟨y,_,rfl⟩:=List.mem_map.1 hc
            rw[bU]
            rfl)
          |(simp only[f7O]at hc
            subst hc
            rfl)
        .simp<;>omega
        simp;exact Q5.ok _ j5 _ _ rfl (.inr rfl) (by simp[tU,eA,bU])
     .have Q3:=Q3.wP (by simp[h1]);simp[h1];refine dG Q3 p3 hV.fin λu4 j4 x4 Q4 p4=>?_;simp;refine dK 6 (t:=28) (e:=45) (T:=45) (s:=48) (z:=52) (r:=53) (p:=54) (q:=51) (x:=50) (b:=55) (y:=3) (fd:=2) [0] 3 [2] (a4C 1 4 5) (gX (ty j4)) rfl rfl rfl rfl rfl (by kernel_rfl) (by kernel_rfl) rfl ?_;simp
      repeat' apply And.intro
      all_goals
       refine pD Q4 p4 cO ((kH j4 (by omega) p4.2)) (mT) λt5 j5 x5 Q5 p5=>cI.mk ?_;simp;refine⟨_,_,_,_,_,_,_,_,_,by simp,rfl,rfl,?_,rfl,rfl,?_,by simp,rfl,rfl,rfl,rfl,by decide,rfl,?_⟩
       .intro c hc
        first
         |(obtain⟨y,_,rfl⟩:=List.mem_map.1 hc
           rw[bU]
           rfl)
         |(simp only[f7O]at hc
           subst hc
           rfl)
       .simp<;>omega
       simp;exact Q5.ok _ j5 _ _ rfl (.inr rfl) (by simp[tU,eA,bU])
    .have Q3:=Q3.wP (by simp[hn]);have hn': ¬(ns.length:Int)=0:=by omega
     have hn2: ¬ns=[]:=λe=>hn (by rw[e];rfl);simp[hn,hn',hn2];refine dG Q3 p3 hV.fin λu4 j4 x4 Q4 p4=>?_;simp;refine dK 6 (t:=28) (e:=45) (T:=45) (s:=48) (z:=52) (r:=53) (p:=54) (q:=51) (x:=50) (b:=55) (y:=3) (fd:=2) [0] 3 [2] (a4C 1 4 5) (gX (ty j4)) rfl rfl rfl rfl rfl (by kernel_rfl) (by kernel_rfl) rfl ?_;simp
     repeat' apply And.intro
     all_goals
      refine pD Q4 p4 cO ((kH j4 (by omega) p4.2)) (mT) λt5 j5 x5 Q5 p5=>cI.mk ?_;simp;refine⟨_,_,_,_,_,_,_,_,_,by simp,rfl,rfl,?_,rfl,rfl,?_,by simp,rfl,rfl,rfl,rfl,by decide,rfl,?_⟩
      .intro c hc
       first
        |(obtain⟨y,_,rfl⟩:=List.mem_map.1 hc
          rw[bU]
          rfl)
        |(simp only[f7O]at hc
          subst hc
          rfl)
      .simp<;>omega
      simp;exact Q5.ok _ j5 _ _ rfl (.inr rfl) (by simp[tU,eA,bU])
  |true=>
   have hx:=hK true (by rw[hw,hf];rfl);rw[if_pos rfl]at hx;simp;refine dC.mk (a0b dH e8J [(100000,100000),(100001,3),(100002,1)] (λa j hx=>?_) ?_ ?_ ?_ rfl rfl (λws j2 x2=>?_) (λn e wN=>Q1.fail (hx.trans wN) _))
   .simp[a1r,aJ,aT,aN,aM,bC,getKey]
   .simp[a1r,aJ,aT,aN,aM,bC,getKey]
   .simp[aQ,bA,rk]
   .simp[a1r,aQ,bA,rk,cH,cP]
   .have Q2:=Q1.step (hx.trans x2);have p2:=aB.list hV.fin (λa=>b0U hV kH mT a) ([],[]) j1 ws j2 p1.2 x2;have hlen:ws.1.length<=50000/\ws.2.length<=50000:=by have:=sR hV (one:=a5L l ty) (λa i=>a.1.length<=i/\a.2.length<=i) (b5i hV kH mT) (λa i h=>by omega) _ _ _ _ _ p1.2 (by simp) x2;omega
    simp[bD,a1r,aQ,bA,rk,cH,cP,bM,jA,eZ,dJ];obtain⟨ns,ts⟩:=ws;simp only at Q2 hlen;refine dG Q2 p2 hV.fin λu3 j3 x3 Q3 p3=>?_;simp;by_cases hn:ns.length=0
    .have hn0:ns=[]:=List.eq_nil_of_length_eq_zero hn;subst hn0;by_cases h1:ts.length=1
     .obtain⟨t,rfl⟩:=List.length_eq_one_iff.1 h1;have hb:=jS (G:=G) l j3 [45,62] p3.2 (by omega);simp;refine mY (ds:=[.str [45,62]]) eV hb ?_;cases hs:aL l j3 [45,62]with
      |false=>have Q3:=Q3.ifp (by simp[hs]);simp;exact Q3.ok _ j3 _ _ rfl (.inr rfl) (by simp[bU])
      |true=>
       have Q3:=Q3.wP (by simp[hs]);simp;refine dG Q3 p3 hV.fin λu4 j4 x4 Q4 p4=>?_;simp;refine dK 6 (t:=28) (e:=45) (T:=45) (s:=48) (z:=52) (r:=53) (p:=54) (q:=51) (x:=50) (b:=55) (y:=3) (fd:=2) [0] 3 [2] (a4C 1 4 5) (gX (ty j4)) rfl rfl rfl rfl rfl (by kernel_rfl) (by kernel_rfl) rfl ?_;simp
       repeat' apply And.intro
       all_goals
        refine pD Q4 p4 cO ((kH j4 (by omega) p4.2)) (mT) λt5 j5 x5 Q5 p5=>cI.mk ?_;simp;refine⟨_,_,_,_,_,_,_,_,_,by simp,rfl,rfl,?_,rfl,rfl,?_,by simp,rfl,rfl,rfl,rfl,by decide,rfl,?_⟩
        .intro c hc
         first
          |(obtain⟨y,_,rfl⟩:=List.mem_map.1 hc
            rw[bU]
            rfl)
          |(simp only[f7O]at hc
            subst hc
            rfl)
        .simp<;>omega
        simp;exact Q5.ok _ j5 _ _ rfl (.inr rfl) (by simp[tU,eA,bU])
     .have Q3:=Q3.wP (by simp[h1]);simp[h1];refine dG Q3 p3 hV.fin λu4 j4 x4 Q4 p4=>?_;simp;refine dK 6 (t:=28) (e:=45) (T:=45) (s:=48) (z:=52) (r:=53) (p:=54) (q:=51) (x:=50) (b:=55) (y:=3) (fd:=2) [0] 3 [2] (a4C 1 4 5) (gX (ty j4)) rfl rfl rfl rfl rfl (by kernel_rfl) (by kernel_rfl) rfl ?_;simp
      repeat' apply And.intro
      all_goals
       refine pD Q4 p4 cO ((kH j4 (by omega) p4.2)) (mT) λt5 j5 x5 Q5 p5=>cI.mk ?_;simp;refine⟨_,_,_,_,_,_,_,_,_,by simp,rfl,rfl,?_,rfl,rfl,?_,by simp,rfl,rfl,rfl,rfl,by decide,rfl,?_⟩
       .intro c hc
        first
         |(obtain⟨y,_,rfl⟩:=List.mem_map.1 hc
           rw[bU]
           rfl)
         |(simp only[f7O]at hc
           subst hc
           rfl)
       .simp<;>omega
       simp;exact Q5.ok _ j5 _ _ rfl (.inr rfl) (by simp[tU,eA,bU])
    .have Q3:=Q3.wP (by simp[hn]);have hn': ¬(ns.length:Int)=0:=by omega
     have hn2: ¬ns=[]:=λe=>hn (by rw[e];rfl);simp[hn,hn',hn2];refine dG Q3 p3 hV.fin λu4 j4 x4 Q4 p4=>?_;simp;refine dK 6 (t:=28) (e:=45) (T:=45) (s:=48) (z:=52) (r:=53) (p:=54) (q:=51) (x:=50) (b:=55) (y:=3) (fd:=2) [0] 3 [2] (a4C 1 4 5) (gX (ty j4)) rfl rfl rfl rfl rfl (by kernel_rfl) (by kernel_rfl) rfl ?_;simp
     repeat' apply And.intro
     all_goals
      refine pD Q4 p4 cO ((kH j4 (by omega) p4.2)) (mT) λt5 j5 x5 Q5 p5=>cI.mk ?_;simp;refine⟨_,_,_,_,_,_,_,_,_,by simp,rfl,rfl,?_,rfl,rfl,?_,by simp,rfl,rfl,rfl,rfl,by decide,rfl,?_⟩
      .intro c hc
       first
        |(obtain⟨y,_,rfl⟩:=List.mem_map.1 hc
          rw[bU]
          rfl)
        |(simp only[f7O]at hc
          subst hc
          rfl)
      .simp<;>omega
      simp;exact Q5.ok _ j5 _ _ rfl (.inr rfl) (by simp[tU,eA,bU])
end
end
end
section
open Go Go.VM
variable {G:GT}
theorem CH.f2o{P:Program}{f:FuncId}{s0:St}{r r':DV}{H1:List (Nat×aW)}{dM:List (TypeId×List VM.Loc)}(h:CH P G f s0 ⟨[r],H1,dM⟩)(hw:a7N r r'):CH P G f s0 ⟨[r'],H1,dM⟩:=λbase R μ args w hr=>(h base R μ args w hr).mono λe w' ⟨v,R',μ',he,eM,hs⟩=>⟨v,R',μ',he,eM.e4J hw,hs⟩
theorem c6M:VM.Enters prog 148:=.mk func148 rfl
theorem a9M:VM.Enters prog 183:=.mk func183 rfl
theorem b2i:CS prog G 183 [] (.d (.agg (zP a3L))) none:=by refine CS.aR func183 rfl ntmps183 rfl ?_;simp[a3L]
def b7l:List Pr->Pr->Pr
 |[],o=>o
 |p::r,o=>if a0c p a3L then a3L else if rX p then b7l r o else if rX o then b7l r p else b7l r ⟨15,[],0,[o,p]⟩
theorem d3Z{p:Pr}(h:a0c p a3L=true):rX p=false:=by rw[a9I]at h;simp only[decide_eq_true_eq]at h;subst h;decide
theorem c8v(a b:Pr):b7l [a,b] a0d=bQ a b:=by
 have ht:rX a0d=true:=by decide
 have e:∀p,rX p=true->a0c p a3L=false:=λp h=>by
  cases hs:a0c p a3L with
  |true=>rw[d3Z hs]at h;cases h
  |false=>rfl
 have hf:a3M false=a3L:=rfl;have htr:a3M true=a0d:=rfl;unfold bQ;simp only[b7l,b2K,b5d,ht,if_true,hf,htr];cases va:rX a with
 |true=>
  simp only[e a va,Bool.false_eq_true,if_false,if_true];cases vb:rX b with
  |true=>simp only[e b vb,Bool.false_eq_true,if_false,if_true]
  |false=>
   cases sb:a0c b a3L with
   |true=>simp only[if_true,Bool.false_eq_true,if_false]
   |false=>simp only[Bool.false_eq_true,if_false]
 |false=>
  cases sa:a0c a a3L with
  |true=>simp only[if_true,Bool.false_eq_true,if_false]
  |false=>
   simp only[Bool.false_eq_true,if_false];cases vb:rX b with
   |true=>simp only[e b vb,Bool.false_eq_true,if_false,if_true]
   |false=>
    cases sb:a0c b a3L with
    |true=>simp only[if_true,Bool.false_eq_true,if_false]
    |false=>simp only[va,Bool.false_eq_true,if_false,if_true]
theorem d0j(a b:Pr)(ha:bH a<=440000000)(hb:bH b<=440000000):CS prog G 148 [.sl [qH a,qH b]] (.d (.agg (zP (bQ a b)))) none:=by
 rw[<-c8v];generalize hR:b7l [a,b] a0d=R;obtain⟨L,hL⟩:∃L,L=[a,b]:=⟨_,rfl⟩;have hLl:L.length=2:=by rw[hL];rfl
 have hm:∀p∈L,bH p<=440000000:=by
  rw[hL];intro p hp;simp only[List.mem_cons,List.not_mem_nil,or_false]at hp;rcases hp with rfl|rfl
  .exact ha
  .exact hb
 rw[<-hL]at hR;rw[show [qH a,qH b]=L.map qH by rw[hL];rfl];refine CS.aR func148 rfl ntmps148 rfl ?_;simp;refine aD.mk b2c b4V ?_;simp;refine SW.eE (ι:={x:Nat×Pr//x.1<=2/\b7l (L.drop x.1) x.2=R/\(x.1=0->bH x.2<=440000000)/\(x.1<=1->bH x.2<=880000001)}) (λx=>[(9,.d (.int .i64 x.1.1))]) (λx=>[(2,.cells [.d (.int .i64 0),.d (.str []),.d (.int .i64 0),.d .aF]),(3,.cells ((zP x.1.2).map .d))]) (λ_=>[]) (λx=>L.length-x.1.1) ⟨(0,a0d),by simp,by simpa using hR,λ_=>by rw[show bH (0,a0d).2=1 by simp[a0d,bH,cW]];decide,λ_=>by rw[show bH (0,a0d).2=1 by simp[a0d,bH,cW]];decide⟩ (by simp[a0d]) ?_;rintro⟨⟨k,out⟩,hk,hp,hn0,hn1⟩;simp only at hk hp hn0 hn1;by_cases aE:k<L.length
 .have hw:=aY (show k<9223372036854775807 by omega);have hd:L.drop k=L[k]::L.drop (k+1):=f7U aE;have hbd:=hm L[k] (List.getElem_mem aE);rw[hd]at hp;obtain⟨p,hP⟩:∃p,L[k]=p:=⟨_,rfl⟩;rw[hP]at hd hbd hp;have hnb:=hn1 (by omega);have sG:k+1<=1->bH out<=880000001:=λh=>hnb;have hnp:k+1<=1->bH p<=880000001:=λh=>by omega
  have hn2:k+1<=1->bH ⟨15,[],0,[out,p]⟩<=880000001:=λh=>by have:=hn0 (by omega);rw[b5f];omega
  have hv:=b4W (G:=G) p (by omega);have hvo:=b4W (G:=G) out (by omega);have hs:=a0Z (G:=G) p a3L (by omega);simp only[b7l]at hp;simp[aE,hP];refine⟨kL.mk (by kernel_rfl),?_⟩;refine aD.mk a9M b2i ?_;simp;refine aD.mk vE hs ?_;cases h2:a0c p a3L with
  |true=>rw[h2,if_pos rfl]at hp;simp;refine aD.mk a9M b2i ?_;simp[<-hp]
  |false=>
   rw[h2,if_neg (by decide)]at hp;simp;refine aD.mk b2d hv ?_;cases h1:rX p with
   |true=>rw[h1,if_pos rfl]at hp;simp;exact aX.mk ⟨(k+1,out),by simp only;omega,hp,λh=>(by cases h),sG⟩ (by simp[hw]) (by simp;omega)
   |false=>
    rw[h1,if_neg (by decide)]at hp;simp;refine aD.mk b2d hvo ?_;cases h3:rX out with
    |true=>rw[h3,if_pos rfl]at hp;simp;exact aX.mk ⟨(k+1,p),by simp only;omega,hp,λh=>(by cases h),hnp⟩ (by simp[hw]) (by simp;omega)
    |false=>rw[h3,if_neg (by decide)]at hp;simp;exact aX.mk ⟨(k+1,⟨15,[],0,[out,p]⟩),by simp only;omega,hp,λh=>(by cases h),hn2⟩ (by simp[hw]) (by simp;omega)
 .have hd:L.drop k=[]:=List.drop_eq_nil_of_le (by omega);rw[hd]at hp;simp only[b7l]at hp;simp[aE, <- hp]
theorem b7n:VM.Enters prog 157:=.mk func157 rfl
theorem b2j:VM.Enters prog 147:=.mk func147 rfl
theorem a9N:VM.Enters prog 97:=.mk func97 rfl
abbrev RfP(l:List Tok)(k:Nat)(s s1:jK):Prop:=s1.er=0->s.er=0/\s.pl+k<=s1.pl/\s1.pl<l.length
structure a1V (G:GT) (aI:List Tok->Nat->Nat->kN Pr) (l:List Tok):Prop where
 len:l.length<=20000
 fin:jJ l
 tkw:∀i,TkW (aK l i)
 sB:vY aI l
 nz:∀i e n x,i<l.length->aI l i e=.bad n x->x≠0
 met:∀i p k,i<l.length->aI l i (mK l (l.length+1) 0 i)=.ok p k->aL l k [44]=true->mK l (l.length+1) 0 (k+1)=mK l (l.length+1) 0 i
 nod:∀i e p j,aI l i e=.ok p j->bH p<=20001
 bef:∀s e,pU l s->(s.er=0->s.pl<=e)->e<=l.length->qV G 157 [.int .i64 e] l s (qU aI l e s) c9U
section
variable {aI:List Tok->Nat->Nat->kN Pr} {l:List Tok} (hV:a1V G aI l)
include hV
theorem b5j(s:jK)(hv:pU l s):qV G 147 [] l s (a8d aI l s) c9U:=by have hl:=hV.len;have hb:=hV.bef s l.length hv (λh=>Nat.le_of_lt (hv h)) (f7X _);obtain⟨i,e,ln⟩:=s;refine qV.bS func147 rfl ntmps147 rfl ?_;intro Q Q0;simp;refine uC b7n hb (λp s1 h1=>?_);have Q0:=Q0.eq h1;simp;exact Q0.ok _ _ (.inr rfl) (by simp)
omit hV in
theorem a3N(hE:jJ l){b:Bool}{s s1:jK}{a:Nm}(hb:b=true->(mL l 0 s).kind≠0)(hv:pU l s)(h:uO l b s=(a,s1)):s1.er=0->s.er=0/\s.pl+1<=s1.pl/\s1.pl<l.length:=λh1=>by
 unfold uO at h;by_cases hc:b=true/\s.er=0
 .rw[if_pos hc]at h;cases h;have hi:=hv hc.2;have hk:=hb hc.1;unfold mL at hk;rw[if_pos ⟨hc.2,hi⟩]at hk;exact⟨hc.2,f7X _,oQ hE hi hk⟩
 .rw[if_neg hc]at h;cases h;unfold oR at h1;split at h1
  .cases h1
  .contradiction
omit hV in
theorem b5k(hE:jJ l){t:Nm}{s s1:jK}{u:Unit}(hv:pU l s)(h:gO l t s=(u,s1)):s1.er=0->s.er=0/\s.pl+1<=s1.pl/\s1.pl<l.length:=by
 have h:uO l (gI l 0 t s) s=((uO l (gI l 0 t s) s).1,s1):=by
  cases h
  rfl
 refine a3N hE (λhb=>?_) hv h;unfold gI at hb;simp only[f7H,decide_eq_true_eq]at hb;omega
omit hV in
theorem b8P(hE:jJ l){t:Nm}{s s1:jK}{u:Nm}(hv:pU l s)(h:uO l (b4O l t s) s=(u,s1)):s1.er=0->s.er=0/\s.pl+1<=s1.pl/\s1.pl<l.length:=a3N hE (λhb=>by unfold b4O at hb;simp only[f7H,decide_eq_true_eq]at hb;omega) hv h
omit hV in
theorem a8n(hE:jJ l){s s1:jK}{u:Nm}(hv:pU l s)(h:wC aU l s=(u,s1)):s1.er=0->s.er=0/\s.pl+1<=s1.pl/\s1.pl<l.length:=a3N hE (λhb=>by unfold xG at hb;simp only[f7H,decide_eq_true_eq]at hb;omega) hv h
omit hV in
theorem rfG{α β:Type}{Q Q':Exit->St->Prop}{rs:List ResultVar}{s:jK}{enc:β->DV}{e1:α->DV}{own:List (TypeId×List VM.Loc)}{f:FuncId}{ds:List D}{av:List DV}{st:St}{ls:List (Option VM.Loc)}{dst:Option Tmp}{all:Array Oper}{ops:List Oper}{k:List XI}{m:Nat}{x:RM α}{g:α->RM β}(Q0:wQ Q rs l enc own ((x >>=g) s))(v0:pU l s)(he:VM.Enters prog f)(hc:qV G f ds l s (x s) e1)(ad:∀ {a s1},pU l s->x s=(a,s1)->s1.er=0->s.er=0/\s.pl+m<=s1.pl/\s1.pl<l.length)(mP:∀a s1,x s=(a,s1)->wQ Q rs l enc own (g a s1)->RfP l m s s1->pU l s1->XK prog G (.ops all ops::k) .normal ⟨gV dst (e1 a) st.tmps,bP 100000 (rfO l s1) st.H,eT dst (dropKey 100000 st.own)⟩ Q')(hw:WkT av (.ptr 100000 0::ds.map .d):=by simp)(hH:getKey 100000 st.H=some (rfO l s):=by simp)(hk:∀a,aT K1 (e1 a)=true/\bA K1 (e1 a)=e1 a:=by intro a;exact⟨rfl,rfl⟩):dC prog G f av ls dst all ops k st Q':=uC (hw:=hw) (hH:=hH) he hc (λa s1 h=>mP a s1 h (Q0.step h) (ad v0 h) (pU.next (ad v0 h))) hk
omit hV in
theorem rfN{Q':Exit->St->Prop}{s:jK}{av:List DV}{st:St}{ls:List (Option VM.Loc)}{dst:Option Tmp}{all:Array Oper}{ops:List Oper}{k:List XI}(t:Nm)(v0:pU l s)(hF:jJ l)(mP:∀a s1,gO l t s=(a,s1)->RfP l 1 s s1->pU l s1->XK prog G (.ops all ops::k) .normal ⟨gV dst (.bY []) st.tmps,bP 100000 (rfO l s1) st.H,eT dst (dropKey 100000 st.own)⟩ Q')(hw:WkT av (.ptr 100000 0::[D.str t].map .d):=by simp)(hH:getKey 100000 st.H=some (rfO l s):=by simp)(hl:l.length<=50000:=by omega):dC prog G 47 av ls dst all ops k st Q':=uC (hw:=hw) (hH:=hH) b2b (b4Q hl t s v0) λa s1 h=>mP a s1 h (b5k hF v0 h) (pU.next (b5k hF v0 h))
omit hV in
theorem rfM{β:Type}{Q Q':Exit->St->Prop}{rs:List ResultVar}{s:jK}{enc:β->DV}{own:List (TypeId×List VM.Loc)}{av:List DV}{st:St}{ls:List (Option VM.Loc)}{dst:Option Tmp}{all:Array Oper}{ops:List Oper}{k:List XI}{t:Nm}{g:Unit->RM β}(Q0:wQ Q rs l enc own ((gO l t >>=g) s))(v0:pU l s)(hF:jJ l)(mP:∀a s1,gO l t s=(a,s1)->wQ Q rs l enc own (g a s1)->RfP l 1 s s1->pU l s1->XK prog G (.ops all ops::k) .normal ⟨gV dst (.bY []) st.tmps,bP 100000 (rfO l s1) st.H,eT dst (dropKey 100000 st.own)⟩ Q')(hw:WkT av (.ptr 100000 0::[D.str t].map .d):=by simp)(hH:getKey 100000 st.H=some (rfO l s):=by simp)(hl:l.length<=50000:=by omega):dC prog G 47 av ls dst all ops k st Q':=rfN (hw:=hw) (hH:=hH) t v0 hF (λa s1 h p v=>mP a s1 h (Q0.step h) p v) (hl:=hl)
theorem e1Z(s:jK)(hv:pU l s):qV G 109 [] l s (b3l aU l s) (λws=>.d (.sl (strs ws))):=by
 have hl:=hV.len;obtain⟨s0,rfl⟩:∃s0,s0=s:=⟨_,rfl⟩;have v0:=hv;refine qV.bS func109 rfl ntmps109 rfl ?_;intro Q Q0;unfold b3l at Q0;simp;refine rfM Q0 v0 hV.fin λu1 s1 h1 Q1 p1 v1=>?_;simp;refine rfG Q1 v1 a5C (a8h (by omega) s1 v1) (a8n hV.fin) λw s2 h2 Q2 p2 v2=>?_;simp;obtain⟨Y,hY⟩:∃Y,a2M aU l w s2=Y:=⟨_,rfl⟩;have Q2:=Q2.step (a:=Y.1) (s1:=Y.2) hY;refine SW.yP (ι:={x:List Nm×jK×Nat//pU l x.2.1/\x.1.length<=l.length+1/\(x.2.1.er=0->x.1.length<=x.2.1.pl/\l.length<x.2.2+x.2.1.pl)/\(if gI l 0 [44] x.2.1 then tM l [44] (λout=>do let w <- wC aU l;pure (out++[w])) x.2.2 x.1 ⟨x.2.1.pl+1,x.2.1.er,x.2.1.ln⟩ else(x.1,x.2.1))=Y}) (λx=>[(3,.d (.sl (strs x.1.1)))]) (λx=>rfH l x.1.2.1) (λ_=>[(9,[.t 3])]) (λx=>if x.1.2.1.er=0 then l.length-x.1.2.1.pl+1 else 0) ⟨([w],s2,l.length+1),v2,by simp,λh=>?_,hY⟩ (by simp[strs]) ?_
 .have:=p2 h;simp only[List.length_singleton];omega
 rintro⟨⟨out,s3,g⟩,v3,ho,hb,hy⟩;simp only at v3 ho hb hy;simp;refine uC vC (xI (by omega) [44] s3 v3) (λb s4 h4=>?_);unfold rQ at h4;rcases Bool.eq_false_or_eq_true (gI l 0 [44] s3)with hs|hs
 .rw[if_pos hs]at hy;rw[if_pos hs]at h4;obtain⟨rfl,h4'⟩:=Prod.mk.inj h4;obtain⟨e1,e2⟩:=a6w hV.fin hs;have hb1:=hb e1;obtain⟨g,rfl⟩:∃k,g=k+1:=⟨g-1,by omega⟩;have e4:s4.er=0/\s4.pl=s3.pl+1:=by rw[<-h4'];exact⟨e1,rfl⟩
  rw[h4']at hy;have v4:pU l s4:=λ_=>by omega
  simp;refine uC a5C (a8h (by omega) s4 v4) (λw s5 h5=>?_);have p5:=a8n hV.fin v4 h5;have ho1:(wC aU l >>=λw=>pure (out++[w]):RM (List Nm)) s4=(out++[w],s5):=by
   rw[rW,h5]
   rfl
  unfold tM at hy;rw[if_pos e4.1,ho1]at hy;simp;refine qZ (by omega) ?_;simp;refine aX.mk ⟨(out++[w],s5,g),pU.next p5,by simp only[List.length_append,List.length_singleton];omega,λh=>?_,hy⟩ (by simp[a0o]) ?_
  .have:=p5 h;simp only[List.length_append,List.length_singleton];omega
  .simp only[e1,if_true];split
   .rename_i h;have:=p5 h;omega
   .omega
 .rw[if_neg (by rw[hs];decide)]at hy;rw[if_neg (by rw[hs];decide)]at h4;cases h4;subst hy;simp;refine uC b2b (b4Q (by omega) [41] s3 v3) (λu5 s5 h5=>?_);have Q5:=Q2.step h5;simp;exact Q5.ok _ _ (.inr rfl) (by simp)
omit hV in
abbrev e5e(op:Int)(nm:Nm):List D:=[.int .i64 op,.str nm,.aF,.aF,.int .i64 0,.str [],.int .i64 0,.aF,.aF]
theorem a9O(s:jK)(hv:pU l s):qV G 97 [] l s (cM aU l s) (λp=>.bY [.agg (e5e p.1.op p.1.name),.bool p.2]):=by
 have hl:=hV.len;have hp:qV G 45 [.int .i64 0] l s _ _:=qK (by omega) 0 s hv (by omega);have hwd:qV G 141 [.int .i64 0] l s _ _:=a8g (by omega) 0 s hv (by omega);have hti:=a5D (G:=G) (by omega) s hv;have her:(mL l 0 s).kind≠0->s.er=0:=λh=>by
  by_cases he:s.er=0
  .exact he
  .simp[mL,he]at h
 obtain⟨i,e,ln⟩:=s;have hw:(mL l 0 ⟨i,e,ln⟩).kind≠0->IntKind.i64.wrap ((i:Int)+1)=((i+1:Nat):Int):=λh=>by have hi:i<l.length:=hv (her h);exact aY (by omega)
 refine qV.bS func97 rfl ntmps97 rfl ?_;intro Q Q0;unfold cM xG a9E at Q0;unfold xG at hwd;unfold a9E at hti;simp;refine uC mS hp (λT s1 h1=>?_);cases h1;generalize mL l 0 ⟨i,e,ln⟩=T at Q0 hwd hti hw|-;obtain⟨a,x,c,d⟩:=T;simp only at Q0 hwd hti hw;simp[bG];refine uC yR hwd (λb s1 h1=>?_);cases h1;by_cases h1:(decide (a=1)&& !aU x)=true
 .have Q0:=Q0.ifp h1;have hw:=hw (by simp only[f7H,decide_eq_true_eq]at h1;omega);simp only[h1];simp[hw];exact Q0.ok _ _ (.inr rfl) (by simp[tU,eA])
 have Q0:=Q0.wP h1;have h1:=Bool.eq_false_iff.2 h1;simp only[h1];simp;refine uC a3E hti (λb s1 h1=>?_);cases h1;by_cases h2:a=2
 .have Q0:=Q0.wP (by simp[h2]);have hw:=hw (by omega);simp[h2,hw];by_cases x1:x=[73,110,116]
  .simp only[if_pos x1]at Q0;simp[x1];exact Q0.ok _ _ (.inr rfl) (by simp[tU,eA])
  simp only[if_neg x1]at Q0;simp[x1];by_cases x2:x=[66,111,111,108]
  .simp only[if_pos x2]at Q0;simp[x2];exact Q0.ok _ _ (.inr rfl) (by simp[tU,eA])
  simp only[if_neg x2]at Q0;simp[x2];by_cases x3:x=[67,101,108,108]
  .simp only[if_pos x3]at Q0;simp[x3];exact Q0.ok _ _ (.inr rfl) (by simp[tU,eA])
  simp only[if_neg x3]at Q0;simp[x3];exact Q0.ok _ _ (.inr rfl) (by simp[tU,eA])
 .have Q0:=Q0.ifp (by simp[h2]);simp[h2];exact Q0.ok _ _ (.inr rfl) (by simp[mW,eA])
omit hV in
theorem a9P(s:jK):(cM aU l s).1.1=tU (cM aU l s).1.1.op (cM aU l s).1.1.name:=by
 unfold cM
 repeat' split
 all_goals rfl
theorem c3Z(s:jK)(hv:pU l s):qV G 97 [] l s (cM aU l s) (λp=>.bY [.agg (tyD p.1),.bool p.2]):=by
 refine CH.f2o (a9O hV s hv) ?_
 show a7N (.bY [.agg (e5e (cM aU l s).1.1.op (cM aU l s).1.1.name),.bool (cM aU l s).1.2]) (.bY [.agg (tyD (cM aU l s).1.1),.bool (cM aU l s).1.2])
 have hf:=a9P (l:=l) s;generalize (cM aU l s).1=p at hf|-;obtain⟨t,b⟩:=p;simp only at hf;rw[hf];simp[tU,eA]
end
end
section
open Go Go.VM
variable {G:GT}
theorem RfP.tr{l:List Tok}{k m:Nat}{s s1 s2:jK}(h:RfP l k s s1)(h':RfP l m s1 s2):RfP l (k+m) s s2:=λh2=>by have h3:=h' h2;have h4:=h h3.1;omega
theorem c6N{l:List Tok}(hE:jJ l){t:Nm}{s s1:jK}{b:Bool}(hv:pU l s)(h:rQ l t s=(b,s1)):RfP l 0 s s1:=λh1=>by
 unfold rQ at h;split at h
 .rename_i hs;have:=a6w hE hs;cases h;exact⟨this.1,Nat.le_succ _,this.2⟩
 .cases h;exact⟨h1,f7X _,hv h1⟩
theorem a9Q{l:List Tok}(hE:jJ l){t:Nm}{s s1:jK}{b:Bool}(h:rQ l t s=(b,s1)):(gI l 0 t s=true/\b=true/\s1=⟨s.pl+1,s.er,s.ln⟩/\s.er=0/\s1.pl=s.pl+1/\pU l s1)\/(gI l 0 t s=false/\b=false/\s1=s):=by
 unfold rQ at h;split at h
 .rename_i hs;have h2:=a6w hE hs;cases h;exact .inl ⟨hs,rfl,rfl,h2.1,rfl,λ_=>h2.2⟩
 .rename_i hs;cases h;exact .inr ⟨Bool.eq_false_iff.2 hs,rfl,rfl⟩
section
variable {aI:List Tok->Nat->Nat->kN Pr} {l:List Tok} (hV:a1V G aI l)
include hV
theorem a5M(s:jK)(hv:pU l s):qV G 141 [.int .i64 0] l s (xG aU l 0 s,s) (λb=>.d (.bool b)):=a8g (by have:=hV.len;omega) 0 s hv (by omega)
theorem mU(t:Nm)(s:jK)(hv:pU l s):qV G 92 [.int .i64 0,.str t] l s (gI l 0 t s,s) (λb=>.d (.bool b)):=a3G (by have:=hV.len;omega) 0 t s hv (by omega)
end
end
end Go.Proofs.YtjpodcmhcenjjaaGreatDoor
