/- Lemmas. No condition. -/
import Derived.Test.YtmfbjecjccipfaaGreatDoorOvh
import Derived.RangeFuncNested
import Derived.RangeFuncBound
import Derived.RangeFuncCalls
import Derived.RangeFuncLeaves
import Derived.Shelf.Abstract
import Derived.WalkKit
import Derived.OwnWalkIn
import Derived.TacticsInMore
import Derived.LoopNIn
import Derived.LoopIn
import Derived.Test.YtmfbjecjccipfaaGreatDoorProg
set_option linter.unusedVariables false
set_option linter.unusedSimpArgs false
set_option linter.unusedSectionVars false
set_option maxRecDepth 100000
set_option maxHeartbeats 64000000
open Go.Proofs.Tryz
section
section
namespace Go.Proofs.YtmfbjecjccipfaaGreatDoor
open Go Go.VM
def b0B:Pr:=⟨0,[],0,[]⟩
def a1G:Pr:=⟨2,[],1,[]⟩
def a5K:Pr:=⟨2,[],0,[]⟩
instance:DecidableEq Pr:=λa b=>if h:a1F a b=true then isTrue ((b2i a b).1 h) else isFalse λe=>h ((b2i a b).2 e)
def zD(p:Pr):Bool:=decide (p=b0B)||decide (p=a1G)
mutual
def b5s:Pr->Nat
 |⟨_,_,_,l⟩=>wK l 0+1
def wK:List Pr->Nat->Nat
 |[],n=>n
 |t::r,n=>wK r (max n (b5s t))
end
theorem d1S(p:Pr):b5s p=wK p.kids 0+1:=by cases p;rfl
theorem c1r:∀(a b:List Pr)(n:Nat),wK (a++b) n=wK b (wK a n)
 |[],b,n=>by simp[wK]
 |t::a,b,n=>by simp only[List.cons_append,wK,c1r a b]
theorem b7C{l:List Pr}{i:Nat}(h:i<l.length)(n:Nat):wK (l.take (i+1)) n=max (wK (l.take i) n) (b5s l[i]):=by rw[g3o h,c1r];simp[wK]
mutual
theorem e3z:∀p:Pr,b5s p<=bO p
 |⟨op,nm,n,l⟩=>by have:=b2j l 0;simp only[b5s,bO];omega
theorem b2j:∀(l:List Pr)(n:Nat),wK l n<=n+eK l
 |[],n=>by simp[wK]
 |t::r,n=>by have h1:=e3z t;have h2:=b2j r (max n (b5s t));simp only[wK,eK];omega
end
end Go.Proofs.YtmfbjecjccipfaaGreatDoor
end
section
namespace Go.Proofs.YtmfbjecjccipfaaGreatDoor
open Go Go.VM
variable {G:GT}
variable{i:Nat}
theorem d3L{α:Type}(f:α->List D){l:List α}(h:i<l.length):List.take (i+1) (List.map f l)=List.take i (List.map f l)++[f l[i]]:=by have:=d6T f h;rw[List.map_take,List.map_take]at this;exact this
theorem e3A{α:Type}{f:α->List D}{k:Nat}(hf:∀a,(f a).length=k:=by simp){l:List α}:∀(x:List D),x∈List.take i (List.map f l)->x.length=k:=λx hx=>by obtain⟨t,_,rfl⟩:=g3u.1 (g4a hx);exact hf t
abbrev prO(op:Int)(nm:Nm)(n:Int)(k:D):bH:=.cells [.d (.int .i64 op),.d (.str nm),.d (.int .i64 n),.d k]
theorem wY:VM.Enters prog 133:=.mk func133 rfl
theorem d7C(l l':List Pr)(hN:eK l<=900000000)(ih:∀k∈l,∀u:Pr,bO k<=900000000->CS prog G 133 [.agg (prD k),.agg (prD u)] (.d (.bool (a1F k u))) none):
  CH prog G 165 ⟨[.d (.sl (l.map qO)),.d (.sl (l'.map qO)),.fn 133],[],[]⟩ ⟨[.d (.bool (d3K l l'))],[],[]⟩:=by
 have hl:=jY l;refine CH.aW func165 rfl ntmps165 rfl (by simp) ?_;by_cases h3:l.length=l'.length
 .have hq:d3K l l'=yB l l':=by simp[d3K,h3]
  simp[h3];refine SW.gA (ι:={i:Nat//i<=l.length/\yB (l.drop i) (l'.drop i)=yB l l' }) (λi=>[(15,.d (.int .i64 i.1))]) (λ_=>[]) (λ_=>[]) (λi=>l.length-i.1) ⟨0,by simp⟩ (by simp) ?_;rintro⟨i,hi,hR⟩
  try simp only at hi hR
  by_cases aG:i<l.length
  .have c2J:i<l'.length:=by omega
   have hg:=xB aG;have hg':=xB c2J;have hw:=bC (show i<9223372036854775807 by omega);have hb2:=tA aG;have hb3:=kW l (i+1);rw[b7B aG c2J]at hR;simp[c2J,aG,hg,hg'];refine⟨.mk,?_⟩;refine aC.mk wY (ih l[i] (g3y aG) l'[i] (by omega)) ?_;cases hs:a1F l[i] l'[i]
   .rw[hs,Bool.false_and]at hR;simp[hs,hq, <- hR]
   .rw[hs,Bool.true_and]at hR;simp[hs];exact bD.mk ⟨i+1,aG,hR⟩ (by simp[hw]) (by simp;omega)
  .have:i=l.length:=by omega
   subst this;rw[c1q]at hR;simp[hq, <- hR, <- h3]
 .have h3':¬((l.length:Int)=(l'.length:Int)):=by omega
  have hq:d3K l l'=false:=by simp[d3K,h3]
  simp[h3,h3',hq]
theorem a1H:∀t u:Pr,bO t<=900000000->CS prog G 133 [.agg (prD t),.agg (prD u)] (.d (.bool (a1F t u))) none:=by
 refine Pr.ind λt ih=>?_;obtain⟨op,nm,n,l⟩:=t;intro u hN;obtain⟨op',nm',n',l'⟩:=u;simp only at ih;have hn:=qT ⟨op,nm,n,l⟩;have hq:=d1R ⟨op,nm,n,l⟩ ⟨op',nm',n',l'⟩;simp only at hn hq;have hE:=d7C (G:=G) l l' (by omega) ih;have hA:(decide (l.length=l'.length)&&yB l l')=d3K l l':=rfl;rw[hA]at hq;refine CS.aW func133 rfl ntmps133 rfl ?_;by_cases h1:op=op'
 .by_cases h2:nm=nm'
  .by_cases h4:n=n'
   .simp only[h1,h2,h4,decide_true,Bool.true_and]at hq;simp[h1,h2,h4];refine jE.ro (.mk func165 rfl) hE [] (by simp) (by simp) (by simp) (by simp) (by simp) ?_;simp[hq]
   .simp only[h1,h2,h4,decide_true,decide_false,Bool.true_and,Bool.false_and]at hq;simp[h1,h2,h4,hq]
  .simp only[h1,h2,decide_true,decide_false,Bool.true_and,Bool.false_and]at hq;simp[h1,h2,hq]
 .simp only[h1,decide_false,Bool.false_and]at hq;simp[h1,hq]
theorem uL:VM.Enters prog 166:=.mk func166 rfl
def a5L(b:Bool):Pr:=if b then a1G else a5K
theorem wD(b:Bool):CS prog G 166 [.bool b] (.d (.agg (prD (a5L b)))) none:=by refine CS.aW func166 rfl ntmps166 rfl ?_;cases b<;>simp[a5L,a1G,a5K]
theorem b7D:CS prog G 187 [] (.d (.agg (prD a1G))) none:=by refine CS.aW func187 rfl ntmps187 rfl ?_;simp[a1G]
theorem b2k(a b:Pr):a1F a b=decide (a=b):=by rw[Bool.eq_iff_iff,b2i];simp
theorem c3o(p:Pr)(h:bO p<=900000000:=by omega):CS prog G 167 [.agg (prD p)] (.d (.bool (zD p))) none:=by
 have e1:=a1H (G:=G) p b0B h;have e2:=a1H (G:=G) p a1G h;rw[b2k]at e1 e2;refine CS.aW func167 rfl ntmps167 rfl ?_;simp;refine⟨.mk,?_⟩;refine aC.mk wY (CS.args e1 (by simp[b0B])) ?_;by_cases hz:p=b0B
 .simp[hz,zD]
 .simp[hz,zD];refine aC.mk uL (wD true) ?_;simp;refine aC.mk wY (CS.args e2 (by simp[a1G,a5L])) ?_;simp
theorem b7E(p:Pr)(h:bO p<=900000000:=by omega):CS prog G 189 [.agg (prD p)] (.d (.bool (zD p))) none:=by
 have e1:=vI (G:=G) p b0B h;have e2:=vI (G:=G) p a1G h;rw[b2k]at e1 e2;refine CS.aW func189 rfl ntmps189 rfl ?_;simp;refine⟨.mk,?_⟩;refine aC.mk (.mk func187 rfl) (b7D ) ?_;simp;refine aC.mk rE e2 ?_;by_cases hz:p=a1G
 .simp[hz,zD]
 .simp[hz,zD];refine aC.mk rE (CS.args e1 (by simp[b0B])) ?_;simp
theorem b7F:∀p:Pr,bO p<=900000000->CS prog G 168 [.agg (prD p)] (.d (.agg (prD p))) none:=by
 refine Pr.ind λp ih=>?_;obtain⟨op,nm,n,l⟩:=p;intro hN;simp only at ih;have hn:=qT ⟨op,nm,n,l⟩;simp only at hn;have hl:=jY l;refine CS.aW func168 rfl ntmps168 rfl ?_;simp;refine SW.gA (ι:={i:Nat//i<=l.length}) (λi=>[(16,.d (.int .i64 i.1))]) (λi=>[(1,prO op nm n (.sl (l.map qO))),(2,prO 0 [] 0 .aE),(3,prO op nm n (.sl ((l.take i.1).map qO)))]) (λ_=>[(52,[.c 3 3])]) (λi=>l.length-i.1) ⟨0,by simp⟩ (by simp) ?_;rintro⟨i,hi⟩;by_cases aG:i<l.length
 .have hg:=xB aG;have hw:=bC (show i<9223372036854775807 by omega);have hs2:=d3L qO aG;rw[dH]at hs2;have h4:∀(x:List D),x∈List.take i (List.map qO l)->x.length=4:=e3A;have hb2:=tA aG;have hb3:=kW l (i+1);simp[aG,hg];refine⟨.mk,?_⟩;refine aC.mk (.mk func168 rfl) (ih l[i] (g3y aG) (by omega)) ?_;simp;refine cJ ⟨h4,by omega⟩ ?_;simp;exact bD.mk ⟨i+1,aG⟩ (by simp[hw,hs2]) (by simp;omega)
 .have:i=l.length:=by omega
  subst this;simp
end Go.Proofs.YtmfbjecjccipfaaGreatDoor
end
section
namespace Go.Proofs.YtmfbjecjccipfaaGreatDoor
open Go Go.VM
variable {G:GT}
theorem c6S(p:Pr):bO p<=900000000->CS prog G 204 [.agg (prD p)] (.d (.int .i64 (b5s p))) none:=by
 revert p
 refine Pr.ind λp ih=>?_;obtain⟨op,nm,n,l⟩:=p;intro hN;simp only at ih;have hn:=qT ⟨op,nm,n,l⟩;have hd:=d1S ⟨op,nm,n,l⟩;simp only at hn hd;have hl:=jY l;have hle:=b2j l 0;refine CS.aW func204 rfl ntmps204 rfl ?_;simp;refine SW.gA (ι:={i:Nat//i<=l.length}) (λi=>[(3,.d (.int .i64 (wK (l.take i.1) 0))),(9,.d (.int .i64 i.1))]) (λ_=>[(1,prO op nm n (.sl (l.map qO)))]) (λ_=>[]) (λi=>l.length-i.1) ⟨0,by simp⟩ (by simp[wK]) ?_;rintro⟨i,hi⟩;by_cases aG:i<l.length
 .have hg:=xB aG;have hw:=bC (show i<9223372036854775807 by omega);have hs:=b7C aG 0;have hb2:=tA aG;have hb3:=kW l (i+1);simp[aG,hg];refine aC.mk (.mk func204 rfl) (ih l[i] (g3y aG) (by omega)) ?_;simp;exact bD.mk ⟨i+1,aG⟩ (by simp[hw,hs];split<;>omega) (by simp;omega)
 .have:i=l.length:=by omega
  subst this;have hw:IntKind.i64.wrap ((wK l 0:Int)+1)=((wK l 0+1:Nat):Int):=bC (by omega);simp[hw,hd]
end Go.Proofs.YtmfbjecjccipfaaGreatDoor
end
section
namespace Go.Proofs.YtmfbjecjccipfaaGreatDoor
open Go Go.VM Go.RowKit Go.Shelf
attribute [local go_sem] Oper.semAt_some
structure cL (X:Nat->Prop) (W W':World):Prop where
 os:W'.os=W.os
 tape:W'.tape=W.tape
 output:W'.output=W.output
 size:W.heap.size<=W'.heap.size
 block:∀k,k<W.heap.size-> ¬X k->W'.heap[k]? =W.heap[k]?
theorem cL.refl(X:Nat->Prop)(W:World):cL X W W:=⟨rfl,rfl,rfl,g3p _,λ_ _ _=>rfl⟩
theorem cL.trans{X:Nat->Prop}{A B C:World}(h:cL X A B)(k:cL X B C):cL X A C:=
 ⟨k.os.trans h.os,k.tape.trans h.tape,k.output.trans h.output,Nat.le_trans h.size k.size,λi hi hx=>(k.block i (Nat.lt_of_lt_of_le hi h.size) hx).trans (h.block i hi hx)⟩
abbrev NoX:Nat->Prop:=λ_=>False
theorem cL.up{X:Nat->Prop}{A B:World}(h:cL NoX A B):cL X A B:=⟨h.os,h.tape,h.output,h.size,λk hk _=>h.block k hk λe=>e⟩
theorem cL.cell{X:Nat->Prop}{A B:World}(h:cL X A B){b o:Nat}(hb:b<A.heap.size)(hx:¬X b):B.cell? ⟨b,o,none⟩=A.cell? ⟨b,o,none⟩:=by unfold World.cell?;rw[h.block b hb hx]
theorem cL.alloc{X:Nat->Prop}{A B:World}(h:cL X A B)(o:Obj):cL X A (B.alloc o):=
 h.trans ⟨rfl,rfl,rfl,by simp,λk hk _=>by
  show(B.heap.push o)[k]? =_
  rw[Array.getElem?_push,if_neg (by omega)]⟩
variable{v:Value}
theorem d7D{R:Nat->Nat->Prop}{w:World}{p:Pr}(h:V R w v (.agg (qO p))):
  ∃(ao:Option Addr)(cap:Nat)(nm:ByteArray),v=.agg #[.int .i64 p.op,.string nm,.int .i64 p.n,.slice ao p.kids.length cap]/\
   ∀(i:Nat)(hi:i<p.kids.length),∃b o,ao=some ⟨b,o,none⟩/\∃f:Nat->Value,(∀j,j<4->R b (o+i*4+j)/\w.cell? ⟨b,o+i*4+j,none⟩=some (f j))/\V R w (.agg #[f 0,f 1,f 2,f 3]) (.agg (qO p.kids[i])):=by
 obtain⟨op,nm,n,ks⟩:=p;rw[dH]at h;cases h with
 |agg cs _ h1 h2 h3=>
  obtain⟨l⟩:=cs
  match l,h1 with
  |[c0,c1,c2,c3],_=>
   have g0:=h3 0 _ rfl;have g1:=h3 1 _ rfl;have g2:=h3 2 _ rfl;have g3:=h3 3 _ rfl;simp at g0 g1 g2 g3;obtain⟨es,hes⟩:∃es,ks.map qO=es:=⟨_,rfl⟩;simp only[hes]at g3;cases g0;cases g1;cases g2;have hlen:es.length=ks.length:=by rw[<-hes];simp
   cases g3 with
   |emp ao cap=>
    have h0:ks=[]:=by simpa using hes
    subst h0;exact⟨ao,cap,_,rfl,λi hi=>by simp at hi⟩
   |sl b o m cap size es f k1 k2 k3 k4 k5 k6 k7=>
    have hm:m=ks.length:=by omega
    subst hm;refine⟨_,cap,_,rfl,λi hi=>⟨b,o,rfl,f i,?_⟩⟩;simp only at hi;have hg:es[i]? =some (qO ks[i]):=by rw[<-hes];simp[hi]
    have hs:size=4:=by have:=k4 _ (g3e hg);rw[dH]at this;simpa using this.symm
    subst hs;refine⟨λj hj=>k5 i j hi hj,?_⟩;have q:∀(j:Nat)(d:D),(qO ks[i])[j]? =some d->V R w (f i j) d:=λj d hd=>k7 i j _ d hg hd;have q1:∀(j:Nat)(d:D),(qO ks[i])[j]? =some d->d.one=true:=λj d hd=>k6 i j _ d hg hd;refine .agg _ _ (by rw[dH];rfl) q1 λj d hd=>?_;have hj:j<4:=by have:=(g3a.1 hd).1;rw[dH]at this;simpa using this
    have hv:=q j d hd
    match j,hj with
    |0,_=>exact hv
    |1,_=>exact hv
    |2,_=>exact hv
    |3,_=>exact hv
mutual
def a2S:Pr->List Pr
 |⟨op,nm,n,l⟩=>⟨op,nm,n,l⟩::qP l
def qP:List Pr->List Pr
 |[]=>[]
 |p::r=>a2S p++qP r
end
theorem a8J(p:Pr):a2S p=p::qP p.kids:=by cases p;rfl
theorem b3v:∀a b:List Pr,qP (a++b)=qP a++qP b
 |[],b=>by simp[qP]
 |p::a,b=>by simp only[List.cons_append,qP,b3v a b,List.append_assoc]
theorem b7G{l:List Pr}{i:Nat}(h:i<l.length):qP (l.take (i+1))=qP (l.take i)++a2S l[i]:=by rw[g3o h,b3v];simp[qP]
theorem a7B(l:List Pr)(i:Nat):qP l=qP (l.take i)++qP (l.drop i):=by rw[<-b3v,g3M]
def Yields(P:Program)(L:List Pr)(l:Nat)(X:Nat->Prop)(R:Nat->Nat->Prop)(w0:World)(J Jx:List Pr->World->Prop):Prop:=
 ∀(m:Nat)(pre:List Pr)(v:Value)(p:Pr)(W:World),pre++[p] <+:L->V R w0 v (.agg (qO p))->cL X w0 W->J pre W->YieldAt Fence.wide m P l #[v] W λe W'=>(e=.returned (.bool true)/\J (pre++[p]) W'/\cL X W W')\/(e=.returned (.bool false)/\Jx (pre++[p]) W'/\cL X W W')
theorem d7E(W:World){cs:Array Value}{T:TypeId}{j:Nat}(h:cs[j]? =some v):(W.alloc (.cells cs T)).cell? ⟨W.heap.size,j,none⟩=some v:=by unfold World.cell?;rw[World.alloc_heap_new];simp[h]
theorem d7F(L:List Pr)(l:Nat)(X:Nat->Prop)(R:Nat->Nat->Prop)(w0:World)(hX:∀b o,R b o-> ¬X b)(hR:∀b o,R b o->b<w0.heap.size)(hX2:∀k,X k->k<w0.heap.size)(J Jx:List Pr->World->Prop)(hJ:∀s A B,J s A->cL NoX A B->J s B)(hY:Yields prog L l X R w0 J Jx):
  ∀(p:Pr)(n:Nat)(v:Value)(pre:List Pr)(W:World),bO p<=1000000->pre++a2S p <+:L->V R w0 v (.agg (qO p))->cL X w0 W->J pre W->
   CallsIn Fence.wide n prog 222 #[v,.func (.yield l) #[] #[]] W λe W'=>(e=.returned (.bool true)/\J (pre++a2S p) W'/\cL X W W')\/(e=.returned (.bool false)/\∃q,q <+:a2S p/\Jx (pre++q) W'/\cL X W W'):=by
 refine Pr.ind λp ih=>?_;intro n v pre W hN hL hv hW hJ0;have hN1:=qT p;have hN2:=jY p.kids;have hpk:∀(k:Nat)(h:k<p.kids.length),(pre++p::qP (p.kids.take k))++a2S p.kids[k] <+:L:=λk h=>by refine List.IsPrefix.trans ⟨qP (p.kids.drop (k+1)),?_⟩ hL;rw[a8J p,a7B p.kids k,g3m h];simp[qP]
 obtain⟨ao,cap,nm,rfl,hk⟩:=d7D hv;have hJ1:=hJ _ _ (W.alloc (.cells #[.int .i64 p.op,.string nm,.int .i64 p.n,.slice ao p.kids.length cap] 52)) hJ0 ((cL.refl NoX W).alloc _);have hW1:=hW.alloc (.cells #[.int .i64 p.op,.string nm,.int .i64 p.n,.slice ao p.kids.length cap] 52);obtain⟨fn,tmps,assign,body,hy,hYR⟩:=hY (n-1) pre _ p _ (((List.prefix_append_right_inj pre).2 ⟨qP p.kids,by rw[a8J];rfl⟩).trans hL) hv hW1 hJ1;refine callsIn_of_wp func222 rfl trivial ?_ rfl;simp only[ntmps222,List.size_toArray,List.length_cons,List.length_nil,Nat.reduceAdd,Nat.reduceSub,Array.replicate_succ,Array.replicate_zero,List.push_toArray,List.append_toArray,List.nil_append,List.cons_append]
 gi_wp2
 refine⟨λh=>(by cases h),?_⟩;have hbx:¬X W.heap.size:=λh=>by have:=hX2 _ h;have:=hW.size;omega
 refine hYR.mono ?_;rintro e W3 (⟨rfl,hJ3,hK3⟩|⟨rfl,hJ3,hK3⟩)
 .have hWK:cL X W W3:=((cL.refl X W).alloc _).trans hK3;have g0K:W3.cell? ⟨W.heap.size,3,none⟩=some (.slice ao p.kids.length cap):=(hK3.cell (by simp) hbx).trans (d7E W rfl)
  gi_wp2
  gi_loopw [14] (λi wr=>∃k:Nat,k<=p.kids.length/\i=.int .i64 k/\J (pre++p::qP (p.kids.take k)) wr/\cL X W wr) (λi _=>p.kids.length-(intOf i).toNat)
  case atStart=>exact⟨0,Nat.zero_le _,rfl,by simpa[qP]using hJ3,hWK⟩
  case round=>
   obtain⟨k,hkl,rfl,hJk,hKk⟩:=hrel;by_cases aG:k<p.kids.length
   .obtain⟨b,o,rfl,f,hf,hfv⟩:=hk k aG;have hcx:∀j,j<4->wr.cell? ⟨b,o+k*4+j,none⟩=some (f j):=λj hj=>((hW.trans hKk).cell (hR _ _ (hf j hj).1) (hX _ _ (hf j hj).1)).trans (hf j hj).2;have h0:=hcx 0 (by omega);rw[Nat.add_zero]at h0;have h1:=hcx 1 (by omega);have h2:=hcx 2 (by omega);have h3:=hcx 3 (by omega);have f3p:=hfv;have hb2:=tA aG;have hb3:=kW p.kids (k+1);obtain⟨ao2,f7d,nm2,he,_⟩:=d7D hfv;simp only[Value.agg.injEq,Array.mk.injEq,List.cons.injEq,and_true]at he;obtain⟨e0,e1,e2,e3⟩:=he;rw[e0]at h0;rw[e1]at h1;rw[e2]at h2;rw[e3]at h3;rw[e0,e1,e2,e3]at f3p
    gi_wp2
    refine⟨trivial,λh=>(by cases h),(ih p.kids[k] (g3y aG) (n-1) _ _ _ (by omega) (hpk k aG) f3p ((hW.trans hKk).alloc _) (hJ _ _ _ hJk ((cL.refl NoX wr).alloc _))).mono ?_⟩;rintro e W4 (⟨rfl,hJ4,hK4⟩|⟨rfl,q,hq,hJ4,hK4⟩)
    .have f3q:RowKit.wrap64 ((k:Int)+1)=(k:Int)+1:=by unfold RowKit.wrap64;omega
     gi_wp2
     go_roundw
     case rel=>exact⟨k+1,aG,by simp[f3q],by rw[b7G aG];simpa using hJ4,(hKk.alloc _).trans hK4⟩
     case measure=>simp[intOf,f3q];omega
    .gi_wp2
     go_ret
     refine .inr ⟨rfl,p::qP (p.kids.take k)++q,?_,by simpa using hJ4,(hKk.alloc _).trans hK4⟩;rw[a8J,a7B p.kids k,g3m aG];obtain⟨r,hr⟩:=hq;exact⟨r++qP (p.kids.drop (k+1)),by simp[qP, <- hr]⟩
   .obtain rfl:k=p.kids.length:=by omega
    gi_wp2
    go_ret
    exact .inl ⟨rfl,by rw[a8J];simpa using hJk,hKk⟩
 .gi_wp2
  go_ret
  exact .inr ⟨rfl,[p],⟨qP p.kids,by rw[a8J];rfl⟩,hJ3,((cL.refl X W).alloc _).trans hK3⟩
end Go.Proofs.YtmfbjecjccipfaaGreatDoor
end
section
namespace Go.Proofs.YtmfbjecjccipfaaGreatDoor
open Go Go.VM Go.RowKit Go.Shelf
attribute [local go_sem] Oper.semAt_some
variable{G:GT}{A B W w:World}{R:Nat->Nat->Prop}
theorem d3N{w0:World}(h:a8U G (a0X w0.heap.size) R w0)(hs:w0.heap.size<=w.heap.size)(hR:∀b o,R b o->b<w0.heap.size)(hb:∀k,k<w0.heap.size->w.heap[k]? =w0.heap[k]?):a8U G (a0X w.heap.size) R w:=by
 intro g cs hg;obtain⟨h1,h2,arr,T,fr,h3,h4⟩:=h g cs hg;have hl:g<w0.heap.size:=by simpa[a0X]using h2
 have hc:∀b o,R b o->w.cell? ⟨b,o,none⟩=w0.cell? ⟨b,o,none⟩:=λb o hbo=>by unfold World.cell?;rw[hb b (hR b o hbo)]
 refine⟨λj d hj=>?_,by simp only[a0X];omega,arr,T,fr,(hb g hl).trans h3,h4⟩;obtain⟨a1,a2,v,a3,a4⟩:=h1 j d hj;exact⟨a1,a2,v,(hc _ _ a2).trans a3,a4.step (λ_ _ h=>h) hc⟩
theorem cL.cA{R':Nat->Nat->Prop}{w':World}(h:Step (a0X w.heap.size) R w R' w'):cL NoX w w':=
 ⟨h.below.os,h.below.tape,h.below.output,h.below.size,λk hk _=>h.below.block k (by simp only[a0X];omega)⟩
theorem e3C{P:Program}{f:FuncId}{ds:List D}{k:IntKind}{z:Int}{own:Option TypeId}(h:CS P G f ds (.d (.int k z)) own){args:Array Value}(m:Nat)(hg:a8U G (a0X w.heap.size) R w)(hR:∀b o,R b o->b<w.heap.size)(hs:args.size=ds.length)(hv:∀(i:Nat)(d:D),ds[i]? =some d->V R w (args.getD i undef) d):CallsIn Fence.wide m P f args w λe w'=>e=.returned (.int k z)/\cL NoX w w':=
 callsIn_wide.2 ((h w R args hg hR hs hv).mono λe w' ⟨v,R',he,hv',pZ,_,_⟩=>by
  cases hv' id with
  |d v x hvx=>cases hvx;exact⟨he,cL.cA pZ⟩)
variable{X:Nat->Prop}
theorem cL.weaken{Y:Nat->Prop}(h:cL X A B)(hXY:∀k,X k->Y k):cL Y A B:=⟨h.os,h.tape,h.output,h.size,λk hk hy=>h.block k hk λhx=>hy (hXY k hx)⟩
theorem cL.putObj{X:Nat->Prop}(A:World){l:Nat}(hl:X l)(o:Obj):cL X A (A.putObj l o):=⟨rfl,rfl,rfl,by simp,λk _ hx=>World.putObj_heap_other λe=>hx (e▸hl)⟩
theorem a7C(h:cL X A B)(hX:∀k,X k->A.heap.size<=k:=by rintro k (hk|hk)<;>omega):cL NoX A B:=⟨h.os,h.tape,h.output,h.size,λk hk _=>h.block k hk λhx=>by have:=hX k hx;omega⟩
theorem c9V(L:List Pr)(l:Nat)(X:Nat->Prop)(R:Nat->Nat->Prop)(w0:World)(hX:∀b o,R b o-> ¬X b)(hR:∀b o,R b o->b<w0.heap.size)(hX2:∀k,X k->k<w0.heap.size)(J Jx:List Pr->World->Prop)(hJ:∀s A B,J s A->cL NoX A B->J s B)(hY:Yields prog L l X R w0 J Jx)(p:Pr)(n:Nat)(c0 c1 c2 c3:Value)(W:World)(bx:Nat)(hbx:W.heap[bx]? =some (.cells #[c0,c1,c2,c3] 52 (0,0)))(hN:bO p<=1000000)(hL:a2S p=L)(hv:V R w0 (.agg #[c0,c1,c2,c3]) (.agg (qO p)))(hW:cL X w0 W)(hJ0:J [] W):
  CallsIn Fence.wide n prog 221 #[.func (.yield l) #[] #[],.pointer (some ⟨bx,0,none⟩)] W λe W'=>∃v,e=.returned v/\((J L W'/\cL X W W')\/∃q,q <+:L/\Jx q W'/\cL X W W'):=by
 have f7f:=d7F L l X R w0 hX hR hX2 J Jx hJ hY p (n-1) _ [] W hN (by rw[List.nil_append,hL];exact List.prefix_rfl) hv hW hJ0;obtain⟨ao,cap,nm,he,_⟩:=d7D hv;simp only[Value.agg.injEq,Array.mk.injEq,List.cons.injEq,and_true]at he;obtain⟨rfl,rfl,rfl,rfl⟩:=he;have e0:W.cell? ⟨bx,0,none⟩=some (.int .i64 p.op):=by unfold World.cell?;rw[hbx];rfl
 have e1:W.cell? ⟨bx,1,none⟩=some (.string nm):=by unfold World.cell?;rw[hbx];rfl
 have e2:W.cell? ⟨bx,2,none⟩=some (.int .i64 p.n):=by unfold World.cell?;rw[hbx];rfl
 have e3:W.cell? ⟨bx,3,none⟩=some (.slice ao p.kids.length cap):=by unfold World.cell?;rw[hbx];rfl
 refine callsIn_of_wp func221 rfl trivial ?_ rfl;simp only[ntmps221,List.size_toArray,List.length_cons,List.length_nil,Nat.reduceAdd,Nat.reduceSub,Array.replicate_succ,Array.replicate_zero,List.push_toArray,List.append_toArray,List.nil_append,List.cons_append]
 gi_wp2
 refine⟨trivial,λh=>(by cases h),f7f.mono ?_⟩;rintro e W4 (⟨rfl,hJ4,hK4⟩|⟨rfl,q,hq,hJ4,hK4⟩)
 .gi_wp2
  first|go_ret|go_ret2|go_end0
  rw[hL]at hJ4;exact⟨_,rfl,.inl ⟨hJ4,hK4⟩⟩
 .gi_wp2
  first|go_ret|go_ret2|go_end0
  rw[hL]at hq;exact⟨_,rfl,.inr ⟨q,hq,hJ4,hK4⟩⟩
variable{c0 c1 c2 c3 v:Value}
theorem d3O{n:Nat}:CallsIn Fence.wide n prog 197 #[.agg #[c0,c1,c2,c3]] W λe W'=>e=.returned (.func (.func 221) #[] #[.pointer (some ⟨W.heap.size,0,none⟩)])/\W'=W.alloc (.cells #[c0,c1,c2,c3] 52):=by
 refine callsIn_of_wp func197 rfl trivial ?_ rfl;simp only[ntmps197,List.size_toArray,List.length_cons,List.length_nil,Nat.reduceAdd,Nat.reduceSub,Array.replicate_succ,Array.replicate_zero,List.push_toArray,List.append_toArray,List.nil_append,List.cons_append]
 gi_wp2
 first|go_ret|go_ret2|go_end0
 exact⟨rfl,rfl⟩
theorem d7H(n:Nat){g:Operand}{ps:Array Tmp}{assign body:Code}{Q:Exit->Act->World->Prop}{a:Act}{bx:Nat}(hg:a.eval g=.func (.func 221) #[] #[.pointer (some ⟨bx,0,none⟩)])(hbx:W.heap[bx]? =some (.cells #[c0,c1,c2,c3] 52 (0,0)))(hps:ps.size=1){p:Pr}(hv:V R W (.agg #[c0,c1,c2,c3]) (.agg (qO p)))(hN:bO p<=1000000)(hR:∀b o,R b o->b<W.heap.size)(b1:Nat)(hb1:b1<W.heap.size)(hRb:∀b o,R b o->b≠b1)(hbb:bx≠b1)(I Ix:List Pr->World->Prop)(hI:∀s A B,I s A->(∀k,k<W.heap.size->B.heap[k]? =A.heap[k]?)->I s B)(hIx:∀s A B,Ix s A->(∀k,k<W.heap.size->B.heap[k]? =A.heap[k]?)->Ix s B)(h0:I [] W)(hround:∀(m l:Nat)(pre:List Pr)(q:Pr)(vq:Value)(W1:World),W.heap.size<=l->l<W1.heap.size->pre++[q] <+:a2S p->V R W vq (.agg (qO q))->cL (λk=>k=b1) W W1->I pre W1->
   assign.wpIn (Fence.wide.inRound l) m prog (Exit.then (λa₁ w₁=>cL NoX W1 w₁/\∀w2,cL (λk=>k=l) w₁ w2->body.wpIn (Fence.wide.inRound l) m prog (λe _ w3=>match e with
    |.normal=>cL (λk=>k=b1) w2 w3/\I (pre++[q]) w3
    |.ret=>cL (λk=>k=b1) w2 w3/\Ix (pre++[q]) w3
    |_=>False) a₁ w2) (λ_ _ _=>False)) {tmps:=(ps.zip #[vq]).foldl (λt (p,v)=>t.setIfInBounds p v) a.tmps,defers:=[]} W1)(hdone:∀(D:Nat)(W':World),W.heap.size<=D->I (a2S p) W'->cL (λk=>k=b1) W W'->W'.heap[D]? =some (.deferred (some []))->Q .normal {a with defers:={target:=.collected D,args:=#[]}::a.defers} W')(hstop:∀(D:Nat)(pre:List Pr)(W':World),W.heap.size<=D->pre <+:a2S p->Ix pre W'->cL (λk=>k=b1) W W'->W'.heap[D]? =some (.deferred (some []))->Q .ret {a with defers:={target:=.collected D,args:=#[]}::a.defers} W'):
  (Code.rangeFunc g ps assign body).wpIn Fence.wide n prog Q a W:=by
 refine wpIn_rangeFunc ?_;intro fn hfn;rw[show Fence.wide.round=none from rfl];obtain⟨rec,c3p⟩:∃rec:LoopState->Option Code->Loop,rec=λst pe=>{state:=st,pending:=pe,fn,tmps:=a.tmps,params:=ps,assign,body,defers:=W.heap.size}:=⟨_,rfl⟩;obtain⟨W1,hW1⟩:∃W1,(W.alloc (.deferred (some []))).alloc (.loop (rec .ready none))=W1:=⟨_,rfl⟩;have hL1:W1.heap[W.heap.size+1]? =some (.loop (rec .ready none)):=by rw[<-hW1];have:=World.alloc_heap_new (W.alloc (.deferred (some []))) (.loop (rec .ready none));rwa[World.size_alloc]at this
 have hD1:W1.heap[W.heap.size]? =some (.deferred (some [])):=by rw[<-hW1];exact(Below.heap_alloc _ _ _ (by simp)).trans (World.alloc_heap_new W _)
 have hK1:cL NoX W W1:=by rw[<-hW1];exact((cL.refl _ _).alloc _).alloc _
 have hs1:W1.heap.size=W.heap.size+2:=by rw[<-hW1];simp
 have hI1:I [] W1:=hI _ _ _ h0 λk hk=>hK1.block k hk id;have hv1:V R W1 (.agg #[c0,c1,c2,c3]) (.agg (qO p)):=hv.step (λ_ _ h=>h) λb o hbo=>hK1.cell (hR b o hbo) id;have a0Q:∀{A:World},cL (λk=>k=W.heap.size+1\/k=b1) W1 A->cL (λk=>k=b1) W A:=λh=>⟨h.os.trans hK1.os,h.tape.trans hK1.tape,h.output.trans hK1.output,Nat.le_trans hK1.size h.size,λk hk hx=>(h.block k (by omega) (by rintro(e|e);(· omega);exact hx e)).trans (hK1.block k hk id)⟩
 refine⟨W.heap.size+1,[{target:=.collected W.heap.size,args:=#[]}],W1,{target:=.fn (.func 221) #[.pointer (some ⟨bx,0,none⟩)],args:=#[.func (.yield (W.heap.size+1)) #[] #[]]},W1,221,
  #[.func (.yield (W.heap.size+1)) #[] #[],.pointer (some ⟨bx,0,none⟩)],W1,?_,?_,?_,?_,λh=>(by cases h),?_⟩
 .rw[<-hW1,c3p];exact run_enterLoop_outer _ _ _ _ _
 .simp only[resolve,hg];simp[go_sem]
 .exact λf' _=>trivial
 .simp[invoke,go_sem,enters_of func221 (by kernel_rfl) rfl]
 .refine(c9V (a2S p) (W.heap.size+1) (λk=>k=W.heap.size+1\/k=b1) R W1 (λb o hbo=>by rintro(e|e);(· have:=hR b o hbo;omega);exact hRb b o hbo e) (λb o hbo=>by have:=hR b o hbo;omega) (λk hk=>by rcases hk with e|e<;>omega)
   (λpre A=>I pre A/\A.heap[W.heap.size+1]? =some (.loop (rec .ready none))/\A.heap[W.heap.size]? =some (.deferred (some [])))
   (λpre A=>Ix pre A/\A.heap[W.heap.size+1]? =some (.loop (rec .done (some .ret)))/\A.heap[W.heap.size]? =some (.deferred (some [])))
   ?hj ?hy p _ c0 c1 c2 c3 W1 bx ((hK1.block _ (g3i.1 hbx).1 id).trans hbx) hN rfl hv1 (cL.refl _ _) ⟨hI1,hL1,hD1⟩).mono ?_
  case hj=>rintro s A B ⟨hi,hl,hd⟩ hk;have aG:W.heap.size+1<A.heap.size:=(g3i.1 hl).1;exact⟨hI _ _ _ hi λk hk'=>hk.block k (by omega) id,(hk.block _ aG id).trans hl,(hk.block _ (by omega) id).trans hd⟩
  case hy=>
   rintro m pre vq q A b0n hvq hKA ⟨hi,hl,hd⟩;have aG:W.heap.size+1<A.heap.size:=(g3i.1 hl).1;have hy:=run_yield (P:=prog) (args:=#[vq]) hl (by rw[c3p];exact hps.symm);rw[c3p]at hy;refine⟨fn,_,assign,body,hy,roundIn_of_wpIn hfn ?_⟩
   clear hy
   have hvW:V R W vq (.agg (qO q)):=hvq.step (λ_ _ h=>h) λb o hbo=>(hK1.cell (hR b o hbo) id).symm;refine wpIn_mono (hround m (W.heap.size+1) pre q vq A (by omega) aG b0n hvW (a0Q hKA) hi) ?_;rintro e a1 w1 hq;cases e with
   |normal=>
    obtain⟨hka,rM⟩:=hq;have hl1:=(hka.block _ aG id).trans hl;refine⟨_,run_beginRound hl1 (by rw[c3p]),?_⟩;have hkb:cL (λk=>k=W.heap.size+1) w1 (w1.putObj (W.heap.size+1) (.loop {rec .ready none with state:=.busy})):=cL.putObj (X:=λk=>k=W.heap.size+1) _ rfl _;have hl2:(w1.putObj (W.heap.size+1) (.loop {rec .ready none with state:=.busy})).heap[W.heap.size+1]? =some (.loop {rec .ready none with state:=.busy}):=World.putObj_heap_same (g3i.1 hl1).1;have mI:=hka.size;refine wpIn_mono (rM _ hkb) ?_;have fin:∀(jump:Option Code)(w3:World),cL (λk=>k=b1) (w1.putObj (W.heap.size+1) (.loop {rec .ready none with state:=.busy})) w3->
      (Instr.endRound (W.heap.size+1) jump).run prog w3=.ok (.bool jump.isNone) (w3.putObj (W.heap.size+1) (.loop (rec (if jump.isNone then .ready else .done) jump)))/\
      (w3.putObj (W.heap.size+1) (.loop (rec (if jump.isNone then .ready else .done) jump))).heap[W.heap.size+1]? =some (.loop (rec (if jump.isNone then .ready else .done) jump))/\
      (w3.putObj (W.heap.size+1) (.loop (rec (if jump.isNone then .ready else .done) jump))).heap[W.heap.size]? =some (.deferred (some []))/\
      cL (λk=>k=W.heap.size+1\/k=b1) A (w3.putObj (W.heap.size+1) (.loop (rec (if jump.isNone then .ready else .done) jump))):=λjump w3 hk3=>by
     have hl3:=(hk3.block _ (by simp;omega) (by omega)).trans hl2;have:=run_endRound (P:=prog) jump hl3;rw[c3p]at this|-;refine⟨this,World.putObj_heap_same (g3i.1 hl3).1,?_,?_⟩
     .refine(World.putObj_heap_other (by omega)).trans ((hk3.block _ (by simp;omega) (by omega)).trans ?_);exact(World.putObj_heap_other (by omega)).trans ((hka.block _ (by omega) id).trans hd)
     .exact(hka.weaken λ_ h=>h.elim).trans ((hkb.weaken λ_ h=>.inl h).trans ((hk3.weaken λ_ h=>.inr h).trans (cL.putObj _ (.inl rfl) _)))
    rintro e a3 w3 hp;cases e with
    |normal=>obtain⟨hk3,hi3⟩:=hp;obtain⟨h1,h2,h3,h4⟩:=fin none w3 hk3;exact⟨_,_,h1,.inl ⟨rfl,⟨hI _ _ _ hi3 λk hk=>World.putObj_heap_other (by omega),h2,h3⟩,h4⟩⟩
    |ret=>obtain⟨hk3,hi3⟩:=hp;obtain⟨h1,h2,h3,h4⟩:=fin (some .ret) w3 hk3;exact⟨_,_,h1,.inr ⟨rfl,⟨hIx _ _ _ hi3 λk hk=>World.putObj_heap_other (by omega),h2,h3⟩,h4⟩⟩
    |exit id=>exact hp.elim
    |goto t=>exact hp.elim
    |panic ch=>exact hp.elim
    |outgrown=>exact hp.elim
   |ret=>exact hq.elim
   |exit id=>exact hq.elim
   |goto t=>exact hq.elim
   |panic ch=>exact hq.elim
   |outgrown=>exact hq.elim
  .rintro e W2 ⟨v,rfl,(⟨⟨hi,hl,hd⟩,hK⟩|⟨pre,b0n,⟨hi,hl,hd⟩,hK⟩)⟩
   .refine⟨none,_,by have:=run_endLoop (P:=prog) hl (by rw[c3p];simp);rw[c3p]at this;exact this,?_⟩;exact hdone _ _ (g3p _) (hI _ _ _ hi λk hk=>World.putObj_heap_other (by omega)) (a0Q (hK.trans (cL.putObj _ (.inl rfl) _))) ((World.putObj_heap_other (by omega)).trans hd)
   .refine⟨some .ret,_,by have:=run_endLoop (P:=prog) hl (by rw[c3p];simp);rw[c3p]at this;exact this,?_⟩;exact wpIn_ret (hstop _ pre _ (g3p _) b0n (hIx _ _ _ hi λk hk=>World.putObj_heap_other (by omega)) (a0Q (hK.trans (cL.putObj _ (.inl rfl) _))) ((World.putObj_heap_other (by omega)).trans hd))
variable{b:Nat}{T:TypeId}
theorem a7D(h:W.heap[b]? =some (.cells #[v] T (0,0))):W.cell? ⟨b,0,none⟩=some v/\W.frozen? ⟨b,0,none⟩=false:=by unfold World.cell? World.frozen?;rw[h];simp
theorem a1l{cs:Array Value}(h:W.heap[b]? =some (.cells cs T (0,0)))(j:Nat)(hj:cs[j]? =some v):W.cell? ⟨b,j,none⟩=some v:=by unfold World.cell?;rw[h];simp[hj]
theorem c3q(h:W.heap[b]? =some (.cells #[v] T (0,0)))(u:Value):(W.setCell ⟨b,0,none⟩ u).heap[b]? =some (.cells #[u] T (0,0)):=by
 obtain⟨aG,hh⟩:=g3i.1 h
 show(W.heap.modify b _)[b]? =_
 rw[g3r (by rw[Array.size_modify];exact aG),Array.getElem_modify_self,hh];simp
theorem cL.set(A:World)(hl:X b)(u:Value):cL X A (A.setCell ⟨b,0,none⟩ u):=⟨rfl,rfl,rfl,by show A.heap.size<=(A.heap.modify _ _).size;rw[Array.size_modify];exact g3p _,λk _ hx=>Below.heap_setCell A ⟨b,0,none⟩ u k λe=>hx (by rw[show k=b from e];exact hl)⟩
def qG(e:Pr->Int):List Pr->Int
 |[]=>0
 |p::r=>if e p=0 then qG e r else e p
theorem b4M{e:Pr->Int}:∀{l:List Pr},(∀q∈l,e q=0)->qG e l=0
 |[],_=>rfl
 |p::r,h=>by rw[qG,if_pos (h p (by simp))];exact b4M λq hq=>h q (by simp[hq])
theorem c1s{e:Pr->Int}{p:Pr}:∀{l r:List Pr},(∀q∈l,e q=0)->e p≠0->qG e (l++p::r)=e p
 |[],r,_,hp=>by simp[qG,hp]
 |q::l,r,h,hp=>by rw[List.cons_append,qG,if_pos (h q (by simp))];exact c1s (λq hq=>h q (by simp[hq])) hp
def b5t(e:Pr->Int)(p:Pr):Int:=if 400<bO p then 7 else if 40<b5s p then 8 else qG e (a2S p)
theorem b9N(e:Pr->Int)(p:Pr)(hN:bO p<=1000000)(f7h:CS prog G 195 [.agg (qO p)] (.d (.int .i64 (bO p))) none)(f7i:CS prog G 196 [.agg (qO p)] (.d (.int .i64 (b5s p))) none)(f3r:∀q∈a2S p,CS prog G 198 [.agg (qO q)] (.d (.int .i64 (e q))) none):CS prog G 177 [.agg (qO p)] (.d (.int .i64 (b5t e p))) none:=by
 refine CS.d1B λw R args hg hR hs hv=>?_;have ha:args=#[args.getD 0 undef]:=by
  obtain⟨l⟩:=args
  match l,hs with
  |[a],_=>rfl
 have hv0:=hv 0 _ rfl;rw[ha];generalize args.getD 0 undef=v at hv0
 clear hv ha hs args
 obtain⟨ao,cap,nm,rfl,hk⟩:=d7D hv0;refine(callsIn_wide (n:=10)).1 (callsIn_of_wp_marks func177 rfl trivial ?_ rfl);simp only[ntmps177,List.size_toArray,List.length_cons,List.length_nil,Nat.reduceAdd,Nat.reduceSub,Array.replicate_succ,Array.replicate_zero,List.push_toArray,List.append_toArray,List.nil_append,List.cons_append];have a3d:∀{f:FuncId}{z:Int}(m:Nat)(q:Pr)(vq:Value)(W:World),CS prog G f [.agg (qO q)] (.d (.int .i64 z)) none->V R w vq (.agg (qO q))->cL NoX w W->
   CallsIn Fence.wide m prog f #[vq] W λe w'=>e=.returned (.int .i64 z)/\cL NoX W w':=λm q vq W hc hvq hW=>by
  refine e3C hc (R:=R) m (d3N hg hW.size hR λk hk=>hW.block k hk id) (λb o hbo=>Nat.lt_of_lt_of_le (hR b o hbo) hW.size) rfl λi d hd=>?_
  match i,hd with
  |0,hd=>cases hd;exact hvq.step (λ_ _ h=>h) λb o hbo=>hW.cell (hR b o hbo) id
 gi_wp2
 obtain⟨W2,hW2⟩:∃W2,(w.alloc (.cells #[.int .i64 p.op,.string nm,.int .i64 p.n,.slice ao p.kids.length cap] 52)).alloc (.cells #[.int .i64 0] 31)=W2:=⟨_,rfl⟩;have hK2:cL NoX w W2:=by rw[<-hW2];exact((cL.refl _ _).alloc _).alloc _
 have hs2:W2.heap.size=w.heap.size+2:=by rw[<-hW2];simp
 have hB2:W2.heap[w.heap.size+1]? =some (.cells #[.int .i64 0] 31 (0,0)):=by rw[<-hW2];have:=World.alloc_heap_new (w.alloc (.cells #[.int .i64 p.op,.string nm,.int .i64 p.n,.slice ao p.kids.length cap] 52)) (.cells #[.int .i64 0] 31);rwa[World.size_alloc]at this
 have hA2:W2.heap[w.heap.size]? =some (.cells #[.int .i64 p.op,.string nm,.int .i64 p.n,.slice ao p.kids.length cap] 52 (0,0)):=by rw[<-hW2];exact(Below.heap_alloc _ _ _ (by simp)).trans (World.alloc_heap_new w _)
 rw[hW2];refine⟨trivial,(a3d _ p _ _ f7h hv0 hK2).mono ?_⟩;rintro _ W3 ⟨rfl,hK3⟩;have hB3:=(hK3.block _ (by omega) id).trans hB2;have hA3:=(hK3.block _ (by omega) id).trans hA2;have hs3:=hK3.size;obtain⟨hc3,hf3⟩:=a7D hB3;have q0:=(a1l hA3 0 rfl);have q1:=(a1l hA3 1 rfl);have q2:=(a1l hA3 2 rfl);have q3:=(a1l hA3 3 rfl);have fin:∀{W:World}{z:Int}{K:World},K.heap[w.heap.size+1]? =some (.cells #[.int .i64 z] 31 (0,0))->cL NoX w W->z=b5t e p->∃v,Ending.returned (.int .i64 z)=.returned v/\V R W v (.int .i64 (b5t e p))/\Below w.heap.size w W:=λh hk hz=>⟨_,rfl,hz▸ .int _ _,⟨hk.os,hk.tape,hk.output,hk.size,λk h'=>hk.block k h' id⟩⟩;by_cases h1:400<bO p
 .gi_wp2
  have hS:=c3q hB3 (.int .i64 7);have hc:=(a7D hS).1;exact⟨_,by simp[results,f177,go_sem,hc],fin hS (a7C (((hK2.trans hK3).weaken λ_ h=>h.elim).trans (cL.set (X:=λk=>k=w.heap.size+1) _ rfl _)) (by intro k hk;omega)) (by simp[b5t,h1])⟩
 .gi_wp2
  refine⟨trivial,(a3d _ p _ _ f7i hv0 (hK2.trans hK3)).mono ?_⟩;rintro _ W4 ⟨rfl,hK4⟩;have hs4:=hK4.size;have hB4:=(hK4.block _ (by omega) id).trans hB3;have hA4:=(hK4.block _ (by omega) id).trans hA3;obtain⟨hc4,hf4⟩:=a7D hB4;have r0:=(a1l hA4 0 rfl);have r1:=(a1l hA4 1 rfl);have r2:=(a1l hA4 2 rfl);have r3:=(a1l hA4 3 rfl);have f3v:=(hK2.trans hK3).trans hK4;by_cases h2:40<b5s p
  .gi_wp2
   have hS:=c3q hB4 (.int .i64 8);have hc:=(a7D hS).1;exact⟨_,by simp[results,f177,go_sem,hc],fin hS (a7C ((f3v.weaken λ_ h=>h.elim).trans (cL.set (X:=λk=>k=w.heap.size+1) _ rfl _)) (by intro k hk;omega)) (by simp[b5t,h1,h2])⟩
  .gi_wp2
   refine⟨trivial,(d3O).mono ?_⟩;rintro _ W5 ⟨rfl,rfl⟩
   gi_wp2
   obtain⟨W5,hW5⟩:∃W5,W4.alloc (.cells #[.int .i64 p.op,.string nm,.int .i64 p.n,.slice ao p.kids.length cap] 52)=W5:=⟨_,rfl⟩;have hK5:cL NoX W4 W5:=by rw[<-hW5];exact(cL.refl _ _).alloc _
   have hB5:=(hK5.block _ (by omega) id).trans hB4;have hA5:W5.heap[W4.heap.size]? =some (.cells #[.int .i64 p.op,.string nm,.int .i64 p.n,.slice ao p.kids.length cap] 52 (0,0)):=by rw[<-hW5];exact World.alloc_heap_new _ _
   have hs5:W5.heap.size=W4.heap.size+1:=by rw[<-hW5];simp
   have d7I:=f3v.trans hK5;rw[hW5];refine d7H 10 (W:=W5) (R:=R) (p:=p) rfl hA5 rfl (hv0.step (λ_ _ h=>h) λb o hbo=>d7I.cell (hR b o hbo) id) hN (λb o hbo=>by have:=hR b o hbo;omega) (w.heap.size+1) (by omega) (λb o hbo=>by have:=hR b o hbo;omega) (by omega)
    (λpre A=>A.heap[w.heap.size+1]? =some (.cells #[.int .i64 0] 31 (0,0))/\∀q∈pre,e q=0)
    (λpre A=>∃d7J q,pre=d7J++[q]/\(∀x∈d7J,e x=0)/\e q≠0/\A.heap[w.heap.size+1]? =some (.cells #[.int .i64 (e q)] 31 (0,0)))
    (λs A B h hk=>⟨(hk _ (by omega)).trans h.1,h.2⟩) (λs A B ⟨d7J,q,h1,h2,h3,h4⟩ hk=>⟨d7J,q,h1,h2,h3,(hk _ (by omega)).trans h4⟩) ⟨hB5,by simp⟩ ?hround ?hdone ?hstop
   case hround=>
    rintro m l pre q vq W6 hl hl6 b0n hvq hK6 ⟨hB6,hz⟩;obtain⟨ao2,f7d,nm2,rfl,_⟩:=d7D hvq;have hqm:q∈a2S p:=b0n.subset (by simp);have hvw:V R w _ (.agg (qO q)):=hvq.step (λ_ _ h=>h) λb o hbo=>(d7I.cell (hR b o hbo) id).symm
    gi_wp2
    refine⟨(cL.refl _ _).alloc _,λw2 hk2=>?_⟩;have hA7:=(hk2.block W6.heap.size (by simp) (by omega)).trans (World.alloc_heap_new _ _);have hs6:=hK6.size;have hB7:=((hk2.block (w.heap.size+1) (by simp;omega) (by omega)).trans (Below.heap_alloc _ _ _ (by omega))).trans hB6;have hs7:=hk2.size;simp only[World.size_alloc]at hs7;have f7m:cL NoX w w2:=a7C (X:=λk=>k=w.heap.size+1\/k=l) ((d7I.weaken λ_ h=>h.elim).trans ((hK6.weaken λ_ h=>.inl h).trans (((cL.refl _ _).alloc _).trans (hk2.weaken λ_ h=>.inr h))));have t0:=(a1l hA7 0 rfl);have t1:=(a1l hA7 1 rfl);have t2:=(a1l hA7 2 rfl);have t3:=(a1l hA7 3 rfl)
    gi_wp2
    refine⟨trivial,λh=>(by cases h),(CallsIn.inRound l (a3d _ q _ _ (f3r q hqm) hvw f7m)).mono ?_⟩;rintro _ W8 ⟨rfl,hK8⟩;have hB8:=(hK8.block _ (by omega) id).trans hB7;obtain⟨hc8,hf8⟩:=a7D hB8;by_cases he:e q=0
    .gi_wp2
     have eS:∀x,x∈pre\/x=q->e x=0:=λx hx=>hx.elim (hz x) λhx=>by subst hx;exact he
     first|exact eS|exact⟨hK8.up,eS⟩|exact⟨hK8.up,hB8,eS⟩
    .gi_wp2
     have hS:=c3q hB8 (.int .i64 (e q));exact⟨hK8.up.trans (cL.set (X:=λk=>k=w.heap.size+1) _ rfl _),pre,q,⟨rfl,rfl⟩,hz,he,hS⟩
   case hdone=>
    rintro D W' hD ⟨hB',hz⟩ hK' hD';obtain⟨zM,hf'⟩:=a7D hB'
    gi_wp2
    have hS:=c3q hB' (.int .i64 0);have hDs:=((cL.set (X:=λk=>k=w.heap.size+1) W' rfl (.int .i64 0)).block D (g3i.1 hD').1 (by omega)).trans hD';refine⟨by simp,.inl ⟨_,_,rfl,run_takeDeferred hDs,?_⟩⟩;have hS2:=(World.putObj_heap_other (r:=D) (o:=.deferred none) (show w.heap.size+1≠D by omega)).trans hS;have hc:=(a7D hS2).1;exact⟨_,by simp[results,f177,go_sem,hc],fin hS2 (a7C (X:=λk=>k=w.heap.size+1\/k=D) ((d7I.weaken λ_ h=>h.elim).trans ((hK'.weaken λ_ h=>.inl h).trans ((cL.set (X:=λk=>k=w.heap.size+1\/k=D) _ (.inl rfl) _).trans (cL.putObj _ (.inr rfl) _))))) (by simp[b5t,h1,h2,b4M hz])⟩
   case hstop=>
    rintro D pre W' hD b0n ⟨d7J,q,rfl,hz,hq,hB'⟩ hK' hD'
    gi_wp2
    refine⟨by simp,.inl ⟨_,_,rfl,run_takeDeferred hD',?_⟩⟩;have hS2:=(World.putObj_heap_other (r:=D) (o:=.deferred none) (show w.heap.size+1≠D by omega)).trans hB';have hc:=(a7D hS2).1;have hfe:qG e (a2S p)=e q:=by obtain⟨r,hr⟩:=b0n;rw[<-hr,List.append_assoc];exact c1s hz hq
    exact⟨_,by simp[results,f177,go_sem,hc],fin hS2 (a7C (X:=λk=>k=w.heap.size+1\/k=D) ((d7I.weaken λ_ h=>h.elim).trans ((hK'.weaken λ_ h=>.inl h).trans (cL.putObj _ (.inr rfl) _)))) (by simp[b5t,h1,h2,hfe])⟩
end Go.Proofs.YtmfbjecjccipfaaGreatDoor
end
section
namespace Go.Proofs.YtmfbjecjccipfaaGreatDoor
open Go Go.VM
variable {G:GT}
def yG(op:Int):Bool:=decide (op=3)||(decide (op=4)||decide (op=5))
def qS(op:Int):Int:=if op=1\/op=2\/op=3 then 0 else if op=4\/op=5 then 1 else if op=9\/op=14 then 1 else 2
def wZ(op:Int):Int:=if op=1\/op=2\/op=3 then 0 else if op=4\/op=5 then 24 else if op=9\/op=14 then 1 else 2
def b2m(l:List Pr):Int:=match l with
 |[]=>1
 |k::_=>k.op
def a0T(op:Int)(nm:Nm):Bool:=(decide (op=3)&&decide (nm=[118]))||(decide (op=4)&&(decide (nm=[116,97,103])||decide (nm=[118,97,108])))
def a6z(op:Int)(nm:Nm)(n:Int)(len:Int):Bool:=(!yG op&& !decide (nm=[]))||(!decide (op=1)&& !decide (op=2)&& !decide (n=0))||decide (len<qS op)||decide (wZ op<len)
def wP(op n:Int):Bool:=(decide (op=1)&& !inB n)||(decide (op=2)&& !decide (n=0)&& !decide (n=1))
def a3y(p:Pr):Int:=
 if p.op<1\/18<p.op then 1
 else if a6z p.op p.name p.n p.kids.length then 1
 else if wP p.op p.n then 2
 else if yG p.op&& !sO p.name&& !a0T p.op p.name then 3
 else if p.op=8/\b2m p.kids≠1 then 6
 else 0
theorem sG:VM.Enters prog 224:=.mk func224 rfl
theorem tT(op:Int):CS prog G 224 [.int .i64 op] (.d (.bool (yG op))) none:=by
 refine CS.aW func224 rfl ntmps224 rfl ?_;by_cases h3:op=3
 .simp[h3,yG]
 .by_cases h4:op=4
  .simp[h4,yG]
  .simp[h3,h4,yG]
theorem c3r(op:Int):CS prog G 223 [.int .i64 op] (.cY [.int .i64 (qS op),.int .i64 (wZ op)]) none:=by
 refine CS.aW func223 rfl ntmps223 rfl ?_;by_cases h1:op=1
 .simp[h1,qS,wZ]
 by_cases h2:op=2
 .simp[h2,qS,wZ]
 by_cases h3:op=3
 .simp[h3,qS,wZ]
 by_cases h4:op=4
 .simp[h4,qS,wZ]
 by_cases h5:op=5
 .simp[h5,qS,wZ]
 by_cases h9:op=9
 .simp[h9,qS,wZ]
 by_cases h14:op=14
 .simp[h14,qS,wZ]
 .simp[h1,h2,h3,h4,h5,h9,h14,qS,wZ]
variable{op:Int}
theorem d3P(h:yG op=true):op=3\/op=4\/op=5:=by simpa[yG]using h
theorem d3Q(h:yG op=false):¬op=3/\ ¬op=4/\ ¬op=5:=by simpa[yG]using h
theorem c3s(hG:G 1=some gC)(p:Pr)(hlen:p.kids.length<=900000000:=by omega):CS prog G 198 [.agg (prD p)] (.d (.int .i64 (a3y p))) none:=by
 obtain⟨op,nm,n,l⟩:=p;simp only at hlen;have hm:a3y ⟨op,nm,n,l⟩=if op<1\/18<op then 1 else if a6z op nm n l.length then 1 else if wP op n then 2 else if yG op&& !sO nm&& !a0T op nm then 3 else if op=8/\b2m l≠1 then 6 else 0:=rfl;refine CS.aW func198 rfl ntmps198 rfl ?_;by_cases a1:op<1
 .simp[a1]at hm;simp[a1,hm]
 by_cases a2:18<op
 .simp[a2]at hm;simp[a1,a2,hm]
 rw[if_neg (by omega)]at hm;simp[a1,a2];refine aC.mk (.mk func223 rfl) (c3r op) ?_;simp;refine aC.mk sG (tT op) ?_;cases hn:yG op
 .obtain⟨n3,n4,n5⟩:=d3Q hn;by_cases b1:nm=[];rotate_left
  .have b1':nm.isEmpty=false:=by cases nm<;>simp at b1|-
   simp[a6z,hn,b1]at hm;simp (maxSteps:=4000000) [hn,b1,b1',hm]
  subst b1;by_cases o1:op=1
  .subst o1;have el:qS 1=0:=rfl;have em:wZ 1=0:=rfl;by_cases k0:l=[];rotate_left
   .have kl:0<l.length:=g3D.2 k0;have kl':¬((l.length:Int)<0):=by omega
    simp[a6z,hn,el,em,kl,kl']at hm;simp (maxSteps:=4000000) [hn,el,em,kl,kl',hm]
   subst k0;simp[a6z,hn,el,em]at hm;simp (maxSteps:=4000000) [hn,el,em];refine aC.mk (.mk func213 rfl) (d1E n) ?_;cases hi:inB n
   .simp[wP,hi]at hm;simp[hm]
   .simp[wP,hi]at hm;simp;refine aC.mk sG (tT 1) ?_;simp (maxSteps:=4000000) [hn,hm]
  by_cases o2:op=2
  .subst o2;have el:qS 2=0:=rfl;have em:wZ 2=0:=rfl;by_cases k0:l=[];rotate_left
   .have kl:0<l.length:=g3D.2 k0;have kl':¬((l.length:Int)<0):=by omega
    simp[a6z,hn,el,em,kl,kl']at hm;simp (maxSteps:=4000000) [hn,el,em,kl,kl',hm]
   subst k0;simp[a6z,hn,el,em]at hm;by_cases c0:n=0
   .simp[wP,c0]at hm;simp (maxSteps:=4000000) [hn,el,em,c0];refine aC.mk sG (tT 2) ?_;simp (maxSteps:=4000000) [hn,hm]
   .by_cases c1:n=1
    .simp[wP,c1]at hm;simp (maxSteps:=4000000) [hn,el,em,c1];refine aC.mk sG (tT 2) ?_;simp (maxSteps:=4000000) [hn,hm]
    .simp[wP,c0,c1]at hm;simp (maxSteps:=4000000) [hn,el,em,c0,c1,hm]
  by_cases c0:n=0;rotate_left
  .simp[a6z,hn,o1,o2,c0]at hm;simp (maxSteps:=4000000) [hn,o1,o2,c0,hm]
  subst c0;by_cases d1:(l.length:Int)<qS op
  .simp[a6z,hn,d1]at hm;simp (maxSteps:=4000000) [hn,o1,o2,d1,hm]
  by_cases d2:wZ op<(l.length:Int)
  .simp[a6z,hn,d1,d2]at hm;simp (maxSteps:=4000000) [hn,o1,o2,d1,d2,hm]
  simp[a6z,wP,hn,o1,o2,d1,d2]at hm;simp (maxSteps:=4000000) [hn,o1,o2,d1,d2];refine aC.mk sG (tT op) ?_;by_cases o8:op=8
  .subst o8;have el:qS 8=2:=rfl
   match l,d1 with
   |[],d1=>exact absurd (by rw[el];simp) d1
   |k::r,d1=>
    by_cases e1:k.op=1
    .simp[b2m,e1]at hm;simp (maxSteps:=4000000) [hn,e1,hm]
    .simp[b2m,e1]at hm;simp (maxSteps:=4000000) [hn,e1,hm]
  .simp[o8]at hm;simp (maxSteps:=4000000) [hn,o8,hm]
 .have ho:=d3P hn;have o1:¬op=1:=by omega
  have o2:¬op=2:=by omega
  have o8:¬op=8:=by omega
  by_cases c0:n=0;rotate_left
  .simp[a6z,hn,o1,o2,c0]at hm;simp (maxSteps:=4000000) [hn,o1,o2,c0,hm]
  subst c0;by_cases d1:(l.length:Int)<qS op
  .simp[a6z,hn,d1]at hm;simp (maxSteps:=4000000) [hn,o1,o2,d1,hm]
  by_cases d2:wZ op<(l.length:Int)
  .simp[a6z,hn,d1,d2]at hm;simp (maxSteps:=4000000) [hn,o1,o2,d1,d2,hm]
  simp[a6z,wP,hn,o1,o2,o8,d1,d2]at hm;simp (maxSteps:=4000000) [hn,o1,o2,d1,d2];refine aC.mk sG (tT op) ?_;simp[hn];refine aC.mk (.mk func225 rfl) (d3n hG nm) ?_;cases hc:sO nm;rotate_left
  .simp[hc]at hm;simp[gR,o8,hm]
  simp[hc]at hm;simp[gR];by_cases o3:op=3
  .subst o3;by_cases v1:nm=[118]
   .simp[a0T,v1]at hm;simp[v1,hm]
   .simp[a0T,v1]at hm;simp[v1,hm]
  by_cases o4:op=4
  .subst o4;by_cases v1:nm=[116,97,103]
   .simp[a0T,v1]at hm;simp[v1,hm]
   .by_cases v2:nm=[118,97,108]
    .simp[a0T,v2]at hm;simp[v2,hm]
    .simp[a0T,v1,v2]at hm;simp[v1,v2,hm]
  .simp[a0T,o3,o4]at hm;simp[o3,o4,hm]
theorem b9P(p:Pr):bO p<=900000000->CS prog G 195 [.agg (prD p)] (.d (.int .i64 (bO p))) none:=by
 revert p
 refine Pr.ind λp ih=>?_;obtain⟨op,nm,n,l⟩:=p;intro hN;simp only at ih;have hn:=qT ⟨op,nm,n,l⟩;simp only at hn;have hl:=jY l;refine CS.aW func195 rfl ntmps195 rfl ?_;simp;refine SW.gA (ι:={i:Nat//i<=l.length}) (λi=>[(3,.d (.int .i64 (1+eK (l.take i.1):Nat))),(9,.d (.int .i64 i.1))]) (λ_=>[(1,prO op nm n (.sl (l.map qO)))]) (λ_=>[]) (λi=>l.length-i.1) ⟨0,by simp⟩ (by simp[eK]) ?_;rintro⟨i,hi⟩;by_cases aG:i<l.length
 .have hg:=xB aG;have hw:=bC (show i<9223372036854775807 by omega);have hb2:=tA aG;have hb3:=kW l (i+1);have hw2:IntKind.i64.wrap (((1+eK (l.take i):Nat):Int)+(bO l[i]:Int))=((1+eK (l.take (i+1)):Nat):Int):=by rw[wrap64 (by omega),hb2];omega
  simp[aG,hg];refine aC.mk (.mk func195 rfl) (ih l[i] (g3y aG) (by omega)) ?_;simp;exact bD.mk ⟨i+1,aG⟩ (by simp at hw2;simp[hw,hw2]) (by simp;omega)
 .have:i=l.length:=by omega
  subst this;simp[hn]
theorem b9Q(p:Pr):bO p<=900000000->CS prog G 196 [.agg (prD p)] (.d (.int .i64 (b5s p))) none:=by
 revert p
 refine Pr.ind λp ih=>?_;obtain⟨op,nm,n,l⟩:=p;intro hN;simp only at ih;have hn:=qT ⟨op,nm,n,l⟩;have hd:=d1S ⟨op,nm,n,l⟩;simp only at hn hd;have hl:=jY l;have hle:=b2j l 0;refine CS.aW func196 rfl ntmps196 rfl ?_;simp;refine SW.gA (ι:={i:Nat//i<=l.length}) (λi=>[(3,.d (.int .i64 (wK (l.take i.1) 0))),(9,.d (.int .i64 i.1))]) (λ_=>[(1,prO op nm n (.sl (l.map qO)))]) (λ_=>[]) (λi=>l.length-i.1) ⟨0,by simp⟩ (by simp[wK]) ?_;rintro⟨i,hi⟩;by_cases aG:i<l.length
 .have hg:=xB aG;have hw:=bC (show i<9223372036854775807 by omega);have hs:=b7C aG 0;have hb2:=tA aG;have hb3:=kW l (i+1);simp[aG,hg];refine aC.mk (.mk func196 rfl) (ih l[i] (g3y aG) (by omega)) ?_;simp;exact bD.mk ⟨i+1,aG⟩ (by simp[hw,hs];split<;>omega) (by simp;omega)
 .have:i=l.length:=by omega
  subst this;have hw:IntKind.i64.wrap ((wK l 0:Int)+1)=((wK l 0+1:Nat):Int):=bC (by omega);simp[hw,hd]
mutual
theorem c6T:∀(p q:Pr),q∈a2S p->bO q<=bO p
 |⟨op,nm,n,l⟩,q,h=>by
  simp only[a2S,g3w]at h;rcases h with rfl|h
  .exact g3p _
  .have:=c1t l q h;simp only[bO];omega
theorem c1t:∀(l:List Pr)(q:Pr),q∈qP l->bO q<=eK l
 |[],q,h=>by simp[qP]at h
 |t::r,q,h=>by
  simp only[qP,g3z]at h;simp only[eK];rcases h with h|h
  .have:=c6T t q h;omega
  .have:=c1t r q h;omega
end
def a7E(p:Pr):Int:=b5t a3y p
theorem b9R(hG:G 1=some gC)(p:Pr)(hN:bO p<=1000000):CS prog G 177 [.agg (prD p)] (.d (.int .i64 (a7E p))) none:=by
 have h:=b9N (G:=G) a3y p hN (by have:=b9P (G:=G) p (by omega);rwa[dH]) (by have:=b9Q (G:=G) p (by omega);rwa[dH]) (λq hq=>by
  have h1:=c6T p q hq;have h2:=qT q;have h3:=jY q.kids;have:=c3s hG q
  rwa[dH])
 rwa[dH]at h
end Go.Proofs.YtmfbjecjccipfaaGreatDoor
end
end
namespace Go.Proofs.YtmfbjecjccipfaaGreatDoor
section
open Go Go.VM
variable {G:GT}
def b7K(p:Pr)(s:Pr×Bool):Option (Pr×Bool):=if zD p then some s else if a1F p (a5L false) then none else if s.2 then some (⟨15,[],0,[s.1,p]⟩,true) else some (p,true)
def b5u:List Pr->Pr×Bool->Pr
 |[],s=>s.1
 |p::r,s=>match b7K p s with
  |none=>a5L false
  |some s=>b5u r s
def bF(a b:Pr):Pr:=b5u [a,b] (a5L true,false)
theorem b7L(b:Bool):bO (a5L b)=1:=by cases b<;>simp[a5L,a1G,a5K,bO,eK]
theorem b7M(op:Int)(a b:Pr):bO ⟨op,[],0,[a,b]⟩=bO a+bO b+1:=by simp[bO,eK];omega
theorem c6U(L:List Pr)(hL:∀p∈L,bO p<=1000000:=by intro x hx;have h1:=it.2;simp only at h1;simp only[g3w,List.not_mem_nil,or_false]at hx;rcases hx with rfl|rfl<;>omega)(hl:L.length<=1000:=by simp):CS prog G 134 [.sl (L.map qO)] (.d (.agg (prD (b5u L (a5L true,false))))) none:=by
 generalize hR:b5u L (a5L true,false)=R;refine CS.aW func134 rfl ntmps134 rfl ?_;simp;refine aC.mk uL (wD true) ?_;simp;refine SW.gA (ι:={x:Nat×Pr×Bool//x.1<=L.length/\b5u (L.drop x.1) x.2=R}) (λx=>[(4,.d (.bool x.1.2.2)),(10,.d (.int .i64 x.1.1))]) (λx=>[(2,.cells [.d (.int .i64 0),.d (.str []),.d (.int .i64 0),.d .aE]),(3,.cells ((prD x.1.2.1).map .d))]) (λ_=>[]) (λx=>L.length-x.1.1) ⟨(0,a5L true,false),by simpa using hR⟩ (by simp) ?_;rintro⟨⟨k,out,some⟩,hk,hp⟩;simp only at hk hp;by_cases aG:k<L.length
 .have hg:(L.map qO)[k]? =.some (qO L[k]):=by simp[aG]
  have hw:=bC (show k<9223372036854775807 by omega);have hd:L.drop k=L[k]::L.drop (k+1):=g3m aG;have hb:=hL L[k] (g3y aG);rw[hd]at hp;obtain⟨p,hP⟩:∃p,L[k]=p:=⟨_,rfl⟩;rw[hP]at hg hd hb hp;have hv:=c3o (G:=G) p;have hs:=a1H (G:=G) p (a5L false) (by omega);have hc:=b7F (G:=G) p (by omega);simp only[b5u,b7K]at hp;simp[aG,hP];refine aC.mk (.mk func167 rfl) hv ?_;cases h1:zD p with
  |true=>rw[h1]at hp;simp;exact bD.mk ⟨(k+1,out,some),aG,by simpa using hp⟩ (by simp[hw]) (by simp;omega)
  |false=>
   rw[h1]at hp;simp;refine⟨.mk,?_⟩;refine aC.mk uL (wD false) ?_;simp;refine aC.mk wY hs ?_;cases h2:a1F p (a5L false)with
   |true=>rw[h2]at hp;simp at hp;simp;refine aC.mk uL (wD false) ?_;simp[<-hp]
   |false=>
    rw[h2]at hp;cases some with
    |true=>simp;refine⟨.mk,?_⟩;refine aC.mk (.mk func168 rfl) hc ?_;simp;exact bD.mk ⟨(k+1,⟨15,[],0,[out,p]⟩,true),aG,by simpa using hp⟩ (by simp[hw]) (by simp;omega)
    |false=>simp;refine aC.mk (.mk func168 rfl) hc ?_;simp;exact bD.mk ⟨(k+1,p,true),aG,by simpa using hp⟩ (by simp[hw]) (by simp;omega)
 .have hd:L.drop k=[]:=List.drop_eq_nil_of_le (by omega);rw[hd]at hp;simp only[b5u]at hp;simp[aG, <- hp]
abbrev a1I:Ty->DV:=λt=>.d (.agg (tyD t))
abbrev f7p:Option Ty->DV:=λo=>.cY [.agg (tyD (o.getD jK)),.bool o.isSome]
theorem dP:VM.Enters prog 43:=.mk func43 rfl
section
variable {aD:List Tok->Nat->Nat->jA Pr} {l:List Tok} (hV:rP G aD l)
include hV
theorem b7N(j0:Nat)(hi:j0<l.length):tL G 84 [] l j0 (gO aL l j0) f7p:=by
 have hl:=hV.len;have ht:=dK (G:=G) l j0 j0 0;have p0:=gQ hi;refine pX.bP func84 rfl ntmps84 rfl (by simp) ?_;intro Q Q0;simp;cases h1:aJ l j0 [73,110,116]with
 |true=>refine rdT h1 p0 hV.fin λp1=>?_;simp;exact Q0.ok _ (j0+1) _ _ (by unfold gO;rw[if_pos h1]) (.inr rfl) (by simp[wQ,eI])
 |false=>
 refine rdF h1 p0 ?_;simp;cases h2:aJ l j0 [66,111,111,108]with
 |true=>refine rdT h2 p0 hV.fin λp1=>?_;simp;exact Q0.ok _ (j0+1) _ _ (by unfold gO;rw[if_neg (by rw[h1];decide),if_pos h2]) (.inr rfl) (by simp[wQ,eI])
 |false=>
 refine rdF h2 p0 ?_;simp;cases h3:aJ l j0 [67,101,108,108]with
 |true=>refine rdT h3 p0 hV.fin λp1=>?_;simp;exact Q0.ok _ (j0+1) _ _ (by unfold gO;rw[if_neg (by rw[h1];decide),if_neg (by rw[h2];decide),if_pos h3]) (.inr rfl) (by simp[wQ,eI])
 |false=>
 refine rdF h3 p0 ?_;simp;refine pY (ds:=[.int .i64 0]) cH ht ?_;simp;refine jT.mk oH (pS hV.kw (aH l j0)) ?_;cases h4:gU aL (aH l j0)with
 |true=>simp;refine rdX (ds:=[]) dS (eH hV.kw l j0 hi (by omega)) (λs j hx=>?_) (λn e hx=>by unfold bU mH at hx;rw[if_pos h4]at hx;cases hx);unfold bU mH at hx;rw[if_pos h4]at hx;cases hx;simp;exact Q0.ok _ (j0+1) _ _ (by unfold gO;rw[if_neg (by rw[h1];decide),if_neg (by rw[h2];decide),if_neg (by rw[h3];decide),if_pos h4]) (.inr rfl) (by simp[wQ,eI])
 |false=>simp;exact Q0.ok none j0 _ _ (by unfold gO;rw[if_neg (by rw[h1];decide),if_neg (by rw[h2];decide),if_neg (by rw[h3];decide),if_neg (by rw[h4];decide)]) (.inr rfl) (by simp[jK,eI])
theorem b7O(i:Nat)(hi:i<l.length):CH prog G 131 ⟨[.ptr 100000 0],rH l i,[]⟩ ⟨[.d (.bool (b1I aL l i))],rH l i,[]⟩:=by
 have hl:=hV.len;have ht:=dK (G:=G) l i i 0;have hb:=mQ (G:=G) l i [123] hi;have hc:=mQ (G:=G) l i [40] hi;have hw:=pS hV.kw (aH l i);unfold b1I;refine CH.aW func131 rfl ntmps131 rfl (by simp) ?_;simp;refine c3i (i:=i) (ds:=[.int .i64 0]) cH ht ?_;generalize aH l i=T at ht hw|-;obtain⟨k,x,n,ln⟩:=T;simp[bL];refine aC.mk oH hw ?_;cases h1:gU aL ⟨k,x,n,ln⟩with
 |true=>simp
 |false=>
  by_cases h2:k=2
  .simp[h2,pJ]
  .simp[h2,pJ];refine c3i (i:=i) (ds:=[.str [123]]) jO hb ?_;cases h3:aJ l i [123]with
   |true=>simp
   |false=>simp;refine c3i (i:=i) (ds:=[.str [40]]) jO hc ?_;simp
def TyI(t:Ty)(i j:Nat):Prop:=(t.pred.op=0->t.pred=b0B)/\bO t.pred+i<=j+1
section
variable {ty:bE Ty} {low:Nat} (mU:∀i,low<=i->i<l.length->tL G 43 [] l i (ty i) a1I) (yF:aB l 0 ty) (ity:∀i t j,i<l.length->ty i=.ok t j->TyI t i j)
include mU yF ity
theorem a9E(j0:Nat)(cN:low<=j0+1)(hi:j0<l.length):tL G 86 [] l j0 (vC bF aD l ty j0) a1I:=by
 have hl:=hV.len;have p0:=gQ hi;refine pX.bP func86 rfl ntmps86 rfl (by simp) ?_;intro Q Q0;unfold vC at Q0;simp;refine eP Q0 p0 hV.fin λu1 j1 x1 Q1 p1=>?_;simp;refine uA Q1 p1 dP ((mU j1 (by omega) p1.2)) (yF) λt j2 x2 Q2 p2=>?_;have it:=ity j1 t j2 p1.2 x2;obtain⟨op,nm,args,ns,p,ps⟩:=t;simp only at Q2;simp;by_cases h6:op=6
 .rw[if_pos h6]at Q2;simp[h6];refine rdX (ds:=[]) xZ (a0j (α:=Ty) l j2 p2.2 (by omega) λ_=>.cY []) (λa j hx=>by unfold dN at hx;cases hx) (λn e hx=>Q2.bad n e _ hx)
 rw[if_neg h6]at Q2;simp[h6];refine eP Q2 p2 hV.fin λu3 j3 x3 Q3 p3=>?_;simp;refine uA Q3 p3 sT (vH hV j3 p3.2) (hV.oY.pred) λq j4 x4 Q4 p4=>?_;simp;refine eP Q4 p4 hV.fin λu5 j5 x5 Q5 p5=>?_;simp;have hq:=hV.nod _ _ _ _ p3.2 x4;have hs:=a1H (G:=G) p b0B (by have:=it.2;simp only at this;omega);refine jT.mk wY (CS.args hs (by simp[b0B])) ?_;rw[b2k];have h0:=it.1;simp only at h0;by_cases hz:p=b0B
 .subst hz;simp;exact Q5.ok _ j5 _ _ rfl (.inr rfl) (by simp[b0B])
 .have qA:¬p.op=0:=λe=>hz (h0 e);have ha:=c6U (G:=G) [p,q]
  simp[hz];refine jT.mk (.mk func134 rfl) (by simpa using ha) ?_;simp;exact Q5.ok _ j5 _ _ rfl (.inr rfl) (by simp[qA,bF])
theorem b4O(j0:Nat)(cN:low<=j0+1)(hi:j0<l.length):tL G 97 [] l j0 (kO aL bF aD l ty j0) a1I:=by
 have hl:=hV.len;have p0:=gQ hi;have ht:=dK (G:=G) l j0 j0 0;refine pX.bP func97 rfl ntmps97 rfl (by simp) ?_;intro Q Q0;unfold kO at Q0;simp;refine uA Q0 p0 (.mk func84 rfl) (b7N hV j0 hi) (aB.base hV.fin) λo j1 x1 Q1 p1=>?_;cases o with
 |some t=>obtain⟨op,nm,args,ns,p,ps⟩:=t;simp;exact Q1.ok _ j1 _ _ rfl (.inr rfl) (by simp)
 |none=>
 have hj:=xX x1;subst hj;simp only at Q1;simp[jK,eI];refine pY (ds:=[.int .i64 0]) cH ht ?_;cases hti:pJ (aH l j1)with
 |true=>
  rw[hti,if_pos rfl]at Q1;have hk:(aH l j1).kind=2:=by simpa[pJ]using hti
  have htt:=oI (G:=G) l j1 p1.2;have hx:jI l j1=.ok (aH l j1).text (j1+1):=by unfold jI mH;rw[if_pos hti]
  generalize aH l j1=T at Q1 hk hx|-;obtain⟨k,x,n,ln⟩:=T;simp only at hk;subst hk;simp[bL];refine rdX (ds:=[]) mA htt (λs j h=>?_) (λn e h=>by rw[hx]at h;cases h);rw[hx]at h;cases h;simp;exact Q1.ok _ (j1+1) _ _ rfl (.inr rfl) (by simp[wQ,eI])
 |false=>
  rw[hti,if_neg (by decide)]at Q1;have hk:¬(aH l j1).kind=2:=by simpa[pJ]using hti
  generalize aH l j1=T at hk|-;obtain⟨k,x,n,ln⟩:=T;simp only at hk;simp[bL,hk];have hb:=mQ (G:=G) l j1 [123] p1.2;refine pY (ds:=[.str [123]]) jO hb ?_;cases hs:aJ l j1 [123]with
  |true=>rw[hs,if_pos rfl]at Q1;simp;refine rdX (ds:=[]) (.mk func86 rfl) (a9E hV mU yF ity j1 cN p1.2) (λt j h=>?_) (λn e h=>Q1.bad n e _ h);simp;exact Q1.ok t j _ _ h (.inr rfl) (by simp)
  |false=>rw[hs,if_neg (by decide)]at Q1;simp;refine eP Q1 p1 hV.fin λu2 j2 x2 Q2 p2=>?_;simp;refine uA Q2 p2 dP ((mU j2 (by omega) p2.2)) (yF) λt j3 x3 Q3 p3=>?_;simp;refine eP Q3 p3 hV.fin λu4 j4 x4 Q4 p4=>?_;simp;exact Q4.ok t j4 _ _ rfl (.inr rfl) (by simp)
end
end
section
variable {aD:List Tok->Nat->Nat->jA Pr} {l:List Tok} (hV:rP G aD l)
include hV
def a9F(nm:Nm)(args:List Ty)(out:List Pr):List (Nat×bH):=[(100001,.cells [.ptr 100000 0]),(100002,.cells [.d (.int .i64 4),.d (.str nm),.d (.sl (args.map tyC)),.d (.sl []),.d (.int .i64 0),.d (.str []),.d (.int .i64 0),.d (.sl []),.d (.sl (out.map qO))])]
abbrev e6t:List (TypeId×List VM.Loc):=[(52,[.c 100002 8])]
abbrev c6X(aD:List Tok->Nat->Nat->jA Pr)(l:List Tok)(out:List Pr):bE (List Pr):=do
 aQ l [[118],[46]]
 let p <- kY aD l
 pure (out++[p])
theorem c6Y(nm:Nm)(args:List Ty)(out:List Pr)(j0:Nat)(hi:j0<l.length)(vT:out.length<=j0):pX G 132 [.ptr 100001 0,.ptr 100002 0] (a9F nm args out) e6t l j0 (c6X aD l out j0) (λ_=>.cY []) (a9F nm args):=by
 have hl:=hV.len;have p0:=gQ hi;refine pX.bP func132 rfl ntmps132 rfl (by simp) ?_;intro Q Q0;simp[a9F];refine eP Q0 p0 hV.fin λu1 j1 x1 Q1 p1=>?_;simp;refine eW 6 (t:=50) (e:=52) (T:=54) (s:=6) (z:=10) (r:=11) (p:=12) (q:=9) (x:=8) (b:=13) (y:=1) (fd:=5) [0] 3 [2] (a6y 1 4 5) (kV (kY aD l j1)) rfl rfl rfl rfl rfl (by kernel_rfl) (by kernel_rfl) rfl ?_;simp
 repeat' apply And.intro
 all_goals
  refine rT Q1 p1 sT (vH hV j1 p1.2) (hV.oY.pred) λq j2 x2 Q2 p2=>cS.mk ?_;simp
 all_goals
  refine⟨_,_,_,_,_,_,_,_,_,by simp,rfl,rfl,?_,rfl,rfl,?_,by simp,rfl,rfl,rfl,rfl,by decide,rfl,?_⟩
  .intro c hc
   first
    |(obtain⟨y,_,rfl⟩:=g3u.1 hc
      rw[dH]
      rfl)
    |(simp only[g3g]at hc
      subst hc
      rfl)
  .simp<;>omega
  exact Q2.ok _ j2 .normal _ rfl (.inl rfl) (by simp[a9F,dH])
theorem d3S(nm:Nm)(args:List Ty):a2A l K3 [.ptr 100001 0,.ptr 100002 0] (a9F nm args) e6t:=by
 constructor
 all_goals intros
 all_goals first
  |rfl
  |simp[a9F,aR,aY,bB,bA,bM,getKey,aZ,bI,dE,rk,dM,bW, *]
theorem d3T(a:List Pr)(i:Nat)(b:List Pr)(j:Nat)(h:c6X aD l a i=.ok b j):b.length=a.length+1:=by
 simp only[c6X,bX]at h
 repeat' split at h
 all_goals first|cases h|skip
 all_goals simp
theorem b3w(out:List Pr):aB l 1 (c6X aD l out):=(aB.exp hV.fin _ _).bl λ_=>hV.oY.pred.bl λ_=>aB.bZ _
variable{c:Nat->Bool}{g i:Nat}
theorem a0m{α:Type}{one:α->bE α}{a b:α}{j:Nat}(hc:c i=true)(h:one a i=.ok b j):eE c one (g+1) a i=eE c one g b j:=by rw[eE];simp only[hc,if_true,h]
theorem tU{α:Type}{one:α->bE α}{a:α}{n e:Int}(hc:c i=true)(h:one a i=.bad n e):eE c one (g+1) a i=.bad n e:=by rw[eE];simp only[hc,if_true,h]
theorem a0n{α:Type}{one:α->bE α}{a:α}(hc:c i=false):eE c one (g+1) a i=.ok a i:=by rw[eE];simp only[hc,g3t,if_false]
section
variable {ty:bE Ty} {low:Nat} (mU:∀i,low<=i->i<l.length->tL G 43 [] l i (ty i) a1I) (yF:aB l 0 ty) (ity:∀i t j,i<l.length->ty i=.ok t j->TyI t i j)
include mU yF ity
abbrev e3E(aD:List Tok->Nat->Nat->jA Pr)(l:List Tok)(ty:bE Ty)(out:List Ty):bE (List Ty):=do let t <- kO aL bF aD l ty;pure (out++[t])
theorem c9W(j0:Nat)(cN:low<=j0+1)(hi:j0<l.length):tL G 85 [] l j0 (tB aL bF aD l ty j0) a1I:=by
 have hl:=hV.len;have p0:=gQ hi;refine pX.bP func85 rfl ntmps85 rfl (by simp) ?_;intro Q Q0;unfold tB at Q0;simp;refine uA Q0 p0 mA (oI l j0 p0.2) (aB.title hV.fin) λnm j1 x1 Q1 p1=>?_;simp;refine SW.tK (ι:={x:List Ty×Nat×Nat//j1<=x.2.1/\x.2.1<l.length/\l.length<x.2.2+x.2.1/\x.1.length<=x.2.1/\eE (b1I aL l) (e3E aD l ty) x.2.2 x.1 x.2.1=pK l (b1I aL l) (e3E aD l ty) [] j1}) (λ_=>[]) (λx=>[(1,.cells [.ptr 100000 0]),(2,.cells [.d (.int .i64 0),.d (.str []),.d .aE,.d .aE,.d (.int .i64 0),.d (.str []),.d (.int .i64 0),.d .aE,.d .aE]),(3,.cells [.d (.int .i64 4),.d (.str nm),.d (.sl (x.1.1.map tyC)),.d .aE,.d (.int .i64 0),.d (.str []),.d (.int .i64 0),.d .aE,.d .aE]),(100000,rdO l x.1.2.1)]) (λ_=>[(54,[.c 3 2])]) (λx=>l.length-x.1.2.1) ⟨([],j1,l.length+2),g3p _,p1.2,by simp only;omega,by simp,rfl⟩ (by simp) ?_;rintro⟨⟨out,j2,g⟩,hb,vB,hg,ho,hp⟩;simp only at hb vB hg ho hp;obtain⟨g,rfl⟩:∃k,g=k+1:=⟨g-1,by omega⟩;simp;refine pY (i:=j2) (ds:=[]) (.mk func131 rfl) (b7O hV j2 vB) ?_;by_cases hc:b1I aL l j2=true
 .simp[hc];refine eW 6 (t:=41) (e:=54) (T:=54) (s:=10) (z:=14) (r:=15) (p:=16) (q:=13) (x:=12) (b:=17) (y:=3) (fd:=2) [0] 3 [2] (a6y 1 4 5) (kV (kO aL bF aD l ty j2)) rfl rfl rfl rfl rfl (by kernel_rfl) (by kernel_rfl) rfl ?_;simp
  repeat' apply And.intro
  all_goals
   refine rdZ (ds:=[]) (.mk func97 rfl) (b4O hV mU yF ity j2 (by omega) vB) (λt j3 x3=>?_) (λn e hx=>?_)
   .have p3:=aB.a1e hV.fin yF hV.oY.pred j2 t j3 vB x3;have h1:e3E aD l ty out j2=.ok (out++[t]) j3:=(bS x3).trans rfl;rw[a0m hV hc h1]at hp;refine cS.mk ?_;simp;refine⟨_,_,_,_,_,_,_,_,_,by simp,rfl,rfl,?_,rfl,rfl,?_,by simp,rfl,rfl,rfl,rfl,by decide,rfl,?_⟩
    .intro c hc
     first
      |(obtain⟨y,_,rfl⟩:=g3u.1 hc
        rw[cB]
        rfl)
      |(simp only[g3g]at hc
        subst hc
        rfl)
    .simp<;>omega
    refine bD.mk ⟨(out++[t],j3,g),by simp only;omega,p3.2,by simp only;omega,by simp;omega,hp⟩ (by simp[cB]) (by simp;omega)
   .have h1:e3E aD l ty out j2=.bad n e:=kN hx;rw[tU hV hc h1]at hp;simp;exact λs=>Q1.fail hp.symm s
 .have hc:=Bool.eq_false_iff.2 hc;rw[a0n hV hc]at hp;have Q2:=Q1.step hp.symm;have p2:j1<=j2/\j2<l.length:=⟨hb,vB⟩;simp[hc];cases hs:aJ l j2 [60]with
  |false=>have Q3:=Q2.step (mT hs);rw[if_neg (by decide)]at Q3;refine rdF hs p2 ?_;simp;exact Q3.ok _ j2 _ _ rfl (.inr rfl) (by simp[wQ,eI])
  |true=>
   have Q3:=Q2.step (mS hs);rw[if_pos rfl]at Q3;refine rdT hs p2 hV.fin λp3=>?_;obtain⟨j3,hj3⟩:∃j3,j2+1=j3:=⟨_,rfl⟩;rw[hj3]at Q3 p3|-;simp;have kK:=jG hV [44] (c6X aD l) (λout i=>out.length<=i) 0 (.mk func132 rfl) (d3S hV nm out) (λa=>(b3w hV a).le (by omega)) (λa i _ hi h=>c6Y hV nm out a i hi h) (λa i b j hi h hx=>by have h1:=b3w hV a i b j hi hx;have h2:=d3T hV a i b j hx;omega) (λa i h=>by omega) [] j3 (by omega) p3.2 (by simp)
   refine eB.mk (a1D eQ kK [(100000,100000),(100001,1),(100002,3)] (λa j hx=>?_) ?_ ?_ ?_ rfl rfl (λws j4 x4=>?_) (λn e hx2=>Q3.fail hx2 _))
   .simp[a9F,aR,aY,bB,bA,bM,getKey]
   .simp[a9F,aR,aY,bB,bA,bM,getKey]
   .simp[aZ,bI,rk]
   .simp[a9F,aZ,bI,rk,dE,dM]
   .have Q4:=Q3.step x4;have p4:=aB.list hV.fin (λa=>b3w hV a) [] j3 ws j4 p3.2 x4;simp[bJ,a9F,aZ,bI,rk,dE,dM,bW,kU,jF,eN];refine eP Q4 p4 hV.fin λu5 j5 x5 Q5 p5=>?_;simp;exact Q5.ok _ j5 _ _ rfl (.inr rfl) (by simp[wQ,eI])
end
end
section
variable {aD:List Tok->Nat->Nat->jA Pr} {l:List Tok} (hV:rP G aD l)
include hV
def a2T(out:List Nm×List Ty):List (Nat×bH):=[(100001,.cells [.d (.int .i64 6),.d (.str []),.d (.sl (out.2.map tyC)),.d (.sl (strs out.1)),.d (.int .i64 0),.d (.str []),.d (.int .i64 0),.d (.sl []),.d (.sl [])]),(100002,.cells [.ptr 100000 0])]
abbrev e9y:List (TypeId×List VM.Loc):=[(54,[.c 100001 2]),(9,[.c 100001 3])]
abbrev a7G(l:List Tok)(ty:bE Ty)(out:List Nm×List Ty):bE (List Nm×List Ty):=do
 let w <- bU aL l
 aQ l [[58]]
 let t <- ty
 pure (out.1++[w],out.2++[t])
abbrev a6l(ty:bE Ty)(out:List Nm×List Ty):bE (List Nm×List Ty):=do
 let t <- ty
 pure (out.1,out.2++[t])
theorem vJ{α:Type}{c:Nm}{one:α->bE α}(I:α->Nat->Prop)(h1:∀a i b j,i<l.length->I a i->one a i=.ok b j->I b j/\j<l.length)(hm:∀a i,I a i->I a (i+1)):∀(g:Nat)(a:α)(i:Nat)(b:α)(j:Nat),i<l.length->I a i->eT l c one g a i=.ok b j->I b j/\j<l.length
 |0,a,i,b,j,_,_,h=>by unfold eT at h;cases h
 |g+1,a,i,b,j,hi,ha,h=>by
  unfold eT at h;split at h
  .cases h
  .rename_i b' j' ho;have k1:=h1 a i b' j' hi ha ho;split at h
   .rename_i hs;exact vJ I h1 hm g b' (j'+1) b j (aV hV.fin k1.2 hs) (hm _ _ k1.1) h
   .cases h;exact k1
theorem c6Z:a2A l K3 [.ptr 100001 0,.ptr 100002 0] a2T e9y:=by
 constructor
 all_goals intros
 all_goals first
  |rfl
  |simp[a2T,aR,aY,bB,bA,bM,getKey,aZ,bI,dE,rk,dM,bW, *]
variable{ty:bE Ty}
omit hV in
theorem c1u(a:List Nm×List Ty)(i:Nat)(b:List Nm×List Ty)(j:Nat)(h:a7G l ty a i=.ok b j):b.1.length=a.1.length+1/\b.2.length=a.2.length+1:=by
 simp only[a7G,bX]at h
 repeat' split at h
 all_goals first|cases h|skip
 all_goals simp
omit hV in
theorem d3U(a:List Nm×List Ty)(i:Nat)(b:List Nm×List Ty)(j:Nat)(h:a6l ty a i=.ok b j):b.1=a.1/\b.2.length=a.2.length+1:=by
 simp only[a6l,bX]at h
 repeat' split at h
 all_goals first|cases h|skip
 all_goals simp
section
variable {ty:bE Ty} {low:Nat} (mU:∀i,low<=i->i<l.length->tL G 43 [] l i (ty i) a1I) (yF:aB l 1 ty)
include mU yF
theorem c9Y(out:List Nm×List Ty)(j0:Nat)(cN:low<=j0)(hi:j0<l.length)(vT:out.1.length<=j0/\out.2.length<=j0):pX G 135 [.ptr 100001 0,.ptr 100002 0] (a2T out) e9y l j0 (a7G l ty out j0) (λ_=>.cY []) a2T:=by
 have hl:=hV.len;have p0:=gQ hi;refine pX.bP func135 rfl ntmps135 rfl (by simp) ?_;intro Q Q0;simp[a2T];refine eV [0] 3 [2] (.op 1 (.call [4,5,6,7] .none) (.call [1,4,5,6,7] .none)) (kV (bU aL l j0)) (by kernel_rfl) (by kernel_rfl) ?_;simp;refine⟨?_,?_⟩
 all_goals
  refine rT Q0 p0 dS (eH hV.kw l j0 p0.2 (by omega)) (aB.word hV.fin) λw j1 x1 Q1 p1=>cS.mk ?_;simp;refine cJ (by omega) ?_;simp;refine eP Q1 p1 hV.fin λu2 j2 x2 Q2 p2=>?_;simp;refine eW 6 (t:=41) (e:=54) (T:=54) (s:=13) (z:=17) (r:=18) (p:=19) (q:=16) (x:=15) (b:=20) (y:=0) (fd:=2) [0] 3 [2] (a6y 1 4 5) (kV (ty j2)) rfl rfl rfl rfl rfl (by kernel_rfl) (by kernel_rfl) rfl ?_;simp
  repeat' apply And.intro
  all_goals
   refine rT Q2 p2 dP ((mU j2 (by omega) p2.2)) (yF) λt j3 x3 Q3 p3=>cS.mk ?_;simp;refine⟨_,_,_,_,_,_,_,_,_,by simp,rfl,rfl,?_,rfl,rfl,?_,by simp,rfl,rfl,rfl,rfl,by decide,rfl,?_⟩
   .intro c hc
    first
     |(obtain⟨y,_,rfl⟩:=g3u.1 hc
       rw[cB]
       rfl)
     |(simp only[g3g]at hc
       subst hc
       rfl)
   .simp<;>omega
   exact Q3.ok _ j3 .normal _ rfl (.inl rfl) (by simp[a2T,cB,a1X])
theorem c9Z(out:List Nm×List Ty)(i:Nat)(cN:low<=i)(hi:i<l.length)(vT:out.1.length<=i/\out.2.length<=i):pX G 136 [.ptr 100001 0,.ptr 100002 0] (a2T out) e9y l i (a6l ty out i) (λ_=>.cY []) a2T:=by
 have hl:=hV.len;obtain⟨j2,rfl⟩:∃j2,j2=i:=⟨_,rfl⟩;have p2:j2<=j2/\j2<l.length:=⟨g3p _,hi⟩;refine pX.bP func136 rfl ntmps136 rfl (by simp) ?_;intro Q Q2;simp[a2T];refine eW 6 (t:=41) (e:=54) (T:=54) (s:=3) (z:=7) (r:=8) (p:=9) (q:=6) (x:=5) (b:=10) (y:=0) (fd:=2) [0] 3 [2] (a6y 1 4 5) (kV (ty j2)) rfl rfl rfl rfl rfl (by kernel_rfl) (by kernel_rfl) rfl ?_;simp
 repeat' apply And.intro
 all_goals
  refine rT Q2 p2 dP ((mU j2 (by omega) p2.2)) (yF) λt j3 x3 Q3 p3=>cS.mk ?_;simp;refine⟨_,_,_,_,_,_,_,_,_,by simp,rfl,rfl,?_,rfl,rfl,?_,by simp,rfl,rfl,rfl,rfl,by decide,rfl,?_⟩
  .intro c hc
   first
    |(obtain⟨y,_,rfl⟩:=g3u.1 hc
      rw[cB]
      rfl)
    |(simp only[g3g]at hc
      subst hc
      rfl)
  .simp<;>omega
  exact Q3.ok _ j3 .normal _ rfl (.inl rfl) (by simp[a2T,cB])
theorem b3x(out:List Nm×List Ty):aB l 1 (a7G l ty out):=(aB.word hV.fin).bl λ_=>(aB.exp hV.fin _ _).bz λ_=>(yF.le (by omega)).bl λ_=>aB.bZ _
omit hV in
theorem a8K(out:List Nm×List Ty):aB l 1 (a6l ty out):=yF.bl λ_=>aB.bZ _
theorem b7P(a:List Nm×List Ty)(i:Nat)(b:List Nm×List Ty)(j:Nat)(hi:i<l.length)(h:a.1.length<=i/\a.2.length<=i)(hx:a7G l ty a i=.ok b j):(b.1.length<=j/\b.2.length<=j)/\j<l.length:=by have h1:=b3x hV mU yF a i b j hi hx;have h2:=c1u a i b j hx;omega
omit hV in
theorem b0C(a:List Nm×List Ty)(i:Nat)(b:List Nm×List Ty)(j:Nat)(hi:i<l.length)(h:a.1.length<=i/\a.2.length<=i)(hx:a6l ty a i=.ok b j):(b.1.length<=j/\b.2.length<=j)/\j<l.length:=by have h1:=a8K mU yF a i b j hi hx;have h2:=d3U a i b j hx;rw[h2.1];omega
theorem d3V(j0:Nat)(cN:low<=j0+1)(hi:j0<l.length):tL G 87 [] l j0 (vD aL l ty j0) a1I:=by
 have hl:=hV.len;have p0:=gQ hi;refine pX.bP func87 rfl ntmps87 rfl (by simp) ?_;intro Q Q0;unfold vD at Q0;simp;refine eP Q0 p0 hV.fin λu1 j1 x1 Q1 p1=>?_;simp;have ht:=dK (G:=G) l j1 j1 0;have ht1:=dK (G:=G) l j1 (j1+1) 1;refine pY (ds:=[.int .i64 0]) cH ht ?_;simp;refine jT.mk oH (pS hV.kw (aH l j1)) ?_;have hK:∀(b:Bool),(gU aL (aH l j1)&&cI (aH l (j1+1)) [58])=b->((λi=>if gU aL (aH l i)&&cI (aH l (i+1)) [58] then dI l [44] (a7G l ty) ([],[]) i else dI l [44] (a6l ty) ([],[]) i:bE (List Nm×List Ty)) j1)=if b then dI l [44] (a7G l ty) ([],[]) j1 else dI l [44] (a6l ty) ([],[]) j1:=λb hb=>by simp only[hb]
 have f3z:=jG hV [44] (a7G l ty) (λout i=>out.1.length<=i/\out.2.length<=i) low (.mk func135 rfl) (c6Z hV) (λa=>(b3x hV mU yF a).le (by omega)) (λa i rZ hi h=>c9Y hV mU yF a i rZ hi h) (λa i b j hi h hx=>(b7P hV mU yF a i b j hi h hx).1) (λa i h=>by omega) ([],[]) j1 (by omega) p1.2 (by simp);have e6u:=jG hV [44] (a6l ty) (λout i=>out.1.length<=i/\out.2.length<=i) low (.mk func136 rfl) (c6Z hV) (λa=>(a8K mU yF a).le (by omega)) (λa i rZ hi h=>c9Z hV mU yF a i rZ hi h) (λa i b j hi h hx=>(b0C mU yF a i b j hi h hx).1) (λa i h=>by omega) ([],[]) j1 (by omega) p1.2 (by simp);cases hw:gU aL (aH l j1)with
 |false=>
  have hx:=hK false (by rw[hw];rfl);rw[if_neg (by decide)]at hx;simp;refine eB.mk (a1D eQ e6u [(100000,100000),(100001,3),(100002,1)] (λa j hx=>?_) ?_ ?_ ?_ rfl rfl (λws j2 x2=>?_) (λn e hx2=>Q1.fail (hx.trans hx2) _))
  .simp[a2T,aR,aY,bB,bA,bM,getKey]
  .simp[a2T,aR,aY,bB,bA,bM,getKey]
  .simp[aZ,bI,rk]
  .simp[a2T,aZ,bI,rk,dE,dM]
  .have Q2:=Q1.step (hx.trans x2);have p2:=aB.list hV.fin (λa=>a8K mU yF a) ([],[]) j1 ws j2 p1.2 x2;have hlen:ws.1.length<=50000/\ws.2.length<=50000:=by have:=vJ hV (one:=a6l ty) (λa i=>a.1.length<=i/\a.2.length<=i) (b0C mU yF) (λa i h=>by omega) _ _ _ _ _ p1.2 (by simp) x2;omega
   simp[bJ,a2T,aZ,bI,rk,dE,dM,bW,kU,jF,eN];obtain⟨ns,ts⟩:=ws;simp only at Q2 hlen;refine eP Q2 p2 hV.fin λu3 j3 x3 Q3 p3=>?_;simp;by_cases hn:ns.length=0
   .have hn0:ns=[]:=g3J hn;subst hn0;by_cases h1:ts.length=1
    .obtain⟨t,rfl⟩:=List.length_eq_one_iff.1 h1;have hb:=mQ (G:=G) l j3 [45,62] p3.2;simp;refine pY (ds:=[.str [45,62]]) jO hb ?_;cases hs:aJ l j3 [45,62]with
     |false=>have Q3:=Q3.uK (by simp[hs]);simp;exact Q3.ok _ j3 _ _ rfl (.inr rfl) (by simp[cB])
     |true=>
      have Q3:=Q3.sK (by simp[hs]);simp;refine eP Q3 p3 hV.fin λu4 j4 x4 Q4 p4=>?_;simp;refine eW 6 (t:=41) (e:=54) (T:=54) (s:=48) (z:=52) (r:=53) (p:=54) (q:=51) (x:=50) (b:=55) (y:=3) (fd:=2) [0] 3 [2] (a6y 1 4 5) (kV (ty j4)) rfl rfl rfl rfl rfl (by kernel_rfl) (by kernel_rfl) rfl ?_;simp
      repeat' apply And.intro
      all_goals
       refine rT Q4 p4 dP ((mU j4 (by omega) p4.2)) (yF) λt5 j5 x5 Q5 p5=>cS.mk ?_;simp;refine⟨_,_,_,_,_,_,_,_,_,by simp,rfl,rfl,?_,rfl,rfl,?_,by simp,rfl,rfl,rfl,rfl,by decide,rfl,?_⟩
       .intro c hc
        first
         |(obtain⟨y,_,rfl⟩:=g3u.1 hc
           rw[cB]
           rfl)
         |(simp only[g3g]at hc
           subst hc
           rfl)
       .simp<;>omega
       simp;exact Q5.ok _ j5 _ _ rfl (.inr rfl) (by simp[wQ,eI,cB])
    .have Q3:=Q3.sK (by simp[h1]);simp[h1];refine eP Q3 p3 hV.fin λu4 j4 x4 Q4 p4=>?_;simp;refine eW 6 (t:=41) (e:=54) (T:=54) (s:=48) (z:=52) (r:=53) (p:=54) (q:=51) (x:=50) (b:=55) (y:=3) (fd:=2) [0] 3 [2] (a6y 1 4 5) (kV (ty j4)) rfl rfl rfl rfl rfl (by kernel_rfl) (by kernel_rfl) rfl ?_;simp
     repeat' apply And.intro
     all_goals
      refine rT Q4 p4 dP ((mU j4 (by omega) p4.2)) (yF) λt5 j5 x5 Q5 p5=>cS.mk ?_;simp;refine⟨_,_,_,_,_,_,_,_,_,by simp,rfl,rfl,?_,rfl,rfl,?_,by simp,rfl,rfl,rfl,rfl,by decide,rfl,?_⟩
      .intro c hc
       first
        |(obtain⟨y,_,rfl⟩:=g3u.1 hc
          rw[cB]
          rfl)
        |(simp only[g3g]at hc
          subst hc
          rfl)
      .simp<;>omega
      simp;exact Q5.ok _ j5 _ _ rfl (.inr rfl) (by simp[wQ,eI,cB])
   .have Q3:=Q3.sK (by simp[hn]);have hn':¬(ns.length:Int)=0:=by omega
    have hn2:¬ns=[]:=λe=>hn (by rw[e];rfl);simp[hn,hn',hn2];refine eP Q3 p3 hV.fin λu4 j4 x4 Q4 p4=>?_;simp;refine eW 6 (t:=41) (e:=54) (T:=54) (s:=48) (z:=52) (r:=53) (p:=54) (q:=51) (x:=50) (b:=55) (y:=3) (fd:=2) [0] 3 [2] (a6y 1 4 5) (kV (ty j4)) rfl rfl rfl rfl rfl (by kernel_rfl) (by kernel_rfl) rfl ?_;simp
    repeat' apply And.intro
    all_goals
     refine rT Q4 p4 dP ((mU j4 (by omega) p4.2)) (yF) λt5 j5 x5 Q5 p5=>cS.mk ?_;simp;refine⟨_,_,_,_,_,_,_,_,_,by simp,rfl,rfl,?_,rfl,rfl,?_,by simp,rfl,rfl,rfl,rfl,by decide,rfl,?_⟩
     .intro c hc
      first
       |(obtain⟨y,_,rfl⟩:=g3u.1 hc
         rw[cB]
         rfl)
       |(simp only[g3g]at hc
         subst hc
         rfl)
     .simp<;>omega
     simp;exact Q5.ok _ j5 _ _ rfl (.inr rfl) (by simp[wQ,eI,cB])
 |true=>
  simp;refine pY (ds:=[.int .i64 1]) cH ht1 ?_;simp;refine jT.mk oS (qE (aH l (j1+1)) [58]) ?_;cases hf:cI (aH l (j1+1)) [58]with
  |false=>
   have hx:=hK false (by rw[hw,hf];rfl);rw[if_neg (by decide)]at hx;simp;refine eB.mk (a1D eQ e6u [(100000,100000),(100001,3),(100002,1)] (λa j hx=>?_) ?_ ?_ ?_ rfl rfl (λws j2 x2=>?_) (λn e hx2=>Q1.fail (hx.trans hx2) _))
   .simp[a2T,aR,aY,bB,bA,bM,getKey]
   .simp[a2T,aR,aY,bB,bA,bM,getKey]
   .simp[aZ,bI,rk]
   .simp[a2T,aZ,bI,rk,dE,dM]
   .have Q2:=Q1.step (hx.trans x2);have p2:=aB.list hV.fin (λa=>a8K mU yF a) ([],[]) j1 ws j2 p1.2 x2;have hlen:ws.1.length<=50000/\ws.2.length<=50000:=by have:=vJ hV (one:=a6l ty) (λa i=>a.1.length<=i/\a.2.length<=i) (b0C mU yF) (λa i h=>by omega) _ _ _ _ _ p1.2 (by simp) x2;omega
    simp[bJ,a2T,aZ,bI,rk,dE,dM,bW,kU,jF,eN];obtain⟨ns,ts⟩:=ws;simp only at Q2 hlen;refine eP Q2 p2 hV.fin λu3 j3 x3 Q3 p3=>?_;simp;by_cases hn:ns.length=0
    .have hn0:ns=[]:=g3J hn;subst hn0;by_cases h1:ts.length=1
     .obtain⟨t,rfl⟩:=List.length_eq_one_iff.1 h1;have hb:=mQ (G:=G) l j3 [45,62] p3.2;simp;refine pY (ds:=[.str [45,62]]) jO hb ?_;cases hs:aJ l j3 [45,62]with
      |false=>have Q3:=Q3.uK (by simp[hs]);simp;exact Q3.ok _ j3 _ _ rfl (.inr rfl) (by simp[cB])
      |true=>
       have Q3:=Q3.sK (by simp[hs]);simp;refine eP Q3 p3 hV.fin λu4 j4 x4 Q4 p4=>?_;simp;refine eW 6 (t:=41) (e:=54) (T:=54) (s:=48) (z:=52) (r:=53) (p:=54) (q:=51) (x:=50) (b:=55) (y:=3) (fd:=2) [0] 3 [2] (a6y 1 4 5) (kV (ty j4)) rfl rfl rfl rfl rfl (by kernel_rfl) (by kernel_rfl) rfl ?_;simp
       repeat' apply And.intro
       all_goals
        refine rT Q4 p4 dP ((mU j4 (by omega) p4.2)) (yF) λt5 j5 x5 Q5 p5=>cS.mk ?_;simp;refine⟨_,_,_,_,_,_,_,_,_,by simp,rfl,rfl,?_,rfl,rfl,?_,by simp,rfl,rfl,rfl,rfl,by decide,rfl,?_⟩
        .intro c hc
         first
          |(obtain⟨y,_,rfl⟩:=g3u.1 hc
            rw[cB]
            rfl)
          |(simp only[g3g]at hc
            subst hc
            rfl)
        .simp<;>omega
        simp;exact Q5.ok _ j5 _ _ rfl (.inr rfl) (by simp[wQ,eI,cB])
     .have Q3:=Q3.sK (by simp[h1]);simp[h1];refine eP Q3 p3 hV.fin λu4 j4 x4 Q4 p4=>?_;simp;refine eW 6 (t:=41) (e:=54) (T:=54) (s:=48) (z:=52) (r:=53) (p:=54) (q:=51) (x:=50) (b:=55) (y:=3) (fd:=2) [0] 3 [2] (a6y 1 4 5) (kV (ty j4)) rfl rfl rfl rfl rfl (by kernel_rfl) (by kernel_rfl) rfl ?_;simp
      repeat' apply And.intro
      all_goals
       refine rT Q4 p4 dP ((mU j4 (by omega) p4.2)) (yF) λt5 j5 x5 Q5 p5=>cS.mk ?_;simp;refine⟨_,_,_,_,_,_,_,_,_,by simp,rfl,rfl,?_,rfl,rfl,?_,by simp,rfl,rfl,rfl,rfl,by decide,rfl,?_⟩
       .intro c hc
        first
         |(obtain⟨y,_,rfl⟩:=g3u.1 hc
           rw[cB]
           rfl)
         |(simp only[g3g]at hc
           subst hc
           rfl)
       .simp<;>omega
       simp;exact Q5.ok _ j5 _ _ rfl (.inr rfl) (by simp[wQ,eI,cB])
    .have Q3:=Q3.sK (by simp[hn]);have hn':¬(ns.length:Int)=0:=by omega
     have hn2:¬ns=[]:=λe=>hn (by rw[e];rfl);simp[hn,hn',hn2];refine eP Q3 p3 hV.fin λu4 j4 x4 Q4 p4=>?_;simp;refine eW 6 (t:=41) (e:=54) (T:=54) (s:=48) (z:=52) (r:=53) (p:=54) (q:=51) (x:=50) (b:=55) (y:=3) (fd:=2) [0] 3 [2] (a6y 1 4 5) (kV (ty j4)) rfl rfl rfl rfl rfl (by kernel_rfl) (by kernel_rfl) rfl ?_;simp
     repeat' apply And.intro
     all_goals
      refine rT Q4 p4 dP ((mU j4 (by omega) p4.2)) (yF) λt5 j5 x5 Q5 p5=>cS.mk ?_;simp;refine⟨_,_,_,_,_,_,_,_,_,by simp,rfl,rfl,?_,rfl,rfl,?_,by simp,rfl,rfl,rfl,rfl,by decide,rfl,?_⟩
      .intro c hc
       first
        |(obtain⟨y,_,rfl⟩:=g3u.1 hc
          rw[cB]
          rfl)
        |(simp only[g3g]at hc
          subst hc
          rfl)
      .simp<;>omega
      simp;exact Q5.ok _ j5 _ _ rfl (.inr rfl) (by simp[wQ,eI,cB])
  |true=>
   have hx:=hK true (by rw[hw,hf];rfl);rw[if_pos rfl]at hx;simp;refine eB.mk (a1D eQ f3z [(100000,100000),(100001,3),(100002,1)] (λa j hx=>?_) ?_ ?_ ?_ rfl rfl (λws j2 x2=>?_) (λn e hx2=>Q1.fail (hx.trans hx2) _))
   .simp[a2T,aR,aY,bB,bA,bM,getKey]
   .simp[a2T,aR,aY,bB,bA,bM,getKey]
   .simp[aZ,bI,rk]
   .simp[a2T,aZ,bI,rk,dE,dM]
   .have Q2:=Q1.step (hx.trans x2);have p2:=aB.list hV.fin (λa=>b3x hV mU yF a) ([],[]) j1 ws j2 p1.2 x2;have hlen:ws.1.length<=50000/\ws.2.length<=50000:=by have:=vJ hV (one:=a7G l ty) (λa i=>a.1.length<=i/\a.2.length<=i) (b7P hV mU yF) (λa i h=>by omega) _ _ _ _ _ p1.2 (by simp) x2;omega
    simp[bJ,a2T,aZ,bI,rk,dE,dM,bW,kU,jF,eN];obtain⟨ns,ts⟩:=ws;simp only at Q2 hlen;refine eP Q2 p2 hV.fin λu3 j3 x3 Q3 p3=>?_;simp;by_cases hn:ns.length=0
    .have hn0:ns=[]:=g3J hn;subst hn0;by_cases h1:ts.length=1
     .obtain⟨t,rfl⟩:=List.length_eq_one_iff.1 h1;have hb:=mQ (G:=G) l j3 [45,62] p3.2;simp;refine pY (ds:=[.str [45,62]]) jO hb ?_;cases hs:aJ l j3 [45,62]with
      |false=>have Q3:=Q3.uK (by simp[hs]);simp;exact Q3.ok _ j3 _ _ rfl (.inr rfl) (by simp[cB])
      |true=>
       have Q3:=Q3.sK (by simp[hs]);simp;refine eP Q3 p3 hV.fin λu4 j4 x4 Q4 p4=>?_;simp;refine eW 6 (t:=41) (e:=54) (T:=54) (s:=48) (z:=52) (r:=53) (p:=54) (q:=51) (x:=50) (b:=55) (y:=3) (fd:=2) [0] 3 [2] (a6y 1 4 5) (kV (ty j4)) rfl rfl rfl rfl rfl (by kernel_rfl) (by kernel_rfl) rfl ?_;simp
       repeat' apply And.intro
       all_goals
        refine rT Q4 p4 dP ((mU j4 (by omega) p4.2)) (yF) λt5 j5 x5 Q5 p5=>cS.mk ?_;simp;refine⟨_,_,_,_,_,_,_,_,_,by simp,rfl,rfl,?_,rfl,rfl,?_,by simp,rfl,rfl,rfl,rfl,by decide,rfl,?_⟩
        .intro c hc
         first
          |(obtain⟨y,_,rfl⟩:=g3u.1 hc
            rw[cB]
            rfl)
          |(simp only[g3g]at hc
            subst hc
            rfl)
        .simp<;>omega
        simp;exact Q5.ok _ j5 _ _ rfl (.inr rfl) (by simp[wQ,eI,cB])
     .have Q3:=Q3.sK (by simp[h1]);simp[h1];refine eP Q3 p3 hV.fin λu4 j4 x4 Q4 p4=>?_;simp;refine eW 6 (t:=41) (e:=54) (T:=54) (s:=48) (z:=52) (r:=53) (p:=54) (q:=51) (x:=50) (b:=55) (y:=3) (fd:=2) [0] 3 [2] (a6y 1 4 5) (kV (ty j4)) rfl rfl rfl rfl rfl (by kernel_rfl) (by kernel_rfl) rfl ?_;simp
      repeat' apply And.intro
      all_goals
       refine rT Q4 p4 dP ((mU j4 (by omega) p4.2)) (yF) λt5 j5 x5 Q5 p5=>cS.mk ?_;simp;refine⟨_,_,_,_,_,_,_,_,_,by simp,rfl,rfl,?_,rfl,rfl,?_,by simp,rfl,rfl,rfl,rfl,by decide,rfl,?_⟩
       .intro c hc
        first
         |(obtain⟨y,_,rfl⟩:=g3u.1 hc
           rw[cB]
           rfl)
         |(simp only[g3g]at hc
           subst hc
           rfl)
       .simp<;>omega
       simp;exact Q5.ok _ j5 _ _ rfl (.inr rfl) (by simp[wQ,eI,cB])
    .have Q3:=Q3.sK (by simp[hn]);have hn':¬(ns.length:Int)=0:=by omega
     have hn2:¬ns=[]:=λe=>hn (by rw[e];rfl);simp[hn,hn',hn2];refine eP Q3 p3 hV.fin λu4 j4 x4 Q4 p4=>?_;simp;refine eW 6 (t:=41) (e:=54) (T:=54) (s:=48) (z:=52) (r:=53) (p:=54) (q:=51) (x:=50) (b:=55) (y:=3) (fd:=2) [0] 3 [2] (a6y 1 4 5) (kV (ty j4)) rfl rfl rfl rfl rfl (by kernel_rfl) (by kernel_rfl) rfl ?_;simp
     repeat' apply And.intro
     all_goals
      refine rT Q4 p4 dP ((mU j4 (by omega) p4.2)) (yF) λt5 j5 x5 Q5 p5=>cS.mk ?_;simp;refine⟨_,_,_,_,_,_,_,_,_,by simp,rfl,rfl,?_,rfl,rfl,?_,by simp,rfl,rfl,rfl,rfl,by decide,rfl,?_⟩
      .intro c hc
       first
        |(obtain⟨y,_,rfl⟩:=g3u.1 hc
          rw[cB]
          rfl)
        |(simp only[g3g]at hc
          subst hc
          rfl)
      .simp<;>omega
      simp;exact Q5.ok _ j5 _ _ rfl (.inr rfl) (by simp[wQ,eI,cB])
end
end
theorem CH.f7q{P:Program}{f:FuncId}{s0:St}{r r':DV}{H1:List (Nat×bH)}{own1:List (TypeId×List VM.Loc)}(h:CH P G f s0 ⟨[r],H1,own1⟩)(hw:b0j r r'):CH P G f s0 ⟨[r'],H1,own1⟩:=λbase R μ args w hr=>(h base R μ args w hr).mono λe w' ⟨v,R',μ',he,jD,hs⟩=>⟨v,R',μ',he,jD.e9i hw,hs⟩
theorem b4P:CS prog G 188 [] (.d (.agg (prD a5K))) none:=by refine CS.aW func188 rfl ntmps188 rfl ?_;simp[a5K]
def b9T:List Pr->Pr->Pr
 |[],o=>o
 |p::r,o=>if a1F p a5K then a5K else if zD p then b9T r o else if zD o then b9T r p else b9T r ⟨15,[],0,[o,p]⟩
theorem d7K{p:Pr}(h:a1F p a5K=true):zD p=false:=by rw[b2k]at h;simp only[g3N]at h;subst h;decide
theorem d1T(a b:Pr):b9T [a,b] a1G=bF a b:=by
 have ht:zD a1G=true:=by decide
 have e:∀p,zD p=true->a1F p a5K=false:=λp h=>by
  cases hs:a1F p a5K with
  |true=>rw[d7K hs]at h;cases h
  |false=>rfl
 have hf:a5L false=a5K:=rfl;have htr:a5L true=a1G:=rfl;unfold bF;simp only[b9T,b5u,b7K,ht,if_true,hf,htr];cases va:zD a with
 |true=>
  simp only[e a va,g3t,if_false,if_true];cases vb:zD b with
  |true=>simp only[e b vb,g3t,if_false,if_true]
  |false=>
   cases sb:a1F b a5K with
   |true=>simp only[if_true,g3t,if_false]
   |false=>simp only[g3t,if_false]
 |false=>
  cases sa:a1F a a5K with
  |true=>simp only[if_true,g3t,if_false]
  |false=>
   simp only[g3t,if_false];cases vb:zD b with
   |true=>simp only[e b vb,g3t,if_false,if_true]
   |false=>
    cases sb:a1F b a5K with
    |true=>simp only[if_true,g3t,if_false]
    |false=>simp only[va,g3t,if_false,if_true]
theorem d3W(a b:Pr)(ha:bO a<=440000000:=by omega)(hb:bO b<=440000000:=by omega):CS prog G 175 [.sl [qO a,qO b]] (.d (.agg (prD (bF a b)))) none:=by
 rw[<-d1T];generalize hR:b9T [a,b] a1G=R;obtain⟨L,hL⟩:∃L,L=[a,b]:=⟨_,rfl⟩;have hLl:L.length=2:=by rw[hL];rfl
 have hm:∀p∈L,bO p<=440000000:=by
  rw[hL];intro p hp;simp only[g3w,List.not_mem_nil,or_false]at hp;rcases hp with rfl|rfl
  .exact ha
  .exact hb
 rw[<-hL]at hR;rw[show [qO a,qO b]=L.map qO by rw[hL];rfl];refine CS.aW func175 rfl ntmps175 rfl ?_;simp;refine aC.mk (.mk func187 rfl) b7D ?_;simp;refine SW.gA (ι:={x:Nat×Pr//x.1<=2/\b9T (L.drop x.1) x.2=R/\(x.1=0->bO x.2<=440000000)/\(x.1<=1->bO x.2<=880000001)}) (λx=>[(9,.d (.int .i64 x.1.1))]) (λx=>[(2,.cells [.d (.int .i64 0),.d (.str []),.d (.int .i64 0),.d .aE]),(3,.cells ((prD x.1.2).map .d))]) (λ_=>[]) (λx=>L.length-x.1.1) ⟨(0,a1G),by simp,by simpa using hR,λ_=>by rw[show bO (0,a1G).2=1 by simp[a1G,bO,eK]];decide,λ_=>by rw[show bO (0,a1G).2=1 by simp[a1G,bO,eK]];decide⟩ (by simp[a1G]) ?_;rintro⟨⟨k,out⟩,hk,hp,hn0,hn1⟩;simp only at hk hp hn0 hn1;by_cases aG:k<L.length
 .have hw:=bC (show k<9223372036854775807 by omega);have hd:L.drop k=L[k]::L.drop (k+1):=g3m aG;have hbd:=hm L[k] (g3y aG);rw[hd]at hp;obtain⟨p,hP⟩:∃p,L[k]=p:=⟨_,rfl⟩;rw[hP]at hd hbd hp;have hnb:=hn1 (by omega);have uV:k+1<=1->bO out<=880000001:=λh=>hnb;have hnp:k+1<=1->bO p<=880000001:=λh=>by omega
  have hn2:k+1<=1->bO ⟨15,[],0,[out,p]⟩<=880000001:=λh=>by have:=hn0 (by omega);rw[b7M];omega
  have hv:=b7E (G:=G) p;have hvo:=b7E (G:=G) out;have hs:=vI (G:=G) p a5K (by omega);simp only[b9T]at hp;simp[aG,hP];refine⟨.mk,?_⟩;refine aC.mk (.mk func188 rfl) b4P ?_;simp;refine aC.mk rE hs ?_;cases h2:a1F p a5K with
  |true=>rw[h2,if_pos rfl]at hp;simp;refine aC.mk (.mk func188 rfl) b4P ?_;simp[<-hp]
  |false=>
   rw[h2,if_neg (by decide)]at hp;simp;refine aC.mk (.mk func189 rfl) hv ?_;cases h1:zD p with
   |true=>rw[h1,if_pos rfl]at hp;simp;exact bD.mk ⟨(k+1,out),by simp only;omega,hp,λh=>(by cases h),uV⟩ (by simp[hw]) (by simp;omega)
   |false=>
    rw[h1,if_neg (by decide)]at hp;simp;refine aC.mk (.mk func189 rfl) hvo ?_;cases h3:zD out with
    |true=>rw[h3,if_pos rfl]at hp;simp;exact bD.mk ⟨(k+1,p),by simp only;omega,hp,λh=>(by cases h),hnp⟩ (by simp[hw]) (by simp;omega)
    |false=>rw[h3,if_neg (by decide)]at hp;simp;exact bD.mk ⟨(k+1,⟨15,[],0,[out,p]⟩),by simp only;omega,hp,λh=>(by cases h),hn2⟩ (by simp[hw]) (by simp;omega)
 .have hd:L.drop k=[]:=List.drop_eq_nil_of_le (by omega);rw[hd]at hp;simp only[b9T]at hp;simp[aG, <- hp]
theorem a3z:VM.Enters prog 111:=.mk func111 rfl
abbrev yH(l:List Tok)(k:Nat)(s s1:dR):Prop:=s1.er=0->s.er=0/\s.pl+k<=s1.pl/\s1.pl<l.length
structure vK (G:GT) (aD:List Tok->Nat->Nat->jA Pr) (l:List Tok):Prop extends RfH aD l where
 len:l.length<=20000
 nod:∀i e p j,aD l i e=.ok p j->bO p<=20001
 bef:∀s e,cO l s->(s.er=0->s.pl<=e)->e<=l.length->eG G 119 [.int .i64 e] l s (pF aD l e s) d3H
section
variable {aD:List Tok->Nat->Nat->jA Pr} {l:List Tok} (hV:vK G aD l)
include hV
theorem a5M(s:dR)(hv:cO l s):eG G 111 [] l s (a5A aD l s) d3H:=by have hl:=hV.len;have hb:=hV.bef s l.length hv (λh=>Nat.le_of_lt (hv h)) (g3p _);obtain⟨i,e,ln⟩:=s;refine eG.bP func111 rfl ntmps111 rfl ?_;intro Q Q0;simp;refine cT (.mk func119 rfl) hb (λp s1 h1=>?_);have Q0:=Q0.eq h1;simp;exact Q0.ok _ _ (.inr rfl) (by simp)
variable{s s1:dR}
omit hV in
theorem tD(hE:pE l){b:Bool}{a:Nm}(hb:b=true->(gN l 0 s).kind≠0)(hv:cO l s)(h:oT l b s=(a,s1)):s1.er=0->s.er=0/\s.pl+1<=s1.pl/\s1.pl<l.length:=λh1=>by
 unfold oT at h;by_cases hc:b=true/\s.er=0
 .rw[if_pos hc]at h;cases h;have hi:=hv hc.2;have hk:=hb hc.1;unfold gN at hk;rw[if_pos ⟨hc.2,hi⟩]at hk;exact⟨hc.2,g3p _,qZ hE hi hk⟩
 .rw[if_neg hc]at h;cases h;unfold mB at h1;split at h1
  .cases h1
  .contradiction
variable{t u:Nm}
omit hV in
theorem qH(hE:pE l){u:Unit}(hv:cO l s)(h:aX l t s=(u,s1)):s1.er=0->s.er=0/\s.pl+1<=s1.pl/\s1.pl<l.length:=by
 have h:oT l (cF l 0 t s) s=((oT l (cF l 0 t s) s).1,s1):=by
  cases h
  rfl
 refine tD hE (λhb=>?_) hv h;unfold cF at hb;simp only[g2Z,g3N]at hb;omega
omit hV in
theorem a0o(hE:pE l)(hv:cO l s)(h:oT l (jU l t s) s=(u,s1)):s1.er=0->s.er=0/\s.pl+1<=s1.pl/\s1.pl<l.length:=tD hE (λhb=>by unfold jU at hb;simp only[g2Z,g3N]at hb;omega) hv h
omit hV in
theorem oZ(hE:pE l)(hv:cO l s)(h:eY aL l s=(u,s1)):s1.er=0->s.er=0/\s.pl+1<=s1.pl/\s1.pl<l.length:=tD hE (λhb=>by unfold mR at hb;simp only[g2Z,g3N]at hb;omega) hv h
variable{ds:List D}{all:Array Oper}{f:FuncId}{own:List (TypeId×List VM.Loc)}{av:List DV}{Q Q':Exit->St->Prop}{m:Nat}{ops:List Oper}{k:List XI}{dst:Option Tmp}{st:St}{rs:List ResultVar}{ls:List (Option VM.Loc)}
omit hV in
theorem rfG{α β:Type}{enc:β->DV}{e1:α->DV}{x:RM α}{g:α->RM β}(Q0:zS Q rs l enc own ((x >>=g) s))(v0:cO l s)(he:VM.Enters prog f)(hc:eG G f ds l s (x s) e1)(ad:∀{a s1},cO l s->x s=(a,s1)->s1.er=0->s.er=0/\s.pl+m<=s1.pl/\s1.pl<l.length)(oB:∀a s1,x s=(a,s1)->zS Q rs l enc own (g a s1)->yH l m s s1->cO l s1->XK prog G (.ops all ops::k) .normal ⟨kG dst (e1 a) st.tmps,cE 100000 (rfO l s1) st.H,hZ dst (dropKey 100000 st.own)⟩ Q')(hw:WkT av (.ptr 100000 0::ds.map .d):=by simp)(hH:getKey 100000 st.H=some (rfO l s):=by simp)(hk:∀a,aY K1 (e1 a)=true/\bI K1 (e1 a)=e1 a:=by intro a;exact⟨rfl,rfl⟩):eB prog G f av ls dst all ops k st Q':=cT (hw:=hw) (hH:=hH) he hc (λa s1 h=>oB a s1 h (Q0.step h) (ad v0 h) (cO.next (ad v0 h))) hk
omit hV in
theorem rfL{α:Type}{e1:α->DV}{x:RM α}(v0:cO l s)(he:VM.Enters prog f)(hc:eG G f ds l s (x s) e1)(ad:∀{a s1},cO l s->x s=(a,s1)->s1.er=0->s.er=0/\s.pl+m<=s1.pl/\s1.pl<l.length)(oB:∀a s1,x s=(a,s1)->yH l m s s1->cO l s1->XK prog G (.ops all ops::k) .normal ⟨kG dst (e1 a) st.tmps,cE 100000 (rfO l s1) st.H,hZ dst (dropKey 100000 st.own)⟩ Q')(hw:WkT av (.ptr 100000 0::ds.map .d):=by simp)(hH:getKey 100000 st.H=some (rfO l s):=by simp)(hk:∀a,aY K1 (e1 a)=true/\bI K1 (e1 a)=e1 a:=by intro a;exact⟨rfl,rfl⟩):eB prog G f av ls dst all ops k st Q':=cT (hw:=hw) (hH:=hH) he hc (λa s1 h=>oB a s1 h (ad v0 h) (cO.next (ad v0 h))) hk
omit hV in
theorem rfN(t:Nm)(v0:cO l s)(hF:pE l)(oB:∀a s1,aX l t s=(a,s1)->yH l 1 s s1->cO l s1->XK prog G (.ops all ops::k) .normal ⟨kG dst (.cY []) st.tmps,cE 100000 (rfO l s1) st.H,hZ dst (dropKey 100000 st.own)⟩ Q')(hw:WkT av (.ptr 100000 0::[D.str t].map .d):=by simp)(hH:getKey 100000 st.H=some (rfO l s):=by simp)(hl:l.length<=50000:=by omega):eB prog G 23 av ls dst all ops k st Q':=cT (hw:=hw) (hH:=hH) pU (rJ hl t s v0) λa s1 h=>oB a s1 h (qH hF v0 h) (cO.next (qH hF v0 h))
omit hV in
theorem rfM{β:Type}{enc:β->DV}{g:Unit->RM β}(Q0:zS Q rs l enc own ((aX l t >>=g) s))(v0:cO l s)(hF:pE l)(oB:∀a s1,aX l t s=(a,s1)->zS Q rs l enc own (g a s1)->yH l 1 s s1->cO l s1->XK prog G (.ops all ops::k) .normal ⟨kG dst (.cY []) st.tmps,cE 100000 (rfO l s1) st.H,hZ dst (dropKey 100000 st.own)⟩ Q')(hw:WkT av (.ptr 100000 0::[D.str t].map .d):=by simp)(hH:getKey 100000 st.H=some (rfO l s):=by simp)(hl:l.length<=50000:=by omega):eB prog G 23 av ls dst all ops k st Q':=rfN (hw:=hw) (hH:=hH) t v0 hF (λa s1 h p v=>oB a s1 h (Q0.step h) p v) (hl:=hl)
theorem b4R(s0:dR)(hv:cO l s0):eG G 72 [] l s0 (rV aL l s0) (λws=>.d (.sl (strs ws))):=by
 have hl:=hV.len;have v0:=hv;refine eG.bP func72 rfl ntmps72 rfl ?_;intro Q Q0;unfold rV at Q0;simp;refine rfM Q0 v0 hV.fin λu1 s1 h1 Q1 p1 v1=>?_;simp;refine rfG Q1 v1 mG (oX (by omega) s1 v1) (oZ hV.fin) λw s2 h2 Q2 p2 v2=>?_;simp;obtain⟨Y,hY⟩:∃Y,a4G aL l w s2=Y:=⟨_,rfl⟩;have Q2:=Q2.step (a:=Y.1) (s1:=Y.2) hY;refine SW.tK (ι:={x:List Nm×dR×Nat//cO l x.2.1/\x.1.length<=l.length+1/\(x.2.1.er=0->x.1.length<=x.2.1.pl/\l.length<x.2.2+x.2.1.pl)/\(if cF l 0 [44] x.2.1 then pM l [44] (λout=>do let w <- eY aL l;pure (out++[w])) x.2.2 x.1 ⟨x.2.1.pl+1,x.2.1.er,x.2.1.ln⟩ else(x.1,x.2.1))=Y}) (λx=>[(3,.d (.sl (strs x.1.1)))]) (λx=>rfH l x.1.2.1) (λ_=>[(9,[.t 3])]) (λx=>if x.1.2.1.er=0 then l.length-x.1.2.1.pl+1 else 0) ⟨([w],s2,l.length+1),v2,by simp,λh=>?_,hY⟩ (by simp[strs]) ?_
 .have:=p2 h;simp only[List.length_singleton];omega
 rintro⟨⟨out,s3,g⟩,v3,ho,hb,hy⟩;simp only at v3 ho hb hy;simp;refine cT cG (dO (by omega) [44] s3 v3) (λb s4 h4=>?_);unfold gJ at h4;rcases g3x (cF l 0 [44] s3)with hs|hs
 .rw[if_pos hs]at hy;rw[if_pos hs]at h4;obtain⟨rfl,h4'⟩:=Prod.mk.inj h4;obtain⟨e1,e2⟩:=a1V hV.fin hs;have hb1:=hb e1;obtain⟨g,rfl⟩:∃k,g=k+1:=⟨g-1,by omega⟩;have e4:s4.er=0/\s4.pl=s3.pl+1:=by rw[<-h4'];exact⟨e1,rfl⟩
  rw[h4']at hy;have v4:cO l s4:=λ_=>by omega
  simp;refine cT mG (oX (by omega) s4 v4) (λw s5 h5=>?_);have p5:=oZ hV.fin v4 h5;have ho1:(eY aL l >>=λw=>pure (out++[w]):RM (List Nm)) s4=(out++[w],s5):=by
   rw[bK,h5]
   rfl
  unfold pM at hy;rw[if_pos e4.1,ho1]at hy;simp;refine jN (by omega) ?_;simp;refine bD.mk ⟨(out++[w],s5,g),cO.next p5,by simp only[g3K,List.length_singleton];omega,λh=>?_,hy⟩ (by simp[a1X]) ?_
  .have:=p5 h;simp only[g3K,List.length_singleton];omega
  .simp only[e1,if_true];split
   .rename_i h;have:=p5 h;omega
   .omega
 .rw[if_neg (by rw[hs];decide)]at hy;rw[if_neg (by rw[hs];decide)]at h4;cases h4;subst hy;simp;refine cT pU (rJ (by omega) [41] s3 v3) (λu5 s5 h5=>?_);have Q5:=Q2.step h5;simp;exact Q5.ok _ _ (.inr rfl) (by simp)
omit hV in
abbrev e9B(op:Int)(nm:Nm):List D:=[.int .i64 op,.str nm,.aE,.aE,.int .i64 0,.str [],.int .i64 0,.aE,.aE]
theorem b2s(s:dR)(hv:cO l s):eG G 156 [] l s (dL aL l s) (λp=>.cY [.agg (e9B p.1.op p.1.name),.bool p.2]):=by
 have hl:=hV.len;have hp:eG G 21 [.int .i64 0] l s _ _:=oW (by omega) 0 s hv (by omega);have hwd:eG G 105 [.int .i64 0] l s _ _:=a5E (by omega) 0 s hv (by omega);have hti:=sS (G:=G) (by omega) s hv;have her:(gN l 0 s).kind≠0->s.er=0:=λh=>by
  by_cases he:s.er=0
  .exact he
  .simp[gN,he]at h
 obtain⟨i,e,ln⟩:=s;have hw:(gN l 0 ⟨i,e,ln⟩).kind≠0->IntKind.i64.wrap ((i:Int)+1)=((i+1:Nat):Int):=λh=>by have hi:i<l.length:=hv (her h);exact bC (by omega)
 refine eG.bP func156 rfl ntmps156 rfl ?_;intro Q Q0;unfold dL mR uB at Q0;unfold mR at hwd;unfold uB at hti;simp;refine cT jJ hp (λT s1 h1=>?_);cases h1;generalize gN l 0 ⟨i,e,ln⟩=T at Q0 hwd hti hw|-;obtain⟨a,x,c,d⟩:=T;simp only at Q0 hwd hti hw;simp[bL];refine cT pT hwd (λb s1 h1=>?_);cases h1;by_cases h1:(decide (a=1)&& !aL x)=true
 .have Q0:=Q0.uK h1;have hw:=hw (by simp only[g2Z,g3N]at h1;omega);simp only[h1];simp[hw];exact Q0.ok _ _ (.inr rfl) (by simp[wQ,eI])
 have Q0:=Q0.sK h1;have h1:=Bool.eq_false_iff.2 h1;simp only[h1];simp;refine cT rC hti (λb s1 h1=>?_);cases h1;by_cases h2:a=2
 .have Q0:=Q0.sK (by simp[h2]);have hw:=hw (by omega);simp[h2,hw];by_cases x1:x=[73,110,116]
  .simp only[if_pos x1]at Q0;simp[x1];exact Q0.ok _ _ (.inr rfl) (by simp[wQ,eI])
  simp only[if_neg x1]at Q0;simp[x1];by_cases x2:x=[66,111,111,108]
  .simp only[if_pos x2]at Q0;simp[x2];exact Q0.ok _ _ (.inr rfl) (by simp[wQ,eI])
  simp only[if_neg x2]at Q0;simp[x2];by_cases x3:x=[67,101,108,108]
  .simp only[if_pos x3]at Q0;simp[x3];exact Q0.ok _ _ (.inr rfl) (by simp[wQ,eI])
  simp only[if_neg x3]at Q0;simp[x3];exact Q0.ok _ _ (.inr rfl) (by simp[wQ,eI])
 .have Q0:=Q0.uK (by simp[h2]);simp[h2];exact Q0.ok _ _ (.inr rfl) (by simp[jK,eI])
omit hV in
theorem b2t(s:dR):(dL aL l s).1.1=wQ (dL aL l s).1.1.op (dL aL l s).1.1.name:=by
 unfold dL
 repeat' split
 all_goals rfl
theorem c7a(s:dR)(hv:cO l s):eG G 156 [] l s (dL aL l s) (λp=>.cY [.agg (tyD p.1),.bool p.2]):=by
 refine CH.f7q (b2s hV s hv) ?_
 show b0j (.cY [.agg (e9B (dL aL l s).1.1.op (dL aL l s).1.1.name),.bool (dL aL l s).1.2]) (.cY [.agg (tyD (dL aL l s).1.1),.bool (dL aL l s).1.2])
 have hf:=b2t (l:=l) s;generalize (dL aL l s).1=p at hf|-;obtain⟨t,b⟩:=p;simp only at hf;rw[hf];simp[wQ,eI]
end
variable{l:List Tok}{s s1:dR}
theorem yH.tr{k m:Nat}{s2:dR}(h:yH l k s s1)(h':yH l m s1 s2):yH l (k+m) s s2:=λh2=>by have h3:=h' h2;have h4:=h h3.1;omega
variable{b:Bool}{t:Nm}
theorem a2B(hE:pE l)(hv:cO l s)(h:gJ l t s=(b,s1)):yH l 0 s s1:=λh1=>by
 unfold gJ at h;split at h
 .rename_i hs;have:=a1V hE hs;cases h;exact⟨this.1,Nat.le_succ _,this.2⟩
 .cases h;exact⟨h1,g3p _,hv h1⟩
theorem oD(hE:pE l)(h:gJ l t s=(b,s1)):(cF l 0 t s=true/\b=true/\s1=⟨s.pl+1,s.er,s.ln⟩/\s.er=0/\s1.pl=s.pl+1/\cO l s1)\/(cF l 0 t s=false/\b=false/\s1=s):=by
 unfold gJ at h;split at h
 .rename_i hs;have h2:=a1V hE hs;cases h;exact .inl ⟨hs,rfl,rfl,h2.1,rfl,λ_=>h2.2⟩
 .rename_i hs;cases h;exact .inr ⟨Bool.eq_false_iff.2 hs,rfl,rfl⟩
theorem a4J(hE:pE l)(hv:cO l s)(h:wV l t s=(b,s1)):yH l 0 s s1:=λh1=>by
 unfold wV at h;split at h
 .rename_i hs;unfold jU gN at hs;cases h;simp only at h1;rw[if_pos ⟨h1,hv h1⟩]at hs;simp only[g2Z,g3N]at hs;exact⟨h1,Nat.le_succ _,qZ hE (hv h1) (by have:=hs.1;simp only[Nat.add_zero]at this;omega)⟩
 .cases h;exact⟨h1,g3p _,hv h1⟩
theorem d0b(hE:pE l){u:Nm}(hv:cO l s)(h:b7s aL l s=(u,s1)):yH l 1 s s1:=tD hE (λhb=>by unfold uB mR at hb;simp only[g3l,g2Z,g3N]at hb;omega) hv h
section
variable {aD:List Tok->Nat->Nat->jA Pr} {l:List Tok} (hV:vK G aD l)
include hV
theorem vL(s:dR)(hv:cO l s):eG G 105 [.int .i64 0] l s (mR aL l 0 s,s) (λb=>.d (.bool b)):=a5E (by have:=hV.len;omega) 0 s hv (by omega)
theorem eC(t:Nm)(s:dR)(hv:cO l s):eG G 60 [.int .i64 0,.str t] l s (cF l 0 t s,s) (λb=>.d (.bool b)):=qF (by have:=hV.len;omega) 0 t s hv (by omega)
abbrev rvM(l:List Tok)(v:Bool)(out:List psV):RM (List psV):=do
 let name <- a3Y l λs=>mR aL l 0 s||v&&jU l [118] s
 aX l [58]
 let t <- b7s aL l
 pure (out++[(name,t)])
abbrev rnM(l:List Tok)(out:List psV):RM (List psV):=do
 let c <- vZ l
 let w <- eY aL l
 pure (out++[(c,w)])
theorem b7Q(v:Bool)(s:dR)(hv:cO l s):eG G 106 [.bool v] l s (a1f aL l v s) (λxs=>.d (.sl (xs.map eD))):=by
 have hl:=hV.len;refine eG.bP func106 rfl ntmps106 rfl ?_;intro Q Q0;unfold a1f oU at Q0;simp;refine a5G hV.fin [44] (rvM l v) (λa=>a.length) (λ_=>True) 6 (λa=>[(5,.d (.sl (a.map eD)))]) (λ_ s=>rfH l s) (λ_=>[(166,[.t 5])]) (l.length+2) [] s (by omega) hv rfl trivial (by simp) ?_ ?_
 .intro a s0 e0 i0 bs la _ R hR;have v0:cO l s0:=λ_=>i0;have htk:∀B,B=(mR aL l 0 s0||v&&jU l [118] s0)->eG G 59 [.bool B] l s0 (a3Y l (λs=>mR aL l 0 s||v&&jU l [118] s) s0) (λt=>.d (.str t)):=λB hB=>by subst hB;exact kJ (by omega) _ s0 v0
  have htp:∀{a s1},a3Y l (λs=>mR aL l 0 s||v&&jU l [118] s) s0=(a,s1)->yH l 1 s0 s1:=λ{a s1} h=>tD hV.fin (λhb=>by unfold mR jU at hb;simp only[g3l,g2Z,g3N]at hb;omega) v0 h
  have hT:=λh:mR aL l 0 s0=true=>htk true (by simp[h]);have hF:=λ(h:mR aL l 0 s0=false) (h2:v=false)=>htk false (by simp[h,h2]);have hK:=λ(h:mR aL l 0 s0=false) (h2:v=true)=>htk (jU l [118] s0) (by simp[h,h2]);simp[e0];refine cT pT (vL hV s0 v0) (λb x hx=>?_);cases hx;cases v
  all_goals rcases g3x (mR aL l 0 s0)with hw|hw
  all_goals
   rw[hw];simp
  all_goals try
   (refine cT oV (tR (by omega) [118] s0 v0) (λc x hx=>?_)
    cases hx;simp)
  all_goals
   first
    |refine cT dT (hT hw) (λu1 s1 h1=>?_)
    |refine cT dT (hF hw rfl) (λu1 s1 h1=>?_)
    |refine cT dT (hK hw rfl) (λu1 s1 h1=>?_)
   have p1:=htp h1;have v1:=cO.next p1;simp;refine rfN [58] v1 hV.fin λu2 s2 h2 p2 v2=>?_;simp;refine rfL v2 (.mk func110 rfl) (c9P (by omega) s2 v2) (d0b hV.fin) λt s3 h3 p3 v3=>?_;simp;refine jN (by first|omega|(simp[eD];omega)|exact⟨λx hx=>by obtain⟨y,_,rfl⟩:=g3u.1 hx;first|rfl|(rw[eD];rfl),by omega⟩|exact⟨rfl,by omega⟩) ?_;simp;refine cT cG (dO (by omega) [44] s3 v3) (λbh sh hh=>?_);simp;refine hR _ (a++[(u1,t)]) s3 (by simp only[bK,h1,h2,h3];rfl) (by rw[hh];simp[eD]) (λh=>?_) (by simp) trivial;have:=((p1.tr p2).tr p3) h;omega
 ·
  intro a s1 m hm rZ la hJ v1 hy R;have hm':m=false\/(m=true/\ ¬s1.er=0):=by
   cases m
   .exact .inl rfl
   .rcases hm with h|h
    .cases h
    .exact .inr ⟨rfl,h⟩
  have Q1:=Q0.eq hy;rcases hm' with rfl|⟨rfl,h⟩
  .simp;exact Q1.ok _ _ (.inr rfl) (by simp)
  .simp[h];exact Q1.ok _ _ (.inr rfl) (by simp)
theorem c7c(s:dR)(hv:cO l s):eG G 109 [] l s (a0B aL l s) (λxs=>.d (.sl (xs.map eD))):=by
 have hl:=hV.len;refine eG.bP func109 rfl ntmps109 rfl ?_;intro Q Q0;unfold a0B oU at Q0;simp;refine a5G hV.fin [44] (rnM l) (λa=>a.length) (λ_=>True) 4 (λa=>[(3,.d (.sl (a.map eD)))]) (λ_ s=>rfH l s) (λ_=>[(168,[.t 3])]) (l.length+2) [] s (by omega) hv rfl trivial (by simp) ?_ ?_
 .intro a s0 e0 i0 bs la _ R hR;have v0:cO l s0:=λ_=>i0;simp[e0];refine cT rC (sS (by omega) s0 v0) (λb x hx=>?_);cases hx;simp;refine cT dT (kJ (by omega) (uB l s0) s0 v0) (λc s1 h1=>?_);have h1:vZ l s0=(c,s1):=h1;have p1:yH l 1 s0 s1:=tD hV.fin (λhb=>by unfold uB at hb;simp only[g3N]at hb;omega) v0 h1
  have v1:=cO.next p1;simp;refine rfL v1 mG (oX (by omega) s1 v1) (oZ hV.fin) λw s2 h2 p2 v2=>?_;simp;refine jN (by first|omega|(simp[eD];omega)|exact⟨λx hx=>by obtain⟨y,_,rfl⟩:=g3u.1 hx;first|rfl|(rw[eD];rfl),by omega⟩|exact⟨rfl,by omega⟩) ?_;simp;refine cT cG (dO (by omega) [44] s2 v2) (λbh sh hh=>?_);simp;refine hR _ (a++[(c,w)]) s2 (by simp only[bK,h1,h2];rfl) (by rw[hh];simp[eD]) (λh=>?_) (by simp) trivial;have:=(p1.tr p2) h;omega
 ·
  intro a s1 m hm rZ la hJ v1 hy R;have hm':m=false\/(m=true/\ ¬s1.er=0):=by
   cases m
   .exact .inl rfl
   .rcases hm with h|h
    .cases h
    .exact .inr ⟨rfl,h⟩
  have Q1:=Q0.eq hy;rcases hm' with rfl|⟨rfl,h⟩
  .simp;exact Q1.ok _ _ (.inr rfl) (by simp)
  .simp[h];exact Q1.ok _ _ (.inr rfl) (by simp)
end
end
end Go.Proofs.YtmfbjecjccipfaaGreatDoor
