/- Lemmas. No condition. -/
import Derived.Test.YtmfbjecjccipfaaGreatDoorOwh
import Derived.RangeFuncNested
import Derived.RangeFuncBound
import Derived.RangeFuncCalls
import Derived.RangeFuncLeaves
import Derived.Shelf.Abstract
import Derived.WalkKit
import Derived.OwnWalkIn
import Derived.TacticsInMore
import Derived.LoopNIn
import Derived.LoopIn
import Derived.Test.YtmfbjecjccipfaaGreatDoorProg
set_option linter.unusedVariables false
set_option linter.unusedSimpArgs false
set_option linter.unusedSectionVars false
set_option maxRecDepth 100000
set_option maxHeartbeats 64000000
open Go.Proofs.Tryz
section
section
namespace Go.Proofs.YtmfbjecjccipfaaGreatDoor
open Go Go.VM
def b0U:Pr:=⟨0,[],0,[]⟩
def a2h:Pr:=⟨2,[],1,[]⟩
def a6a:Pr:=⟨2,[],0,[]⟩
instance:DecidableEq Pr:=λa b=>if h:a2g a b=true then isTrue ((b2w a b).1 h) else isFalse λe=>h ((b2w a b).2 e)
def zU(p:Pr):Bool:=decide (p=b0U)||decide (p=a2h)
mutual
def b5X:Pr->Nat
 |⟨_,_,_,l⟩=>wQ l 0+1
def wQ:List Pr->Nat->Nat
 |[],n=>n
 |t::r,n=>wQ r (max n (b5X t))
end
theorem d2A(p:Pr):b5X p=wQ p.kids 0+1:=by cases p;rfl
theorem c2h:∀(a b:List Pr)(n:Nat),wQ (a++b) n=wQ b (wQ a n)
 |[],b,n=>by simp[wQ]
 |t::a,b,n=>by simp only[List.cons_append,wQ,c2h a b]
theorem b8e{l:List Pr}{i:Nat}(h:i<l.length)(n:Nat):wQ (l.take (i+1)) n=max (wQ (l.take i) n) (b5X l[i]):=by rw[g3F h,c2h];simp[wQ]
mutual
theorem e3W:∀p:Pr,b5X p<=bN p
 |⟨op,nm,n,l⟩=>by have:=b2x l 0;simp only[b5X,bN];omega
theorem b2x:∀(l:List Pr)(n:Nat),wQ l n<=n+eJ l
 |[],n=>by simp[wQ]
 |t::r,n=>by have h1:=e3W t;have h2:=b2x r (max n (b5X t));simp only[wQ,eJ];omega
end
end Go.Proofs.YtmfbjecjccipfaaGreatDoor
end
section
namespace Go.Proofs.YtmfbjecjccipfaaGreatDoor
open Go Go.VM
variable {G:GT}
variable{i:Nat}
theorem d4r{α:Type}(f:α->List D){l:List α}(h:i<l.length):List.take (i+1) (List.map f l)=List.take i (List.map f l)++[f l[i]]:=by have:=d7z f h;rw[List.map_take,List.map_take]at this;exact this
theorem e3X{α:Type}{f:α->List D}{k:Nat}(hf:∀a,(f a).length=k:=by simp){l:List α}:∀(x:List D),x∈List.take i (List.map f l)->x.length=k:=λx hx=>by obtain⟨t,_,rfl⟩:=g3L.1 (g4r hx);exact hf t
abbrev prO(op:Int)(nm:Nm)(n:Int)(k:D):bG:=.cells [.d (.int .i64 op),.d (.str nm),.d (.int .i64 n),.d k]
theorem xH:VM.Enters prog 133:=.mk func133 rfl
theorem d8g(l l':List Pr)(hN:eJ l<=900000000)(ih:∀k∈l,∀u:Pr,bN k<=900000000->CS prog G 133 [.agg (prD k),.agg (prD u)] (.d (.bool (a2g k u))) none):
  CH prog G 165 ⟨[.d (.sl (l.map qF)),.d (.sl (l'.map qF)),.fn 133],[],[]⟩ ⟨[.d (.bool (d4q l l'))],[],[]⟩:=by
 have hl:=jY l;refine CH.aY func165 rfl ntmps165 rfl (by simp) ?_;by_cases h3:l.length=l'.length
 .have hq:d4q l l'=yT l l':=by simp[d4q,h3]
  simp[h3];refine SW.eA (ι:={i:Nat//i<=l.length/\yT (l.drop i) (l'.drop i)=yT l l' }) (λi=>[(15,.d (.int .i64 i.1))]) (λ_=>[]) (λ_=>[]) (λi=>l.length-i.1) ⟨0,by simp⟩ (by simp) ?_;rintro⟨i,hi,hR⟩
  try simp only at hi hR
  by_cases aG:i<l.length
  .have c3u:i<l'.length:=by omega
   have hg:=xJ aG;have hg':=xJ c3u;have hw:=aX (show i<9223372036854775807 by omega);have hb2:=tG aG;have hb3:=mA l (i+1);rw[b8d aG c3u]at hR;simp[c3u,aG,hg,hg'];refine⟨.mk,?_⟩;refine aC.mk xH (ih l[i] (g3P aG) l'[i] (by omega)) ?_;cases hs:a2g l[i] l'[i]
   .rw[hs,Bool.false_and]at hR;simp[hs,hq, <- hR]
   .rw[hs,Bool.true_and]at hR;simp[hs];exact bE.mk ⟨i+1,aG,hR⟩ (by simp[hw]) (by simp;omega)
  .have:i=l.length:=by omega
   subst this;rw[c2g]at hR;simp[hq, <- hR, <- h3]
 .have h3':¬((l.length:Int)=(l'.length:Int)):=by omega
  have hq:d4q l l'=false:=by simp[d4q,h3]
  simp[h3,h3',hq]
theorem a2i:∀t u:Pr,bN t<=900000000->CS prog G 133 [.agg (prD t),.agg (prD u)] (.d (.bool (a2g t u))) none:=by
 refine Pr.ind λt ih=>?_;obtain⟨op,nm,n,l⟩:=t;intro u hN;obtain⟨op',nm',n',l'⟩:=u;simp only at ih;have hn:=qV ⟨op,nm,n,l⟩;have hq:=d2z ⟨op,nm,n,l⟩ ⟨op',nm',n',l'⟩;simp only at hn hq;have hE:=d8g (G:=G) l l' (by omega) ih;have hA:(decide (l.length=l'.length)&&yT l l')=d4q l l':=rfl;rw[hA]at hq;refine CS.aY func133 rfl ntmps133 rfl ?_;by_cases h1:op=op'
 .by_cases h2:nm=nm'
  .by_cases h4:n=n'
   .simp only[h1,h2,h4,decide_true,Bool.true_and]at hq;simp[h1,h2,h4];refine jH.ro (.mk func165 rfl) hE [] (by simp) (by simp) (by simp) (by simp) (by simp) ?_;simp[hq]
   .simp only[h1,h2,h4,decide_true,decide_false,Bool.true_and,Bool.false_and]at hq;simp[h1,h2,h4,hq]
  .simp only[h1,h2,decide_true,decide_false,Bool.true_and,Bool.false_and]at hq;simp[h1,h2,hq]
 .simp only[h1,decide_false,Bool.false_and]at hq;simp[h1,hq]
theorem uR:VM.Enters prog 166:=.mk func166 rfl
def a6b(b:Bool):Pr:=if b then a2h else a6a
theorem wG(b:Bool):CS prog G 166 [.bool b] (.d (.agg (prD (a6b b)))) none:=by refine CS.aY func166 rfl ntmps166 rfl ?_;cases b<;>simp[a6b,a2h,a6a]
theorem b8f:CS prog G 187 [] (.d (.agg (prD a2h))) none:=by refine CS.aY func187 rfl ntmps187 rfl ?_;simp[a2h]
theorem b2y(a b:Pr):a2g a b=decide (a=b):=by rw[Bool.eq_iff_iff,b2w];simp
theorem c3T(p:Pr)(h:bN p<=900000000:=by omega):CS prog G 167 [.agg (prD p)] (.d (.bool (zU p))) none:=by
 have e1:=a2i (G:=G) p b0U h;have e2:=a2i (G:=G) p a2h h;rw[b2y]at e1 e2;refine CS.aY func167 rfl ntmps167 rfl ?_;simp;refine⟨.mk,?_⟩;refine aC.mk xH (CS.args e1 (by simp[b0U])) ?_;by_cases hz:p=b0U
 .simp[hz,zU]
 .simp[hz,zU];refine aC.mk uR (wG true) ?_;simp;refine aC.mk xH (CS.args e2 (by simp[a2h,a6b])) ?_;simp
theorem b8g(p:Pr)(h:bN p<=900000000:=by omega):CS prog G 189 [.agg (prD p)] (.d (.bool (zU p))) none:=by
 have e1:=qJ (G:=G) p b0U h;have e2:=qJ (G:=G) p a2h h;rw[b2y]at e1 e2;refine CS.aY func189 rfl ntmps189 rfl ?_;simp;refine⟨.mk,?_⟩;refine aC.mk (.mk func187 rfl) (b8f ) ?_;simp;refine aC.mk mO e2 ?_;by_cases hz:p=a2h
 .simp[hz,zU]
 .simp[hz,zU];refine aC.mk mO (CS.args e1 (by simp[b0U])) ?_;simp
theorem b8h:∀p:Pr,bN p<=900000000->CS prog G 168 [.agg (prD p)] (.d (.agg (prD p))) none:=by
 refine Pr.ind λp ih=>?_;obtain⟨op,nm,n,l⟩:=p;intro hN;simp only at ih;have hn:=qV ⟨op,nm,n,l⟩;simp only at hn;have hl:=jY l;refine CS.aY func168 rfl ntmps168 rfl ?_;simp;refine SW.eA (ι:={i:Nat//i<=l.length}) (λi=>[(16,.d (.int .i64 i.1))]) (λi=>[(1,prO op nm n (.sl (l.map qF))),(2,prO 0 [] 0 .aE),(3,prO op nm n (.sl ((l.take i.1).map qF)))]) (λ_=>[(52,[.c 3 3])]) (λi=>l.length-i.1) ⟨0,by simp⟩ (by simp) ?_;rintro⟨i,hi⟩;by_cases aG:i<l.length
 .have hg:=xJ aG;have hw:=aX (show i<9223372036854775807 by omega);have hs2:=d4r qF aG;rw[dE]at hs2;have h4:∀(x:List D),x∈List.take i (List.map qF l)->x.length=4:=e3X;have hb2:=tG aG;have hb3:=mA l (i+1);simp[aG,hg];refine⟨.mk,?_⟩;refine aC.mk (.mk func168 rfl) (ih l[i] (g3P aG) (by omega)) ?_;simp;refine bQ ⟨h4,by omega⟩ ?_;simp;exact bE.mk ⟨i+1,aG⟩ (by simp[hw,hs2]) (by simp;omega)
 .have:i=l.length:=by omega
  subst this;simp
end Go.Proofs.YtmfbjecjccipfaaGreatDoor
end
section
namespace Go.Proofs.YtmfbjecjccipfaaGreatDoor
open Go Go.VM
variable {G:GT}
theorem c7t(p:Pr):bN p<=900000000->CS prog G 204 [.agg (prD p)] (.d (.int .i64 (b5X p))) none:=by
 revert p
 refine Pr.ind λp ih=>?_;obtain⟨op,nm,n,l⟩:=p;intro hN;simp only at ih;have hn:=qV ⟨op,nm,n,l⟩;have hd:=d2A ⟨op,nm,n,l⟩;simp only at hn hd;have hl:=jY l;have hle:=b2x l 0;refine CS.aY func204 rfl ntmps204 rfl ?_;simp;refine SW.eA (ι:={i:Nat//i<=l.length}) (λi=>[(3,.d (.int .i64 (wQ (l.take i.1) 0))),(9,.d (.int .i64 i.1))]) (λ_=>[(1,prO op nm n (.sl (l.map qF)))]) (λ_=>[]) (λi=>l.length-i.1) ⟨0,by simp⟩ (by simp[wQ]) ?_;rintro⟨i,hi⟩;by_cases aG:i<l.length
 .have hg:=xJ aG;have hw:=aX (show i<9223372036854775807 by omega);have hs:=b8e aG 0;have hb2:=tG aG;have hb3:=mA l (i+1);simp[aG,hg];refine aC.mk (.mk func204 rfl) (ih l[i] (g3P aG) (by omega)) ?_;simp;exact bE.mk ⟨i+1,aG⟩ (by simp[hw,hs];split<;>omega) (by simp;omega)
 .have:i=l.length:=by omega
  subst this;have hw:IntKind.i64.wrap ((wQ l 0:Int)+1)=((wQ l 0+1:Nat):Int):=aX (by omega);simp[hw,hd]
end Go.Proofs.YtmfbjecjccipfaaGreatDoor
end
section
namespace Go.Proofs.YtmfbjecjccipfaaGreatDoor
open Go Go.VM Go.RowKit Go.Shelf
attribute [local go_sem] Oper.semAt_some
structure cL (X:Nat->Prop) (W W':World):Prop where
 os:W'.os=W.os
 tape:W'.tape=W.tape
 output:W'.output=W.output
 size:W.heap.size<=W'.heap.size
 block:∀k,k<W.heap.size-> ¬X k->W'.heap[k]? =W.heap[k]?
theorem cL.refl(X:Nat->Prop)(W:World):cL X W W:=⟨rfl,rfl,rfl,g3G _,λ_ _ _=>rfl⟩
theorem cL.trans{X:Nat->Prop}{A B C:World}(h:cL X A B)(k:cL X B C):cL X A C:=
 ⟨k.os.trans h.os,k.tape.trans h.tape,k.output.trans h.output,Nat.le_trans h.size k.size,λi hi hx=>(k.block i (Nat.lt_of_lt_of_le hi h.size) hx).trans (h.block i hi hx)⟩
abbrev NoX:Nat->Prop:=λ_=>False
theorem cL.up{X:Nat->Prop}{A B:World}(h:cL NoX A B):cL X A B:=⟨h.os,h.tape,h.output,h.size,λk hk _=>h.block k hk λe=>e⟩
theorem cL.cell{X:Nat->Prop}{A B:World}(h:cL X A B){b o:Nat}(hb:b<A.heap.size)(hx:¬X b):B.cell? ⟨b,o,none⟩=A.cell? ⟨b,o,none⟩:=by unfold World.cell?;rw[h.block b hb hx]
theorem cL.alloc{X:Nat->Prop}{A B:World}(h:cL X A B)(o:Obj):cL X A (B.alloc o):=
 h.trans ⟨rfl,rfl,rfl,by simp,λk hk _=>by
  show(B.heap.push o)[k]? =_
  rw[Array.getElem?_push,if_neg (by omega)]⟩
variable{v:Value}
theorem d8h{R:Nat->Nat->Prop}{w:World}{p:Pr}(h:V R w v (.agg (qF p))):
  ∃(ao:Option Addr)(cap:Nat)(nm:ByteArray),v=.agg #[.int .i64 p.op,.string nm,.int .i64 p.n,.slice ao p.kids.length cap]/\
   ∀(i:Nat)(hi:i<p.kids.length),∃b o,ao=some ⟨b,o,none⟩/\∃f:Nat->Value,(∀j,j<4->R b (o+i*4+j)/\w.cell? ⟨b,o+i*4+j,none⟩=some (f j))/\V R w (.agg #[f 0,f 1,f 2,f 3]) (.agg (qF p.kids[i])):=by
 obtain⟨op,nm,n,ks⟩:=p;rw[dE]at h;cases h with
 |agg cs _ h1 h2 h3=>
  obtain⟨l⟩:=cs
  match l,h1 with
  |[c0,c1,c2,c3],_=>
   have g0:=h3 0 _ rfl;have g1:=h3 1 _ rfl;have g2:=h3 2 _ rfl;have g3:=h3 3 _ rfl;simp at g0 g1 g2 g3;obtain⟨es,hes⟩:∃es,ks.map qF=es:=⟨_,rfl⟩;simp only[hes]at g3;cases g0;cases g1;cases g2;have hlen:es.length=ks.length:=by rw[<-hes];simp
   cases g3 with
   |emp ao cap=>
    have h0:ks=[]:=by simpa using hes
    subst h0;exact⟨ao,cap,_,rfl,λi hi=>by simp at hi⟩
   |sl b o m cap size es f k1 k2 k3 k4 k5 k6 k7=>
    have hm:m=ks.length:=by omega
    subst hm;refine⟨_,cap,_,rfl,λi hi=>⟨b,o,rfl,f i,?_⟩⟩;simp only at hi;have hg:es[i]? =some (qF ks[i]):=by rw[<-hes];simp[hi]
    have hs:size=4:=by have:=k4 _ (g3v hg);rw[dE]at this;simpa using this.symm
    subst hs;refine⟨λj hj=>k5 i j hi hj,?_⟩;have q:∀(j:Nat)(d:D),(qF ks[i])[j]? =some d->V R w (f i j) d:=λj d hd=>k7 i j _ d hg hd;have q1:∀(j:Nat)(d:D),(qF ks[i])[j]? =some d->d.one=true:=λj d hd=>k6 i j _ d hg hd;refine .agg _ _ (by rw[dE];rfl) q1 λj d hd=>?_;have hj:j<4:=by have:=(g3r.1 hd).1;rw[dE]at this;simpa using this
    have hv:=q j d hd
    match j,hj with
    |0,_=>exact hv
    |1,_=>exact hv
    |2,_=>exact hv
    |3,_=>exact hv
mutual
def a3x:Pr->List Pr
 |⟨op,nm,n,l⟩=>⟨op,nm,n,l⟩::qQ l
def qQ:List Pr->List Pr
 |[]=>[]
 |p::r=>a3x p++qQ r
end
theorem a9i(p:Pr):a3x p=p::qQ p.kids:=by cases p;rfl
theorem b3V:∀a b:List Pr,qQ (a++b)=qQ a++qQ b
 |[],b=>by simp[qQ]
 |p::a,b=>by simp only[List.cons_append,qQ,b3V a b,List.append_assoc]
theorem b8i{l:List Pr}{i:Nat}(h:i<l.length):qQ (l.take (i+1))=qQ (l.take i)++a3x l[i]:=by rw[g3F h,b3V];simp[qQ]
theorem a8c(l:List Pr)(i:Nat):qQ l=qQ (l.take i)++qQ (l.drop i):=by rw[<-b3V,g4d]
def Yields(P:Program)(L:List Pr)(l:Nat)(X:Nat->Prop)(R:Nat->Nat->Prop)(w0:World)(J Jx:List Pr->World->Prop):Prop:=
 ∀(m:Nat)(pre:List Pr)(v:Value)(p:Pr)(W:World),pre++[p] <+:L->V R w0 v (.agg (qF p))->cL X w0 W->J pre W->YieldAt Fence.wide m P l #[v] W λe W'=>(e=.returned (.bool true)/\J (pre++[p]) W'/\cL X W W')\/(e=.returned (.bool false)/\Jx (pre++[p]) W'/\cL X W W')
theorem d8i(W:World){cs:Array Value}{T:TypeId}{j:Nat}(h:cs[j]? =some v):(W.alloc (.cells cs T)).cell? ⟨W.heap.size,j,none⟩=some v:=by unfold World.cell?;rw[World.alloc_heap_new];simp[h]
theorem d8j(L:List Pr)(l:Nat)(X:Nat->Prop)(R:Nat->Nat->Prop)(w0:World)(hX:∀b o,R b o-> ¬X b)(hR:∀b o,R b o->b<w0.heap.size)(hX2:∀k,X k->k<w0.heap.size)(J Jx:List Pr->World->Prop)(hJ:∀s A B,J s A->cL NoX A B->J s B)(hY:Yields prog L l X R w0 J Jx):
  ∀(p:Pr)(n:Nat)(v:Value)(pre:List Pr)(W:World),bN p<=1000000->pre++a3x p <+:L->V R w0 v (.agg (qF p))->cL X w0 W->J pre W->
   CallsIn Fence.wide n prog 222 #[v,.func (.yield l) #[] #[]] W λe W'=>(e=.returned (.bool true)/\J (pre++a3x p) W'/\cL X W W')\/(e=.returned (.bool false)/\∃q,q <+:a3x p/\Jx (pre++q) W'/\cL X W W'):=by
 refine Pr.ind λp ih=>?_;intro n v pre W hN hL hv hW hJ0;have hN1:=qV p;have hN2:=jY p.kids;have hpk:∀(k:Nat)(h:k<p.kids.length),(pre++p::qQ (p.kids.take k))++a3x p.kids[k] <+:L:=λk h=>by refine List.IsPrefix.trans ⟨qQ (p.kids.drop (k+1)),?_⟩ hL;rw[a9i p,a8c p.kids k,g3D h];simp[qQ]
 obtain⟨ao,cap,nm,rfl,hk⟩:=d8h hv;have hJ1:=hJ _ _ (W.alloc (.cells #[.int .i64 p.op,.string nm,.int .i64 p.n,.slice ao p.kids.length cap] 52)) hJ0 ((cL.refl NoX W).alloc _);have hW1:=hW.alloc (.cells #[.int .i64 p.op,.string nm,.int .i64 p.n,.slice ao p.kids.length cap] 52);obtain⟨fn,tmps,assign,body,hy,hYR⟩:=hY (n-1) pre _ p _ (((List.prefix_append_right_inj pre).2 ⟨qQ p.kids,by rw[a9i];rfl⟩).trans hL) hv hW1 hJ1;refine callsIn_of_wp func222 rfl trivial ?_ rfl;simp only[ntmps222,List.size_toArray,List.length_cons,List.length_nil,Nat.reduceAdd,Nat.reduceSub,Array.replicate_succ,Array.replicate_zero,List.push_toArray,List.append_toArray,List.nil_append,List.cons_append]
 gi_wp2
 refine⟨λh=>(by cases h),?_⟩;have hbx:¬X W.heap.size:=λh=>by have:=hX2 _ h;have:=hW.size;omega
 refine hYR.mono ?_;rintro e W3 (⟨rfl,hJ3,hK3⟩|⟨rfl,hJ3,hK3⟩)
 .have hWK:cL X W W3:=((cL.refl X W).alloc _).trans hK3;have g0X:W3.cell? ⟨W.heap.size,3,none⟩=some (.slice ao p.kids.length cap):=(hK3.cell (by simp) hbx).trans (d8i W rfl)
  gi_wp2
  gi_loopw [14] (λi wr=>∃k:Nat,k<=p.kids.length/\i=.int .i64 k/\J (pre++p::qQ (p.kids.take k)) wr/\cL X W wr) (λi _=>p.kids.length-(intOf i).toNat)
  case atStart=>exact⟨0,Nat.zero_le _,rfl,by simpa[qQ]using hJ3,hWK⟩
  case round=>
   obtain⟨k,hkl,rfl,hJk,hKk⟩:=hrel;by_cases aG:k<p.kids.length
   .obtain⟨b,o,rfl,f,hf,hfv⟩:=hk k aG;have hcx:∀j,j<4->wr.cell? ⟨b,o+k*4+j,none⟩=some (f j):=λj hj=>((hW.trans hKk).cell (hR _ _ (hf j hj).1) (hX _ _ (hf j hj).1)).trans (hf j hj).2;have h0:=hcx 0 (by omega);rw[Nat.add_zero]at h0;have h1:=hcx 1 (by omega);have h2:=hcx 2 (by omega);have h3:=hcx 3 (by omega);have f3J:=hfv;have hb2:=tG aG;have hb3:=mA p.kids (k+1);obtain⟨ao2,f7w,nm2,he,_⟩:=d8h hfv;simp only[Value.agg.injEq,Array.mk.injEq,List.cons.injEq,and_true]at he;obtain⟨e0,e1,e2,e3⟩:=he;rw[e0]at h0;rw[e1]at h1;rw[e2]at h2;rw[e3]at h3;rw[e0,e1,e2,e3]at f3J
    gi_wp2
    refine⟨trivial,λh=>(by cases h),(ih p.kids[k] (g3P aG) (n-1) _ _ _ (by omega) (hpk k aG) f3J ((hW.trans hKk).alloc _) (hJ _ _ _ hJk ((cL.refl NoX wr).alloc _))).mono ?_⟩;rintro e W4 (⟨rfl,hJ4,hK4⟩|⟨rfl,q,hq,hJ4,hK4⟩)
    .have f3K:RowKit.wrap64 ((k:Int)+1)=(k:Int)+1:=by unfold RowKit.wrap64;omega
     gi_wp2
     go_roundw
     case rel=>exact⟨k+1,aG,by simp[f3K],by rw[b8i aG];simpa using hJ4,(hKk.alloc _).trans hK4⟩
     case measure=>simp[intOf,f3K];omega
    .gi_wp2
     go_ret
     refine .inr ⟨rfl,p::qQ (p.kids.take k)++q,?_,by simpa using hJ4,(hKk.alloc _).trans hK4⟩;rw[a9i,a8c p.kids k,g3D aG];obtain⟨r,hr⟩:=hq;exact⟨r++qQ (p.kids.drop (k+1)),by simp[qQ, <- hr]⟩
   .obtain rfl:k=p.kids.length:=by omega
    gi_wp2
    go_ret
    exact .inl ⟨rfl,by rw[a9i];simpa using hJk,hKk⟩
 .gi_wp2
  go_ret
  exact .inr ⟨rfl,[p],⟨qQ p.kids,by rw[a9i];rfl⟩,hJ3,((cL.refl X W).alloc _).trans hK3⟩
end Go.Proofs.YtmfbjecjccipfaaGreatDoor
end
section
namespace Go.Proofs.YtmfbjecjccipfaaGreatDoor
open Go Go.VM Go.RowKit Go.Shelf
attribute [local go_sem] Oper.semAt_some
variable{G:GT}{R:Nat->Nat->Prop}{A B W w:World}
theorem d4t{w0:World}(h:a9t G (a1q w0.heap.size) R w0)(hs:w0.heap.size<=w.heap.size)(hR:∀b o,R b o->b<w0.heap.size)(hb:∀k,k<w0.heap.size->w.heap[k]? =w0.heap[k]?):a9t G (a1q w.heap.size) R w:=by
 intro g cs hg;obtain⟨h1,h2,arr,T,fr,h3,h4⟩:=h g cs hg;have hl:g<w0.heap.size:=by simpa[a1q]using h2
 have hc:∀b o,R b o->w.cell? ⟨b,o,none⟩=w0.cell? ⟨b,o,none⟩:=λb o hbo=>by unfold World.cell?;rw[hb b (hR b o hbo)]
 refine⟨λj d hj=>?_,by simp only[a1q];omega,arr,T,fr,(hb g hl).trans h3,h4⟩;obtain⟨a1,a2,v,a3,a4⟩:=h1 j d hj;exact⟨a1,a2,v,(hc _ _ a2).trans a3,a4.step (λ_ _ h=>h) hc⟩
theorem cL.cD{R':Nat->Nat->Prop}{w':World}(h:Step (a1q w.heap.size) R w R' w'):cL NoX w w':=
 ⟨h.below.os,h.below.tape,h.below.output,h.below.size,λk hk _=>h.below.block k (by simp only[a1q];omega)⟩
theorem e3Z{P:Program}{f:FuncId}{ds:List D}{k:IntKind}{z:Int}{own:Option TypeId}(h:CS P G f ds (.d (.int k z)) own){args:Array Value}(m:Nat)(hg:a9t G (a1q w.heap.size) R w)(hR:∀b o,R b o->b<w.heap.size)(hs:args.size=ds.length)(hv:∀(i:Nat)(d:D),ds[i]? =some d->V R w (args.getD i undef) d):CallsIn Fence.wide m P f args w λe w'=>e=.returned (.int k z)/\cL NoX w w':=
 callsIn_wide.2 ((h w R args hg hR hs hv).mono λe w' ⟨v,R',he,hv',pP,_,_⟩=>by
  cases hv' id with
  |d v x hvx=>cases hvx;exact⟨he,cL.cD pP⟩)
variable{X:Nat->Prop}
theorem cL.weaken{Y:Nat->Prop}(h:cL X A B)(hXY:∀k,X k->Y k):cL Y A B:=⟨h.os,h.tape,h.output,h.size,λk hk hy=>h.block k hk λhx=>hy (hXY k hx)⟩
theorem cL.putObj{X:Nat->Prop}(A:World){l:Nat}(hl:X l)(o:Obj):cL X A (A.putObj l o):=⟨rfl,rfl,rfl,by simp,λk _ hx=>World.putObj_heap_other λe=>hx (e▸hl)⟩
theorem a8d(h:cL X A B)(hX:∀k,X k->A.heap.size<=k:=by rintro k (hk|hk)<;>omega):cL NoX A B:=⟨h.os,h.tape,h.output,h.size,λk hk _=>h.block k hk λhx=>by have:=hX k hx;omega⟩
theorem d0D(L:List Pr)(l:Nat)(X:Nat->Prop)(R:Nat->Nat->Prop)(w0:World)(hX:∀b o,R b o-> ¬X b)(hR:∀b o,R b o->b<w0.heap.size)(hX2:∀k,X k->k<w0.heap.size)(J Jx:List Pr->World->Prop)(hJ:∀s A B,J s A->cL NoX A B->J s B)(hY:Yields prog L l X R w0 J Jx)(p:Pr)(n:Nat)(c0 c1 c2 c3:Value)(W:World)(bx:Nat)(hbx:W.heap[bx]? =some (.cells #[c0,c1,c2,c3] 52 (0,0)))(hN:bN p<=1000000)(hL:a3x p=L)(hv:V R w0 (.agg #[c0,c1,c2,c3]) (.agg (qF p)))(hW:cL X w0 W)(hJ0:J [] W):
  CallsIn Fence.wide n prog 221 #[.func (.yield l) #[] #[],.pointer (some ⟨bx,0,none⟩)] W λe W'=>∃v,e=.returned v/\((J L W'/\cL X W W')\/∃q,q <+:L/\Jx q W'/\cL X W W'):=by
 have f7y:=d8j L l X R w0 hX hR hX2 J Jx hJ hY p (n-1) _ [] W hN (by rw[List.nil_append,hL];exact List.prefix_rfl) hv hW hJ0;obtain⟨ao,cap,nm,he,_⟩:=d8h hv;simp only[Value.agg.injEq,Array.mk.injEq,List.cons.injEq,and_true]at he;obtain⟨rfl,rfl,rfl,rfl⟩:=he;have e0:W.cell? ⟨bx,0,none⟩=some (.int .i64 p.op):=by unfold World.cell?;rw[hbx];rfl
 have e1:W.cell? ⟨bx,1,none⟩=some (.string nm):=by unfold World.cell?;rw[hbx];rfl
 have e2:W.cell? ⟨bx,2,none⟩=some (.int .i64 p.n):=by unfold World.cell?;rw[hbx];rfl
 have e3:W.cell? ⟨bx,3,none⟩=some (.slice ao p.kids.length cap):=by unfold World.cell?;rw[hbx];rfl
 refine callsIn_of_wp func221 rfl trivial ?_ rfl;simp only[ntmps221,List.size_toArray,List.length_cons,List.length_nil,Nat.reduceAdd,Nat.reduceSub,Array.replicate_succ,Array.replicate_zero,List.push_toArray,List.append_toArray,List.nil_append,List.cons_append]
 gi_wp2
 refine⟨trivial,λh=>(by cases h),f7y.mono ?_⟩;rintro e W4 (⟨rfl,hJ4,hK4⟩|⟨rfl,q,hq,hJ4,hK4⟩)
 .gi_wp2
  first|go_ret|go_ret2|go_end0
  rw[hL]at hJ4;exact⟨_,rfl,.inl ⟨hJ4,hK4⟩⟩
 .gi_wp2
  first|go_ret|go_ret2|go_end0
  rw[hL]at hq;exact⟨_,rfl,.inr ⟨q,hq,hJ4,hK4⟩⟩
variable{c0 c1 c2 c3 v:Value}
theorem d4u{n:Nat}:CallsIn Fence.wide n prog 197 #[.agg #[c0,c1,c2,c3]] W λe W'=>e=.returned (.func (.func 221) #[] #[.pointer (some ⟨W.heap.size,0,none⟩)])/\W'=W.alloc (.cells #[c0,c1,c2,c3] 52):=by
 refine callsIn_of_wp func197 rfl trivial ?_ rfl;simp only[ntmps197,List.size_toArray,List.length_cons,List.length_nil,Nat.reduceAdd,Nat.reduceSub,Array.replicate_succ,Array.replicate_zero,List.push_toArray,List.append_toArray,List.nil_append,List.cons_append]
 gi_wp2
 first|go_ret|go_ret2|go_end0
 exact⟨rfl,rfl⟩
theorem d8l(n:Nat){g:Operand}{ps:Array Tmp}{assign body:Code}{Q:Exit->Act->World->Prop}{a:Act}{bx:Nat}(hg:a.eval g=.func (.func 221) #[] #[.pointer (some ⟨bx,0,none⟩)])(hbx:W.heap[bx]? =some (.cells #[c0,c1,c2,c3] 52 (0,0)))(hps:ps.size=1){p:Pr}(hv:V R W (.agg #[c0,c1,c2,c3]) (.agg (qF p)))(hN:bN p<=1000000)(hR:∀b o,R b o->b<W.heap.size)(b1:Nat)(hb1:b1<W.heap.size)(hRb:∀b o,R b o->b≠b1)(hbb:bx≠b1)(I Ix:List Pr->World->Prop)(hI:∀s A B,I s A->(∀k,k<W.heap.size->B.heap[k]? =A.heap[k]?)->I s B)(hIx:∀s A B,Ix s A->(∀k,k<W.heap.size->B.heap[k]? =A.heap[k]?)->Ix s B)(h0:I [] W)(hround:∀(m l:Nat)(pre:List Pr)(q:Pr)(vq:Value)(W1:World),W.heap.size<=l->l<W1.heap.size->pre++[q] <+:a3x p->V R W vq (.agg (qF q))->cL (λk=>k=b1) W W1->I pre W1->
   assign.wpIn (Fence.wide.inRound l) m prog (Exit.then (λa₁ w₁=>cL NoX W1 w₁/\∀w2,cL (λk=>k=l) w₁ w2->body.wpIn (Fence.wide.inRound l) m prog (λe _ w3=>match e with
    |.normal=>cL (λk=>k=b1) w2 w3/\I (pre++[q]) w3
    |.ret=>cL (λk=>k=b1) w2 w3/\Ix (pre++[q]) w3
    |_=>False) a₁ w2) (λ_ _ _=>False)) {tmps:=(ps.zip #[vq]).foldl (λt (p,v)=>t.setIfInBounds p v) a.tmps,defers:=[]} W1)(hdone:∀(D:Nat)(W':World),W.heap.size<=D->I (a3x p) W'->cL (λk=>k=b1) W W'->W'.heap[D]? =some (.deferred (some []))->Q .normal {a with defers:={target:=.collected D,args:=#[]}::a.defers} W')(hstop:∀(D:Nat)(pre:List Pr)(W':World),W.heap.size<=D->pre <+:a3x p->Ix pre W'->cL (λk=>k=b1) W W'->W'.heap[D]? =some (.deferred (some []))->Q .ret {a with defers:={target:=.collected D,args:=#[]}::a.defers} W'):
  (Code.rangeFunc g ps assign body).wpIn Fence.wide n prog Q a W:=by
 refine wpIn_rangeFunc ?_;intro fn hfn;rw[show Fence.wide.round=none from rfl];obtain⟨rec,c3U⟩:∃rec:LoopState->Option Code->Loop,rec=λst pe=>{state:=st,pending:=pe,fn,tmps:=a.tmps,params:=ps,assign,body,defers:=W.heap.size}:=⟨_,rfl⟩;obtain⟨W1,hW1⟩:∃W1,(W.alloc (.deferred (some []))).alloc (.loop (rec .ready none))=W1:=⟨_,rfl⟩;have hL1:W1.heap[W.heap.size+1]? =some (.loop (rec .ready none)):=by rw[<-hW1];have:=World.alloc_heap_new (W.alloc (.deferred (some []))) (.loop (rec .ready none));rwa[World.size_alloc]at this
 have hD1:W1.heap[W.heap.size]? =some (.deferred (some [])):=by rw[<-hW1];exact(Below.heap_alloc _ _ _ (by simp)).trans (World.alloc_heap_new W _)
 have hK1:cL NoX W W1:=by rw[<-hW1];exact((cL.refl _ _).alloc _).alloc _
 have hs1:W1.heap.size=W.heap.size+2:=by rw[<-hW1];simp
 have hI1:I [] W1:=hI _ _ _ h0 λk hk=>hK1.block k hk id;have hv1:V R W1 (.agg #[c0,c1,c2,c3]) (.agg (qF p)):=hv.step (λ_ _ h=>h) λb o hbo=>hK1.cell (hR b o hbo) id;have a1k:∀{A:World},cL (λk=>k=W.heap.size+1\/k=b1) W1 A->cL (λk=>k=b1) W A:=λh=>⟨h.os.trans hK1.os,h.tape.trans hK1.tape,h.output.trans hK1.output,Nat.le_trans hK1.size h.size,λk hk hx=>(h.block k (by omega) (by rintro(e|e);(· omega);exact hx e)).trans (hK1.block k hk id)⟩
 refine⟨W.heap.size+1,[{target:=.collected W.heap.size,args:=#[]}],W1,{target:=.fn (.func 221) #[.pointer (some ⟨bx,0,none⟩)],args:=#[.func (.yield (W.heap.size+1)) #[] #[]]},W1,221,
  #[.func (.yield (W.heap.size+1)) #[] #[],.pointer (some ⟨bx,0,none⟩)],W1,?_,?_,?_,?_,λh=>(by cases h),?_⟩
 .rw[<-hW1,c3U];exact run_enterLoop_outer _ _ _ _ _
 .simp only[resolve,hg];simp[go_sem]
 .exact λf' _=>trivial
 .simp[invoke,go_sem,enters_of func221 (by kernel_rfl) rfl]
 .refine(d0D (a3x p) (W.heap.size+1) (λk=>k=W.heap.size+1\/k=b1) R W1 (λb o hbo=>by rintro(e|e);(· have:=hR b o hbo;omega);exact hRb b o hbo e) (λb o hbo=>by have:=hR b o hbo;omega) (λk hk=>by rcases hk with e|e<;>omega)
   (λpre A=>I pre A/\A.heap[W.heap.size+1]? =some (.loop (rec .ready none))/\A.heap[W.heap.size]? =some (.deferred (some [])))
   (λpre A=>Ix pre A/\A.heap[W.heap.size+1]? =some (.loop (rec .done (some .ret)))/\A.heap[W.heap.size]? =some (.deferred (some [])))
   ?hj ?hy p _ c0 c1 c2 c3 W1 bx ((hK1.block _ (g3z.1 hbx).1 id).trans hbx) hN rfl hv1 (cL.refl _ _) ⟨hI1,hL1,hD1⟩).mono ?_
  case hj=>rintro s A B ⟨hi,hl,hd⟩ hk;have aG:W.heap.size+1<A.heap.size:=(g3z.1 hl).1;exact⟨hI _ _ _ hi λk hk'=>hk.block k (by omega) id,(hk.block _ aG id).trans hl,(hk.block _ (by omega) id).trans hd⟩
  case hy=>
   rintro m pre vq q A b0I hvq hKA ⟨hi,hl,hd⟩;have aG:W.heap.size+1<A.heap.size:=(g3z.1 hl).1;have hy:=run_yield (P:=prog) (args:=#[vq]) hl (by rw[c3U];exact hps.symm);rw[c3U]at hy;refine⟨fn,_,assign,body,hy,roundIn_of_wpIn hfn ?_⟩
   clear hy
   have hvW:V R W vq (.agg (qF q)):=hvq.step (λ_ _ h=>h) λb o hbo=>(hK1.cell (hR b o hbo) id).symm;refine wpIn_mono (hround m (W.heap.size+1) pre q vq A (by omega) aG b0I hvW (a1k hKA) hi) ?_;rintro e a1 w1 hq;cases e with
   |normal=>
    obtain⟨hka,rO⟩:=hq;have hl1:=(hka.block _ aG id).trans hl;refine⟨_,run_beginRound hl1 (by rw[c3U]),?_⟩;have hkb:cL (λk=>k=W.heap.size+1) w1 (w1.putObj (W.heap.size+1) (.loop {rec .ready none with state:=.busy})):=cL.putObj (X:=λk=>k=W.heap.size+1) _ rfl _;have hl2:(w1.putObj (W.heap.size+1) (.loop {rec .ready none with state:=.busy})).heap[W.heap.size+1]? =some (.loop {rec .ready none with state:=.busy}):=World.putObj_heap_same (g3z.1 hl1).1;have mQ:=hka.size;refine wpIn_mono (rO _ hkb) ?_;have fin:∀(jump:Option Code)(w3:World),cL (λk=>k=b1) (w1.putObj (W.heap.size+1) (.loop {rec .ready none with state:=.busy})) w3->
      (Instr.endRound (W.heap.size+1) jump).run prog w3=.ok (.bool jump.isNone) (w3.putObj (W.heap.size+1) (.loop (rec (if jump.isNone then .ready else .done) jump)))/\
      (w3.putObj (W.heap.size+1) (.loop (rec (if jump.isNone then .ready else .done) jump))).heap[W.heap.size+1]? =some (.loop (rec (if jump.isNone then .ready else .done) jump))/\
      (w3.putObj (W.heap.size+1) (.loop (rec (if jump.isNone then .ready else .done) jump))).heap[W.heap.size]? =some (.deferred (some []))/\
      cL (λk=>k=W.heap.size+1\/k=b1) A (w3.putObj (W.heap.size+1) (.loop (rec (if jump.isNone then .ready else .done) jump))):=λjump w3 hk3=>by
     have hl3:=(hk3.block _ (by simp;omega) (by omega)).trans hl2;have:=run_endRound (P:=prog) jump hl3;rw[c3U]at this|-;refine⟨this,World.putObj_heap_same (g3z.1 hl3).1,?_,?_⟩
     .refine(World.putObj_heap_other (by omega)).trans ((hk3.block _ (by simp;omega) (by omega)).trans ?_);exact(World.putObj_heap_other (by omega)).trans ((hka.block _ (by omega) id).trans hd)
     .exact(hka.weaken λ_ h=>h.elim).trans ((hkb.weaken λ_ h=>.inl h).trans ((hk3.weaken λ_ h=>.inr h).trans (cL.putObj _ (.inl rfl) _)))
    rintro e a3 w3 hp;cases e with
    |normal=>obtain⟨hk3,hi3⟩:=hp;obtain⟨h1,h2,h3,h4⟩:=fin none w3 hk3;exact⟨_,_,h1,.inl ⟨rfl,⟨hI _ _ _ hi3 λk hk=>World.putObj_heap_other (by omega),h2,h3⟩,h4⟩⟩
    |ret=>obtain⟨hk3,hi3⟩:=hp;obtain⟨h1,h2,h3,h4⟩:=fin (some .ret) w3 hk3;exact⟨_,_,h1,.inr ⟨rfl,⟨hIx _ _ _ hi3 λk hk=>World.putObj_heap_other (by omega),h2,h3⟩,h4⟩⟩
    |exit id=>exact hp.elim
    |goto t=>exact hp.elim
    |panic ch=>exact hp.elim
    |outgrown=>exact hp.elim
   |ret=>exact hq.elim
   |exit id=>exact hq.elim
   |goto t=>exact hq.elim
   |panic ch=>exact hq.elim
   |outgrown=>exact hq.elim
  .rintro e W2 ⟨v,rfl,(⟨⟨hi,hl,hd⟩,hK⟩|⟨pre,b0I,⟨hi,hl,hd⟩,hK⟩)⟩
   .refine⟨none,_,by have:=run_endLoop (P:=prog) hl (by rw[c3U];simp);rw[c3U]at this;exact this,?_⟩;exact hdone _ _ (g3G _) (hI _ _ _ hi λk hk=>World.putObj_heap_other (by omega)) (a1k (hK.trans (cL.putObj _ (.inl rfl) _))) ((World.putObj_heap_other (by omega)).trans hd)
   .refine⟨some .ret,_,by have:=run_endLoop (P:=prog) hl (by rw[c3U];simp);rw[c3U]at this;exact this,?_⟩;exact wpIn_ret (hstop _ pre _ (g3G _) b0I (hIx _ _ _ hi λk hk=>World.putObj_heap_other (by omega)) (a1k (hK.trans (cL.putObj _ (.inl rfl) _))) ((World.putObj_heap_other (by omega)).trans hd))
variable{T:TypeId}{b:Nat}
theorem a8e(h:W.heap[b]? =some (.cells #[v] T (0,0))):W.cell? ⟨b,0,none⟩=some v/\W.frozen? ⟨b,0,none⟩=false:=by unfold World.cell? World.frozen?;rw[h];simp
theorem a1J{cs:Array Value}(h:W.heap[b]? =some (.cells cs T (0,0)))(j:Nat)(hj:cs[j]? =some v):W.cell? ⟨b,j,none⟩=some v:=by unfold World.cell?;rw[h];simp[hj]
theorem c3V(h:W.heap[b]? =some (.cells #[v] T (0,0)))(u:Value):(W.setCell ⟨b,0,none⟩ u).heap[b]? =some (.cells #[u] T (0,0)):=by
 obtain⟨aG,hh⟩:=g3z.1 h
 show(W.heap.modify b _)[b]? =_
 rw[g3I (by rw[Array.size_modify];exact aG),Array.getElem_modify_self,hh];simp
theorem cL.set(A:World)(hl:X b)(u:Value):cL X A (A.setCell ⟨b,0,none⟩ u):=⟨rfl,rfl,rfl,by show A.heap.size<=(A.heap.modify _ _).size;rw[Array.size_modify];exact g3G _,λk _ hx=>Below.heap_setCell A ⟨b,0,none⟩ u k λe=>hx (by rw[show k=b from e];exact hl)⟩
def qK(e:Pr->Int):List Pr->Int
 |[]=>0
 |p::r=>if e p=0 then qK e r else e p
theorem b5p{e:Pr->Int}:∀{l:List Pr},(∀q∈l,e q=0)->qK e l=0
 |[],_=>rfl
 |p::r,h=>by rw[qK,if_pos (h p (by simp))];exact b5p λq hq=>h q (by simp[hq])
theorem c2i{e:Pr->Int}{p:Pr}:∀{l r:List Pr},(∀q∈l,e q=0)->e p≠0->qK e (l++p::r)=e p
 |[],r,_,hp=>by simp[qK,hp]
 |q::l,r,h,hp=>by rw[List.cons_append,qK,if_pos (h q (by simp))];exact c2i (λq hq=>h q (by simp[hq])) hp
def b5Y(e:Pr->Int)(p:Pr):Int:=if 400<bN p then 7 else if 40<b5X p then 8 else qK e (a3x p)
theorem c0y(e:Pr->Int)(p:Pr)(hN:bN p<=1000000)(f7A:CS prog G 195 [.agg (qF p)] (.d (.int .i64 (bN p))) none)(f7B:CS prog G 196 [.agg (qF p)] (.d (.int .i64 (b5X p))) none)(f3L:∀q∈a3x p,CS prog G 198 [.agg (qF q)] (.d (.int .i64 (e q))) none):CS prog G 177 [.agg (qF p)] (.d (.int .i64 (b5Y e p))) none:=by
 refine CS.d2k λw R args hg hR hs hv=>?_;have ha:args=#[args.getD 0 undef]:=by
  obtain⟨l⟩:=args
  match l,hs with
  |[a],_=>rfl
 have hv0:=hv 0 _ rfl;rw[ha];generalize args.getD 0 undef=v at hv0
 clear hv ha hs args
 obtain⟨ao,cap,nm,rfl,hk⟩:=d8h hv0;refine(callsIn_wide (n:=10)).1 (callsIn_of_wp_marks func177 rfl trivial ?_ rfl);simp only[ntmps177,List.size_toArray,List.length_cons,List.length_nil,Nat.reduceAdd,Nat.reduceSub,Array.replicate_succ,Array.replicate_zero,List.push_toArray,List.append_toArray,List.nil_append,List.cons_append];have a3H:∀{f:FuncId}{z:Int}(m:Nat)(q:Pr)(vq:Value)(W:World),CS prog G f [.agg (qF q)] (.d (.int .i64 z)) none->V R w vq (.agg (qF q))->cL NoX w W->
   CallsIn Fence.wide m prog f #[vq] W λe w'=>e=.returned (.int .i64 z)/\cL NoX W w':=λm q vq W hc hvq hW=>by
  refine e3Z hc (R:=R) m (d4t hg hW.size hR λk hk=>hW.block k hk id) (λb o hbo=>Nat.lt_of_lt_of_le (hR b o hbo) hW.size) rfl λi d hd=>?_
  match i,hd with
  |0,hd=>cases hd;exact hvq.step (λ_ _ h=>h) λb o hbo=>hW.cell (hR b o hbo) id
 gi_wp2
 obtain⟨W2,hW2⟩:∃W2,(w.alloc (.cells #[.int .i64 p.op,.string nm,.int .i64 p.n,.slice ao p.kids.length cap] 52)).alloc (.cells #[.int .i64 0] 31)=W2:=⟨_,rfl⟩;have hK2:cL NoX w W2:=by rw[<-hW2];exact((cL.refl _ _).alloc _).alloc _
 have hs2:W2.heap.size=w.heap.size+2:=by rw[<-hW2];simp
 have hB2:W2.heap[w.heap.size+1]? =some (.cells #[.int .i64 0] 31 (0,0)):=by rw[<-hW2];have:=World.alloc_heap_new (w.alloc (.cells #[.int .i64 p.op,.string nm,.int .i64 p.n,.slice ao p.kids.length cap] 52)) (.cells #[.int .i64 0] 31);rwa[World.size_alloc]at this
 have hA2:W2.heap[w.heap.size]? =some (.cells #[.int .i64 p.op,.string nm,.int .i64 p.n,.slice ao p.kids.length cap] 52 (0,0)):=by rw[<-hW2];exact(Below.heap_alloc _ _ _ (by simp)).trans (World.alloc_heap_new w _)
 rw[hW2];refine⟨trivial,(a3H _ p _ _ f7A hv0 hK2).mono ?_⟩;rintro _ W3 ⟨rfl,hK3⟩;have hB3:=(hK3.block _ (by omega) id).trans hB2;have hA3:=(hK3.block _ (by omega) id).trans hA2;have hs3:=hK3.size;obtain⟨hc3,hf3⟩:=a8e hB3;have q0:=(a1J hA3 0 rfl);have q1:=(a1J hA3 1 rfl);have q2:=(a1J hA3 2 rfl);have q3:=(a1J hA3 3 rfl);have fin:∀{W:World}{z:Int}{K:World},K.heap[w.heap.size+1]? =some (.cells #[.int .i64 z] 31 (0,0))->cL NoX w W->z=b5Y e p->∃v,Ending.returned (.int .i64 z)=.returned v/\V R W v (.int .i64 (b5Y e p))/\Below w.heap.size w W:=λh hk hz=>⟨_,rfl,hz▸ .int _ _,⟨hk.os,hk.tape,hk.output,hk.size,λk h'=>hk.block k h' id⟩⟩;by_cases h1:400<bN p
 .gi_wp2
  have hS:=c3V hB3 (.int .i64 7);have hc:=(a8e hS).1;exact⟨_,by simp[results,f177,go_sem,hc],fin hS (a8d (((hK2.trans hK3).weaken λ_ h=>h.elim).trans (cL.set (X:=λk=>k=w.heap.size+1) _ rfl _)) (by intro k hk;omega)) (by simp[b5Y,h1])⟩
 .gi_wp2
  refine⟨trivial,(a3H _ p _ _ f7B hv0 (hK2.trans hK3)).mono ?_⟩;rintro _ W4 ⟨rfl,hK4⟩;have hs4:=hK4.size;have hB4:=(hK4.block _ (by omega) id).trans hB3;have hA4:=(hK4.block _ (by omega) id).trans hA3;obtain⟨hc4,hf4⟩:=a8e hB4;have r0:=(a1J hA4 0 rfl);have r1:=(a1J hA4 1 rfl);have r2:=(a1J hA4 2 rfl);have r3:=(a1J hA4 3 rfl);have f3P:=(hK2.trans hK3).trans hK4;by_cases h2:40<b5X p
  .gi_wp2
   have hS:=c3V hB4 (.int .i64 8);have hc:=(a8e hS).1;exact⟨_,by simp[results,f177,go_sem,hc],fin hS (a8d ((f3P.weaken λ_ h=>h.elim).trans (cL.set (X:=λk=>k=w.heap.size+1) _ rfl _)) (by intro k hk;omega)) (by simp[b5Y,h1,h2])⟩
  .gi_wp2
   refine⟨trivial,(d4u).mono ?_⟩;rintro _ W5 ⟨rfl,rfl⟩
   gi_wp2
   obtain⟨W5,hW5⟩:∃W5,W4.alloc (.cells #[.int .i64 p.op,.string nm,.int .i64 p.n,.slice ao p.kids.length cap] 52)=W5:=⟨_,rfl⟩;have hK5:cL NoX W4 W5:=by rw[<-hW5];exact(cL.refl _ _).alloc _
   have hB5:=(hK5.block _ (by omega) id).trans hB4;have hA5:W5.heap[W4.heap.size]? =some (.cells #[.int .i64 p.op,.string nm,.int .i64 p.n,.slice ao p.kids.length cap] 52 (0,0)):=by rw[<-hW5];exact World.alloc_heap_new _ _
   have hs5:W5.heap.size=W4.heap.size+1:=by rw[<-hW5];simp
   have d8m:=f3P.trans hK5;rw[hW5];refine d8l 10 (W:=W5) (R:=R) (p:=p) rfl hA5 rfl (hv0.step (λ_ _ h=>h) λb o hbo=>d8m.cell (hR b o hbo) id) hN (λb o hbo=>by have:=hR b o hbo;omega) (w.heap.size+1) (by omega) (λb o hbo=>by have:=hR b o hbo;omega) (by omega)
    (λpre A=>A.heap[w.heap.size+1]? =some (.cells #[.int .i64 0] 31 (0,0))/\∀q∈pre,e q=0)
    (λpre A=>∃d8n q,pre=d8n++[q]/\(∀x∈d8n,e x=0)/\e q≠0/\A.heap[w.heap.size+1]? =some (.cells #[.int .i64 (e q)] 31 (0,0)))
    (λs A B h hk=>⟨(hk _ (by omega)).trans h.1,h.2⟩) (λs A B ⟨d8n,q,h1,h2,h3,h4⟩ hk=>⟨d8n,q,h1,h2,h3,(hk _ (by omega)).trans h4⟩) ⟨hB5,by simp⟩ ?hround ?hdone ?hstop
   case hround=>
    rintro m l pre q vq W6 hl hl6 b0I hvq hK6 ⟨hB6,hz⟩;obtain⟨ao2,f7w,nm2,rfl,_⟩:=d8h hvq;have hqm:q∈a3x p:=b0I.subset (by simp);have hvw:V R w _ (.agg (qF q)):=hvq.step (λ_ _ h=>h) λb o hbo=>(d8m.cell (hR b o hbo) id).symm
    gi_wp2
    refine⟨(cL.refl _ _).alloc _,λw2 hk2=>?_⟩;have hA7:=(hk2.block W6.heap.size (by simp) (by omega)).trans (World.alloc_heap_new _ _);have hs6:=hK6.size;have hB7:=((hk2.block (w.heap.size+1) (by simp;omega) (by omega)).trans (Below.heap_alloc _ _ _ (by omega))).trans hB6;have hs7:=hk2.size;simp only[World.size_alloc]at hs7;have f7F:cL NoX w w2:=a8d (X:=λk=>k=w.heap.size+1\/k=l) ((d8m.weaken λ_ h=>h.elim).trans ((hK6.weaken λ_ h=>.inl h).trans (((cL.refl _ _).alloc _).trans (hk2.weaken λ_ h=>.inr h))));have t0:=(a1J hA7 0 rfl);have t1:=(a1J hA7 1 rfl);have t2:=(a1J hA7 2 rfl);have t3:=(a1J hA7 3 rfl)
    gi_wp2
    refine⟨trivial,λh=>(by cases h),(CallsIn.inRound l (a3H _ q _ _ (f3L q hqm) hvw f7F)).mono ?_⟩;rintro _ W8 ⟨rfl,hK8⟩;have hB8:=(hK8.block _ (by omega) id).trans hB7;obtain⟨hc8,hf8⟩:=a8e hB8;by_cases he:e q=0
    .gi_wp2
     have eQ:∀x,x∈pre\/x=q->e x=0:=λx hx=>hx.elim (hz x) λhx=>by subst hx;exact he
     first|exact eQ|exact⟨hK8.up,eQ⟩|exact⟨hK8.up,hB8,eQ⟩
    .gi_wp2
     have hS:=c3V hB8 (.int .i64 (e q));exact⟨hK8.up.trans (cL.set (X:=λk=>k=w.heap.size+1) _ rfl _),pre,q,⟨rfl,rfl⟩,hz,he,hS⟩
   case hdone=>
    rintro D W' hD ⟨hB',hz⟩ hK' hD';obtain⟨hc',hf'⟩:=a8e hB'
    gi_wp2
    have hS:=c3V hB' (.int .i64 0);have hDs:=((cL.set (X:=λk=>k=w.heap.size+1) W' rfl (.int .i64 0)).block D (g3z.1 hD').1 (by omega)).trans hD';refine⟨by simp,.inl ⟨_,_,rfl,run_takeDeferred hDs,?_⟩⟩;have hS2:=(World.putObj_heap_other (r:=D) (o:=.deferred none) (show w.heap.size+1≠D by omega)).trans hS;have hc:=(a8e hS2).1;exact⟨_,by simp[results,f177,go_sem,hc],fin hS2 (a8d (X:=λk=>k=w.heap.size+1\/k=D) ((d8m.weaken λ_ h=>h.elim).trans ((hK'.weaken λ_ h=>.inl h).trans ((cL.set (X:=λk=>k=w.heap.size+1\/k=D) _ (.inl rfl) _).trans (cL.putObj _ (.inr rfl) _))))) (by simp[b5Y,h1,h2,b5p hz])⟩
   case hstop=>
    rintro D pre W' hD b0I ⟨d8n,q,rfl,hz,hq,hB'⟩ hK' hD'
    gi_wp2
    refine⟨by simp,.inl ⟨_,_,rfl,run_takeDeferred hD',?_⟩⟩;have hS2:=(World.putObj_heap_other (r:=D) (o:=.deferred none) (show w.heap.size+1≠D by omega)).trans hB';have hc:=(a8e hS2).1;have hfe:qK e (a3x p)=e q:=by obtain⟨r,hr⟩:=b0I;rw[<-hr,List.append_assoc];exact c2i hz hq
    exact⟨_,by simp[results,f177,go_sem,hc],fin hS2 (a8d (X:=λk=>k=w.heap.size+1\/k=D) ((d8m.weaken λ_ h=>h.elim).trans ((hK'.weaken λ_ h=>.inl h).trans (cL.putObj _ (.inr rfl) _)))) (by simp[b5Y,h1,h2,hfe])⟩
end Go.Proofs.YtmfbjecjccipfaaGreatDoor
end
section
namespace Go.Proofs.YtmfbjecjccipfaaGreatDoor
open Go Go.VM
variable {G:GT}
def zA(op:Int):Bool:=decide (op=3)||(decide (op=4)||decide (op=5))
def qU(op:Int):Int:=if op=1\/op=2\/op=3 then 0 else if op=4\/op=5 then 1 else if op=9\/op=14 then 1 else 2
def xI(op:Int):Int:=if op=1\/op=2\/op=3 then 0 else if op=4\/op=5 then 24 else if op=9\/op=14 then 1 else 2
def b2A(l:List Pr):Int:=match l with
 |[]=>1
 |k::_=>k.op
def a1m(op:Int)(nm:Nm):Bool:=(decide (op=3)&&decide (nm=[118]))||(decide (op=4)&&(decide (nm=[116,97,103])||decide (nm=[118,97,108])))
def a6W(op:Int)(nm:Nm)(n:Int)(len:Int):Bool:=(!zA op&& !decide (nm=[]))||(!decide (op=1)&& !decide (op=2)&& !decide (n=0))||decide (len<qU op)||decide (xI op<len)
def wU(op n:Int):Bool:=(decide (op=1)&& !inB n)||(decide (op=2)&& !decide (n=0)&& !decide (n=1))
def a4b(p:Pr):Int:=
 if p.op<1\/18<p.op then 1
 else if a6W p.op p.name p.n p.kids.length then 1
 else if wU p.op p.n then 2
 else if zA p.op&& !sT p.name&& !a1m p.op p.name then 3
 else if p.op=8/\b2A p.kids≠1 then 6
 else 0
theorem sJ:VM.Enters prog 224:=.mk func224 rfl
theorem uA(op:Int):CS prog G 224 [.int .i64 op] (.d (.bool (zA op))) none:=by
 refine CS.aY func224 rfl ntmps224 rfl ?_;by_cases h3:op=3
 .simp[h3,zA]
 .by_cases h4:op=4
  .simp[h4,zA]
  .simp[h3,h4,zA]
theorem c3W(op:Int):CS prog G 223 [.int .i64 op] (.cX [.int .i64 (qU op),.int .i64 (xI op)]) none:=by
 refine CS.aY func223 rfl ntmps223 rfl ?_;by_cases h1:op=1
 .simp[h1,qU,xI]
 by_cases h2:op=2
 .simp[h2,qU,xI]
 by_cases h3:op=3
 .simp[h3,qU,xI]
 by_cases h4:op=4
 .simp[h4,qU,xI]
 by_cases h5:op=5
 .simp[h5,qU,xI]
 by_cases h9:op=9
 .simp[h9,qU,xI]
 by_cases h14:op=14
 .simp[h14,qU,xI]
 .simp[h1,h2,h3,h4,h5,h9,h14,qU,xI]
variable{op:Int}
theorem d4v(h:zA op=true):op=3\/op=4\/op=5:=by simpa[zA]using h
theorem d4w(h:zA op=false):¬op=3/\ ¬op=4/\ ¬op=5:=by simpa[zA]using h
theorem c3X(hG:G 1=some gD)(p:Pr)(hlen:p.kids.length<=900000000:=by omega):CS prog G 198 [.agg (prD p)] (.d (.int .i64 (a4b p))) none:=by
 obtain⟨op,nm,n,l⟩:=p;simp only at hlen;have hm:a4b ⟨op,nm,n,l⟩=if op<1\/18<op then 1 else if a6W op nm n l.length then 1 else if wU op n then 2 else if zA op&& !sT nm&& !a1m op nm then 3 else if op=8/\b2A l≠1 then 6 else 0:=rfl;refine CS.aY func198 rfl ntmps198 rfl ?_;by_cases a1:op<1
 .simp[a1]at hm;simp[a1,hm]
 by_cases a2:18<op
 .simp[a2]at hm;simp[a1,a2,hm]
 rw[if_neg (by omega)]at hm;simp[a1,a2];refine aC.mk (.mk func223 rfl) (c3W op) ?_;simp;refine aC.mk sJ (uA op) ?_;cases hn:zA op
 .obtain⟨n3,n4,n5⟩:=d4w hn;by_cases b1:nm=[];rotate_left
  .have b1':nm.isEmpty=false:=by cases nm<;>simp at b1|-
   simp[a6W,hn,b1]at hm;simp (maxSteps:=4000000) [hn,b1,b1',hm]
  subst b1;by_cases o1:op=1
  .subst o1;have el:qU 1=0:=rfl;have em:xI 1=0:=rfl;by_cases k0:l=[];rotate_left
   .have kl:0<l.length:=g3U.2 k0;have kl':¬((l.length:Int)<0):=by omega
    simp[a6W,hn,el,em,kl,kl']at hm;simp (maxSteps:=4000000) [hn,el,em,kl,kl',hm]
   subst k0;simp[a6W,hn,el,em]at hm;simp (maxSteps:=4000000) [hn,el,em];refine aC.mk (.mk func213 rfl) (d2n n) ?_;cases hi:inB n
   .simp[wU,hi]at hm;simp[hm]
   .simp[wU,hi]at hm;simp;refine aC.mk sJ (uA 1) ?_;simp (maxSteps:=4000000) [hn,hm]
  by_cases o2:op=2
  .subst o2;have el:qU 2=0:=rfl;have em:xI 2=0:=rfl;by_cases k0:l=[];rotate_left
   .have kl:0<l.length:=g3U.2 k0;have kl':¬((l.length:Int)<0):=by omega
    simp[a6W,hn,el,em,kl,kl']at hm;simp (maxSteps:=4000000) [hn,el,em,kl,kl',hm]
   subst k0;simp[a6W,hn,el,em]at hm;by_cases c0:n=0
   .simp[wU,c0]at hm;simp (maxSteps:=4000000) [hn,el,em,c0];refine aC.mk sJ (uA 2) ?_;simp (maxSteps:=4000000) [hn,hm]
   .by_cases c1:n=1
    .simp[wU,c1]at hm;simp (maxSteps:=4000000) [hn,el,em,c1];refine aC.mk sJ (uA 2) ?_;simp (maxSteps:=4000000) [hn,hm]
    .simp[wU,c0,c1]at hm;simp (maxSteps:=4000000) [hn,el,em,c0,c1,hm]
  by_cases c0:n=0;rotate_left
  .simp[a6W,hn,o1,o2,c0]at hm;simp (maxSteps:=4000000) [hn,o1,o2,c0,hm]
  subst c0;by_cases d1:(l.length:Int)<qU op
  .simp[a6W,hn,d1]at hm;simp (maxSteps:=4000000) [hn,o1,o2,d1,hm]
  by_cases d2:xI op<(l.length:Int)
  .simp[a6W,hn,d1,d2]at hm;simp (maxSteps:=4000000) [hn,o1,o2,d1,d2,hm]
  simp[a6W,wU,hn,o1,o2,d1,d2]at hm;simp (maxSteps:=4000000) [hn,o1,o2,d1,d2];refine aC.mk sJ (uA op) ?_;by_cases o8:op=8
  .subst o8;have el:qU 8=2:=rfl
   match l,d1 with
   |[],d1=>exact absurd (by rw[el];simp) d1
   |k::r,d1=>
    by_cases e1:k.op=1
    .simp[b2A,e1]at hm;simp (maxSteps:=4000000) [hn,e1,hm]
    .simp[b2A,e1]at hm;simp (maxSteps:=4000000) [hn,e1,hm]
  .simp[o8]at hm;simp (maxSteps:=4000000) [hn,o8,hm]
 .have ho:=d4v hn;have o1:¬op=1:=by omega
  have o2:¬op=2:=by omega
  have o8:¬op=8:=by omega
  by_cases c0:n=0;rotate_left
  .simp[a6W,hn,o1,o2,c0]at hm;simp (maxSteps:=4000000) [hn,o1,o2,c0,hm]
  subst c0;by_cases d1:(l.length:Int)<qU op
  .simp[a6W,hn,d1]at hm;simp (maxSteps:=4000000) [hn,o1,o2,d1,hm]
  by_cases d2:xI op<(l.length:Int)
  .simp[a6W,hn,d1,d2]at hm;simp (maxSteps:=4000000) [hn,o1,o2,d1,d2,hm]
  simp[a6W,wU,hn,o1,o2,o8,d1,d2]at hm;simp (maxSteps:=4000000) [hn,o1,o2,d1,d2];refine aC.mk sJ (uA op) ?_;simp[hn];refine aC.mk (.mk func225 rfl) (d3R hG nm) ?_;cases hc:sT nm;rotate_left
  .simp[hc]at hm;simp[gU,o8,hm]
  simp[hc]at hm;simp[gU];by_cases o3:op=3
  .subst o3;by_cases v1:nm=[118]
   .simp[a1m,v1]at hm;simp[v1,hm]
   .simp[a1m,v1]at hm;simp[v1,hm]
  by_cases o4:op=4
  .subst o4;by_cases v1:nm=[116,97,103]
   .simp[a1m,v1]at hm;simp[v1,hm]
   .by_cases v2:nm=[118,97,108]
    .simp[a1m,v2]at hm;simp[v2,hm]
    .simp[a1m,v1,v2]at hm;simp[v1,v2,hm]
  .simp[a1m,o3,o4]at hm;simp[o3,o4,hm]
theorem c0A(p:Pr):bN p<=900000000->CS prog G 195 [.agg (prD p)] (.d (.int .i64 (bN p))) none:=by
 revert p
 refine Pr.ind λp ih=>?_;obtain⟨op,nm,n,l⟩:=p;intro hN;simp only at ih;have hn:=qV ⟨op,nm,n,l⟩;simp only at hn;have hl:=jY l;refine CS.aY func195 rfl ntmps195 rfl ?_;simp;refine SW.eA (ι:={i:Nat//i<=l.length}) (λi=>[(3,.d (.int .i64 (1+eJ (l.take i.1):Nat))),(9,.d (.int .i64 i.1))]) (λ_=>[(1,prO op nm n (.sl (l.map qF)))]) (λ_=>[]) (λi=>l.length-i.1) ⟨0,by simp⟩ (by simp[eJ]) ?_;rintro⟨i,hi⟩;by_cases aG:i<l.length
 .have hg:=xJ aG;have hw:=aX (show i<9223372036854775807 by omega);have hb2:=tG aG;have hb3:=mA l (i+1);have hw2:IntKind.i64.wrap (((1+eJ (l.take i):Nat):Int)+(bN l[i]:Int))=((1+eJ (l.take (i+1)):Nat):Int):=by rw[wrap64 (by omega),hb2];omega
  simp[aG,hg];refine aC.mk (.mk func195 rfl) (ih l[i] (g3P aG) (by omega)) ?_;simp;exact bE.mk ⟨i+1,aG⟩ (by simp at hw2;simp[hw,hw2]) (by simp;omega)
 .have:i=l.length:=by omega
  subst this;simp[hn]
theorem c0B(p:Pr):bN p<=900000000->CS prog G 196 [.agg (prD p)] (.d (.int .i64 (b5X p))) none:=by
 revert p
 refine Pr.ind λp ih=>?_;obtain⟨op,nm,n,l⟩:=p;intro hN;simp only at ih;have hn:=qV ⟨op,nm,n,l⟩;have hd:=d2A ⟨op,nm,n,l⟩;simp only at hn hd;have hl:=jY l;have hle:=b2x l 0;refine CS.aY func196 rfl ntmps196 rfl ?_;simp;refine SW.eA (ι:={i:Nat//i<=l.length}) (λi=>[(3,.d (.int .i64 (wQ (l.take i.1) 0))),(9,.d (.int .i64 i.1))]) (λ_=>[(1,prO op nm n (.sl (l.map qF)))]) (λ_=>[]) (λi=>l.length-i.1) ⟨0,by simp⟩ (by simp[wQ]) ?_;rintro⟨i,hi⟩;by_cases aG:i<l.length
 .have hg:=xJ aG;have hw:=aX (show i<9223372036854775807 by omega);have hs:=b8e aG 0;have hb2:=tG aG;have hb3:=mA l (i+1);simp[aG,hg];refine aC.mk (.mk func196 rfl) (ih l[i] (g3P aG) (by omega)) ?_;simp;exact bE.mk ⟨i+1,aG⟩ (by simp[hw,hs];split<;>omega) (by simp;omega)
 .have:i=l.length:=by omega
  subst this;have hw:IntKind.i64.wrap ((wQ l 0:Int)+1)=((wQ l 0+1:Nat):Int):=aX (by omega);simp[hw,hd]
mutual
theorem c7u:∀(p q:Pr),q∈a3x p->bN q<=bN p
 |⟨op,nm,n,l⟩,q,h=>by
  simp only[a3x,g3N]at h;rcases h with rfl|h
  .exact g3G _
  .have:=c2j l q h;simp only[bN];omega
theorem c2j:∀(l:List Pr)(q:Pr),q∈qQ l->bN q<=eJ l
 |[],q,h=>by simp[qQ]at h
 |t::r,q,h=>by
  simp only[qQ,g3Q]at h;simp only[eJ];rcases h with h|h
  .have:=c7u t q h;omega
  .have:=c2j r q h;omega
end
def a8f(p:Pr):Int:=b5Y a4b p
theorem c0C(hG:G 1=some gD)(p:Pr)(hN:bN p<=1000000):CS prog G 177 [.agg (prD p)] (.d (.int .i64 (a8f p))) none:=by
 have h:=c0y (G:=G) a4b p hN (by have:=c0A (G:=G) p (by omega);rwa[dE]) (by have:=c0B (G:=G) p (by omega);rwa[dE]) (λq hq=>by
  have h1:=c7u p q hq;have h2:=qV q;have h3:=jY q.kids;have:=c3X hG q
  rwa[dE])
 rwa[dE]at h
end Go.Proofs.YtmfbjecjccipfaaGreatDoor
end
end
namespace Go.Proofs.YtmfbjecjccipfaaGreatDoor
section
open Go Go.VM
variable {G:GT}
def b8m(p:Pr)(s:Pr×Bool):Option (Pr×Bool):=if zU p then some s else if a2g p (a6b false) then none else if s.2 then some (⟨15,[],0,[s.1,p]⟩,true) else some (p,true)
def b5Z:List Pr->Pr×Bool->Pr
 |[],s=>s.1
 |p::r,s=>match b8m p s with
  |none=>a6b false
  |some s=>b5Z r s
def aZ(a b:Pr):Pr:=b5Z [a,b] (a6b true,false)
theorem b8n(b:Bool):bN (a6b b)=1:=by cases b<;>simp[a6b,a2h,a6a,bN,eJ]
theorem b8o(op:Int)(a b:Pr):bN ⟨op,[],0,[a,b]⟩=bN a+bN b+1:=by simp[bN,eJ];omega
theorem c7v(L:List Pr)(hL:∀p∈L,bN p<=1000000:=by intro x hx;have h1:=it.2;simp only at h1;simp only[g3N,List.not_mem_nil,or_false]at hx;rcases hx with rfl|rfl<;>omega)(hl:L.length<=1000:=by simp):CS prog G 134 [.sl (L.map qF)] (.d (.agg (prD (b5Z L (a6b true,false))))) none:=by
 generalize hR:b5Z L (a6b true,false)=R;refine CS.aY func134 rfl ntmps134 rfl ?_;simp;refine aC.mk uR (wG true) ?_;simp;refine SW.eA (ι:={x:Nat×Pr×Bool//x.1<=L.length/\b5Z (L.drop x.1) x.2=R}) (λx=>[(4,.d (.bool x.1.2.2)),(10,.d (.int .i64 x.1.1))]) (λx=>[(2,.cells [.d (.int .i64 0),.d (.str []),.d (.int .i64 0),.d .aE]),(3,.cells ((prD x.1.2.1).map .d))]) (λ_=>[]) (λx=>L.length-x.1.1) ⟨(0,a6b true,false),by simpa using hR⟩ (by simp) ?_;rintro⟨⟨k,out,some⟩,hk,hp⟩;simp only at hk hp;by_cases aG:k<L.length
 .have hg:(L.map qF)[k]? =.some (qF L[k]):=by simp[aG]
  have hw:=aX (show k<9223372036854775807 by omega);have hd:L.drop k=L[k]::L.drop (k+1):=g3D aG;have hb:=hL L[k] (g3P aG);rw[hd]at hp;obtain⟨p,hP⟩:∃p,L[k]=p:=⟨_,rfl⟩;rw[hP]at hg hd hb hp;have hv:=c3T (G:=G) p;have hs:=a2i (G:=G) p (a6b false) (by omega);have hc:=b8h (G:=G) p (by omega);simp only[b5Z,b8m]at hp;simp[aG,hP];refine aC.mk (.mk func167 rfl) hv ?_;cases h1:zU p with
  |true=>rw[h1]at hp;simp;exact bE.mk ⟨(k+1,out,some),aG,by simpa using hp⟩ (by simp[hw]) (by simp;omega)
  |false=>
   rw[h1]at hp;simp;refine⟨.mk,?_⟩;refine aC.mk uR (wG false) ?_;simp;refine aC.mk xH hs ?_;cases h2:a2g p (a6b false)with
   |true=>rw[h2]at hp;simp at hp;simp;refine aC.mk uR (wG false) ?_;simp[<-hp]
   |false=>
    rw[h2]at hp;cases some with
    |true=>simp;refine⟨.mk,?_⟩;refine aC.mk (.mk func168 rfl) hc ?_;simp;exact bE.mk ⟨(k+1,⟨15,[],0,[out,p]⟩,true),aG,by simpa using hp⟩ (by simp[hw]) (by simp;omega)
    |false=>simp;refine aC.mk (.mk func168 rfl) hc ?_;simp;exact bE.mk ⟨(k+1,p,true),aG,by simpa using hp⟩ (by simp[hw]) (by simp;omega)
 .have hd:L.drop k=[]:=List.drop_eq_nil_of_le (by omega);rw[hd]at hp;simp only[b5Z]at hp;simp[aG, <- hp]
abbrev a2j:Ty->DV:=λt=>.d (.agg (tyD t))
abbrev f7I:Option Ty->DV:=λo=>.cX [.agg (tyD (o.getD jZ)),.bool o.isSome]
theorem dO:VM.Enters prog 43:=.mk func43 rfl
section
variable {rdP:List Tok->Nat->Nat->gO Pr} {l:List Tok} (hV:rQ G rdP l)
include hV
theorem b8p(j0:Nat)(hi:j0<l.length):tR G 84 [] l j0 (jI aH l j0) f7I:=by
 have hl:=hV.len;have ht:=dM (G:=G) l j0 j0 0;have p0:=gT hi;refine qA.bO func84 rfl ntmps84 rfl (by simp) ?_;intro Q Q0;simp;cases h1:aL l j0 [73,110,116]with
 |true=>refine rdT h1 p0 hV.fin λp1=>?_;simp;exact Q0.ok _ (j0+1) _ _ (by unfold jI;rw[if_pos h1]) (.inr rfl) (by simp[wW,eE])
 |false=>
 refine rdF h1 p0 ?_;simp;cases h2:aL l j0 [66,111,111,108]with
 |true=>refine rdT h2 p0 hV.fin λp1=>?_;simp;exact Q0.ok _ (j0+1) _ _ (by unfold jI;rw[if_neg (by rw[h1];decide),if_pos h2]) (.inr rfl) (by simp[wW,eE])
 |false=>
 refine rdF h2 p0 ?_;simp;cases h3:aL l j0 [67,101,108,108]with
 |true=>refine rdT h3 p0 hV.fin λp1=>?_;simp;exact Q0.ok _ (j0+1) _ _ (by unfold jI;rw[if_neg (by rw[h1];decide),if_neg (by rw[h2];decide),if_pos h3]) (.inr rfl) (by simp[wW,eE])
 |false=>
 refine rdF h3 p0 ?_;simp;refine qB (ds:=[.int .i64 0]) cJ ht ?_;simp;refine jV.mk oQ (pZ hV.kw (aJ l j0)) ?_;cases h4:kL aH (aJ l j0)with
 |true=>simp;refine rdX (ds:=[]) dS (eN hV.kw l j0 hi (by omega)) (λs j hx=>?_) (λn e hx=>by unfold bV pD at hx;rw[if_pos h4]at hx;cases hx);unfold bV pD at hx;rw[if_pos h4]at hx;cases hx;simp;exact Q0.ok _ (j0+1) _ _ (by unfold jI;rw[if_neg (by rw[h1];decide),if_neg (by rw[h2];decide),if_neg (by rw[h3];decide),if_pos h4]) (.inr rfl) (by simp[wW,eE])
 |false=>simp;exact Q0.ok none j0 _ _ (by unfold jI;rw[if_neg (by rw[h1];decide),if_neg (by rw[h2];decide),if_neg (by rw[h3];decide),if_neg (by rw[h4];decide)]) (.inr rfl) (by simp[jZ,eE])
theorem b8q(i:Nat)(hi:i<l.length):CH prog G 131 ⟨[.ptr 100000 0],rH l i,[]⟩ ⟨[.d (.bool (b5a aH l i))],rH l i,[]⟩:=by
 have hl:=hV.len;have ht:=dM (G:=G) l i i 0;have hb:=mY (G:=G) l i [123] hi;have hc:=mY (G:=G) l i [40] hi;have hw:=pZ hV.kw (aJ l i);unfold b5a;refine CH.aY func131 rfl ntmps131 rfl (by simp) ?_;simp;refine c3O (i:=i) (ds:=[.int .i64 0]) cJ ht ?_;generalize aJ l i=T at ht hw|-;obtain⟨k,x,n,ln⟩:=T;simp[bL];refine aC.mk oQ hw ?_;cases h1:kL aH ⟨k,x,n,ln⟩with
 |true=>simp
 |false=>
  by_cases h2:k=2
  .simp[h2,rW]
  .simp[h2,rW];refine c3O (i:=i) (ds:=[.str [123]]) jR hb ?_;cases h3:aL l i [123]with
   |true=>simp
   |false=>simp;refine c3O (i:=i) (ds:=[.str [40]]) jR hc ?_;simp
def TyI(t:Ty)(i j:Nat):Prop:=(t.pred.op=0->t.pred=b0U)/\bN t.pred+i<=j+1
section
variable {ty:bF Ty} {low:Nat} (pO:∀i,low<=i->i<l.length->tR G 43 [] l i (ty i) a2j) (yZ:aB l 0 ty) (ity:∀i t j,i<l.length->ty i=.ok t j->TyI t i j)
include pO yZ ity
theorem a9Z(j0:Nat)(cM:low<=j0+1)(hi:j0<l.length):tR G 86 [] l j0 (zN aZ rdP l ty j0) a2j:=by
 have hl:=hV.len;have p0:=gT hi;refine qA.bO func86 rfl ntmps86 rfl (by simp) ?_;intro Q Q0;unfold zN at Q0;simp;refine eS Q0 p0 hV.fin λu1 j1 x1 Q1 p1=>?_;simp;refine uG Q1 p1 dO ((pO j1 (by omega) p1.2)) (yZ) λt j2 x2 Q2 p2=>?_;have it:=ity j1 t j2 p1.2 x2;obtain⟨op,nm,args,ns,p,ps⟩:=t;simp only at Q2;simp;by_cases h6:op=6
 .rw[if_pos h6]at Q2;simp[h6];refine rdX (ds:=[]) yQ (a0B (α:=Ty) l j2 p2.2 (by omega) λ_=>.cX []) (λa j hx=>by unfold eV at hx;cases hx) (λn e hx=>Q2.bad n e _ hx)
 rw[if_neg h6]at Q2;simp[h6];refine eS Q2 p2 hV.fin λu3 j3 x3 Q3 p3=>?_;simp;refine uG Q3 p3 sY (vL hV j3 p3.2) (hV.mZ.pred) λq j4 x4 Q4 p4=>?_;simp;refine eS Q4 p4 hV.fin λu5 j5 x5 Q5 p5=>?_;simp;have hq:=hV.nod _ _ _ _ p3.2 x4;have hs:=a2i (G:=G) p b0U (by have:=it.2;simp only at this;omega);refine jV.mk xH (CS.args hs (by simp[b0U])) ?_;rw[b2y];have h0:=it.1;simp only at h0;by_cases hz:p=b0U
 .subst hz;simp;exact Q5.ok _ j5 _ _ rfl (.inr rfl) (by simp[b0U])
 .have qD:¬p.op=0:=λe=>hz (h0 e);have ha:=c7v (G:=G) [p,q]
  simp[hz];refine jV.mk (.mk func134 rfl) (by simpa using ha) ?_;simp;exact Q5.ok _ j5 _ _ rfl (.inr rfl) (by simp[qD,aZ])
theorem b5r(j0:Nat)(cM:low<=j0+1)(hi:j0<l.length):tR G 97 [] l j0 (oP aH aZ rdP l ty j0) a2j:=by
 have hl:=hV.len;have p0:=gT hi;have ht:=dM (G:=G) l j0 j0 0;refine qA.bO func97 rfl ntmps97 rfl (by simp) ?_;intro Q Q0;unfold oP at Q0;simp;refine uG Q0 p0 (.mk func84 rfl) (b8p hV j0 hi) (aB.base hV.fin) λo j1 x1 Q1 p1=>?_;cases o with
 |some t=>obtain⟨op,nm,args,ns,p,ps⟩:=t;simp;exact Q1.ok _ j1 _ _ rfl (.inr rfl) (by simp)
 |none=>
 have hj:=yN x1;subst hj;simp only at Q1;simp[jZ,eE];refine qB (ds:=[.int .i64 0]) cJ ht ?_;cases hti:rW (aJ l j1)with
 |true=>
  rw[hti,if_pos rfl]at Q1;have hk:(aJ l j1).kind=2:=by simpa[rW]using hti
  have htt:=oS (G:=G) l j1 p1.2;have hx:mC l j1=.ok (aJ l j1).text (j1+1):=by unfold mC pD;rw[if_pos hti]
  generalize aJ l j1=T at Q1 hk hx|-;obtain⟨k,x,n,ln⟩:=T;simp only at hk;subst hk;simp[bL];refine rdX (ds:=[]) mE htt (λs j h=>?_) (λn e h=>by rw[hx]at h;cases h);rw[hx]at h;cases h;simp;exact Q1.ok _ (j1+1) _ _ rfl (.inr rfl) (by simp[wW,eE])
 |false=>
  rw[hti,if_neg (by decide)]at Q1;have hk:¬(aJ l j1).kind=2:=by simpa[rW]using hti
  generalize aJ l j1=T at hk|-;obtain⟨k,x,n,ln⟩:=T;simp only at hk;simp[bL,hk];have hb:=mY (G:=G) l j1 [123] p1.2;refine qB (ds:=[.str [123]]) jR hb ?_;cases hs:aL l j1 [123]with
  |true=>rw[hs,if_pos rfl]at Q1;simp;refine rdX (ds:=[]) (.mk func86 rfl) (a9Z hV pO yZ ity j1 cM p1.2) (λt j h=>?_) (λn e h=>Q1.bad n e _ h);simp;exact Q1.ok t j _ _ h (.inr rfl) (by simp)
  |false=>rw[hs,if_neg (by decide)]at Q1;simp;refine eS Q1 p1 hV.fin λu2 j2 x2 Q2 p2=>?_;simp;refine uG Q2 p2 dO ((pO j2 (by omega) p2.2)) (yZ) λt j3 x3 Q3 p3=>?_;simp;refine eS Q3 p3 hV.fin λu4 j4 x4 Q4 p4=>?_;simp;exact Q4.ok t j4 _ _ rfl (.inr rfl) (by simp)
end
end
section
variable {rdP:List Tok->Nat->Nat->gO Pr} {l:List Tok} (hV:rQ G rdP l)
include hV
def b0a(nm:Nm)(args:List Ty)(out:List Pr):List (Nat×bG):=[(100001,.cells [.ptr 100000 0]),(100002,.cells [.d (.int .i64 4),.d (.str nm),.d (.sl (args.map tyC)),.d (.sl []),.d (.int .i64 0),.d (.str []),.d (.int .i64 0),.d (.sl []),.d (.sl (out.map qF))])]
abbrev e6Y:List (TypeId×List VM.Loc):=[(52,[.c 100002 8])]
abbrev c7y(rdP:List Tok->Nat->Nat->gO Pr)(l:List Tok)(out:List Pr):bF (List Pr):=do
 aR l [[118],[46]]
 let p <- pE rdP l
 pure (out++[p])
theorem c7z(nm:Nm)(args:List Ty)(out:List Pr)(j0:Nat)(hi:j0<l.length)(vT:out.length<=j0):qA G 132 [.ptr 100001 0,.ptr 100002 0] (b0a nm args out) e6Y l j0 (c7y rdP l out j0) (λ_=>.cX []) (b0a nm args):=by
 have hl:=hV.len;have p0:=gT hi;refine qA.bO func132 rfl ntmps132 rfl (by simp) ?_;intro Q Q0;simp[b0a];refine eS Q0 p0 hV.fin λu1 j1 x1 Q1 p1=>?_;simp;refine eW 6 (t:=50) (e:=52) (T:=54) (s:=6) (z:=10) (r:=11) (p:=12) (q:=9) (x:=8) (b:=13) (y:=1) (fd:=5) [0] 3 [2] (a6V 1 4 5) (kZ (pE rdP l j1)) rfl rfl rfl rfl rfl (by kernel_rfl) (by kernel_rfl) rfl ?_;simp
 repeat' apply And.intro
 all_goals
  refine rX Q1 p1 sY (vL hV j1 p1.2) (hV.mZ.pred) λq j2 x2 Q2 p2=>cG.mk ?_;simp
 all_goals
  refine⟨_,_,_,_,_,_,_,_,_,by simp,rfl,rfl,?_,rfl,rfl,?_,by simp,rfl,rfl,rfl,rfl,by decide,rfl,?_⟩
  .intro c hc
   first
    |(obtain⟨y,_,rfl⟩:=g3L.1 hc
      rw[dE]
      rfl)
    |(simp only[g3x]at hc
      subst hc
      rfl)
  .simp<;>omega
  exact Q2.ok _ j2 .normal _ rfl (.inl rfl) (by simp[b0a,dE])
theorem d4y(nm:Nm)(args:List Ty):a3e l K3 [.ptr 100001 0,.ptr 100002 0] (b0a nm args) e6Y:=by
 constructor
 all_goals intros
 all_goals first
  |rfl
  |simp[b0a,aW,bB,bD,bC,bK,getKey,bA,bI,dC,rk,dL,bX, *]
theorem d4z(a:List Pr)(i:Nat)(b:List Pr)(j:Nat)(h:c7y rdP l a i=.ok b j):b.length=a.length+1:=by
 simp only[c7y,cR]at h
 repeat' split at h
 all_goals first|cases h|skip
 all_goals simp
theorem b3W(out:List Pr):aB l 1 (c7y rdP l out):=(aB.exp hV.fin _ _).bl λ_=>hV.mZ.pred.bl λ_=>aB.bP _
variable{g i:Nat}{c:Nat->Bool}
theorem a0G{α:Type}{one:α->bF α}{a b:α}{j:Nat}(hc:c i=true)(h:one a i=.ok b j):gE c one (g+1) a i=gE c one g b j:=by rw[gE];simp only[hc,if_true,h]
theorem uB{α:Type}{one:α->bF α}{a:α}{n e:Int}(hc:c i=true)(h:one a i=.bad n e):gE c one (g+1) a i=.bad n e:=by rw[gE];simp only[hc,if_true,h]
theorem a0H{α:Type}{one:α->bF α}{a:α}(hc:c i=false):gE c one (g+1) a i=.ok a i:=by rw[gE];simp only[hc,g3K,if_false]
section
variable {ty:bF Ty} {low:Nat} (pO:∀i,low<=i->i<l.length->tR G 43 [] l i (ty i) a2j) (yZ:aB l 0 ty) (ity:∀i t j,i<l.length->ty i=.ok t j->TyI t i j)
include pO yZ ity
abbrev e4b(rdP:List Tok->Nat->Nat->gO Pr)(l:List Tok)(ty:bF Ty)(out:List Ty):bF (List Ty):=do let t <- oP aH aZ rdP l ty;pure (out++[t])
theorem d0E(j0:Nat)(cM:low<=j0+1)(hi:j0<l.length):tR G 85 [] l j0 (xL aH aZ rdP l ty j0) a2j:=by
 have hl:=hV.len;have p0:=gT hi;refine qA.bO func85 rfl ntmps85 rfl (by simp) ?_;intro Q Q0;unfold xL at Q0;simp;refine uG Q0 p0 mE (oS l j0 p0.2) (aB.title hV.fin) λnm j1 x1 Q1 p1=>?_;simp;refine SW.sV (ι:={x:List Ty×Nat×Nat//j1<=x.2.1/\x.2.1<l.length/\l.length<x.2.2+x.2.1/\x.1.length<=x.2.1/\gE (b5a aH l) (e4b rdP l ty) x.2.2 x.1 x.2.1=rJ l (b5a aH l) (e4b rdP l ty) [] j1}) (λ_=>[]) (λx=>[(1,.cells [.ptr 100000 0]),(2,.cells [.d (.int .i64 0),.d (.str []),.d .aE,.d .aE,.d (.int .i64 0),.d (.str []),.d (.int .i64 0),.d .aE,.d .aE]),(3,.cells [.d (.int .i64 4),.d (.str nm),.d (.sl (x.1.1.map tyC)),.d .aE,.d (.int .i64 0),.d (.str []),.d (.int .i64 0),.d .aE,.d .aE]),(100000,rdO l x.1.2.1)]) (λ_=>[(54,[.c 3 2])]) (λx=>l.length-x.1.2.1) ⟨([],j1,l.length+2),g3G _,p1.2,by simp only;omega,by simp,rfl⟩ (by simp) ?_;rintro⟨⟨out,j2,g⟩,hb,vH,hg,ho,hp⟩;simp only at hb vH hg ho hp;obtain⟨g,rfl⟩:∃k,g=k+1:=⟨g-1,by omega⟩;simp;refine qB (i:=j2) (ds:=[]) (.mk func131 rfl) (b8q hV j2 vH) ?_;by_cases hc:b5a aH l j2=true
 .simp[hc];refine eW 6 (t:=41) (e:=54) (T:=54) (s:=10) (z:=14) (r:=15) (p:=16) (q:=13) (x:=12) (b:=17) (y:=3) (fd:=2) [0] 3 [2] (a6V 1 4 5) (kZ (oP aH aZ rdP l ty j2)) rfl rfl rfl rfl rfl (by kernel_rfl) (by kernel_rfl) rfl ?_;simp
  repeat' apply And.intro
  all_goals
   refine rdZ (ds:=[]) (.mk func97 rfl) (b5r hV pO yZ ity j2 (by omega) vH) (λt j3 x3=>?_) (λn e hx=>?_)
   .have p3:=aB.a2W hV.fin yZ hV.mZ.pred j2 t j3 vH x3;have h1:e4b rdP l ty out j2=.ok (out++[t]) j3:=(bU x3).trans rfl;rw[a0G hV hc h1]at hp;refine cG.mk ?_;simp;refine⟨_,_,_,_,_,_,_,_,_,by simp,rfl,rfl,?_,rfl,rfl,?_,by simp,rfl,rfl,rfl,rfl,by decide,rfl,?_⟩
    .intro c hc
     first
      |(obtain⟨y,_,rfl⟩:=g3L.1 hc
        rw[bW]
        rfl)
      |(simp only[g3x]at hc
        subst hc
        rfl)
    .simp<;>omega
    refine bE.mk ⟨(out++[t],j3,g),by simp only;omega,p3.2,by simp only;omega,by simp;omega,hp⟩ (by simp[bW]) (by simp;omega)
   .have h1:e4b rdP l ty out j2=.bad n e:=kT hx;rw[uB hV hc h1]at hp;simp;exact λs=>Q1.fail hp.symm s
 .have hc:=Bool.eq_false_iff.2 hc;rw[a0H hV hc]at hp;have Q2:=Q1.step hp.symm;have p2:j1<=j2/\j2<l.length:=⟨hb,vH⟩;simp[hc];cases hs:aL l j2 [60]with
  |false=>have Q3:=Q2.step (oB hs);rw[if_neg (by decide)]at Q3;refine rdF hs p2 ?_;simp;exact Q3.ok _ j2 _ _ rfl (.inr rfl) (by simp[wW,eE])
  |true=>
   have Q3:=Q2.step (oA hs);rw[if_pos rfl]at Q3;refine rdT hs p2 hV.fin λp3=>?_;obtain⟨j3,hj3⟩:∃j3,j2+1=j3:=⟨_,rfl⟩;rw[hj3]at Q3 p3|-;simp;have kR:=jK hV [44] (c7y rdP l) (λout i=>out.length<=i) 0 (.mk func132 rfl) (d4y hV nm out) (λa=>(b3W hV a).le (by omega)) (λa i _ hi h=>c7z hV nm out a i hi h) (λa i b j hi h hx=>by have h1:=b3W hV a i b j hi hx;have h2:=d4z hV a i b j hx;omega) (λa i h=>by omega) [] j3 (by omega) p3.2 (by simp)
   refine dX.mk (a2e eT kR [(100000,100000),(100001,1),(100002,3)] (λa j hx=>?_) ?_ ?_ ?_ rfl rfl (λws j4 x4=>?_) (λn e hx2=>Q3.fail hx2 _))
   .simp[b0a,aW,bB,bD,bC,bK,getKey]
   .simp[b0a,aW,bB,bD,bC,bK,getKey]
   .simp[bA,bI,rk]
   .simp[b0a,bA,bI,rk,dC,dL]
   .have Q4:=Q3.step x4;have p4:=aB.list hV.fin (λa=>b3W hV a) [] j3 ws j4 p3.2 x4;simp[bJ,b0a,bA,bI,rk,dC,dL,bX,kI,jA,eI];refine eS Q4 p4 hV.fin λu5 j5 x5 Q5 p5=>?_;simp;exact Q5.ok _ j5 _ _ rfl (.inr rfl) (by simp[wW,eE])
end
end
section
variable {rdP:List Tok->Nat->Nat->gO Pr} {l:List Tok} (hV:rQ G rdP l)
include hV
def a3y(out:List Nm×List Ty):List (Nat×bG):=[(100001,.cells [.d (.int .i64 6),.d (.str []),.d (.sl (out.2.map tyC)),.d (.sl (strs out.1)),.d (.int .i64 0),.d (.str []),.d (.int .i64 0),.d (.sl []),.d (.sl [])]),(100002,.cells [.ptr 100000 0])]
abbrev e9Y:List (TypeId×List VM.Loc):=[(54,[.c 100001 2]),(9,[.c 100001 3])]
abbrev a8h(l:List Tok)(ty:bF Ty)(out:List Nm×List Ty):bF (List Nm×List Ty):=do
 let w <- bV aH l
 aR l [[58]]
 let t <- ty
 pure (out.1++[w],out.2++[t])
abbrev a6H(ty:bF Ty)(out:List Nm×List Ty):bF (List Nm×List Ty):=do
 let t <- ty
 pure (out.1,out.2++[t])
theorem vM{α:Type}{c:Nm}{one:α->bF α}(I:α->Nat->Prop)(h1:∀a i b j,i<l.length->I a i->one a i=.ok b j->I b j/\j<l.length)(hm:∀a i,I a i->I a (i+1)):∀(g:Nat)(a:α)(i:Nat)(b:α)(j:Nat),i<l.length->I a i->jC l c one g a i=.ok b j->I b j/\j<l.length
 |0,a,i,b,j,_,_,h=>by unfold jC at h;cases h
 |g+1,a,i,b,j,hi,ha,h=>by
  unfold jC at h;split at h
  .cases h
  .rename_i b' j' ho;have k1:=h1 a i b' j' hi ha ho;split at h
   .rename_i hs;exact vM I h1 hm g b' (j'+1) b j (aV hV.fin k1.2 hs) (hm _ _ k1.1) h
   .cases h;exact k1
theorem c7A:a3e l K3 [.ptr 100001 0,.ptr 100002 0] a3y e9Y:=by
 constructor
 all_goals intros
 all_goals first
  |rfl
  |simp[a3y,aW,bB,bD,bC,bK,getKey,bA,bI,dC,rk,dL,bX, *]
variable{ty:bF Ty}
omit hV in
theorem c2k(a:List Nm×List Ty)(i:Nat)(b:List Nm×List Ty)(j:Nat)(h:a8h l ty a i=.ok b j):b.1.length=a.1.length+1/\b.2.length=a.2.length+1:=by
 simp only[a8h,cR]at h
 repeat' split at h
 all_goals first|cases h|skip
 all_goals simp
omit hV in
theorem d4A(a:List Nm×List Ty)(i:Nat)(b:List Nm×List Ty)(j:Nat)(h:a6H ty a i=.ok b j):b.1=a.1/\b.2.length=a.2.length+1:=by
 simp only[a6H,cR]at h
 repeat' split at h
 all_goals first|cases h|skip
 all_goals simp
section
variable {ty:bF Ty} {low:Nat} (pO:∀i,low<=i->i<l.length->tR G 43 [] l i (ty i) a2j) (yZ:aB l 1 ty)
include pO yZ
theorem d0G(out:List Nm×List Ty)(j0:Nat)(cM:low<=j0)(hi:j0<l.length)(vT:out.1.length<=j0/\out.2.length<=j0):qA G 135 [.ptr 100001 0,.ptr 100002 0] (a3y out) e9Y l j0 (a8h l ty out j0) (λ_=>.cX []) a3y:=by
 have hl:=hV.len;have p0:=gT hi;refine qA.bO func135 rfl ntmps135 rfl (by simp) ?_;intro Q Q0;simp[a3y];refine dK [0] 3 [2] (.op 1 (.call [4,5,6,7] .none) (.call [1,4,5,6,7] .none)) (kZ (bV aH l j0)) (by kernel_rfl) (by kernel_rfl) ?_;simp;refine⟨?_,?_⟩
 all_goals
  refine rX Q0 p0 dS (eN hV.kw l j0 p0.2 (by omega)) (aB.word hV.fin) λw j1 x1 Q1 p1=>cG.mk ?_;simp;refine bQ (by omega) ?_;simp;refine eS Q1 p1 hV.fin λu2 j2 x2 Q2 p2=>?_;simp;refine eW 6 (t:=41) (e:=54) (T:=54) (s:=13) (z:=17) (r:=18) (p:=19) (q:=16) (x:=15) (b:=20) (y:=0) (fd:=2) [0] 3 [2] (a6V 1 4 5) (kZ (ty j2)) rfl rfl rfl rfl rfl (by kernel_rfl) (by kernel_rfl) rfl ?_;simp
  repeat' apply And.intro
  all_goals
   refine rX Q2 p2 dO ((pO j2 (by omega) p2.2)) (yZ) λt j3 x3 Q3 p3=>cG.mk ?_;simp;refine⟨_,_,_,_,_,_,_,_,_,by simp,rfl,rfl,?_,rfl,rfl,?_,by simp,rfl,rfl,rfl,rfl,by decide,rfl,?_⟩
   .intro c hc
    first
     |(obtain⟨y,_,rfl⟩:=g3L.1 hc
       rw[bW]
       rfl)
     |(simp only[g3x]at hc
       subst hc
       rfl)
   .simp<;>omega
   exact Q3.ok _ j3 .normal _ rfl (.inl rfl) (by simp[a3y,bW,a2w])
theorem d0H(out:List Nm×List Ty)(i:Nat)(cM:low<=i)(hi:i<l.length)(vT:out.1.length<=i/\out.2.length<=i):qA G 136 [.ptr 100001 0,.ptr 100002 0] (a3y out) e9Y l i (a6H ty out i) (λ_=>.cX []) a3y:=by
 have hl:=hV.len;obtain⟨j2,rfl⟩:∃j2,j2=i:=⟨_,rfl⟩;have p2:j2<=j2/\j2<l.length:=⟨g3G _,hi⟩;refine qA.bO func136 rfl ntmps136 rfl (by simp) ?_;intro Q Q2;simp[a3y];refine eW 6 (t:=41) (e:=54) (T:=54) (s:=3) (z:=7) (r:=8) (p:=9) (q:=6) (x:=5) (b:=10) (y:=0) (fd:=2) [0] 3 [2] (a6V 1 4 5) (kZ (ty j2)) rfl rfl rfl rfl rfl (by kernel_rfl) (by kernel_rfl) rfl ?_;simp
 repeat' apply And.intro
 all_goals
  refine rX Q2 p2 dO ((pO j2 (by omega) p2.2)) (yZ) λt j3 x3 Q3 p3=>cG.mk ?_;simp;refine⟨_,_,_,_,_,_,_,_,_,by simp,rfl,rfl,?_,rfl,rfl,?_,by simp,rfl,rfl,rfl,rfl,by decide,rfl,?_⟩
  .intro c hc
   first
    |(obtain⟨y,_,rfl⟩:=g3L.1 hc
      rw[bW]
      rfl)
    |(simp only[g3x]at hc
      subst hc
      rfl)
  .simp<;>omega
  exact Q3.ok _ j3 .normal _ rfl (.inl rfl) (by simp[a3y,bW])
theorem b3X(out:List Nm×List Ty):aB l 1 (a8h l ty out):=(aB.word hV.fin).bl λ_=>(aB.exp hV.fin _ _).bz λ_=>(yZ.le (by omega)).bl λ_=>aB.bP _
omit hV in
theorem a9j(out:List Nm×List Ty):aB l 1 (a6H ty out):=yZ.bl λ_=>aB.bP _
theorem b8r(a:List Nm×List Ty)(i:Nat)(b:List Nm×List Ty)(j:Nat)(hi:i<l.length)(h:a.1.length<=i/\a.2.length<=i)(hx:a8h l ty a i=.ok b j):(b.1.length<=j/\b.2.length<=j)/\j<l.length:=by have h1:=b3X hV pO yZ a i b j hi hx;have h2:=c2k a i b j hx;omega
omit hV in
theorem b0V(a:List Nm×List Ty)(i:Nat)(b:List Nm×List Ty)(j:Nat)(hi:i<l.length)(h:a.1.length<=i/\a.2.length<=i)(hx:a6H ty a i=.ok b j):(b.1.length<=j/\b.2.length<=j)/\j<l.length:=by have h1:=a9j pO yZ a i b j hi hx;have h2:=d4A a i b j hx;rw[h2.1];omega
theorem d4B(j0:Nat)(cM:low<=j0+1)(hi:j0<l.length):tR G 87 [] l j0 (zO aH l ty j0) a2j:=by
 have hl:=hV.len;have p0:=gT hi;refine qA.bO func87 rfl ntmps87 rfl (by simp) ?_;intro Q Q0;unfold zO at Q0;simp;refine eS Q0 p0 hV.fin λu1 j1 x1 Q1 p1=>?_;simp;have ht:=dM (G:=G) l j1 j1 0;have ht1:=dM (G:=G) l j1 (j1+1) 1;refine qB (ds:=[.int .i64 0]) cJ ht ?_;simp;refine jV.mk oQ (pZ hV.kw (aJ l j1)) ?_;have hK:∀(b:Bool),(kL aH (aJ l j1)&&cQ (aJ l (j1+1)) [58])=b->((λi=>if kL aH (aJ l i)&&cQ (aJ l (i+1)) [58] then dJ l [44] (a8h l ty) ([],[]) i else dJ l [44] (a6H ty) ([],[]) i:bF (List Nm×List Ty)) j1)=if b then dJ l [44] (a8h l ty) ([],[]) j1 else dJ l [44] (a6H ty) ([],[]) j1:=λb hb=>by simp only[hb]
 have f3T:=jK hV [44] (a8h l ty) (λout i=>out.1.length<=i/\out.2.length<=i) low (.mk func135 rfl) (c7A hV) (λa=>(b3X hV pO yZ a).le (by omega)) (λa i qZ hi h=>d0G hV pO yZ a i qZ hi h) (λa i b j hi h hx=>(b8r hV pO yZ a i b j hi h hx).1) (λa i h=>by omega) ([],[]) j1 (by omega) p1.2 (by simp);have e6Z:=jK hV [44] (a6H ty) (λout i=>out.1.length<=i/\out.2.length<=i) low (.mk func136 rfl) (c7A hV) (λa=>(a9j pO yZ a).le (by omega)) (λa i qZ hi h=>d0H hV pO yZ a i qZ hi h) (λa i b j hi h hx=>(b0V pO yZ a i b j hi h hx).1) (λa i h=>by omega) ([],[]) j1 (by omega) p1.2 (by simp);cases hw:kL aH (aJ l j1)with
 |false=>
  have hx:=hK false (by rw[hw];rfl);rw[if_neg (by decide)]at hx;simp;refine dX.mk (a2e eT e6Z [(100000,100000),(100001,3),(100002,1)] (λa j hx=>?_) ?_ ?_ ?_ rfl rfl (λws j2 x2=>?_) (λn e hx2=>Q1.fail (hx.trans hx2) _))
  .simp[a3y,aW,bB,bD,bC,bK,getKey]
  .simp[a3y,aW,bB,bD,bC,bK,getKey]
  .simp[bA,bI,rk]
  .simp[a3y,bA,bI,rk,dC,dL]
  .have Q2:=Q1.step (hx.trans x2);have p2:=aB.list hV.fin (λa=>a9j pO yZ a) ([],[]) j1 ws j2 p1.2 x2;have hlen:ws.1.length<=50000/\ws.2.length<=50000:=by have:=vM hV (one:=a6H ty) (λa i=>a.1.length<=i/\a.2.length<=i) (b0V pO yZ) (λa i h=>by omega) _ _ _ _ _ p1.2 (by simp) x2;omega
   simp[bJ,a3y,bA,bI,rk,dC,dL,bX,kI,jA,eI];obtain⟨ns,ts⟩:=ws;simp only at Q2 hlen;refine eS Q2 p2 hV.fin λu3 j3 x3 Q3 p3=>?_;simp;by_cases hn:ns.length=0
   .have hn0:ns=[]:=g4a hn;subst hn0;by_cases h1:ts.length=1
    .obtain⟨t,rfl⟩:=List.length_eq_one_iff.1 h1;have hb:=mY (G:=G) l j3 [45,62] p3.2;simp;refine qB (ds:=[.str [45,62]]) jR hb ?_;cases hs:aL l j3 [45,62]with
     |false=>have Q3:=Q3.sW (by simp[hs]);simp;exact Q3.ok _ j3 _ _ rfl (.inr rfl) (by simp[bW])
     |true=>
      have Q3:=Q3.rK (by simp[hs]);simp;refine eS Q3 p3 hV.fin λu4 j4 x4 Q4 p4=>?_;simp;refine eW 6 (t:=41) (e:=54) (T:=54) (s:=48) (z:=52) (r:=53) (p:=54) (q:=51) (x:=50) (b:=55) (y:=3) (fd:=2) [0] 3 [2] (a6V 1 4 5) (kZ (ty j4)) rfl rfl rfl rfl rfl (by kernel_rfl) (by kernel_rfl) rfl ?_;simp
      repeat' apply And.intro
      all_goals
       refine rX Q4 p4 dO ((pO j4 (by omega) p4.2)) (yZ) λt5 j5 x5 Q5 p5=>cG.mk ?_;simp;refine⟨_,_,_,_,_,_,_,_,_,by simp,rfl,rfl,?_,rfl,rfl,?_,by simp,rfl,rfl,rfl,rfl,by decide,rfl,?_⟩
       .intro c hc
        first
         |(obtain⟨y,_,rfl⟩:=g3L.1 hc
           rw[bW]
           rfl)
         |(simp only[g3x]at hc
           subst hc
           rfl)
       .simp<;>omega
       simp;exact Q5.ok _ j5 _ _ rfl (.inr rfl) (by simp[wW,eE,bW])
    .have Q3:=Q3.rK (by simp[h1]);simp[h1];refine eS Q3 p3 hV.fin λu4 j4 x4 Q4 p4=>?_;simp;refine eW 6 (t:=41) (e:=54) (T:=54) (s:=48) (z:=52) (r:=53) (p:=54) (q:=51) (x:=50) (b:=55) (y:=3) (fd:=2) [0] 3 [2] (a6V 1 4 5) (kZ (ty j4)) rfl rfl rfl rfl rfl (by kernel_rfl) (by kernel_rfl) rfl ?_;simp
     repeat' apply And.intro
     all_goals
      refine rX Q4 p4 dO ((pO j4 (by omega) p4.2)) (yZ) λt5 j5 x5 Q5 p5=>cG.mk ?_;simp;refine⟨_,_,_,_,_,_,_,_,_,by simp,rfl,rfl,?_,rfl,rfl,?_,by simp,rfl,rfl,rfl,rfl,by decide,rfl,?_⟩
      .intro c hc
       first
        |(obtain⟨y,_,rfl⟩:=g3L.1 hc
          rw[bW]
          rfl)
        |(simp only[g3x]at hc
          subst hc
          rfl)
      .simp<;>omega
      simp;exact Q5.ok _ j5 _ _ rfl (.inr rfl) (by simp[wW,eE,bW])
   .have Q3:=Q3.rK (by simp[hn]);have hn':¬(ns.length:Int)=0:=by omega
    have hn2:¬ns=[]:=λe=>hn (by rw[e];rfl);simp[hn,hn',hn2];refine eS Q3 p3 hV.fin λu4 j4 x4 Q4 p4=>?_;simp;refine eW 6 (t:=41) (e:=54) (T:=54) (s:=48) (z:=52) (r:=53) (p:=54) (q:=51) (x:=50) (b:=55) (y:=3) (fd:=2) [0] 3 [2] (a6V 1 4 5) (kZ (ty j4)) rfl rfl rfl rfl rfl (by kernel_rfl) (by kernel_rfl) rfl ?_;simp
    repeat' apply And.intro
    all_goals
     refine rX Q4 p4 dO ((pO j4 (by omega) p4.2)) (yZ) λt5 j5 x5 Q5 p5=>cG.mk ?_;simp;refine⟨_,_,_,_,_,_,_,_,_,by simp,rfl,rfl,?_,rfl,rfl,?_,by simp,rfl,rfl,rfl,rfl,by decide,rfl,?_⟩
     .intro c hc
      first
       |(obtain⟨y,_,rfl⟩:=g3L.1 hc
         rw[bW]
         rfl)
       |(simp only[g3x]at hc
         subst hc
         rfl)
     .simp<;>omega
     simp;exact Q5.ok _ j5 _ _ rfl (.inr rfl) (by simp[wW,eE,bW])
 |true=>
  simp;refine qB (ds:=[.int .i64 1]) cJ ht1 ?_;simp;refine jV.mk pF (qH (aJ l (j1+1)) [58]) ?_;cases hf:cQ (aJ l (j1+1)) [58]with
  |false=>
   have hx:=hK false (by rw[hw,hf];rfl);rw[if_neg (by decide)]at hx;simp;refine dX.mk (a2e eT e6Z [(100000,100000),(100001,3),(100002,1)] (λa j hx=>?_) ?_ ?_ ?_ rfl rfl (λws j2 x2=>?_) (λn e hx2=>Q1.fail (hx.trans hx2) _))
   .simp[a3y,aW,bB,bD,bC,bK,getKey]
   .simp[a3y,aW,bB,bD,bC,bK,getKey]
   .simp[bA,bI,rk]
   .simp[a3y,bA,bI,rk,dC,dL]
   .have Q2:=Q1.step (hx.trans x2);have p2:=aB.list hV.fin (λa=>a9j pO yZ a) ([],[]) j1 ws j2 p1.2 x2;have hlen:ws.1.length<=50000/\ws.2.length<=50000:=by have:=vM hV (one:=a6H ty) (λa i=>a.1.length<=i/\a.2.length<=i) (b0V pO yZ) (λa i h=>by omega) _ _ _ _ _ p1.2 (by simp) x2;omega
    simp[bJ,a3y,bA,bI,rk,dC,dL,bX,kI,jA,eI];obtain⟨ns,ts⟩:=ws;simp only at Q2 hlen;refine eS Q2 p2 hV.fin λu3 j3 x3 Q3 p3=>?_;simp;by_cases hn:ns.length=0
    .have hn0:ns=[]:=g4a hn;subst hn0;by_cases h1:ts.length=1
     .obtain⟨t,rfl⟩:=List.length_eq_one_iff.1 h1;have hb:=mY (G:=G) l j3 [45,62] p3.2;simp;refine qB (ds:=[.str [45,62]]) jR hb ?_;cases hs:aL l j3 [45,62]with
      |false=>have Q3:=Q3.sW (by simp[hs]);simp;exact Q3.ok _ j3 _ _ rfl (.inr rfl) (by simp[bW])
      |true=>
       have Q3:=Q3.rK (by simp[hs]);simp;refine eS Q3 p3 hV.fin λu4 j4 x4 Q4 p4=>?_;simp;refine eW 6 (t:=41) (e:=54) (T:=54) (s:=48) (z:=52) (r:=53) (p:=54) (q:=51) (x:=50) (b:=55) (y:=3) (fd:=2) [0] 3 [2] (a6V 1 4 5) (kZ (ty j4)) rfl rfl rfl rfl rfl (by kernel_rfl) (by kernel_rfl) rfl ?_;simp
       repeat' apply And.intro
       all_goals
        refine rX Q4 p4 dO ((pO j4 (by omega) p4.2)) (yZ) λt5 j5 x5 Q5 p5=>cG.mk ?_;simp;refine⟨_,_,_,_,_,_,_,_,_,by simp,rfl,rfl,?_,rfl,rfl,?_,by simp,rfl,rfl,rfl,rfl,by decide,rfl,?_⟩
        .intro c hc
         first
          |(obtain⟨y,_,rfl⟩:=g3L.1 hc
            rw[bW]
            rfl)
          |(simp only[g3x]at hc
            subst hc
            rfl)
        .simp<;>omega
        simp;exact Q5.ok _ j5 _ _ rfl (.inr rfl) (by simp[wW,eE,bW])
     .have Q3:=Q3.rK (by simp[h1]);simp[h1];refine eS Q3 p3 hV.fin λu4 j4 x4 Q4 p4=>?_;simp;refine eW 6 (t:=41) (e:=54) (T:=54) (s:=48) (z:=52) (r:=53) (p:=54) (q:=51) (x:=50) (b:=55) (y:=3) (fd:=2) [0] 3 [2] (a6V 1 4 5) (kZ (ty j4)) rfl rfl rfl rfl rfl (by kernel_rfl) (by kernel_rfl) rfl ?_;simp
      repeat' apply And.intro
      all_goals
       refine rX Q4 p4 dO ((pO j4 (by omega) p4.2)) (yZ) λt5 j5 x5 Q5 p5=>cG.mk ?_;simp;refine⟨_,_,_,_,_,_,_,_,_,by simp,rfl,rfl,?_,rfl,rfl,?_,by simp,rfl,rfl,rfl,rfl,by decide,rfl,?_⟩
       .intro c hc
        first
         |(obtain⟨y,_,rfl⟩:=g3L.1 hc
           rw[bW]
           rfl)
         |(simp only[g3x]at hc
           subst hc
           rfl)
       .simp<;>omega
       simp;exact Q5.ok _ j5 _ _ rfl (.inr rfl) (by simp[wW,eE,bW])
    .have Q3:=Q3.rK (by simp[hn]);have hn':¬(ns.length:Int)=0:=by omega
     have hn2:¬ns=[]:=λe=>hn (by rw[e];rfl);simp[hn,hn',hn2];refine eS Q3 p3 hV.fin λu4 j4 x4 Q4 p4=>?_;simp;refine eW 6 (t:=41) (e:=54) (T:=54) (s:=48) (z:=52) (r:=53) (p:=54) (q:=51) (x:=50) (b:=55) (y:=3) (fd:=2) [0] 3 [2] (a6V 1 4 5) (kZ (ty j4)) rfl rfl rfl rfl rfl (by kernel_rfl) (by kernel_rfl) rfl ?_;simp
     repeat' apply And.intro
     all_goals
      refine rX Q4 p4 dO ((pO j4 (by omega) p4.2)) (yZ) λt5 j5 x5 Q5 p5=>cG.mk ?_;simp;refine⟨_,_,_,_,_,_,_,_,_,by simp,rfl,rfl,?_,rfl,rfl,?_,by simp,rfl,rfl,rfl,rfl,by decide,rfl,?_⟩
      .intro c hc
       first
        |(obtain⟨y,_,rfl⟩:=g3L.1 hc
          rw[bW]
          rfl)
        |(simp only[g3x]at hc
          subst hc
          rfl)
      .simp<;>omega
      simp;exact Q5.ok _ j5 _ _ rfl (.inr rfl) (by simp[wW,eE,bW])
  |true=>
   have hx:=hK true (by rw[hw,hf];rfl);rw[if_pos rfl]at hx;simp;refine dX.mk (a2e eT f3T [(100000,100000),(100001,3),(100002,1)] (λa j hx=>?_) ?_ ?_ ?_ rfl rfl (λws j2 x2=>?_) (λn e hx2=>Q1.fail (hx.trans hx2) _))
   .simp[a3y,aW,bB,bD,bC,bK,getKey]
   .simp[a3y,aW,bB,bD,bC,bK,getKey]
   .simp[bA,bI,rk]
   .simp[a3y,bA,bI,rk,dC,dL]
   .have Q2:=Q1.step (hx.trans x2);have p2:=aB.list hV.fin (λa=>b3X hV pO yZ a) ([],[]) j1 ws j2 p1.2 x2;have hlen:ws.1.length<=50000/\ws.2.length<=50000:=by have:=vM hV (one:=a8h l ty) (λa i=>a.1.length<=i/\a.2.length<=i) (b8r hV pO yZ) (λa i h=>by omega) _ _ _ _ _ p1.2 (by simp) x2;omega
    simp[bJ,a3y,bA,bI,rk,dC,dL,bX,kI,jA,eI];obtain⟨ns,ts⟩:=ws;simp only at Q2 hlen;refine eS Q2 p2 hV.fin λu3 j3 x3 Q3 p3=>?_;simp;by_cases hn:ns.length=0
    .have hn0:ns=[]:=g4a hn;subst hn0;by_cases h1:ts.length=1
     .obtain⟨t,rfl⟩:=List.length_eq_one_iff.1 h1;have hb:=mY (G:=G) l j3 [45,62] p3.2;simp;refine qB (ds:=[.str [45,62]]) jR hb ?_;cases hs:aL l j3 [45,62]with
      |false=>have Q3:=Q3.sW (by simp[hs]);simp;exact Q3.ok _ j3 _ _ rfl (.inr rfl) (by simp[bW])
      |true=>
       have Q3:=Q3.rK (by simp[hs]);simp;refine eS Q3 p3 hV.fin λu4 j4 x4 Q4 p4=>?_;simp;refine eW 6 (t:=41) (e:=54) (T:=54) (s:=48) (z:=52) (r:=53) (p:=54) (q:=51) (x:=50) (b:=55) (y:=3) (fd:=2) [0] 3 [2] (a6V 1 4 5) (kZ (ty j4)) rfl rfl rfl rfl rfl (by kernel_rfl) (by kernel_rfl) rfl ?_;simp
       repeat' apply And.intro
       all_goals
        refine rX Q4 p4 dO ((pO j4 (by omega) p4.2)) (yZ) λt5 j5 x5 Q5 p5=>cG.mk ?_;simp;refine⟨_,_,_,_,_,_,_,_,_,by simp,rfl,rfl,?_,rfl,rfl,?_,by simp,rfl,rfl,rfl,rfl,by decide,rfl,?_⟩
        .intro c hc
         first
          |(obtain⟨y,_,rfl⟩:=g3L.1 hc
            rw[bW]
            rfl)
          |(simp only[g3x]at hc
            subst hc
            rfl)
        .simp<;>omega
        simp;exact Q5.ok _ j5 _ _ rfl (.inr rfl) (by simp[wW,eE,bW])
     .have Q3:=Q3.rK (by simp[h1]);simp[h1];refine eS Q3 p3 hV.fin λu4 j4 x4 Q4 p4=>?_;simp;refine eW 6 (t:=41) (e:=54) (T:=54) (s:=48) (z:=52) (r:=53) (p:=54) (q:=51) (x:=50) (b:=55) (y:=3) (fd:=2) [0] 3 [2] (a6V 1 4 5) (kZ (ty j4)) rfl rfl rfl rfl rfl (by kernel_rfl) (by kernel_rfl) rfl ?_;simp
      repeat' apply And.intro
      all_goals
       refine rX Q4 p4 dO ((pO j4 (by omega) p4.2)) (yZ) λt5 j5 x5 Q5 p5=>cG.mk ?_;simp;refine⟨_,_,_,_,_,_,_,_,_,by simp,rfl,rfl,?_,rfl,rfl,?_,by simp,rfl,rfl,rfl,rfl,by decide,rfl,?_⟩
       .intro c hc
        first
         |(obtain⟨y,_,rfl⟩:=g3L.1 hc
           rw[bW]
           rfl)
         |(simp only[g3x]at hc
           subst hc
           rfl)
       .simp<;>omega
       simp;exact Q5.ok _ j5 _ _ rfl (.inr rfl) (by simp[wW,eE,bW])
    .have Q3:=Q3.rK (by simp[hn]);have hn':¬(ns.length:Int)=0:=by omega
     have hn2:¬ns=[]:=λe=>hn (by rw[e];rfl);simp[hn,hn',hn2];refine eS Q3 p3 hV.fin λu4 j4 x4 Q4 p4=>?_;simp;refine eW 6 (t:=41) (e:=54) (T:=54) (s:=48) (z:=52) (r:=53) (p:=54) (q:=51) (x:=50) (b:=55) (y:=3) (fd:=2) [0] 3 [2] (a6V 1 4 5) (kZ (ty j4)) rfl rfl rfl rfl rfl (by kernel_rfl) (by kernel_rfl) rfl ?_;simp
     repeat' apply And.intro
     all_goals
      refine rX Q4 p4 dO ((pO j4 (by omega) p4.2)) (yZ) λt5 j5 x5 Q5 p5=>cG.mk ?_;simp;refine⟨_,_,_,_,_,_,_,_,_,by simp,rfl,rfl,?_,rfl,rfl,?_,by simp,rfl,rfl,rfl,rfl,by decide,rfl,?_⟩
      .intro c hc
       first
        |(obtain⟨y,_,rfl⟩:=g3L.1 hc
          rw[bW]
          rfl)
        |(simp only[g3x]at hc
          subst hc
          rfl)
      .simp<;>omega
      simp;exact Q5.ok _ j5 _ _ rfl (.inr rfl) (by simp[wW,eE,bW])
end
end
theorem CH.f7J{P:Program}{f:FuncId}{s0:St}{r r':DV}{H1:List (Nat×bG)}{own1:List (TypeId×List VM.Loc)}(h:CH P G f s0 ⟨[r],H1,own1⟩)(hw:b0E r r'):CH P G f s0 ⟨[r'],H1,own1⟩:=λbase R μ args w hr=>(h base R μ args w hr).mono λe w' ⟨v,R',μ',he,jG,hs⟩=>⟨v,R',μ',he,jG.e9H hw,hs⟩
theorem b5s:CS prog G 188 [] (.d (.agg (prD a6a))) none:=by refine CS.aY func188 rfl ntmps188 rfl ?_;simp[a6a]
def c0E:List Pr->Pr->Pr
 |[],o=>o
 |p::r,o=>if a2g p a6a then a6a else if zU p then c0E r o else if zU o then c0E r p else c0E r ⟨15,[],0,[o,p]⟩
theorem d8o{p:Pr}(h:a2g p a6a=true):zU p=false:=by rw[b2y]at h;simp only[g4e]at h;subst h;decide
theorem d2B(a b:Pr):c0E [a,b] a2h=aZ a b:=by
 have ht:zU a2h=true:=by decide
 have e:∀p,zU p=true->a2g p a6a=false:=λp h=>by
  cases hs:a2g p a6a with
  |true=>rw[d8o hs]at h;cases h
  |false=>rfl
 have hf:a6b false=a6a:=rfl;have htr:a6b true=a2h:=rfl;unfold aZ;simp only[c0E,b5Z,b8m,ht,if_true,hf,htr];cases va:zU a with
 |true=>
  simp only[e a va,g3K,if_false,if_true];cases vb:zU b with
  |true=>simp only[e b vb,g3K,if_false,if_true]
  |false=>
   cases sb:a2g b a6a with
   |true=>simp only[if_true,g3K,if_false]
   |false=>simp only[g3K,if_false]
 |false=>
  cases sa:a2g a a6a with
  |true=>simp only[if_true,g3K,if_false]
  |false=>
   simp only[g3K,if_false];cases vb:zU b with
   |true=>simp only[e b vb,g3K,if_false,if_true]
   |false=>
    cases sb:a2g b a6a with
    |true=>simp only[if_true,g3K,if_false]
    |false=>simp only[va,g3K,if_false,if_true]
theorem d4C(a b:Pr)(ha:bN a<=440000000:=by omega)(hb:bN b<=440000000:=by omega):CS prog G 175 [.sl [qF a,qF b]] (.d (.agg (prD (aZ a b)))) none:=by
 rw[<-d2B];generalize hR:c0E [a,b] a2h=R;obtain⟨L,hL⟩:∃L,L=[a,b]:=⟨_,rfl⟩;have hLl:L.length=2:=by rw[hL];rfl
 have hm:∀p∈L,bN p<=440000000:=by
  rw[hL];intro p hp;simp only[g3N,List.not_mem_nil,or_false]at hp;rcases hp with rfl|rfl
  .exact ha
  .exact hb
 rw[<-hL]at hR;rw[show [qF a,qF b]=L.map qF by rw[hL];rfl];refine CS.aY func175 rfl ntmps175 rfl ?_;simp;refine aC.mk (.mk func187 rfl) b8f ?_;simp;refine SW.eA (ι:={x:Nat×Pr//x.1<=2/\c0E (L.drop x.1) x.2=R/\(x.1=0->bN x.2<=440000000)/\(x.1<=1->bN x.2<=880000001)}) (λx=>[(9,.d (.int .i64 x.1.1))]) (λx=>[(2,.cells [.d (.int .i64 0),.d (.str []),.d (.int .i64 0),.d .aE]),(3,.cells ((prD x.1.2).map .d))]) (λ_=>[]) (λx=>L.length-x.1.1) ⟨(0,a2h),by simp,by simpa using hR,λ_=>by rw[show bN (0,a2h).2=1 by simp[a2h,bN,eJ]];decide,λ_=>by rw[show bN (0,a2h).2=1 by simp[a2h,bN,eJ]];decide⟩ (by simp[a2h]) ?_;rintro⟨⟨k,out⟩,hk,hp,hn0,hn1⟩;simp only at hk hp hn0 hn1;by_cases aG:k<L.length
 .have hw:=aX (show k<9223372036854775807 by omega);have hd:L.drop k=L[k]::L.drop (k+1):=g3D aG;have hbd:=hm L[k] (g3P aG);rw[hd]at hp;obtain⟨p,hP⟩:∃p,L[k]=p:=⟨_,rfl⟩;rw[hP]at hd hbd hp;have hnb:=hn1 (by omega);have vB:k+1<=1->bN out<=880000001:=λh=>hnb;have hnp:k+1<=1->bN p<=880000001:=λh=>by omega
  have hn2:k+1<=1->bN ⟨15,[],0,[out,p]⟩<=880000001:=λh=>by have:=hn0 (by omega);rw[b8o];omega
  have hv:=b8g (G:=G) p;have hvo:=b8g (G:=G) out;have hs:=qJ (G:=G) p a6a (by omega);simp only[c0E]at hp;simp[aG,hP];refine⟨.mk,?_⟩;refine aC.mk (.mk func188 rfl) b5s ?_;simp;refine aC.mk mO hs ?_;cases h2:a2g p a6a with
  |true=>rw[h2,if_pos rfl]at hp;simp;refine aC.mk (.mk func188 rfl) b5s ?_;simp[<-hp]
  |false=>
   rw[h2,if_neg (by decide)]at hp;simp;refine aC.mk (.mk func189 rfl) hv ?_;cases h1:zU p with
   |true=>rw[h1,if_pos rfl]at hp;simp;exact bE.mk ⟨(k+1,out),by simp only;omega,hp,λh=>(by cases h),vB⟩ (by simp[hw]) (by simp;omega)
   |false=>
    rw[h1,if_neg (by decide)]at hp;simp;refine aC.mk (.mk func189 rfl) hvo ?_;cases h3:zU out with
    |true=>rw[h3,if_pos rfl]at hp;simp;exact bE.mk ⟨(k+1,p),by simp only;omega,hp,λh=>(by cases h),hnp⟩ (by simp[hw]) (by simp;omega)
    |false=>rw[h3,if_neg (by decide)]at hp;simp;exact bE.mk ⟨(k+1,⟨15,[],0,[out,p]⟩),by simp only;omega,hp,λh=>(by cases h),hn2⟩ (by simp[hw]) (by simp;omega)
 .have hd:L.drop k=[]:=List.drop_eq_nil_of_le (by omega);rw[hd]at hp;simp only[c0E]at hp;simp[aG, <- hp]
theorem sZ:VM.Enters prog 111:=.mk func111 rfl
theorem a4c:VM.Enters prog 106:=.mk func106 rfl
abbrev uI(l:List Tok)(k:Nat)(s s1:dB):Prop:=s1.er=0->s.er=0/\s.pl+k<=s1.pl/\s1.pl<l.length
structure rR (G:GT) (rdP:List Tok->Nat->Nat->gO Pr) (l:List Tok):Prop extends RfH rdP l where
 len:l.length<=20000
 nod:∀i e p j,rdP l i e=.ok p j->bN p<=20001
 bef:∀s e,bY l s->(s.er=0->s.pl<=e)->e<=l.length->eH G 119 [.int .i64 e] l s (pL rdP l e s) d4n
section
variable {rdP:List Tok->Nat->Nat->gO Pr} {l:List Tok} (hV:rR G rdP l)
include hV
theorem vN(s:dB)(hv:bY l s):eH G 111 [] l s (pT rdP l s) d4n:=by have hl:=hV.len;have hb:=hV.bef s l.length hv (λh=>Nat.le_of_lt (hv h)) (g3G _);obtain⟨i,e,ln⟩:=s;refine eH.bO func111 rfl ntmps111 rfl ?_;intro Q Q0;simp;refine cH (.mk func119 rfl) hb (λp s1 h1=>?_);have Q0:=Q0.eq h1;simp;exact Q0.ok _ _ (.inr rfl) (by simp)
variable{s s1:dB}
omit hV in
theorem kP(hE:pK l){b:Bool}{a:Nm}(hb:b=true->(gG l 0 s).kind≠0)(hv:bY l s)(h:rL l b s=(a,s1)):s1.er=0->s.er=0/\s.pl+1<=s1.pl/\s1.pl<l.length:=λh1=>by
 unfold rL at h;by_cases hc:b=true/\s.er=0
 .rw[if_pos hc]at h;cases h;have hi:=hv hc.2;have hk:=hb hc.1;unfold gG at hk;rw[if_pos ⟨hc.2,hi⟩]at hk;exact⟨hc.2,g3G _,rD hE hi hk⟩
 .rw[if_neg hc]at h;cases h;unfold mF at h1;split at h1
  .cases h1
  .contradiction
variable{t u:Nm}
omit hV in
theorem oH(hE:pK l){u:Unit}(hv:bY l s)(h:aK l t s=(u,s1)):s1.er=0->s.er=0/\s.pl+1<=s1.pl/\s1.pl<l.length:=by
 have h:rL l (bZ l 0 t s) s=((rL l (bZ l 0 t s) s).1,s1):=by
  cases h
  rfl
 refine kP hE (λhb=>?_) hv h;unfold bZ at hb;simp only[g3q,g4e]at hb;omega
omit hV in
theorem yU(hE:pK l)(hv:bY l s)(h:rL l (eY l t s) s=(u,s1)):s1.er=0->s.er=0/\s.pl+1<=s1.pl/\s1.pl<l.length:=kP hE (λhb=>by unfold eY at hb;simp only[g3q,g4e]at hb;omega) hv h
omit hV in
theorem gW(hE:pK l)(hv:bY l s)(h:dY aH l s=(u,s1)):s1.er=0->s.er=0/\s.pl+1<=s1.pl/\s1.pl<l.length:=kP hE (λhb=>by unfold mG at hb;simp only[g3q,g4e]at hb;omega) hv h
variable{rs:List ResultVar}{all:Array Oper}{Q Q':Exit->St->Prop}{av:List DV}{f:FuncId}{own:List (TypeId×List VM.Loc)}{k:List XI}{ls:List (Option VM.Loc)}{ops:List Oper}{m:Nat}{ds:List D}{st:St}{dst:Option Tmp}
omit hV in
theorem rfG{α β:Type}{enc:β->DV}{e1:α->DV}{x:RM α}{g:α->RM β}(Q0:a0l Q rs l enc own ((x >>=g) s))(v0:bY l s)(he:VM.Enters prog f)(hc:eH G f ds l s (x s) e1)(ad:∀{a s1},bY l s->x s=(a,s1)->s1.er=0->s.er=0/\s.pl+m<=s1.pl/\s1.pl<l.length)(pG:∀a s1,x s=(a,s1)->a0l Q rs l enc own (g a s1)->uI l m s s1->bY l s1->XK prog G (.ops all ops::k) .normal ⟨kJ dst (e1 a) st.tmps,cF 100000 (rfO l s1) st.H,jB dst (dropKey 100000 st.own)⟩ Q')(hw:WkT av (.ptr 100000 0::ds.map .d):=by simp)(hH:getKey 100000 st.H=some (rfO l s):=by simp)(hk:∀a,bB K1 (e1 a)=true/\bI K1 (e1 a)=e1 a:=by intro a;exact⟨rfl,rfl⟩):dX prog G f av ls dst all ops k st Q':=cH (hw:=hw) (hH:=hH) he hc (λa s1 h=>pG a s1 h (Q0.step h) (ad v0 h) (bY.next (ad v0 h))) hk
omit hV in
theorem rfL{α:Type}{e1:α->DV}{x:RM α}(v0:bY l s)(he:VM.Enters prog f)(hc:eH G f ds l s (x s) e1)(ad:∀{a s1},bY l s->x s=(a,s1)->s1.er=0->s.er=0/\s.pl+m<=s1.pl/\s1.pl<l.length)(pG:∀a s1,x s=(a,s1)->uI l m s s1->bY l s1->XK prog G (.ops all ops::k) .normal ⟨kJ dst (e1 a) st.tmps,cF 100000 (rfO l s1) st.H,jB dst (dropKey 100000 st.own)⟩ Q')(hw:WkT av (.ptr 100000 0::ds.map .d):=by simp)(hH:getKey 100000 st.H=some (rfO l s):=by simp)(hk:∀a,bB K1 (e1 a)=true/\bI K1 (e1 a)=e1 a:=by intro a;exact⟨rfl,rfl⟩):dX prog G f av ls dst all ops k st Q':=cH (hw:=hw) (hH:=hH) he hc (λa s1 h=>pG a s1 h (ad v0 h) (bY.next (ad v0 h))) hk
omit hV in
theorem rfN(t:Nm)(v0:bY l s)(hF:pK l)(pG:∀a s1,aK l t s=(a,s1)->uI l 1 s s1->bY l s1->XK prog G (.ops all ops::k) .normal ⟨kJ dst (.cX []) st.tmps,cF 100000 (rfO l s1) st.H,jB dst (dropKey 100000 st.own)⟩ Q')(hw:WkT av (.ptr 100000 0::[D.str t].map .d):=by simp)(hH:getKey 100000 st.H=some (rfO l s):=by simp)(hl:l.length<=50000:=by omega):dX prog G 23 av ls dst all ops k st Q':=cH (hw:=hw) (hH:=hH) oR (qI hl t s v0) λa s1 h=>pG a s1 h (oH hF v0 h) (bY.next (oH hF v0 h))
omit hV in
theorem rfM{β:Type}{enc:β->DV}{g:Unit->RM β}(Q0:a0l Q rs l enc own ((aK l t >>=g) s))(v0:bY l s)(hF:pK l)(pG:∀a s1,aK l t s=(a,s1)->a0l Q rs l enc own (g a s1)->uI l 1 s s1->bY l s1->XK prog G (.ops all ops::k) .normal ⟨kJ dst (.cX []) st.tmps,cF 100000 (rfO l s1) st.H,jB dst (dropKey 100000 st.own)⟩ Q')(hw:WkT av (.ptr 100000 0::[D.str t].map .d):=by simp)(hH:getKey 100000 st.H=some (rfO l s):=by simp)(hl:l.length<=50000:=by omega):dX prog G 23 av ls dst all ops k st Q':=rfN (hw:=hw) (hH:=hH) t v0 hF (λa s1 h p v=>pG a s1 h (Q0.step h) p v) (hl:=hl)
theorem a8i(s0:dB)(hv:bY l s0):eH G 72 [] l s0 (jM aH l s0) (λws=>.d (.sl (strs ws))):=by
 have hl:=hV.len;have v0:=hv;refine eH.bO func72 rfl ntmps72 rfl ?_;intro Q Q0;unfold jM at Q0;simp;refine rfM Q0 v0 hV.fin λu1 s1 h1 Q1 p1 v1=>?_;simp;refine rfG Q1 v1 gK (jJ (by omega) s1 v1) (gW hV.fin) λw s2 h2 Q2 p2 v2=>?_;simp;obtain⟨Y,hY⟩:∃Y,a5i aH l w s2=Y:=⟨_,rfl⟩;have Q2:=Q2.step (a:=Y.1) (s1:=Y.2) hY;refine SW.sV (ι:={x:List Nm×dB×Nat//bY l x.2.1/\x.1.length<=l.length+1/\(x.2.1.er=0->x.1.length<=x.2.1.pl/\l.length<x.2.2+x.2.1.pl)/\(if bZ l 0 [44] x.2.1 then mP l [44] (λout=>do let w <- dY aH l;pure (out++[w])) x.2.2 x.1 ⟨x.2.1.pl+1,x.2.1.er,x.2.1.ln⟩ else(x.1,x.2.1))=Y}) (λx=>[(3,.d (.sl (strs x.1.1)))]) (λx=>rfH l x.1.2.1) (λ_=>[(9,[.t 3])]) (λx=>if x.1.2.1.er=0 then l.length-x.1.2.1.pl+1 else 0) ⟨([w],s2,l.length+1),v2,by simp,λh=>?_,hY⟩ (by simp[strs]) ?_
 .have:=p2 h;simp only[List.length_singleton];omega
 rintro⟨⟨out,s3,g⟩,v3,ho,hb,hy⟩;simp only at v3 ho hb hy;simp;refine cH bS (cN (by omega) [44] s3 v3) (λb s4 h4=>?_);unfold eL at h4;rcases g3O (bZ l 0 [44] s3)with hs|hs
 .rw[if_pos hs]at hy;rw[if_pos hs]at h4;obtain⟨rfl,h4'⟩:=Prod.mk.inj h4;obtain⟨e1,e2⟩:=a2u hV.fin hs;have hb1:=hb e1;obtain⟨g,rfl⟩:∃k,g=k+1:=⟨g-1,by omega⟩;have e4:s4.er=0/\s4.pl=s3.pl+1:=by rw[<-h4'];exact⟨e1,rfl⟩
  rw[h4']at hy;have v4:bY l s4:=λ_=>by omega
  simp;refine cH gK (jJ (by omega) s4 v4) (λw s5 h5=>?_);have p5:=gW hV.fin v4 h5;have ho1:(dY aH l >>=λw=>pure (out++[w]):RM (List Nm)) s4=(out++[w],s5):=by
   rw[aQ,h5]
   rfl
  unfold mP at hy;rw[if_pos e4.1,ho1]at hy;simp;refine eF (by omega) ?_;simp;refine bE.mk ⟨(out++[w],s5,g),bY.next p5,by simp only[g4b,List.length_singleton];omega,λh=>?_,hy⟩ (by simp[a2w]) ?_
  .have:=p5 h;simp only[g4b,List.length_singleton];omega
  .simp only[e1,if_true];split
   .rename_i h;have:=p5 h;omega
   .omega
 .rw[if_neg (by rw[hs];decide)]at hy;rw[if_neg (by rw[hs];decide)]at h4;cases h4;subst hy;simp;refine cH oR (qI (by omega) [41] s3 v3) (λu5 s5 h5=>?_);have Q5:=Q2.step h5;simp;exact Q5.ok _ _ (.inr rfl) (by simp)
omit hV in
abbrev f0a(op:Int)(nm:Nm):List D:=[.int .i64 op,.str nm,.aE,.aE,.int .i64 0,.str [],.int .i64 0,.aE,.aE]
theorem b2E(s:dB)(hv:bY l s):eH G 156 [] l s (dN aH l s) (λp=>.cX [.agg (f0a p.1.op p.1.name),.bool p.2]):=by
 have hl:=hV.len;have hp:eH G 21 [.int .i64 0] l s _ _:=oG (by omega) 0 s hv (by omega);have hwd:eH G 105 [.int .i64 0] l s _ _:=a5V (by omega) 0 s hv (by omega);have hti:=jN (G:=G) (by omega) s hv;have her:(gG l 0 s).kind≠0->s.er=0:=λh=>by
  by_cases he:s.er=0
  .exact he
  .simp[gG,he]at h
 obtain⟨i,e,ln⟩:=s;have hw:(gG l 0 ⟨i,e,ln⟩).kind≠0->IntKind.i64.wrap ((i:Int)+1)=((i+1:Nat):Int):=λh=>by have hi:i<l.length:=hv (her h);exact aX (by omega)
 refine eH.bO func156 rfl ntmps156 rfl ?_;intro Q Q0;unfold dN mG pS at Q0;unfold mG at hwd;unfold pS at hti;simp;refine cH gV hp (λT s1 h1=>?_);cases h1;generalize gG l 0 ⟨i,e,ln⟩=T at Q0 hwd hti hw|-;obtain⟨a,x,c,d⟩:=T;simp only at Q0 hwd hti hw;simp[bL];refine cH mN hwd (λb s1 h1=>?_);cases h1;by_cases h1:(decide (a=1)&& !aH x)=true
 .have Q0:=Q0.sW h1;have hw:=hw (by simp only[g3q,g4e]at h1;omega);simp only[h1];simp[hw];exact Q0.ok _ _ (.inr rfl) (by simp[wW,eE])
 have Q0:=Q0.rK h1;have h1:=Bool.eq_false_iff.2 h1;simp only[h1];simp;refine cH gQ hti (λb s1 h1=>?_);cases h1;by_cases h2:a=2
 .have Q0:=Q0.rK (by simp[h2]);have hw:=hw (by omega);simp[h2,hw];by_cases x1:x=[73,110,116]
  .simp only[if_pos x1]at Q0;simp[x1];exact Q0.ok _ _ (.inr rfl) (by simp[wW,eE])
  simp only[if_neg x1]at Q0;simp[x1];by_cases x2:x=[66,111,111,108]
  .simp only[if_pos x2]at Q0;simp[x2];exact Q0.ok _ _ (.inr rfl) (by simp[wW,eE])
  simp only[if_neg x2]at Q0;simp[x2];by_cases x3:x=[67,101,108,108]
  .simp only[if_pos x3]at Q0;simp[x3];exact Q0.ok _ _ (.inr rfl) (by simp[wW,eE])
  simp only[if_neg x3]at Q0;simp[x3];exact Q0.ok _ _ (.inr rfl) (by simp[wW,eE])
 .have Q0:=Q0.sW (by simp[h2]);simp[h2];exact Q0.ok _ _ (.inr rfl) (by simp[jZ,eE])
omit hV in
theorem b2F(s:dB):(dN aH l s).1.1=wW (dN aH l s).1.1.op (dN aH l s).1.1.name:=by
 unfold dN
 repeat' split
 all_goals rfl
theorem c7B(s:dB)(hv:bY l s):eH G 156 [] l s (dN aH l s) (λp=>.cX [.agg (tyD p.1),.bool p.2]):=by
 refine CH.f7J (b2E hV s hv) ?_
 show b0E (.cX [.agg (f0a (dN aH l s).1.1.op (dN aH l s).1.1.name),.bool (dN aH l s).1.2]) (.cX [.agg (tyD (dN aH l s).1.1),.bool (dN aH l s).1.2])
 have hf:=b2F (l:=l) s;generalize (dN aH l s).1=p at hf|-;obtain⟨t,b⟩:=p;simp only at hf;rw[hf];simp[wW,eE]
end
variable{s s1:dB}{l:List Tok}
theorem uI.tr{k m:Nat}{s2:dB}(h:uI l k s s1)(h':uI l m s1 s2):uI l (k+m) s s2:=λh2=>by have h3:=h' h2;have h4:=h h3.1;omega
variable{b:Bool}{t:Nm}
theorem yA(hE:pK l)(hv:bY l s)(h:eL l t s=(b,s1)):uI l 0 s s1:=λh1=>by
 unfold eL at h;split at h
 .rename_i hs;have:=a2u hE hs;cases h;exact⟨this.1,Nat.le_succ _,this.2⟩
 .cases h;exact⟨h1,g3G _,hv h1⟩
theorem oL(hE:pK l)(h:eL l t s=(b,s1)):(bZ l 0 t s=true/\b=true/\s1=⟨s.pl+1,s.er,s.ln⟩/\s.er=0/\s1.pl=s.pl+1/\bY l s1)\/(bZ l 0 t s=false/\b=false/\s1=s):=by
 unfold eL at h;split at h
 .rename_i hs;have h2:=a2u hE hs;cases h;exact .inl ⟨hs,rfl,rfl,h2.1,rfl,λ_=>h2.2⟩
 .rename_i hs;cases h;exact .inr ⟨Bool.eq_false_iff.2 hs,rfl,rfl⟩
theorem a0I(hE:pK l)(hv:bY l s)(h:wO l t s=(b,s1)):uI l 0 s s1:=λh1=>by
 unfold wO at h;split at h
 .rename_i hs;unfold eY gG at hs;cases h;simp only at h1;rw[if_pos ⟨h1,hv h1⟩]at hs;simp only[g3q,g4e]at hs;exact⟨h1,Nat.le_succ _,rD hE (hv h1) (by have:=hs.1;simp only[Nat.add_zero]at this;omega)⟩
 .cases h;exact⟨h1,g3G _,hv h1⟩
theorem b8s(hE:pK l){u:Nm}(hv:bY l s)(h:b3R aH l s=(u,s1)):uI l 1 s s1:=kP hE (λhb=>by unfold pS mG at hb;simp only[g3C,g3q,g4e]at hb;omega) hv h
section
variable {rdP:List Tok->Nat->Nat->gO Pr} {l:List Tok} (hV:rR G rdP l)
include hV
theorem rE(s:dB)(hv:bY l s):eH G 105 [.int .i64 0] l s (mG aH l 0 s,s) (λb=>.d (.bool b)):=a5V (by have:=hV.len;omega) 0 s hv (by omega)
theorem dT(t:Nm)(s:dB)(hv:bY l s):eH G 60 [.int .i64 0,.str t] l s (bZ l 0 t s,s) (λb=>.d (.bool b)):=tI (by have:=hV.len;omega) 0 t s hv (by omega)
abbrev rvM(l:List Tok)(v:Bool)(out:List psV):RM (List psV):=do
 let name <- a4B l λs=>mG aH l 0 s||v&&eY l [118] s
 aK l [58]
 let t <- b3R aH l
 pure (out++[(name,t)])
abbrev rnM(l:List Tok)(out:List psV):RM (List psV):=do
 let c <- dQ l
 let w <- dY aH l
 pure (out++[(c,w)])
theorem a6e(v:Bool)(s:dB)(hv:bY l s):eH G 106 [.bool v] l s (wT aH l v s) (λxs=>.d (.sl (xs.map dP))):=by
 have hl:=hV.len;refine eH.bO func106 rfl ntmps106 rfl ?_;intro Q Q0;unfold wT mH at Q0;simp;refine a1F hV.fin [44] (rvM l v) (λa=>a.length) (λ_=>True) 6 (λa=>[(5,.d (.sl (a.map dP)))]) (λ_ s=>rfH l s) (λ_=>[(166,[.t 5])]) (l.length+2) [] s (by omega) hv rfl trivial (by simp) ?_ ?_
 .intro a s0 e0 i0 bs la _ R hR;have v0:bY l s0:=λ_=>i0;have htk:∀B,B=(mG aH l 0 s0||v&&eY l [118] s0)->eH G 59 [.bool B] l s0 (a4B l (λs=>mG aH l 0 s||v&&eY l [118] s) s0) (λt=>.d (.str t)):=λB hB=>by subst hB;exact dZ (by omega) _ s0 v0
  have htp:∀{a s1},a4B l (λs=>mG aH l 0 s||v&&eY l [118] s) s0=(a,s1)->uI l 1 s0 s1:=λ{a s1} h=>kP hV.fin (λhb=>by unfold mG eY at hb;simp only[g3C,g3q,g4e]at hb;omega) v0 h
  have hT:=λh:mG aH l 0 s0=true=>htk true (by simp[h]);have hF:=λ(h:mG aH l 0 s0=false) (h2:v=false)=>htk false (by simp[h,h2]);have hK:=λ(h:mG aH l 0 s0=false) (h2:v=true)=>htk (eY l [118] s0) (by simp[h,h2]);simp[e0];refine cH mN (rE hV s0 v0) (λb x hx=>?_);cases hx;cases v
  all_goals rcases g3O (mG aH l 0 s0)with hw|hw
  all_goals
   rw[hw];simp
  all_goals try
   (refine cH dA (eM (by omega) [118] s0 v0) (λc x hx=>?_)
    cases hx;simp)
  all_goals
   first
    |refine cH cI (hT hw) (λu1 s1 h1=>?_)
    |refine cH cI (hF hw rfl) (λu1 s1 h1=>?_)
    |refine cH cI (hK hw rfl) (λu1 s1 h1=>?_)
   have p1:=htp h1;have v1:=bY.next p1;simp;refine rfN [58] v1 hV.fin λu2 s2 h2 p2 v2=>?_;simp;refine rfL v2 (.mk func110 rfl) (b7X (by omega) s2 v2) (b8s hV.fin) λt s3 h3 p3 v3=>?_;simp;refine eF (by first|omega|(simp[dP];omega)|exact⟨λx hx=>by obtain⟨y,_,rfl⟩:=g3L.1 hx;first|rfl|(rw[dP];rfl),by omega⟩|exact⟨rfl,by omega⟩) ?_;simp;refine cH bS (cN (by omega) [44] s3 v3) (λbh sh hh=>?_);simp;refine hR _ (a++[(u1,t)]) s3 (by simp only[aQ,h1,h2,h3];rfl) (by rw[hh];simp[dP]) (λh=>?_) (by simp) trivial;have:=((p1.tr p2).tr p3) h;omega
 ·
  intro a s1 m hm qZ la hJ v1 hy R;have hm':m=false\/(m=true/\ ¬s1.er=0):=by
   cases m
   .exact .inl rfl
   .rcases hm with h|h
    .cases h
    .exact .inr ⟨rfl,h⟩
  have Q1:=Q0.eq hy;rcases hm' with rfl|⟨rfl,h⟩
  .simp;exact Q1.ok _ _ (.inr rfl) (by simp)
  .simp[h];exact Q1.ok _ _ (.inr rfl) (by simp)
theorem b5t(s:dB)(hv:bY l s):eH G 109 [] l s (xM aH l s) (λxs=>.d (.sl (xs.map dP))):=by
 have hl:=hV.len;refine eH.bO func109 rfl ntmps109 rfl ?_;intro Q Q0;unfold xM mH at Q0;simp;refine a1F hV.fin [44] (rnM l) (λa=>a.length) (λ_=>True) 4 (λa=>[(3,.d (.sl (a.map dP)))]) (λ_ s=>rfH l s) (λ_=>[(168,[.t 3])]) (l.length+2) [] s (by omega) hv rfl trivial (by simp) ?_ ?_
 .intro a s0 e0 i0 bs la _ R hR;have v0:bY l s0:=λ_=>i0;simp[e0];refine cH gQ (jN (by omega) s0 v0) (λb x hx=>?_);cases hx;simp;refine cH cI (dZ (by omega) (pS l s0) s0 v0) (λc s1 h1=>?_);have h1:dQ l s0=(c,s1):=h1;have p1:uI l 1 s0 s1:=kP hV.fin (λhb=>by unfold pS at hb;simp only[g4e]at hb;omega) v0 h1
  have v1:=bY.next p1;simp;refine rfL v1 gK (jJ (by omega) s1 v1) (gW hV.fin) λw s2 h2 p2 v2=>?_;simp;refine eF (by first|omega|(simp[dP];omega)|exact⟨λx hx=>by obtain⟨y,_,rfl⟩:=g3L.1 hx;first|rfl|(rw[dP];rfl),by omega⟩|exact⟨rfl,by omega⟩) ?_;simp;refine cH bS (cN (by omega) [44] s2 v2) (λbh sh hh=>?_);simp;refine hR _ (a++[(c,w)]) s2 (by simp only[aQ,h1,h2];rfl) (by rw[hh];simp[dP]) (λh=>?_) (by simp) trivial;have:=(p1.tr p2) h;omega
 ·
  intro a s1 m hm qZ la hJ v1 hy R;have hm':m=false\/(m=true/\ ¬s1.er=0):=by
   cases m
   .exact .inl rfl
   .rcases hm with h|h
    .cases h
    .exact .inr ⟨rfl,h⟩
  have Q1:=Q0.eq hy;rcases hm' with rfl|⟨rfl,h⟩
  .simp;exact Q1.ok _ _ (.inr rfl) (by simp)
  .simp[h];exact Q1.ok _ _ (.inr rfl) (by simp)
end
end
end Go.Proofs.YtmfbjecjccipfaaGreatDoor
