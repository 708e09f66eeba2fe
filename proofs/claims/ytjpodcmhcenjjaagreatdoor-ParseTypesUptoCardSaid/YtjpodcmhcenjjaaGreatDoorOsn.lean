/- Lemmas that the law of this claim needs (Pr Rw Rx VmRN PwO PwP PtJ PvA PvD PvE PuA PuE PuG PvC PuB PuH PuJ Fit PvH PwQ). No condition. -/
import Derived.Test.YtjpodcmhcenjjaaGreatDoorOsa
import Derived.Test.YtjpodcmhcenjjaaGreatDoorOsc
import Derived.Test.YtjpodcmhcenjjaaGreatDoorOsd
import Derived.Test.YtjpodcmhcenjjaaGreatDoorOse
import Derived.Test.YtjpodcmhcenjjaaGreatDoorOsg
import Derived.Test.YtjpodcmhcenjjaaGreatDoorOsh
import Derived.Test.YtjpodcmhcenjjaaGreatDoorOsj
import Derived.Test.YtjpodcmhcenjjaaGreatDoorOsk
import Derived.Test.YtjpodcmhcenjjaaGreatDoorOsl
import Derived.Test.YtjpodcmhcenjjaaGreatDoorOsm
import Derived.OrdersHeld
set_option linter.unusedVariables false
set_option linter.unusedSimpArgs false
set_option linter.unusedSectionVars false
set_option maxRecDepth 100000
set_option maxHeartbeats 64000000
open Go.Proofs.Tryz
namespace Go.Proofs.YtjpodcmhcenjjaaGreatDoor
section
open Go Go.VM
variable {G:GT}
theorem a3V:VM.Enters prog 256:=.mk func256 rfl
theorem a6b(op:Int):CS prog G 256 [.int .i64 op] (.d (.bool (vH op))) none:=by
 refine CS.aR func256 rfl ntmps256 rfl ?_;by_cases h3:op=3
 .simp[h3,vH]
 .by_cases h4:op=4
  .simp[h4,vH]
  .simp[h3,h4,vH]
def wR(op len:Int):Bool:= !(decide (len<oN op)||decide (tW op<len))
theorem vG:VM.Enters prog 257:=.mk func257 rfl
theorem c7r(op:Int)(len:Nat):CS prog G 257 [.int .i64 op,.int .i64 len] (.d (.bool (wR op len))) none:=by
 have one:∀k:Nat,(!(decide ((len:Int)<k)||decide ((k:Int)<len)))=decide (len=k):=λk=>by
  by_cases h:len=k
  .simp[h]
  .rcases Nat.lt_or_gt_of_ne h with h1|h1
   .have:(len:Int)<k:=by omega
    simp[h,this]
   .have:(k:Int)<len:=by omega
    simp[h,this]
 have z0:=one 0;have z1:=one 1;have z2:=one 2;refine CS.aR func257 rfl ntmps257 rfl ?_;by_cases h1:op=1
 .simp[wR,oN,tW,h1];simpa using z0.symm
 by_cases h2:op=2
 .simp[wR,oN,tW,h2];simpa using z0.symm
 by_cases h3:op=3
 .simp[wR,oN,tW,h3];simpa using z0.symm
 by_cases h45:op=4\/op=5
 .have e:wR op len=(decide (1<=len)&&decide (len<=24)):=by simp only[wR,oN,tW,h1,h2,h3,or_self,if_false,h45,if_true,Bool.not_or, <- decide_not];congr 1<;>(rw[decide_eq_decide];omega)
  rw[e];rcases h45 with h|h
  .by_cases c1:1<=len
   .simp[h,c1]
   .simp[h,c1]
  .by_cases c1:1<=len
   .simp[h,c1]
   .simp[h,c1]
 by_cases d5d:op=9\/op=14
 .have e:wR op len=decide (len=1):=by simp only[wR,oN,tW,h1,h2,h3,or_self,if_false,h45,d5d,if_true];exact z1
  rw[e];have h4: ¬op=4:=λe=>h45 (.inl e);have h5: ¬op=5:=λe=>h45 (.inr e);rcases d5d with h|h<;>simp[h]
 .have e:wR op len=decide (len=2):=by simp only[wR,oN,tW,h1,h2,h3,or_self,if_false,h45,d5d];exact z2
  rw[e];have h4: ¬op=4:=λe=>h45 (.inl e);have h5: ¬op=5:=λe=>h45 (.inr e);have h9: ¬op=9:=λe=>d5d (.inl e);have h14: ¬op=14:=λe=>d5d (.inr e);simp[h1,h2,h3,h4,h5,h9,h14]
def b7A(op:Int)(nm:Nm):Bool:= !(vH op&& !pW nm&& !yS op nm)
theorem rI:VM.Enters prog 259:=.mk func259 rfl
theorem c1s(p:Pr):CS prog G 259 [.agg (zP p)] (.d (.bool (b7A p.op p.name))) none:=by
 refine CS.aR func259 rfl ntmps259 rfl ?_;by_cases h3:p.op=3
 .by_cases hv:p.name=[118]
  .simp[h3,hv,b7A,vH,yS]
  .simp[h3,hv];refine aD.mk a6a (a8F p.name) ?_;cases hc:pW p.name<;>simp[eD,b7A,vH,yS,h3,hv,hc]
 by_cases h4:p.op=4
 .by_cases hv:p.name=[116,97,103]
  .simp[h4,hv,b7A,vH,yS]
  .by_cases hv2:p.name=[118,97,108]
   .simp[h4,hv2,b7A,vH,yS]
   .simp[h4,hv,hv2];refine aD.mk a6a (a8F p.name) ?_;cases hc:pW p.name<;>simp[eD,b7A,vH,yS,h4,hv,hv2,hc]
 by_cases h5:p.op=5
 .simp[h5];refine aD.mk a6a (a8F p.name) ?_;cases hc:pW p.name<;>simp[eD,b7A,vH,yS,h5,hc]
 .simp[h3,h4,h5,b7A,vH]
theorem c4Y:VM.Enters prog 244:=.mk func244 rfl
theorem c7s(p:Pr)(hlen:p.kids.length<=900000000):CS prog G 244 [.agg (zP p)] (.d (.int .i64 (a1U p))) none:=by
 obtain⟨op,nm,n,l⟩:=p;simp only at hlen;have c4Z:=c1s (G:=G) ⟨op,nm,n,l⟩;have hkd:=c7r (G:=G) op l.length;simp only at c4Z;have hm:a1U ⟨op,nm,n,l⟩=if op<1\/18<op then 1 else if a4D op nm n l.length then 1 else if tN op n then 2 else if vH op&& !pW nm&& !yS op nm then 3 else if op=8/\a9K l≠1 then 6 else 0:=rfl;have jI:a4D op nm n l.length=((!vH op&& !decide (nm=[]))||(!decide (op=1)&& !decide (op=2)&& !decide (n=0))|| !wR op l.length):=by simp only[a4D,wR,Bool.not_not,Bool.or_assoc]
 rw[jI]at hm;obtain⟨cb,hcb⟩:∃b,(vH op&& !pW nm&& !yS op nm)=b:=⟨_,rfl⟩;have oI:b7A op nm= !cb:=by rw[b7A,hcb]
 rw[oI]at c4Z;rw[hcb]at hm;refine CS.aR func244 rfl ntmps244 rfl ?_;by_cases a1:op<1
 .simp[a1]at hm;have o1: ¬op=1:=by omega
  have o2: ¬op=2:=by omega
  simp (maxSteps:=4000000) [o1,o2,a1,hm]
 by_cases a2:18<op
 .simp[a2]at hm;have o1: ¬op=1:=by omega
  have o2: ¬op=2:=by omega
  simp (maxSteps:=4000000) [o1,o2,a1,a2,hm]
 rw[if_neg (by omega)]at hm;by_cases o1:op=1
 .subst o1;have hn:vH 1=false:=rfl;rw[hn,Bool.false_and,Bool.false_and]at hcb;subst hcb;by_cases b1:nm=[];rotate_left
  .have b1':nm.isEmpty=false:=by cases nm<;>simp at b1|-
   simp[hn,b1]at hm;simp (maxSteps:=4000000) [b1,b1'];refine aD.mk a3V (a6b 1) ?_;simp (maxSteps:=4000000) [hn,hm]
  subst b1;by_cases c0:n=0
  .subst c0;simp (maxSteps:=4000000);refine aD.mk vG hkd ?_;cases hk:wR 1 l.length
   .simp[hn,hk]at hm;simp (maxSteps:=4000000) [hm]
   .simp[hn,hk,tN]at hm;have hi:inB 0=true:=rfl;simp (maxSteps:=4000000);refine aD.mk b8i (c2Z 0) ?_;simp[hi]at hm;simp (maxSteps:=4000000) [hi];refine aD.mk rI c4Z ?_;simp (maxSteps:=4000000) [hm]
  .simp (maxSteps:=4000000) [c0];refine aD.mk vG hkd ?_;cases hk:wR 1 l.length
   .simp[hn,hk]at hm;simp (maxSteps:=4000000) [hm]
   .simp[hn,hk,tN]at hm;simp (maxSteps:=4000000);refine aD.mk b8i (c2Z n) ?_;cases hi:inB n
    .simp[hi]at hm;simp (maxSteps:=4000000) [hm]
    .simp[hi]at hm;simp (maxSteps:=4000000);refine aD.mk rI c4Z ?_;simp (maxSteps:=4000000) [hm]
 by_cases o2:op=2
 .subst o2;have hn:vH 2=false:=rfl;rw[hn,Bool.false_and,Bool.false_and]at hcb;subst hcb;by_cases b1:nm=[];rotate_left
  .have b1':nm.isEmpty=false:=by cases nm<;>simp at b1|-
   simp[hn,b1]at hm;simp (maxSteps:=4000000) [b1,b1'];refine aD.mk a3V (a6b 2) ?_;simp (maxSteps:=4000000) [hn,hm]
  subst b1;by_cases c0:n=0
  .subst c0;simp (maxSteps:=4000000);refine aD.mk vG hkd ?_;cases hk:wR 2 l.length
   .simp[hn,hk]at hm;simp (maxSteps:=4000000) [hm]
   .simp[hn,hk,tN]at hm;simp (maxSteps:=4000000);refine aD.mk rI c4Z ?_;simp (maxSteps:=4000000) [hm]
  .simp (maxSteps:=4000000) [c0];refine aD.mk vG hkd ?_;cases hk:wR 2 l.length
   .simp[hn,hk]at hm;simp (maxSteps:=4000000) [hm]
   .simp[hn,hk,tN,c0]at hm;by_cases c1:n=1
    .subst c1;simp at hm;simp (maxSteps:=4000000);refine aD.mk rI c4Z ?_;simp (maxSteps:=4000000) [hm]
    .simp[c1]at hm;by_cases c2:n<0
     .simp (maxSteps:=4000000) [c2,hm]
     .have c3:1<n:=by omega
      simp (maxSteps:=4000000) [c2,c3,hm]
 by_cases b1:nm=[]
 .subst b1;by_cases c0:n=0;rotate_left
  .simp[o1,o2,c0]at hm;simp (maxSteps:=4000000) [a1,a2,o1,o2,c0,hm]
  subst c0;simp (maxSteps:=4000000) [a1,a2,o1,o2];refine aD.mk vG hkd ?_;cases hk:wR op l.length
  .simp[hk]at hm;simp (maxSteps:=4000000) [hm]
  .simp[o1,o2,hk,tN]at hm;simp (maxSteps:=4000000) [o1,o2];refine aD.mk rI c4Z ?_;cases cb
   .by_cases o8:op=8
    .subst o8
     match l,hk with
     |[],hk=>exact absurd hk (by decide)
     |k::r,hk=>
      by_cases e1:k.op=1
      .simp[a9K,e1]at hm;simp (maxSteps:=4000000) [e1,hm]
      .simp[a9K,e1]at hm;simp (maxSteps:=4000000) [e1,hm]
    .simp[o8]at hm;simp (maxSteps:=4000000) [o8,hm]
   .simp at hm;simp (maxSteps:=4000000) [hm]
 .have b1':nm.isEmpty=false:=by cases nm<;>simp at b1|-
  simp (maxSteps:=4000000) [a1,a2,o1,o2,b1,b1'];refine aD.mk a3V (a6b op) ?_;cases hn:vH op
  .simp[hn,b1]at hm;simp (maxSteps:=4000000) [hm]
  .by_cases c0:n=0;rotate_left
   .simp[hn,o1,o2,c0]at hm;simp (maxSteps:=4000000) [c0,hm]
   subst c0;simp (maxSteps:=4000000);refine aD.mk vG hkd ?_;cases hk:wR op l.length
   .simp[hk]at hm;simp (maxSteps:=4000000) [hm]
   .simp[hn,o1,o2,hk,tN]at hm;simp (maxSteps:=4000000) [o1,o2];refine aD.mk rI c4Z ?_;cases cb
    .by_cases o8:op=8
     .subst o8
      match l,hk with
      |[],hk=>exact absurd hk (by decide)
      |k::r,hk=>
       by_cases e1:k.op=1
       .simp[a9K,e1]at hm;simp (maxSteps:=4000000) [e1,hm]
       .simp[a9K,e1]at hm;simp (maxSteps:=4000000) [e1,hm]
     .simp[o8]at hm;simp (maxSteps:=4000000) [o8,hm]
    .simp at hm;simp (maxSteps:=4000000) [hm]
theorem b2v:VM.Enters prog 224:=.mk func224 rfl
theorem c7t:∀p:Pr,bH p<=900000000->CS prog G 224 [.agg (zP p)] (.d (.int .i64 (oE a1U (a1q p)))) none:=by
 refine Pr.ind λp ih=>?_;intro hN;have hnd:=c7s (G:=G) p (by have:=oO p;have:=gE p.kids;omega);have hpe:=a6y p;obtain⟨op,nm,n,l⟩:=p;simp only at ih hpe;have hn:=oO ⟨op,nm,n,l⟩;simp only at hn;have hl:=gE l;rw[hpe,oE];refine CS.aR func224 rfl ntmps224 rfl ?_;simp;refine aD.mk c4Y hnd ?_;by_cases h0:a1U ⟨op,nm,n,l⟩=0;rotate_left
 .simp[h0]
 simp[h0];refine SW.eE (ι:={i:Nat//i<=l.length/\oE a1U (oJ (l.take i))=0}) (λi=>[(15,.d (.int .i64 i.1))]) (λ_=>[(1,prO op nm n (.sl (l.map qH)))]) (λ_=>[]) (λi=>l.length-i.1) ⟨0,by simp[oJ,oE]⟩ (by simp) ?_;rintro⟨i,hi,hR⟩
 try simp only at hi hR
 by_cases aE:i<l.length
 .have hg:=vV aE;have hw:=aY (show i<9223372036854775807 by omega);have hb2:=qI aE;have hb3:=hU l (i+1);have ht:=b4Y aE;have hsp:=a5G l (i+1);simp[aE,hg];refine aD.mk b2v (ih l[i] (List.getElem_mem aE) (by omega)) ?_;by_cases hk:oE a1U (a1q l[i])=0
  .simp[hk];exact aX.mk ⟨i+1,aE,by rw[ht,a3U,if_pos hR,hk]⟩ (by simp[hw]) (by simp;omega)
  .have hf:oE a1U (oJ l)=oE a1U (a1q l[i]):=by rw[hsp,a3U,ht,a3U,if_pos hR,if_neg hk]
   simp[hk,hf]
 .have:i=l.length:=by omega
  subst this;rw[List.take_length]at hR;simp[hR]
theorem c1t:VM.Enters prog 201:=.mk func201 rfl
theorem c5a(p:Pr)(hN:bH p<=900000000):CS prog G 201 [.agg (zP p)] (.d (.int .i64 (a5J p))) none:=by
 refine CS.aR func201 rfl ntmps201 rfl ?_;simp;refine aD.mk a9j (c3g p hN) ?_;by_cases h1:400<bH p
 .simp[h1,a5J,b2J]
 simp[h1];refine aD.mk a9J (c3S p hN) ?_;by_cases h2:40<b2I p
 .simp[h1,h2,a5J,b2J]
 simp[h2];refine aD.mk b2v (c7t p hN) ?_;simp[h1,h2,a5J,b2J]
end
section
open Go Go.VM
variable {G:GT}
section
variable {l:List Tok} {f:Nat}
def b1k(rd:Nat->Nat->Option (Pr×Nat))(l:List Tok)(k:Nat):Nat->Pr->Nat->Pr×Nat
 |0,a,n=>(a,n)
 |g+1,a,n=>match opX l n k with
  |none=>(a,n)
  |some (op,ex)=>match rd (n+1) (if k=2 then 2 else k+1)with
   |none=>(a,n)
   |some (b,m)=>if k=6 then((if ex=true then tw op b a else tw op a b),m) else b1k rd l k g (if ex=true then tw op b a else tw op a b) m
theorem d5e{l:List Tok}{n k:Nat}{q:Int×Bool}(h:opX l n k=some q):n<l.length:=by
 unfold opX at h;split at h
 .exact b5t h
 split at h
 .split at h
  .rename_i hs;exact kB hs
  .cases h
 .rw[f7G]at h;obtain⟨op,h,_⟩:=h;exact(b0X h).1
theorem b9k(rd:Nat->Nat->Option (Pr×Nat))(l:List Tok){k:Nat}(h2:k≠2)(h6:k≠6):∀(g:Nat) (a:Pr) (n:Nat),b1k rd l k g a n=dL rd l k g a n
 |0,_,_=>rfl
 |g+1,a,n=>by
  rw[b1k,dL];have e:opX l n k=(a9R l n k).map λo=>(o,false):=by unfold opX;rw[if_neg h6,if_neg h2]
  rw[e];cases a9R l n k with
  |none=>rfl
  |some op=>
   simp only[Option.map_some,if_neg h2,if_neg h6,Bool.false_eq_true,if_false];cases rd (n+1) (k+1)with
   |none=>rfl
   |some q=>obtain⟨b,m⟩:=q;exact b9k rd l h2 h6 g _ m
theorem a6c{rd:Nat->Nat->Option (Pr×Nat)}{k n:Nat}(h:opX l n k=none)(g:Nat)(a:Pr):b1k rd l k g a n=(a,n):=by
 cases g with
 |zero=>rfl
 |succ g=>rw[b1k,h]
theorem e0g{i k:Nat}(h1:1<=k)(h9:k<=9)(h5:k=5->mF l i [33]=false)(hk9:k=9->mF l i [45]=false)(hi:i<=l.length)(hf:mu l.length i k<=f+1):
  eK aU l (f+1) i k=(eK aU l f i (k+1)).map λq=>b1k (eK aU l f) l k l.length q.1 q.2:=by
 have yW:∀k,k≠2->k≠6->(λq:Pr×Nat=>b1k (eK aU l f) l k l.length q.1 q.2)=λq=>dL (eK aU l f) l k l.length q.1 q.2:=λk h2 h6=>by funext q;exact b9k _ l h2 h6 _ _ _
 obtain rfl|rfl|rfl|rfl|rfl|rfl|rfl|rfl|rfl:k=1\/k=2\/k=3\/k=4\/k=5\/k=6\/k=7\/k=8\/k=9:=by omega
 .rw[yW 1 (by omega) (by omega)]
  rfl
 .have he:eK aU l (f+1) i 2=b0W (eK aU l f) l i:=rfl;obtain⟨o,ho⟩:∃o,eK aU l (f+1) i 2=o:=⟨_,rfl⟩;rw[ho];rw[he]at ho;unfold b0W at ho;cases hr:eK aU l f i 3 with
  |none=>rw[hr]at ho;exact ho.symm
  |some q=>
   obtain⟨a,n⟩:=q;have tD:=jN aU l f _ _ _ _ hr;rw[hr]at ho;simp only at ho;rw[Option.map_some];simp only;obtain⟨g,hg⟩:∃g,l.length=g+1:=⟨l.length-1,by omega⟩;cases hs:mF l n [61,62]with
   |false=>rw[if_neg (by simp[hs])]at ho;rw[a6c (by unfold opX;simp[hs]), <- ho]
   |true=>
    rw[if_pos hs]at ho;have hx:opX l n 2=some (17,false):=by unfold opX;simp[hs]
    rw[hg,b1k,hx];simp only[if_true];cases zC:eK aU l f (n+1) 2 with
    |none=>rw[zC]at ho;exact ho.symm
    |some z=>
     obtain⟨b,m⟩:=z;have b2m:=jN aU l f _ _ _ _ zC;rw[zC]at ho;simp only at ho;simp only[Bool.false_eq_true,if_false];rw[if_neg (by omega)];have e9m:eK aU l (f+1) i 2=some (tw 17 a b,m):=by rw[he];unfold b0W;rw[hr];simp only;rw[if_pos hs,zC]
     cases hs2:mF l m [61,62]with
     |false=>rw[a6c (by unfold opX;simp[hs2]), <- ho]
     |true=>
      have hml:=kB hs2;have a1p:=c8w aU l (f+1) f i _ m hi hf e9m hs2 (by have:=sA (L:=l.length) (i:=i) (i':=m+1) (k:=2) (k':=2) (by omega) hml (by omega) (by omega);omega)
      cases g with
      |zero=>exact ho.symm
      |succ g=>
       have wN:opX l m 2=some (17,false):=by unfold opX;simp[hs2]
       rw[b1k,wN];simp only[if_true];rw[a1p, <- ho]
 .rw[yW 3 (by omega) (by omega)]
  rfl
 .rw[yW 4 (by omega) (by omega)]
  rfl
 .have he:eK aU l (f+1) i 5=eK aU l f i 6:=by
   show(if mF l i [33]=true then _ else eK aU l f i 6)=_
   rw[if_neg (by simp[h5 rfl])]
  rw[he];cases eK aU l f i 6 with
  |none=>rfl
  |some q=>rw[Option.map_some,a6c (by rfl)]
 .have he:eK aU l (f+1) i 6=a7X (eK aU l f) l i:=rfl;rw[he];unfold a7X;cases hr:eK aU l f i 7 with
  |none=>rfl
  |some q=>
   obtain⟨a,n⟩:=q;have tD:=jN aU l f _ _ _ _ hr;obtain⟨g,hg⟩:∃g,l.length=g+1:=⟨l.length-1,by omega⟩;have hx:opX l n 6=a1a l n:=rfl;simp only[Option.map_some];rw[hg,b1k,hx];cases a1a l n with
   |none=>rfl
   |some c=>
    obtain⟨op,ex⟩:=c;simp only[show ¬(6:Nat)=2 by omega,if_false];cases eK aU l f (n+1) 7 with
    |none=>rfl
    |some z=>rfl
 .rw[yW 7 (by omega) (by omega)]
  rfl
 .rw[yW 8 (by omega) (by omega)]
  rfl
 .have he:eK aU l (f+1) i 9=eK aU l f i 10:=by
   show(if mF l i [45]=true then _ else eK aU l f i 10)=_
   rw[if_neg (by simp[hk9 rfl])]
  rw[he];cases eK aU l f i 10 with
  |none=>rfl
  |some q=>rw[Option.map_some,a6c (by rfl)]
def d5f(l:List Tok)(i k:Nat):St:=⟨([.d (tkD l),.d (.int .i64 i),.d (.int .i64 k),.undef,.undef,.undef,.ptr 6 0,.d (.int .i64 0),.d (.bool false)]:List DV)++List.replicate 105 .undef,[(6,.cells [.d (.int .i64 0),.d (.str []),.d (.int .i64 0),.d .aF])],[]⟩
theorem c7u(hl:xP l)(hA:d1b G l f):d1b G l (f+1):=by
 have hll:=hl.1;intro i k h1 h10 hi hf;by_cases k10:k=10
 .subst k10;have hat:=c7m (G:=G) hl hA i hi hf;have he:eK aU l (f+1) i 10=wE aU (eK aU l f) l i:=rfl;rw[he];refine CS.aR func200 rfl ntmps200 rfl ?_;simp;refine aD.mk (hkl:=kG _ _) c4Q hat ?_;cases wE aU (eK aU l f) l i with
  |none=>simp[qX]
  |some q=>obtain⟨p,n⟩:=q;simp[qX]
 by_cases f5:k=5/\mF l i [33]=true
 .obtain⟨rfl,hs⟩:=f5;have tY:=kB hs;have hsg:=pS (G:=G) l i [33] (by omega);rw[hs]at hsg;have hfr:=b2t (G:=G) hl hA i 5 14 (by omega) tY (by have:=sA (L:=l.length) (i:=i) (i':=i+1) (k:=5) (k':=5) (by omega) tY (by omega) (by omega);omega)
  have he:eK aU l (f+1) i 5=(eK aU l f (i+1) 5).map λq=>((⟨14,[],0,[q.1]⟩:Pr),q.2):=by
   show(if mF l i [33]=true then _ else _)=_
   rw[if_pos hs]
  rw[he];refine CS.aR func200 rfl ntmps200 rfl ?_;simp;refine aD.mk dT hsg ?_;simp;refine aD.mk (hkl:=kG _ _) b0l hfr ?_;cases (eK aU l f (i+1) 5).map λq=>((⟨14,[],0,[q.1]⟩:Pr),q.2)with
  |none=>simp[qX]
  |some q=>obtain⟨p,n⟩:=q;simp[qX]
 by_cases f9:k=9/\mF l i [45]=true
 .obtain⟨rfl,hs⟩:=f9;have tY:=kB hs;have hsg:=pS (G:=G) l i [45] (by omega);rw[hs]at hsg;have hfr:=b2t (G:=G) hl hA i 9 9 (by omega) tY (by have:=sA (L:=l.length) (i:=i) (i':=i+1) (k:=9) (k':=9) (by omega) tY (by omega) (by omega);omega)
  have he:eK aU l (f+1) i 9=(eK aU l f (i+1) 9).map λq=>((⟨9,[],0,[q.1]⟩:Pr),q.2):=by
   show(if mF l i [45]=true then _ else _)=_
   rw[if_pos hs]
  rw[he];refine CS.aR func200 rfl ntmps200 rfl ?_;simp;refine aD.mk dT hsg ?_;simp;refine aD.mk (hkl:=kG _ _) b0l hfr ?_;cases (eK aU l f (i+1) 9).map λq=>((⟨9,[],0,[q.1]⟩:Pr),q.2)with
  |none=>simp[qX]
  |some q=>obtain⟨p,n⟩:=q;simp[qX]
 have q5:k=5->mF l i [33]=false:=λe=>by
  cases hs:mF l i [33]with
  |false=>rfl
  |true=>exact absurd ⟨e,hs⟩ f5
 have q9:k=9->mF l i [45]=false:=λe=>by
  cases hs:mF l i [45]with
  |false=>rfl
  |true=>exact absurd ⟨e,hs⟩ f9
 obtain⟨o,ho⟩:∃o,eK aU l (f+1) i k=o:=⟨_,rfl⟩;have rT:=e0g (f:=f) h1 (by omega) q5 q9 hi hf;rw[ho]at rT|-;have f2U: ¬(k:Int)=10:=by omega
 have hk1:=aY (show k<9223372036854775807 by omega);have hat:=hA i (k+1) (by omega) (by omega) hi (by have:=b5w (L:=l.length) (i:=i) (show k<k+1 by omega) (by omega);omega)
 refine CS.a5p func200 rfl ntmps200 rfl ?_;refine SW.jZ (SW.vk ?_);simp;refine kC (d5f l i k) (SW.vk ?_) ?_
 .by_cases k5:k=5
  .have hsg:=pS (G:=G) l i [33] (by omega);rw[q5 k5]at hsg;subst k5;simp;refine aD.mk dT hsg ?_;simp[d5f,List.replicate]
  by_cases k9:k=9
  .have hsg:=pS (G:=G) l i [45] (by omega);rw[q9 k9]at hsg;subst k9;simp;refine aD.mk dT hsg ?_;simp[d5f,List.replicate]
  have k5': ¬(k:Int)=5:=by omega
  have k9': ¬(k:Int)=9:=by omega
  simp[f2U,k5',k9',d5f,List.replicate]
 refine SW.vk ?_;simp[d5f,List.replicate,hk1];refine aD.mk (hkl:=kG _ _) sU hat ?_;cases hr:eK aU l f i (k+1)with
 |none=>rw[hr]at rT;subst rT;simp[qX]
 |some q=>
  obtain⟨a,n⟩:=q;have tD:=jN aU l f _ _ _ _ hr;rw[hr,Option.map_some]at rT;obtain⟨⟨rp,rn⟩,hZ⟩:∃r,b1k (eK aU l f) l k l.length a n=r:=⟨_,rfl⟩;simp only at rT;rw[hZ]at rT;subst rT;simp[qX];refine SW.eE (ι:={p:Pr×Nat//p.2<=l.length/\i<p.2/\∃g,l.length<=g+p.2/\b1k (eK aU l f) l k g p.1 p.2=(rp,rn)}) (λp=>[(10,.d (.int .i64 p.1.2))]) (λp=>[(6,.cells [.d (.int .i64 0),.d (.str []),.d (.int .i64 0),.d .aF]),(9,.cells ((zP p.1.1).map .d))]) (λ_=>[]) (λp=>l.length-p.1.2) ⟨(a,n),tD.2,tD.1,l.length,by omega,hZ⟩ (by simp) ?_;rintro⟨⟨a,n⟩,hn,vI,g,hg,hR⟩;simp only at hn vI hg hR;have tO:=b6n (G:=G) l n k (by omega) (by omega);have hn1:=aY (show n<9223372036854775807 by omega);simp;refine aD.mk (hkl:=c1l _) b2W tO ?_;cases hx:opX l n k with
  |none=>rw[a6c hx]at hR;cases hR;simp[a2S]
  |some c=>
   obtain⟨op,ex⟩:=c;have hnl:=d5e hx;obtain⟨g,rfl⟩:∃h,g=h+1:=⟨g-1,by omega⟩;rw[b1k,hx]at hR;simp only at hR;simp[a2S];by_cases h2:k=2
   .rw[if_pos h2]at hR;have h26: ¬k=6:=by omega
    simp only[if_neg h26]at hR;subst h2;have c0O:=hA (n+1) 2 (by omega) (by omega) hnl (by have:=sA (L:=l.length) (i:=i) (i':=n+1) (k:=2) (k':=2) (by omega) hnl (by omega) (by omega);omega)
    simp[hn1,hk1];refine aD.mk (hkl:=kG _ _) sU c0O ?_;cases zC:eK aU l f (n+1) 2 with
    |none=>rw[zC]at hR;cases hR;simp[qX]
    |some z=>
     obtain⟨b,m⟩:=z;have b2m:=jN aU l f _ _ _ _ zC;rw[zC]at hR;simp only at hR;simp[qX];cases ex with
     |true=>simp[rg2];exact aX.mk ⟨(tw op b a,m),b2m.2,by simp only;omega,g,by simp only;omega,by simpa using hR⟩ (by simp[tw,cN]) (by simp;omega)
     |false=>simp[rg2];exact aX.mk ⟨(tw op a b,m),b2m.2,by simp only;omega,g,by simp only;omega,by simpa using hR⟩ (by simp[tw,cN]) (by simp;omega)
   .rw[if_neg h2]at hR;have h2': ¬(k:Int)=2:=by omega
    have c0O:=hA (n+1) (k+1) (by omega) (by omega) hnl (by have:=sA (L:=l.length) (i:=i) (i':=n+1) (k:=k) (k':=k+1) (by omega) hnl (by omega) (by omega);omega)
    simp[hn1,hk1,h2,h2'];refine aD.mk (hkl:=kG _ _) sU c0O ?_;cases zC:eK aU l f (n+1) (k+1)with
    |none=>rw[zC]at hR;cases hR;simp[qX]
    |some z=>
     obtain⟨b,m⟩:=z;have b2m:=jN aU l f _ _ _ _ zC;rw[zC]at hR;simp only at hR;simp[qX];by_cases h6:k=6
     .rw[if_pos h6]at hR;cases hR;have h6':(k:Int)=6:=by omega
      cases ex with
      |true=>simp[rg2,h6,h6',tw,cN]
      |false=>simp[rg2,h6,h6',tw,cN]
     .rw[if_neg h6]at hR;have h6': ¬(k:Int)=6:=by omega
      cases ex with
      |true=>simp[rg2,h6,h6'];exact aX.mk ⟨(tw op b a,m),b2m.2,by simp only;omega,g,by simp only;omega,by simpa using hR⟩ (by simp[tw,cN]) (by simp;omega)
      |false=>simp[rg2,h6,h6'];exact aX.mk ⟨(tw op a b,m),b2m.2,by simp only;omega,g,by simp only;omega,by simpa using hR⟩ (by simp[tw,cN]) (by simp;omega)
theorem b9l(hl:xP l):∀f,d1b G l f
 |0=>λi k _ h10 _ h=>by unfold mu at h;omega
 |f+1=>c7u hl (b9l hl f)
theorem d5g(hl:xP l):CS prog G 200 [tkD l,.int .i64 0,.int .i64 1] (qX (a4n l) 0) none:=b9l hl _ 0 1 (by omega) (by omega) (by omega) (f7X _)
end
end
section
open Go Go.VM
variable {G:GT}
theorem c5b:VM.Enters prog 187:=.mk func187 rfl
theorem c7v(l:List Tok)(hl:xP l)(hn:∀p n,a4n l=some (p,n)->bH p<=1000000):CS prog G 187 [.sl (l.map bG)] (b2n l) none:=by
 have hat:=d5g (G:=G) hl;obtain⟨o,ho⟩:∃o,a4n l=o:=⟨_,rfl⟩;rw[ho]at hat hn;unfold b2n;rw[ho];refine CS.aR func187 rfl ntmps187 rfl ?_;simp;refine aD.mk (hkl:=kG _ _) sU hat ?_;cases o with
 |none=>simp[qX]
 |some q=>
  obtain⟨p,n⟩:=q;have hck:=c5a (G:=G) p (by have:=hn p n rfl;omega);simp[qX];refine aD.mk c1t hck ?_;by_cases h0:a5J p=0
  .simp[h0]
  .simp[h0]
end
end Go.Proofs.YtjpodcmhcenjjaaGreatDoor
section
namespace Go.VM
open Go Go.RowKit
def b6t(k:Nat):DV->Bool
 | .d _=>true
 | .undef=>true
 | .bY _=>true
 | .oY=>true
 | .ptr k' _=>decide (k'≠k)
 |_=>false
def a8G:aW->Bool
 | .cells cs=>cs.all λc=>match c with
  | .d _=>true
  |_=>false
 |_=>false
section
variable {P:Program} {G:GT} {st:St}
theorem TV.other{R:Nat->Nat->Prop}{μ μ':Nat->Nat}{w:World}{v:Value}{d:DV}{k:Nat}(h:TV R μ w v d)(hk:b6t k d=true)(hμ:∀j,j≠k->μ' j=μ j):TV R μ' w v d:=by
 cases h with
 |d v x h=>exact .d _ _ h
 |undef v=>exact .undef _
 |ptr j off=>simp only[b6t,decide_eq_true_eq]at hk;rw[<-hμ j hk];exact .ptr j off
 |bY vs ds h1 h2=>exact .bY vs ds h1 h2
 |oY b=>exact .oY b
 |_=>cases hk
theorem eN.other{R:Nat->Nat->Prop}{μ μ':Nat->Nat}{w:World}{b:Nat}{o:aW}(h:eN R μ w b o)(ho:a8G o=true):eN R μ' w b o:=by
 cases o with
 |cells cs=>
  obtain⟨vs,T,h1,h2,h3,h4⟩:=h;refine⟨vs,T,h1,h2,λi d hd=>⟨(h3 i d hd).1,?_⟩,h4⟩;have hp:=f7K.1 ho d (f7M hd);have ht:=(h3 i d hd).2;generalize vs.getD i undef=u at ht|-;cases d with
  |d x=>cases ht with|d v x h=>exact .d _ _ h
  |_=>cases hp
 |_=>cases ho
theorem mA.e5D{f:FuncId}{ds:List D}{kc:Nat}{o:aW}(yW:CH P G f ⟨ds.map .d,[],[]⟩ ⟨[.ptr kc 0],[(kc,o)],[]⟩)(k:Nat){f7F:List DV}{ls:List (Option Loc)}{t:Tmp}(jI:WkT f7F (ds.map .d))(kJ:st.own=[])(hk:k<100000)(yK:getKey k st.H=none)(ho:a8G o=true)(hT:st.tmps.all (b6t k)=true)(hO:st.H.all (λp=>a8G p.2)=true):
  mA P G f f7F ls st (some t) ⟨st.tmps.set t (.ptr k 0),(k,o)::st.H,[]⟩:=by
 intro base R μ a w args hr hl hv a6J
 let jP:cT:=⟨λb=>w.heap.size<=b,μ⟩
 have sub:∀b,jP b->base b:=λb hb=>hr.base b hb;have a0N:Rel P G jP R μ ⟨ds.map .d,[],[]⟩ {tmps:=args,defers:=[]} w:=by
  obtain⟨g1,g2⟩:=yL jI;refine⟨rfl,by show args.size=(ds.map DV.d).length;omega,λi v d hiv hid=>?_,λk o hk=>(by cases hk),λk k' o o' hk=>(by cases hk),λc hc=>(by cases hc),⟨[],rfl,λi c v h _=>by simp at h,.nil⟩,hr.tQ.up sub,hr.pH,λb hb=>hb,λk hk=>rfl⟩;obtain⟨d0,hd0,b4h⟩:=g2 i d hid;have hva:=hv i d0 hd0;have hav:args.getD i undef=v:=by simp only at hiv;simp[f7J,hiv]
  rw[hav]at hva;rcases b4h with hc|hc|⟨hc1,hc2⟩
  .rw[hc];exact .undef _
  .rw[hc];exact hva
  .rw[hc2];rw[hc1]at hva;obtain⟨ao,rfl⟩:=hva.a7B.jQ;exact .d _ _ (.emp _ _)
 refine(yW jP R μ args w a0N).mono λe w' hh=>?_;obtain⟨v,R',μ',he,eM,hs⟩:=hh;obtain⟨μ2,hμk,hμ⟩:∃μ2:Nat->Nat,μ2 k=μ' kc/\∀j,j≠k->μ2 j=μ j:=⟨λj=>if j=k then μ' kc else μ j,by simp,λj hj=>by simp[hj]⟩;refine⟨v,R',μ2,he,?_,⟨hs.below.mono sub,hs.mono,λb o h1 h2=>sub b (hs.new b o h1 h2),hs.cells⟩⟩;have hsb:Step base R w R' w':=⟨hs.below.mono sub,hs.mono,λb o h1 h2=>sub b (hs.new b o h1 h2),hs.cells⟩;have kept:∀b, ¬jP b->w'.heap[b]? =w.heap[b]? /\∀off,R' b off->R b off:=λb hb=>⟨hs.below.block b hb,λoff h=>by
  by_cases hx:R b off
  .exact hx
  .exact absurd (hs.new b off h hx) hb⟩
 obtain⟨n1,n2,n3⟩:=eM.gY kc o (by simp[getKey]);have old:∀j o',getKey j st.H=some o'-> ¬jP (μ j):=λj o' hj hb=>by have:=(hr.gY j o' hj).2.2.lt;exact absurd hb (Nat.not_le.2 this)
 have hZ:TV R' μ' w' v (.ptr kc 0):=eM.tmps 0 v _ rfl rfl;refine⟨hr.defers,by simp[Act.put,hr.size],λi u d hu hd=>?_,λj o' hj=>?_,λj j' o1 o2 hj hj' he'=>?_,(λc hc=>by cases hc),⟨[],rfl,λi c v h _=>by simp at h,.nil⟩,hr.tQ.bI hsb,eM.pH,λb hb=>hr.base b (Nat.le_trans hs.below.size hb),λj hj=>?_⟩
 .simp only[Act.put]at hu hd;by_cases hti:t=i
  .subst hti;have h1:t<st.tmps.length:=by
    by_cases aE:t<st.tmps.length
    .exact aE
    .have sG:(st.tmps.set t (.ptr k 0))[t]? =none:=List.getElem?_eq_none (by rw[List.length_set];exact Nat.le_of_not_lt aE);rw[sG]at hd;cases hd
   have h2:t<a.tmps.size:=by rw[hr.size];exact h1
   simp[h1]at hd;simp[h2]at hu;subst hu hd;cases hZ with
   |ptr _ _=>
    have:TV R' μ2 w' (.pointer (some ⟨μ2 k,0,none⟩)) (.ptr k 0):=.ptr k 0
    rwa[hμk]at this
  .rw[Array.getElem?_setIfInBounds_ne hti]at hu;rw[List.getElem?_set_ne hti]at hd;exact((hr.tmps i u d hu hd).bI hsb).other (f7K.1 hT d (f7M hd)) hμ
 .by_cases hjk:j=k
  .subst hjk;simp only[getKey,if_true,f7N]at hj;subst hj;rw[hμk];exact⟨sub _ n1,n2,n3.other ho⟩
  .have hj:getKey j st.H=some o':=by
    unfold getKey at hj
    rwa[if_neg (λh:k=j=>hjk h.symm)]at hj
   obtain⟨p1,p2,p3⟩:=hr.gY j o' hj;obtain⟨e1,e2⟩:=kept _ (old j o' hj);rw[hμ j hjk];exact⟨p1,λoff h=>p2 off (e2 off h),(p3.bI hsb e1).other (f7K.1 hO (j,o') (gN hj))⟩
 .have main:∀j o',j≠k->getKey j ((k,o)::st.H)=some o'->getKey j st.H=some o':=λj o' hjk hj=>by
   unfold getKey at hj
   rwa[if_neg (λh:k=j=>hjk h.symm)]at hj
  by_cases h1:j=k
  .by_cases h2:j'=k
   .rw[h1,h2]
   .rw[h1,hμk,hμ j' h2]at he';exact absurd (he'▸n1) (old j' o2 (main j' o2 h2 hj'))
  .by_cases h2:j'=k
   .rw[h2,hμk,hμ j h1]at he';exact absurd (he'▸n1) (old j o1 (main j o1 h1 hj))
   .rw[hμ j h1,hμ j' h2]at he';exact hr.inj j j' o1 o2 (main j o1 h1 hj) (main j' o2 h2 hj') he'
 .rw[hμ j (by omega)];exact hr.pass j hj
theorem mQ.new{f:FuncId}{ds:List D}{kc:Nat}{o:aW}(he:Enters P f)(yW:CH P G f ⟨ds.map .d,[],[]⟩ ⟨[.ptr kc 0],[(kc,o)],[]⟩)(k:Nat){f7F:List D}{ls:List (Option Loc)}{t:Tmp}{all:Array Oper}{rest:List Oper}{X:List XI}{Q:Exit->St->Prop}(jI:WkT (f7F.map .d) (ds.map .d))(kJ:st.own=[])(hk:k<100000)(yK:getKey k st.H=none)(ho:a8G o=true)(hT:st.tmps.all (b6t k)=true)(hO:st.H.all (λp=>a8G p.2)=true)(h:XK P G (.ops all rest::X) .normal ⟨st.tmps.set t (.ptr k 0),(k,o)::st.H,[]⟩ Q):mQ P G f f7F ls (some t) all rest X st Q:=by unfold mQ;exact .inr ⟨_,⟨he,mA.e5D yW k jI kJ hk yK ho hT hO⟩,h⟩
end
end Go.VM
end
namespace Go.Proofs.YtjpodcmhcenjjaaGreatDoor
section
open Go Go.VM
variable {G:GT}
theorem c7w:VM.Enters prog 55:=.mk func55 rfl
theorem c1u{l:List Tok}(mP:xP l)(s:jK)(e:Nat)(hv:pU l s)(hse:s.er=0->s.pl<=e)(he:e<=l.length):qV G 157 [.int .i64 e] l s (qU rdQ l e s) c9U:=by
 have hl:=mP.1;by_cases h0:s.er=0;rotate_left
 .obtain⟨i,er,ln⟩:=s;refine qV.bS func157 rfl ntmps157 rfl ?_;intro Q Q0;unfold qU at Q0;have Q0:=Q0.wP h0;simp[h0];exact Q0.ok _ _ (.inr rfl) (by simp[eA])
 have hpk:qV G 45 [.int .i64 0] l s _ _:=qK hl 0 s hv (by omega);obtain⟨i,er,ln⟩:=s;simp only at h0;subst h0;have hi:i<l.length:=hv rfl;have hke:i<=e:=hse rfl;obtain⟨L,hL⟩:∃L,(l.take e).drop i=L:=⟨_,rfl⟩;have d4U:xP L:=by rw[<-hL];exact c4M mP e i
 have hrd:=c7v (G:=G) L d4U (λp n h=>Nat.le_trans (b1b h) (by have:=d4U.1;omega));have hLm:((l.map bG).take e).drop i=L.map bG:=by rw[<-hL,List.map_drop,List.map_take]
 rw[<-hLm]at hrd;refine qV.a1I func157 rfl ntmps157 rfl ?_;intro Q Q0;unfold qU rdQ at Q0;have Q0:=Q0.ifp rfl;simp only[show min i e=i by omega,hL]at Q0;rw[a3H hi]at hpk;refine SW.jZ (SW.xk ?_);simp;refine SW.jZ (SW.xk ?_);simp;refine SW.jZ (SW.vk ?_);simp[hke,he,a2P];refine⟨kL.mk (by kernel_rfl),?_⟩;refine aD.mk (hkl:=a7p L) c5b hrd ?_;unfold b2n;cases hR:a4n L with
 |none=>simp only[hR]at Q0;simp;refine SW.xk ?_;simp;refine uC mS hpk (λT s1 h1=>?_);cases h1;generalize aK l i=T at Q0|-;obtain⟨a,b,c,d⟩:=T;simp[bG];exact Q0.ok _ _ (.inr rfl) (by simp[eA])
 |some q=>
  obtain⟨p,n⟩:=q;have hn:=a2O hR;have hLl:L.length<=e-i:=by rw[<-hL];simp;omega
  simp only[hR]at Q0;by_cases hc:a5J p=0
  .simp only[if_pos hc]at Q0;have hw:IntKind.i64.wrap ((i:Int)+(n:Int))=((i+n:Nat):Int):=by rw[wrap64 (by omega)];omega
   simp only[if_pos hc];simp;refine SW.xk ?_;simp[hw];exact Q0.ok _ _ (.inr rfl) (by simp)
  .simp only[if_neg hc]at Q0;simp only[if_neg hc];simp;refine SW.xk ?_;simp[hc];refine uC mS hpk (λT s1 h1=>?_);cases h1;generalize aK l i=T at Q0|-;obtain⟨a,b,c,d⟩:=T;simp[bG];exact Q0.ok _ _ (.inr rfl) (by simp[eA])
theorem d1d{s:List UInt8}{l:List Tok}(h:kE gB s 0 1 false=.ok l)(hs:s.length<=19000):a1V G rdQ l:=by
 have mP:=(c4s h (by omega)).1;have hO:=zY s 0 1 false l h;have hE:=b3p hO;have hlen:l.length<=20000:=by have:=(uQ gB s 0 1 false l h).2.1;omega
 have hW:WfD l:=λi t ht hk=>((c8B hO) t (f7M ht)).2 hk;have yO:jJ l:=by
  have a0E:0<l.length:=List.length_pos_iff.2 hE.1;have aE:l.length-1<l.length:=by omega
  refine⟨hE.1,hE.2 _ ?_⟩;unfold aK;rw[if_pos aE,List.getD_eq_getElem?_getD,f7L aE]
  rfl
 have tD:vY rdQ l:=λe i p j hi hx=>c1h hE.2 e i p j hi hx;refine⟨hlen,yO,λi=>((c8B hO) _ (c4O hE.1 i)).1,tD,λi e n x hi hx=>b6l l i e n x hi hx,λi p k hi hx hs=>?_,λi e p j hx=>?_,λs e hv hse he=>c1u mP s e hv hse he⟩
 .exact d9N hW i p k hi hx (tD _ _ _ _ hi hx).2 hs
 .unfold rdQ at hx;split at hx
  .cases hx
  .rename_i q n hr;split at hx
   .cases hx;have h1:=b1b hr;simp only[List.length_drop,List.length_take]at h1;omega
   .cases hx
theorem d1e{l:List Tok}(hl:l.length<=50000)(s:jK)(hv:pU l s):qV G 55 [] l s (a9F l s) (λ_=>.bY []):=by
 have hp:qV G 45 [.int .i64 0] l s _ _:=qK hl 0 s hv (by omega);have hf:=a3F (G:=G) hl s hv;unfold a9F;obtain⟨i,e,ln⟩:=s;refine qV.bS func55 rfl ntmps55 rfl ?_;intro Q Q0;by_cases he:e=0
 .subst he;simp;refine uC mS hp (λT s1 h1=>?_);cases h1;by_cases hk:(mL l 0 ⟨i,0,ln⟩).kind=0
  .have Q0:=Q0.eq (congrArg (Prod.mk ()) (if_neg (λh=>h.2 hk)));generalize mL l 0 ⟨i,0,ln⟩=T at Q0 hk|-;obtain⟨a,x,c,d⟩:=T;simp only at hk;simp[bG,hk];exact Q0.ok _ _ (.inl rfl) (by simp)
  .have Q0:=Q0.eq (congrArg (Prod.mk ()) (if_pos ⟨rfl,hk⟩));generalize mL l 0 ⟨i,0,ln⟩=T at hk|-;obtain⟨a,x,c,d⟩:=T;simp only at hk;simp[bG,hk];refine uC yQ hf (λu s1 h1=>?_);cases h1;simp;exact Q0.ok _ _ (.inl rfl) (by simp)
 .have Q0:=Q0.eq (congrArg (Prod.mk ()) (if_neg (λh=>he h.1)));simp[he];exact Q0.ok _ _ (.inl rfl) (by simp)
def pF(s:List UInt8):List Tok×jK:=if 40000<s.length then([],⟨0,7,0⟩) else match kE gB s 0 1 false with
 | .error n=>([],⟨0,14,n⟩)
 | .ok l=>(l,⟨0,0,0⟩)
theorem b7B:VM.Enters prog 44:=.mk func44 rfl
theorem c1v(s:List UInt8)(hs:s.length<=900000000):CH prog G 44 ⟨[D.str s].map .d,[],[]⟩ ⟨[.ptr 16 0],[(16,rfO (pF s).1 (pF s).2)],[]⟩:=by
 have hlx:=c1q (G:=G) s hs;unfold pF;by_cases b2a:40000<s.length
 .rw[if_pos b2a]at hlx|-;refine CH.aR func44 rfl ntmps44 rfl (by simp) ?_;simp;refine aD.mk a2p hlx ?_;simp
 rw[if_neg b2a]at hlx|-;cases hx:kE gB s 0 1 false with
 |error e=>rw[hx]at hlx;simp only[c3L,c3M,c3N]at hlx;refine CH.aR func44 rfl ntmps44 rfl (by simp) ?_;simp;refine aD.mk a2p hlx ?_;simp
 |ok l=>rw[hx]at hlx;simp only[c3L,c3M,c3N,b2H]at hlx;refine CH.aR func44 rfl ntmps44 rfl (by simp) ?_;simp;refine aD.mk a2p hlx ?_;simp
end
section
open Go Go.VM
variable {G:GT}
section
variable {β:Type} {Q:Exit->St->Prop} {l:List Tok} {s:jK} {enc:β->DV}
theorem f2W(k:Nat){f:FuncId}{ds:List D}{av:List DV}{y:β×jK}{st:St}{ls:List (Option VM.Loc)}{dst:Option Tmp}{KK:St->Prop}(he:VM.Enters prog f)(hc:qV G f ds l s y enc)(mP:∀a s1,y=(a,s1)->KK ⟨gV dst (enc a) st.tmps,bP k (rfO l s1) st.H,eT dst (dropKey k st.own)⟩)(hk:∀a,aT [(100000,k)] (enc a)=true/\bA [(100000,k)] (enc a)=enc a:=by intro a;exact⟨rfl,rfl⟩)(hw:WkT av (.ptr k 0::ds.map .d):=by simp)(hH:getKey k st.H=some (rfO l s):=by simp):sN prog G f av ls dst st KK Q true:=by
 refine sN.mk (x:=.inl (enc y.1,rfH l y.2,[])) he hc [(100000,k)] (λd H1 dM hx=>?_) (λv hx=>by cases hx) ?_ ?_ rfl rfl (λd H1 dM hx=>?_) (λv hx=>by cases hx) (rest:=st.own)
 .cases hx;simp[aJ,aT,aN,aM,dY,bC,getKey,(hk y.1).1]
 .simpa[aQ,bA,rk,jC]using hw
 .simp only[cH,rfO,List.map_cons,List.map_nil,rk,if_true,cP,aQ,bA,WkH,and_true];exact⟨_,hH,by simp[WkO]⟩
 .cases hx;have:=mP y.1 y.2 rfl;simpa[bD,bM,cP,aQ,bA,rk,dJ,(hk y.1).2]using this
theorem e9o(k:Nat){f:FuncId}{ds:List D}{av:List DV}{y:β×jK}{st:St}{ls:List (Option VM.Loc)}{dst:Option Tmp}{all:Array Oper}{ops:List Oper}{X:List XI}(he:VM.Enters prog f)(hc:qV G f ds l s y enc)(mP:∀a s1,y=(a,s1)->XK prog G (.ops all ops::X) .normal ⟨gV dst (enc a) st.tmps,bP k (rfO l s1) st.H,eT dst (dropKey k st.own)⟩ Q)(hk:∀a,aT [(100000,k)] (enc a)=true/\bA [(100000,k)] (enc a)=enc a:=by intro a;exact⟨rfl,rfl⟩)(hw:WkT av (.ptr k 0::ds.map .d):=by simp)(hH:getKey k st.H=some (rfO l s):=by simp):dC prog G f av ls dst all ops X st Q:=dC.mk (f2W (hw:=hw) (hH:=hH) k he hc mP hk)
end
def d5h{α:Type}(r:kN α)(t:α)(s2:jK):Prop:=match r with
 | .ok a _=>t=a/\s2.er=0
 | .bad n e=>e≠0/\s2.er=e/\s2.ln=n
theorem b6u{l:List Tok}{s:jK}(h:s.er≠0):(a9F l s).2=s:=by unfold a9F;rw[if_neg (λh'=>h h'.1)]
theorem e5E{α:Type}(C:List Tok->jK->α×jK->Prop){x:List Tok->aZ α}{y:List Tok->RM α}(z:α)(s:List UInt8)(hs:s.length<=19000)(hW:∀l,a1V G rdQ l->(∀i, -9223372036854775807<=(aK l i).n/\(aK l i).n<=9223372036854775807)->∀s,pU l s->C l s (y l s))(hE:∀s:jK,s.er≠0->C [] s (z,s))(hM:∀l,a1V G rdQ l->cS l 0 (x l) (y l))(ha:∀l,a1V G rdQ l->aB l 0 (x l)):
  ∃t s1,C (pF s).1 (pF s).2 (t,s1)/\pU (pF s).1 s1/\(pF s).1.length<=50000/\d5h (dO x s) t (a9F (pF s).1 s1).2:=by
 unfold pF dO;have hng:∀(e n:Int),e≠0->∃t s1,C [] ⟨0,e,n⟩ (t,s1)/\pU [] s1/\([]:List Tok).length<=50000/\d5h (.bad n e:kN α) t (a9F [] s1).2:=λe n he=>by refine⟨z,⟨0,e,n⟩,hE ⟨0,e,n⟩ he,λh=>absurd h he,by simp,he,?_⟩;rw[b6u (s:=⟨0,e,n⟩) he];exact⟨rfl,rfl⟩
 by_cases hl:40000<s.length
 .omega
 rw[if_neg hl,if_neg hl];cases hx:kE gB s 0 1 false with
 |error n=>exact hng 14 n (by decide)
 |ok l=>
  have hV:a1V G rdQ l:=d1d hx hs;have h0:0<l.length:=List.length_pos_iff.2 hV.fin.1;have d1f:=(hM l hV).sim 0 0 (f7X _) h0;refine⟨(y l ⟨0,0,0⟩).1,(y l ⟨0,0,0⟩).2,hW l hV (b9h hx) ⟨0,0,0⟩ λ_=>h0,(pU.next ((hM l hV).sB (ha l hV) (s:=⟨0,0,0⟩) (λ_=>h0) (λ_=>f7X _) rfl)),by have:=hV.len;simp only;omega,?_⟩;simp only;cases hr:x l 0 with
  |bad n e=>rw[hr]at d1f;obtain⟨k1,k2,k3⟩:e≠0/\_:=d1f;simp only;exact⟨k1,by rw[b6u (by rw[k2];exact k1)];exact k2,by rw[b6u (by rw[k2];exact k1)];exact k3⟩
  |ok a j=>
   rw[hr]at d1f;have d1f:y l ⟨0,0,0⟩=(a,⟨j,0,0⟩):=d1f;have hj:=(ha l hV 0 a j h0 hr).2;rw[d1f];simp only;unfold a2G a9F;rw[a3H hj];by_cases hk:(aK l j).kind=0
   .rw[if_pos hk,if_neg (λh=>h.2 hk)];exact⟨rfl,rfl⟩
   .rw[if_neg hk,if_pos ⟨rfl,hk⟩,xJ hj];exact⟨by decide,rfl,rfl⟩
theorem e9p{α:Type}{f:FuncId}{x:List Tok->aZ α}{y:List Tok->RM α}{enc:α->DV}(z:α)(s:List UInt8)(hs:s.length<=19000)(hW:∀l,a1V G rdQ l->(∀i, -9223372036854775807<=(aK l i).n/\(aK l i).n<=9223372036854775807)->∀s,pU l s->qV G f [] l s (y l s) enc)(hE:∀s:jK,s.er≠0->qV G f [] [] s (z,s) enc)(hM:∀l,a1V G rdQ l->cS l 0 (x l) (y l))(ha:∀l,a1V G rdQ l->aB l 0 (x l)):
  ∃t s1,qV G f [] (pF s).1 (pF s).2 (t,s1) enc/\pU (pF s).1 s1/\(pF s).1.length<=50000/\d5h (dO x s) t (a9F (pF s).1 s1).2:=e5E (λl s y=>qV G f [] l s y enc) z s hs hW hE hM ha
theorem c1w:VM.Enters prog 24:=.mk func24 rfl
theorem c5c(s:List UInt8)(hs:s.length<=19000):CS prog G 24 [.str s] (.bY [.agg (tyD (a2o mW (dO tyM s))),.int .i64 (a2Q (dO tyM s))]) none:=by
 have mD:=c1v (G:=G) s (by omega);obtain⟨t,s1,h1,v1,hl,ht⟩:=e9p (G:=G) (x:=tyM) (y:=λl=>d3I aU bQ rdQ l) (enc:=zL) mW s hs (λl hV _ s hv=>d0l hV s hv) (λs hs=>b0V s hs) (λl hV=>cS.typ hV.fin hV.tkw hV.sB hV.nz) (λl hV=>(aB.typ hV.fin hV.sB.pred).le (by omega));have hen:=d1e (G:=G) hl s1 v1;generalize (pF s).1=l at mD h1 v1 hl hen ht;generalize (pF s).2=s0 at mD h1;obtain⟨s2,hs2⟩:∃s2,(a9F l s1).2=s2:=⟨_,rfl⟩;rw[hs2]at ht;obtain⟨op,nm,args,ns,p,ps⟩:=t;refine CS.a5p func24 rfl ntmps24 rfl (SW.xk ?_);simp;refine mQ.new b7B mD 50000 (by simp) rfl (by decide) (by simp[getKey]) (by simp[a8G]) (by simp[b6t]) (by simp[a8G]) ?_;simp;refine e9o (hH:=by simp[getKey]) 50000 xN h1 (λt s' hx=>?_);cases hx;simp;refine e9o (hH:=by simp[getKey]) 50000 c7w hen (λt s' hx=>?_);have e2:s'=s2:=by rw[<-hs2,hx]
 subst e2;cases hr:dO tyM s with
 |ok a j=>rw[hr]at ht;obtain⟨rfl,h0⟩:=ht;simp[h0,a2o,a2Q]
 |bad n e=>rw[hr]at ht;obtain⟨k1,k2,k3⟩:=ht;subst k2;simp[k1,a2o,a2Q];refine d3q 5 [0] (.op 1 (.op 2 (.op 3 (.op 4 (.call [6] .none) (.call [4,6] .none)) (.call [3,4,6] .none)) (.call [2,3,4,6] .none)) (.call [1,2,3,4,6] .none)) (by kernel_rfl) (by kernel_rfl) ?_;simp[mW,eA]
end
section
open Go Go.VM
variable {G:GT}
theorem a1h:VM.Enters prog 17:=.mk func17 rfl
theorem eY.mkd{P:Program}{q ro:Bool}{ls:List (Option VM.Loc)}{f:FuncId}{s0:St}{r:DV}{st:St}{«f7F» :List DV}{dst:Option Tmp}{all:Array Oper}{ops:List Oper}{k:List KI}{Q:Exit->St->Prop}{rest:List (TypeId×List VM.Loc)}(he:VM.Enters P f)(yW:CHd P G f s0 r)(K:List (Nat×Nat))(H':List (Nat×aW))(jR:aJ K s0 .undef s0.H=true)(jI:WkT «f7F» (aQ K s0.tmps))(hH:WkH st.H (cH K s0.H))(kJ:uW st st.own (s0.own.map (pK K ls))=some rest)(b6S:zD st.tmps.length ls s0.own=true)(hK:∀k o,getKey k H'=some o->getKey k st.H=some o/\∀p∈s0.H,k≠rk K p.1)(h:VK P G (.ops q all ops::k) .normal ⟨gV dst r st.tmps,H',[]⟩ Q)(hro:ro=false:=by kernel_rfl):eY P G q ro f «f7F» ls dst all ops k st Q:=eY.mk' ⟨_,⟨he,mA.e5t yW K H' jR jI hH kJ b6S hK⟩,h⟩ hro
theorem a2r(hG:G 1=some dP)(hS:G 0=some xZ)(s:List UInt8)(hs:s.length<=900000000):CS prog G 17 [.str s] (.bY [.agg (tyD (a2o mW (dO tyM s))),.int .i64 (a2Q (dO tyM s))]) none:=by
 have hrd:=a2D hG hS (C:=tyD) mW b1h tyM s hs (λl hV hN hp=>c4J hV mW 0 hp) (λl a j hE hB hx=>((aB.typ hE hB.pred) 0 a j (List.length_pos_iff.2 hE.1) hx).2);have hnz:∀n e,dO tyM s=.bad n e->e≠0:=λn e h=>b0j (λl n e hE hB hp h=>aC.typ (low:=0) hE hB (b6l l) 0 n e (Nat.zero_le _) hp h) h;cases hr:dO tyM s with
 |ok t j=>
  rw[hr]at hrd;refine CS.aR func17 rfl ntmps17 rfl ?_;simp;refine eY.mk kS hrd [(100001,4)] ?_ ?_ ?_ rfl rfl ?_ (rest:=[])
  .simp[aJ,aT,aN,aM,bC,getKey]
  .simp[aQ,bA,rk]
  .simp[aQ,bA,rk,cH,cP,mW,eA,strs]
  .simp[bD,aQ,bA,rk,cH,cP,bM,jA,eZ,dJ,a2o,a2Q]
 |bad n e=>
  rw[hr]at hrd;have he:=hnz n e hr;refine CS.aR func17 rfl ntmps17 rfl ?_;simp;refine eY.mkd kS hrd [(100001,4)] [(2,.cells [.d (.int .i64 0),.d (.str []),.d .aF,.d .aF,.d (.int .i64 0),.d (.str []),.d (.int .i64 0),.d .aF,.d .aF])] ?_ ?_ ?_ rfl rfl ?_ ?_ (rest:=[])
  .simp[aJ,aT,aN,aM,bC,getKey]
  .simp[aQ,bA,rk]
  .simp[aQ,bA,rk,cH,cP,mW,eA,strs]
  .intro k o hk;simp only[getKey]at hk;split at hk
   .rename_i h2;subst h2;exact⟨by simpa[getKey]using hk,by simp[rk]⟩
   .cases hk
  .simp[a2o,a2Q,he,mW,eA,strs]
theorem pT:VM.Enters prog 14:=.mk func14 rfl
theorem rJ(hG:G 1=some dP)(hS:G 0=some xZ)(s:List UInt8)(hs:s.length<=900000000):CS prog G 14 [.str s] (.bY [.agg (a1d (a2o a4y (dO exM s))),.int .i64 (a2Q (dO exM s))]) none:=by
 have hrd:=a2D hG hS (C:=a1d) a4y b1g exM s hs (λl hV hN hp=>c4K hV hN a4y 0 hp) (λl a j hE hB hx=>((aB.exF hE hB.pred _ 0) 0 a j (List.length_pos_iff.2 hE.1) hx).2);have hnz:∀n e,dO exM s=.bad n e->e≠0:=λn e h=>b0j (λl n e hE hB hp h=>aC.expr (low:=0) hE hB (b6l l) 0 n e (Nat.zero_le _) hp h) h;cases hr:dO exM s with
 |ok t j=>
  rw[hr]at hrd;refine CS.aR func14 rfl ntmps14 rfl ?_;simp;refine eY.mk kS hrd [(100001,4)] ?_ ?_ ?_ rfl rfl ?_ (rest:=[])
  .simp[aJ,aT,aN,aM,bC,getKey]
  .simp[aQ,bA,rk]
  .simp[aQ,bA,rk,cH,cP,a4y,a1d,strs]
  .simp[bD,aQ,bA,rk,cH,cP,bM,jA,eZ,dJ,a2o,a2Q]
 |bad n e=>
  rw[hr]at hrd;have he:=hnz n e hr;refine CS.aR func14 rfl ntmps14 rfl ?_;simp;refine eY.mkd kS hrd [(100001,4)] [(2,.cells [.d (.int .i64 0),.d (.str []),.d (.int .i64 0),.d .aF,.d .aF,.d .aF,.d .aF])] ?_ ?_ ?_ rfl rfl ?_ ?_ (rest:=[])
  .simp[aJ,aT,aN,aM,bC,getKey]
  .simp[aQ,bA,rk]
  .simp[aQ,bA,rk,cH,cP,a4y,a1d,strs]
  .intro k o hk;simp only[getKey]at hk;split at hk
   .rename_i h2;subst h2;exact⟨by simpa[getKey]using hk,by simp[rk]⟩
   .cases hk
  .simp[a2o,a2Q,he,a4y,a1d,strs]
theorem d5i{l:List Tok}(hE:jJ l)(hB:vY rdQ l):aB l 0 (a2n rdQ l):=aB.bl (aB.c6n hE hB) λd=>by
 cases d with
 |none=>exact aB.failed
 |some d=>exact(aB.skip hE _).bl λ_=>aB.bE _
theorem e0h{l:List Tok}(hE:jJ l)(hB:vY rdQ l):aC l 0 (a2n rdQ l):=aC.b0 (m:=0) (aC.defn hE hB (b6l l)) (aB.c6n hE hB) λd=>by
 cases d with
 |none=>exact aC.failed
 |some d=>exact aC.b0 (aC.skip _) (aB.skip hE _) λ_=>aC.bE _
theorem b7C:VM.Enters prog 27:=.mk func27 rfl
theorem c1x(hG:G 1=some dP)(hS:G 0=some xZ)(s:List UInt8)(hs:s.length<=900000000):CS prog G 27 [.str s] (.bY [.agg (b2R (a2o b2S (dO (a2n rdQ) s))),.int .i64 (a2Q (dO (a2n rdQ) s))]) none:=by
 have hrd:=a2D hG hS (C:=b2R) b2S b2V (a2n rdQ) s hs (λl hV hN hp=>c7l hV hN b2S 0 hp) (λl a j hE hB hx=>((d5i hE hB) 0 a j (List.length_pos_iff.2 hE.1) hx).2);have hnz:∀n e,dO (a2n rdQ) s=.bad n e->e≠0:=λn e h=>b0j (λl n e hE hB hp h=>e0h hE hB 0 n e (Nat.zero_le _) hp h) h;cases hr:dO (a2n rdQ) s with
 |ok t j=>
  rw[hr]at hrd;refine CS.aR func27 rfl ntmps27 rfl ?_;simp;refine eY.mk kS hrd [(100001,4)] ?_ ?_ ?_ rfl rfl ?_ (rest:=[])
  .simp[aJ,aT,aN,aM,bC,getKey]
  .simp[aQ,bA,rk]
  .simp[aQ,bA,rk,cH,cP,b2S,b2R,c0Y,b2D,mW,eA,a4y,dX,strs]
  .simp[bD,aQ,bA,rk,cH,cP,bM,jA,eZ,dJ,a2o,a2Q]
 |bad n e=>
  rw[hr]at hrd;have he:=hnz n e hr;refine CS.aR func27 rfl ntmps27 rfl ?_;simp;refine eY.mkd kS hrd [(100001,4)] [(2,.cells [.d (.str []),.d .aF,.d (.int .i64 0),.d (.str []),.d (.int .i64 0),.d .aF,.d .aF,.d .aF,.d .aF,.d (.int .i64 0),.d (.bool false),.d .aF,.d .aF,.d .aF,.d .aF,.d (.int .i64 0),.d (.str []),.d .aF,.d .aF,.d (.int .i64 0),.d (.str []),.d (.int .i64 0),.d .aF,.d .aF,.d .aF])] ?_ ?_ ?_ rfl rfl ?_ ?_ (rest:=[])
  .simp[aJ,aT,aN,aM,bC,getKey]
  .simp[aQ,bA,rk]
  .simp[aQ,bA,rk,cH,cP,b2S,b2R,c0Y,b2D,mW,eA,a4y,dX,strs]
  .intro k o hk;simp only[getKey]at hk;split at hk
   .rename_i h2;subst h2;exact⟨by simpa[getKey]using hk,by simp[rk]⟩
   .cases hk
  .simp[a2o,a2Q,he,b2S,b2R,c0Y,b2D,mW,eA,a4y,dX,strs]
theorem xQ:VM.Enters prog 21:=.mk func21 rfl
abbrev f2X:oC:=⟨[],[],[],[],[],[]⟩
theorem c7x{α:Type}(x:List Tok->aZ α)(s:List UInt8):dO (λl=>(λi=>a8D (x l i):aZ (Option α))) s=a8D (dO x s):=by
 unfold dO;split
 .rfl
 .split
  .rfl
  .rename_i l hl;simp only;cases x l 0 with
   |bad n e=>rfl
   |ok a j=>simp only[a8D];cases a2G l j<;>rfl
theorem zN(hG:G 1=some dP)(hS:G 0=some xZ)(s:List UInt8)(hs:s.length<=900000000):CS prog G 21 [.str s] (.bY [.agg (a7c (a2o f2X (dO moQ s))),.int .i64 (d0U (dO moQ s)),.int .i64 (a2Q (dO moQ s))]) none:=by
 have hrd:=a2D hG hS (C:=moC) none a8B (λl=>(λi=>a8D (moQ l i):aZ (Option oC))) s hs (λl hV hN hp=>b6m hV hN 0 hp) (λl a j hE hB hx=>by
  cases hm:moQ l 0 with
  |bad n e=>simp[hm,a8D]at hx
  |ok m k=>simp only[hm,a8D]at hx;cases hx;have sB:aB l 0 (moQ l):=aB.many (λm=>(aB.decl hE hB m).le (by omega) |>.bl λ_=>((aB.exp hE _ _).le (by omega)).bl λ_=>aB.bE _) _;exact(sB 0 _ _ (List.length_pos_iff.2 hE.1) hm).2)
 rw[c7x]at hrd;have hnz:∀n e,dO moQ s=.bad n e->e≠0:=λn e h=>b0j (λl n e hE hB hp h=>aC.mod (low:=0) hE hB (b6l l) 0 n e (Nat.zero_le _) hp h) h;cases hr:dO moQ s with
 |ok t j=>
  rw[hr]at hrd;refine CS.aR func21 rfl ntmps21 rfl ?_;simp;refine eY.mk kS hrd [(100001,5)] ?_ ?_ ?_ rfl rfl ?_ (rest:=[])
  .simp[aJ,aT,aN,aM,bC,getKey,moC,a7c]
  .simp[aQ,bA,rk]
  .simp[aQ,bA,rk,cH,cP,moC]
  .simp[bD,aQ,bA,rk,cH,cP,bM,jA,eZ,dJ,a2o,a2Q,d0U,moC,a7c]
 |bad n e=>
  rw[hr]at hrd;have he:=hnz n e hr;refine CS.aR func21 rfl ntmps21 rfl ?_;simp;refine eY.mkd kS hrd [(100001,5)] [(2,.cells [.d .aF,.d .aF,.d .aF,.d .aF,.d .aF,.d .aF])] ?_ ?_ ?_ rfl rfl ?_ ?_ (rest:=[])
  .simp[aJ,aT,aN,aM,bC,getKey,moC]
  .simp[aQ,bA,rk]
  .simp[aQ,bA,rk,cH,cP,moC]
  .intro k o hk;simp only[getKey]at hk;split at hk
   .rename_i h2;subst h2;exact⟨by simpa[getKey]using hk,by simp[rk]⟩
   .cases hk
  .simp[a2o,a2Q,d0U,he,a7c]
end
section
open Go Go.VM
variable {G:GT}
mutual
theorem b1l:∀p:Pr,a0c p p=true
 |⟨op,nm,n,l⟩=>by simp[a0c,b6v l]
theorem b6v:∀l:List Pr,vD l l=true
 |[]=>by simp[vD]
 |a::r=>by simp[vD,b1l a,b6v r]
end
inductive WB (B:Nat):Ty->Prop
 |mk (op:Int) (nm:Nm) (l:List Ty) (ns:List Nm) (p:Pr) (ps:List Pr):l.length<=B->ns.length<=B->bH p<=B->ps.length<=B->(∀q∈ps,bH q<=B)->(∀k∈l,WB B k)->WB B ⟨op,nm,l,ns,p,ps⟩
inductive WE (B:Nat):jL->Prop
 |mk (e:jL):e.kids.length<=B->e.params.length<=B->e.alts.length<=B->e.types.length<=B->(∀k∈e.kids,WE B k)->(∀p∈e.params,WB B p.2)->(∀a∈e.alts,a.2.1.length<=B)->(∀a∈e.alts,WE B a.2.2)->(∀t∈e.types,WB B t)->WE B e
theorem b0o:VM.Enters prog 37:=.mk func37 rfl
theorem a8H(l:List Nm)(hl:l.length<=900000000):CS prog G 37 [.sl (strs l),.sl (strs l)] (.d (.bool true)) none:=by
 refine CS.aR func37 rfl ntmps37 rfl ?_;simp;refine SW.eE (ι:={i:Nat//i<=l.length}) (λi=>[(5,.d (.int .i64 i.1))]) (λ_=>[]) (λ_=>[]) (λi=>l.length-i.1) ⟨0,by simp⟩ (by simp) ?_;rintro⟨i,hi⟩;by_cases aE:i<l.length
 .have hg:=b3Z aE;have hw:=aY (show i<9223372036854775807 by omega);simp[aE,hg];refine⟨kL.mk (by kernel_rfl),?_⟩;exact aX.mk ⟨i+1,aE⟩ (by simp[hw]) (by simp;omega)
 .have hie:i=l.length:=by omega
  subst hie;simp
theorem b0p:VM.Enters prog 36:=.mk func36 rfl
theorem a2U:VM.Enters prog 25:=.mk func25 rfl
theorem b1m(l:List Ty)(hl:l.length<=900000000)(ih:∀k∈l,CS prog G 25 [.agg (tyD k),.agg (tyD k)] (.d (.bool true)) none):CS prog G 36 [.sl (l.map tyC),.sl (l.map tyC)] (.d (.bool true)) none:=by
 refine CS.aR func36 rfl ntmps36 rfl ?_;simp;refine SW.eE (ι:={i:Nat//i<=l.length}) (λi=>[(5,.d (.int .i64 i.1))]) (λ_=>[]) (λ_=>[]) (λi=>l.length-i.1) ⟨0,by simp⟩ (by simp) ?_;rintro⟨i,hi⟩;by_cases aE:i<l.length
 .have hg:=d8T aE;have hw:=aY (show i<9223372036854775807 by omega);simp[aE,hg];refine⟨kL.mk (by kernel_rfl),?_⟩;refine aD.mk a2U (ih l[i] (List.getElem_mem aE)) ?_;simp;exact aX.mk ⟨i+1,aE⟩ (by simp[hw]) (by simp;omega)
 .have hie:i=l.length:=by omega
  subst hie;simp
theorem b0q:∀t:Ty,WB 900000000 t->CS prog G 25 [.agg (tyD t),.agg (tyD t)] (.d (.bool true)) none:=by
 refine Ty.ind λt ih=>?_;obtain⟨op,nm,l,ns,p,ps⟩:=t;simp only at ih;intro hw;cases hw with
 |mk _ _ _ _ _ _ w1 w2 w3 w4 w5 w6=>
 have hts:=b1m (G:=G) l w1 λk hk=>ih k hk (w6 k hk);have hns:=a8H (G:=G) ns w2;have hsp:=a0Z (G:=G) p p w3;rw[b1l]at hsp;refine CS.aR func25 rfl ntmps25 rfl ?_;simp;refine aD.mk b0o hns ?_;simp;refine aD.mk vE hsp ?_;simp;refine SW.eE (ι:={i:Nat//i<=ps.length}) (λi=>[(5,.d (.int .i64 i.1))]) (λ_=>[(2,.cells [.d (.int .i64 op),.d (.str nm),.d (.sl (l.map tyC)),.d (.sl (strs ns)),.d (.int .i64 p.op),.d (.str p.name),.d (.int .i64 p.n),.d (.sl (p.kids.map qH)),.d (.sl (ps.map qH))]),(3,.cells [.d (.int .i64 op),.d (.str nm),.d (.sl (l.map tyC)),.d (.sl (strs ns)),.d (.int .i64 p.op),.d (.str p.name),.d (.int .i64 p.n),.d (.sl (p.kids.map qH)),.d (.sl (ps.map qH))])]) (λ_=>[]) (λi=>ps.length-i.1) ⟨0,by simp⟩ (by simp) ?_;rintro⟨i,hi⟩;by_cases aE:i<ps.length
 .have hg:=vV aE;have hw:=aY (show i<9223372036854775807 by omega);have hsi:=a0Z (G:=G) ps[i] ps[i] (w5 _ (List.getElem_mem aE));rw[b1l]at hsi;simp[aE,hg];refine⟨kL.mk (by kernel_rfl),?_⟩;refine aD.mk vE hsi ?_;simp;exact aX.mk ⟨i+1,aE⟩ (by simp[hw]) (by simp;omega)
 .have hie:i=ps.length:=by omega
  subst hie;simp;refine aD.mk b0p hts ?_;simp
end
section
open Go Go.VM
def G0:GT:=λg=>if g=1 then some dP else if g=0 then some xZ else none
theorem a2a:G0 1=some dP:=rfl
theorem a2V:G0 0=some xZ:=rfl
abbrev num(n:Int):jL:=⟨1,[],n,[],[],[],[]⟩
abbrev var(c:UInt8):jL:=⟨3,[c],0,[],[],[],[]⟩
theorem ex1:dO exM [49,32,45,32,50,32,45,32,51]=.ok (kM 11 [kM 11 [num 1,num 2],num 3]) 5:=by kernel_rfl
theorem ex2:dO exM [40,45,51,41]=.ok (num (-3)) 4:=by kernel_rfl
theorem ex3:dO exM [45,32,51]=.ok (kM 15 [num 3]) 2:=by kernel_rfl
theorem ex4:dO exM [102,32,40,40,45,51,41,41]=.ok ({kM 5 [num (-3)]with name:=[102]}) 7:=by kernel_rfl
theorem ex5:dO exM [40,97,32,60,32,98,41,32,61,61,32,99]=.ok (kM 16 [kM 17 [var 97,var 98],var 99]) 7:=by kernel_rfl
theorem ex6:dO exM [97,32,60,32,98,32,60,32,99]=.bad 1 14:=by kernel_rfl
abbrev exT:Ty:=⟨6,[],[tU 1 [],⟨1,[],[],[],⟨12,[],0,[⟨3,[120],0,[]⟩,⟨3,[118],0,[]⟩]⟩,[]⟩,⟨4,[76,105,115,116],[tU 1 []],[],eA,[⟨12,[],0,[⟨1,[],0,[]⟩,⟨3,[118],0,[]⟩]⟩]⟩],[[120],[121]],eA,[]⟩
theorem ex8:dO tyM [40,73,110,116,44,32,73,110,116,41]=.bad 1 14:=by kernel_rfl
theorem ex9:dO moQ [100,101,102,32,102,32,40,120,41,32,61,32,120,32,43,10,59]=.bad 2 14:=by kernel_rfl
theorem f2Y:dO moQ [100,101,102,32,102,32,40,120,41,32,61,32,63]=.bad 1 14:=by kernel_rfl
def e9r:kN oC->Bool
 | .ok m _=>match m.b4t,m.b4u,m.defs with
  |[d],[me],[df]=>decide (d.cons.length=2)&&decide (me.cases.length=2)&&decide (df.sig.b9V.length=1)&&decide (df.body.op=8)
  |_,_,_=>false
 | .bad _ _=>false
def e9s:kN oB->Bool
 | .ok d _=>decide (d.mode=1)&&d.typed
 | .bad _ _=>false
abbrev txM:List UInt8:=[100,97,116,97,32,76,105,115,116,32,61,32,78,105,108,32,124,32,67,111,110,115,32,40,120,32,58,32,73,110,116,44,32,114,101,115,116,32,58,32,76,105,115,116,41,59,32,109,101,97,115,117,114,101,32,108,101,110,32,58,32,76,105,115,116,32,45,62,32,73,110,116,32,123,32,78,105,108,32,61,32,48,59,32,67,111,110,115,32,40,120,44,32,114,101,115,116,41,32,61,32,49,32,43,32,108,101,110,40,114,101,115,116,41,32,125,32,105,110,118,97,114,105,97,110,116,32,48,32,60,61,32,118,59,32,100,101,102,32,100,111,119,110,32,40,110,41,32,58,32,40,110,32,58,32,123,118,32,58,32,73,110,116,32,124,32,48,32,60,61,32,118,125,41,32,45,62,32,73,110,116,32,109,101,116,114,105,99,32,110,32,61,32,105,102,32,110,32,61,61,32,48,32,116,104,101,110,32,48,32,101,108,115,101,32,100,111,119,110,32,40,110,32,45,32,49,41,59]
abbrev txD:List UInt8:=[97,115,115,117,109,101,32,114,101,97,100,32,40,120,41,32,58,32,40,120,32,58,32,73,110,116,41,32,45,62,32,123,118,32,58,32,73,110,116,32,124,32,120,32,60,61,32,118,125]
abbrev txT:List UInt8:=[40,120,32,58,32,73,110,116,44,32,121,32,58,32,123,118,32,58,32,73,110,116,32,124,32,120,32,60,32,118,125,41,32,45,62,32,76,105,115,116,32,73,110,116,32,60,118,46,32,48,32,60,32,118,62]
theorem ex7:dO tyM txT=.ok exT 27:=by kernel_rfl
theorem f3b:e9r (dO moQ txM)=true:=by kernel_rfl
theorem f3c:e9s (dO (a2n rdQ) txD)=true:=by kernel_rfl
theorem e9t:∃m j d me df,dO moQ txM=.ok m j/\m.b4t=[d]/\m.b4u=[me]/\m.defs=[df]/\d.cons.length=2/\me.cases.length=2/\df.sig.b9V.length=1/\df.body.op=8:=by
 have h:=f3b;unfold e9r at h;split at h
 .rename_i m j hm;split at h
  .rename_i d me df h1 h2 h3;simp only[f7H,decide_eq_true_eq]at h;exact⟨m,j,d,me,df,hm,h1,h2,h3,h.1.1.1,h.1.1.2,h.1.2,h.2⟩
  .cases h
 .cases h
theorem e9u:∃d j,dO (a2n rdQ) txD=.ok d j/\d.mode=1/\d.typed=true:=by
 have h:=f3c;unfold e9s at h;split at h
 .rename_i d j hd;simp only[f7H,decide_eq_true_eq]at h;exact⟨d,j,hd,h.1,h.2⟩
 .cases h
end
section
open Go Go.VM
theorem a7v:VM.Enters prog 13:=.mk func13 rfl
theorem b0r:CS prog G0 13 [] (.d (.bool true)) none:=by have h1:=rJ (G:=G0) a2a a2V [49,32,45,32,50,32,45,32,51] (by decide);have h2:=rJ (G:=G0) a2a a2V [40,45,51,41] (by decide);have h3:=rJ (G:=G0) a2a a2V [45,32,51] (by decide);have h4:=rJ (G:=G0) a2a a2V [102,32,40,40,45,51,41,41] (by decide);have h5:=a2r (G:=G0) a2a a2V txT (by decide);have h6:=a2r (G:=G0) a2a a2V [40,73,110,116,44,32,73,110,116,41] (by decide);have h7:=zN (G:=G0) a2a a2V [100,101,102,32,102,32,40,120,41,32,61,32,120,32,43,10,59] (by decide);have h8:=zN (G:=G0) a2a a2V [100,101,102,32,102,32,40,120,41,32,61,32,63] (by decide);have h9:=rJ (G:=G0) a2a a2V [97,32,60,32,98,32,60,32,99] (by decide);have h10:=rJ (G:=G0) a2a a2V [40,97,32,60,32,98,41,32,61,61,32,99] (by decide);have h11:=zN (G:=G0) a2a a2V txM (by decide);have h12:=c1x (G:=G0) a2a a2V txD (by decide);obtain⟨m,jm,d,me,df,e11,m1,m2,m3,m4,m5,m6,m7⟩:=e9t;obtain⟨dd,jd,e12,d1,d2⟩:=e9u;rw[ex1]at h1;rw[ex2]at h2;rw[ex3]at h3;rw[ex4]at h4;rw[ex7]at h5;rw[ex8]at h6;rw[ex9]at h7;rw[f2Y]at h8;rw[ex6]at h9;rw[ex5]at h10;rw[e11]at h11;rw[e12]at h12;obtain⟨md,mc,mi,mm,mq,mf⟩:=m;simp only at m1 m2 m3;subst m1 m2 m3;simp[a2o,a2Q,d0U,kM,dX]at h1 h2 h3 h4 h9 h10;simp[a2o,a2Q,d0U,tU,bU,cN,mW,eA,strs]at h5 h6;simp[a2o,a2Q,d0U,a7c]at h7 h8 h11;simp[a2o,a2Q,d1,d2]at h12;have k1:=dX ⟨11,[],0,[num 1,num 2],[],[],[]⟩;have k2:=dX (num (-3));have k3:=λt=>bU t;refine CS.aR func13 rfl ntmps13 rfl ?_;simp;refine aD.mk pT h1 ?_;simp;refine aD.mk pT h2 ?_;simp;refine aD.mk pT h3 ?_;simp;refine aD.mk pT h4 ?_;simp;refine aD.mk a1h h5 ?_;simp;refine aD.mk a1h h6 ?_;simp;refine aD.mk xQ h7 ?_;simp;refine aD.mk xQ h8 ?_;simp;refine aD.mk pT h9 ?_;simp;refine aD.mk pT h10 ?_;simp (maxSteps:=1000000) [k1,k2];refine aD.mk xQ h11 ?_;simp;refine aD.mk b7C h12 ?_;simp (maxSteps:=1000000) [b4A,c3m,b9Z,d8V,dX,m4,m5,m6,m7,d1,d2]
end
section
structure d5j (l l':List Tok) (N d:Nat) (u:Nm):Prop where
 len:N<l.length
 f6X:N+d<l'.length
 le:l.length<=l'.length
 kind:∀i,i<N->(aK l' (i+d)).kind=(aK l i).kind
 text:∀i,i<N->(aK l' (i+d)).text=(aK l i).text
 n:∀i,i<N->(aK l' (i+d)).n=(aK l i).n
 stp:(aK l N).kind=0\/((aK l N).kind=4/\(aK l N).text=u)
 e9v:(aK l' (N+d)).kind=4/\(aK l' (N+d)).text=u
 uu:u=[41]\/u=[59]
def e2p{α:Type}(N d:Nat)(W:Nat->Prop)(x y:aZ α):Prop:=∀i a j,i<=N->x i=.ok a j->j<=N->W j->y (i+d)=.ok a (j+d)
section
variable {α β:Type} {kw:Nm->Bool} {andP:Pr->Pr->Pr} {aI:List Tok->Nat->Nat->kN Pr} {l l':List Tok} {N d:Nat} {W W':Nat->Prop} {u:Nm}
variable (hE:jJ l) (hN:d5j l l' N d u)
include hE hN
omit hE in
theorem d5k{i:Nat}(hi:i<N)(s:Nm):cK (aK l' (i+d)) s=cK (aK l i) s:=by unfold cK;rw[hN.kind i hi,hN.text i hi]
omit hE in
theorem e0i{i:Nat}(hi:i<N)(s:Nm):aL l' (i+d) s=aL l i s:=d5k hN hi s
omit hE in
theorem e0j{i:Nat}(hi:i<N):jY kw (aK l' (i+d))=jY kw (aK l i):=by unfold jY;rw[hN.kind i hi,hN.text i hi]
omit hE in
theorem e9w{s:Nm}(h1:s≠[41])(h2:s≠[59]):u≠s:=by
 rcases hN.uu with rfl|rfl
 .exact λe=>h1 e.symm
 .exact λe=>h2 e.symm
omit hE in
theorem f3d{s:Nm}(h1:s≠[41])(h2:s≠[59]):aL l N s=false:=by
 unfold aL cK;rcases hN.stp with h|⟨h,h3⟩
 .simp[h]
 .simp[h3,e9w hN h1 h2]
omit hE in
theorem e9x{s:Nm}(h1:s≠[41])(h2:s≠[59]):aL l' (N+d) s=false:=by unfold aL cK;obtain⟨h,h3⟩:=hN.e9v;simp[h3,e9w hN h1 h2]
omit hE in
theorem f3e:jY kw (aK l N)=false:=by unfold jY;rcases hN.stp with h|⟨h,_⟩<;>simp[h]
omit hE in
theorem e9y:jY kw (aK l' (N+d))=false:=by unfold jY;simp[hN.e9v.1]
omit hE in
theorem c1y{s:Nm}(h1:s≠[41])(h2:s≠[59]){i:Nat}(hi:i<=N):aL l' (i+d) s=aL l i s:=by
 by_cases h:i=N
 .subst h;rw[f3d hN h1 h2,e9x hN h1 h2]
 .exact e0i hN (by omega) s
omit hE in
theorem e0k{i:Nat}(hi:i<=N):jY kw (aK l' (i+d))=jY kw (aK l i):=by
 by_cases h:i=N
 .subst h;rw[f3e hN,e9y hN]
 .exact e0j hN (by omega)
end
end
section
def c8M{α:Type}(l:List Tok)(c:Int)(x:aZ α):Prop:=∀i a j,i<l.length->x i=.ok a j->i<=j/\j<l.length/\par l i j=c
def e0l(s:Nm):Int:=a8o ⟨4,s,0,0⟩
section
variable {α β:Type} {kw:Nm->Bool} {andP:Pr->Pr->Pr} {aI:List Tok->Nat->Nat->kN Pr} {l:List Tok} {c c1 c2:Int}
theorem d5l{i:Nat}(hi:i<l.length):a1s l i=a8o (aK l i):=by
 unfold a1s aK;rw[if_pos hi,List.getD_eq_getElem?_getD,f7L hi]
 rfl
theorem e0m{t:Tok}{s:Nm}(h:cK t s=true):a8o t=e0l s:=by unfold cK at h;simp only[f7H,decide_eq_true_eq]at h;unfold e0l a8o;rw[h.2]
theorem e5G{i:Nat}{s:Nm}(hi:i<l.length)(h:aL l i s=true):a1s l i=e0l s:=by rw[d5l hi,e0m h]
theorem d5m(hW:WfD l){i:Nat}(hi:i<l.length)(h:(aK l i).kind≠4):a1s l i=0:=by
 rw[d5l hi];refine hW i _ ?_ h;unfold aK;rw[if_pos hi,List.getD_eq_getElem?_getD,f7L hi]
 rfl
variable (hE:jJ l) (hW:WfD l)
include hE
include hW
theorem c8M.take{ok:Tok->Bool}(hk:∀t,ok t=true->t.kind≠0/\t.kind≠4):c8M l 0 (mB l ok):=λi a j hi h=>by
 unfold mB at h;split at h
 .rename_i hs;have h1:=hk _ hs;have:=oQ hE hi h1.1;cases h;exact⟨by omega,this,by rw[wG,d5m hW hi h1.2]⟩
 .unfold dN at h;cases h
theorem c8M.base:c8M l 0 (eO kw l):=λi a j hi h=>by
 have nx:∀ {s:Nm},e0l s=0->aL l i s=true->i<=i+1/\i+1<l.length/\par l i (i+1)=0:=λhs h1=>⟨by omega,aH hE hi h1,by rw[wG,e5G hi h1,hs]⟩;unfold eO at h;split at h
 .rename_i h1;cases h;exact nx rfl h1
 split at h
 .rename_i h1;cases h;exact nx rfl h1
 split at h
 .rename_i h1;cases h;exact nx rfl h1
 split at h
 .rename_i h1;have hn:=b0N hE hi h1;cases h;refine⟨by omega,hn,?_⟩;rw[wG,d5m hW hi];unfold jY at h1;simp only[f7H,decide_eq_true_eq]at h1;omega
 .cases h;exact⟨f7X _,hi,wF _⟩
end
end
section
abbrev eTk(ln:Int):Tok:=⟨0,[],0,ln⟩
end
section
open Go Go.VM
variable {G:GT}
def qY{α:Type}(l:List Tok)(P:α->Prop)(x:aZ α):Prop:=∀i a j,i<l.length->x i=.ok a j->P a
section
variable {α β:Type} {l:List Tok} {P:α->Prop} {Q:β->Prop}
theorem qY.bE{a:α}(h:P a):qY l P (pure a:aZ α):=λi b j hi hx=>by rw[gF]at hx;cases hx;exact h
theorem qY.any(x:aZ α):qY l (λ_=>True) x:=λ_ _ _ _ _=>trivial
theorem qY.ite{c:Prop}[Decidable c]{x y:aZ α}(hx:qY l P x)(hy:qY l P y):qY l P (if c then x else y):=by
 split
 .exact hx
 .exact hy
theorem qY.bind{x:aZ α}{f:α->aZ β}(hx:qY l P x)(ax:aB l 0 x)(hf:∀a,P a->qY l Q (f a)):qY l Q (x >>=f):=λi b j hi h=>by
 rw[cX]at h;cases h1:x i with
 |bad n e=>rw[h1]at h;cases h
 |ok a k=>rw[h1]at h;exact hf a (hx i a k hi h1) k b j (ax i a k hi h1).2 h
theorem qY.skip{x:aZ α}{f:α->aZ β}(ax:aB l 0 x)(hf:∀a,qY l Q (f a)):qY l Q (x >>=f):=qY.bind (qY.any x) ax λa _=>hf a
variable (hE:jJ l)
include hE
def Snc(l:List Tok)(P:β->Prop)(one:List β->aZ (List β)):Prop:=∀out,qY l (λb=>∃y,b=out++[y]/\P y) (one out)
theorem c5d{P:β->Prop}{c:Nm}{one:List β->aZ (List β)}(h1:Snc l P one)(a1:∀out,aB l 1 (one out)):∀(g:Nat) (out:List β) (i:Nat) (b:List β) (j:Nat),i<l.length->out.length<=i->(∀y∈out,P y)->gA l c one g out i=.ok b j->b.length<=l.length/\∀y∈b,P y
 |0,out,i,b,j,_,_,_,h=>by unfold gA at h;cases h
 |g+1,out,i,b,j,hi,hl,hp,h=>by
  unfold gA at h;split at h
  .cases h
  .rename_i b' j' ho;have k1:=a1 out i b' j' hi ho;obtain⟨y,rfl,hy⟩:=h1 out i b' j' hi ho;have dB:∀z∈out++[y],P z:=λz hz=>by
    rcases List.mem_append.1 hz with hz|hz
    .exact hp z hz
    .rw[f7O]at hz;rw[hz];exact hy
   split at h
   .rename_i hs;exact c5d h1 a1 g _ (j'+1) b j (aH hE k1.2 hs) (by simp;omega) dB h
   .cases h;exact⟨by simp;omega,dB⟩
theorem c5e{P:β->Prop}{c:Nm}{one:List β->aZ (List β)}(h1:Snc l P one)(a1:∀out,aB l 1 (one out)):qY l (λb=>b.length<=l.length/\∀y∈b,P y) (dE l c one []):=λi b j hi h=>c5d hE h1 a1 _ [] i b j hi (Nat.zero_le _) (λy hy=>by cases hy) h
omit hE in
theorem c5f{P:β->Prop}{c:Nat->Bool}{one:List β->aZ (List β)}(h1:Snc l P one)(a1:∀out,aB l 1 (one out)):∀(g:Nat) (out:List β) (i:Nat) (b:List β) (j:Nat),i<l.length->out.length<=i->(∀y∈out,P y)->dQ c one g out i=.ok b j->b.length<=l.length/\∀y∈b,P y
 |0,out,i,b,j,_,_,_,h=>by unfold dQ at h;cases h
 |g+1,out,i,b,j,hi,hl,hp,h=>by
  unfold dQ at h;split at h
  .split at h
   .cases h
   .rename_i b' j' ho;have k1:=a1 out i b' j' hi ho;obtain⟨y,rfl,hy⟩:=h1 out i b' j' hi ho;exact c5f h1 a1 g _ j' b j k1.2 (by simp;omega) (λz hz=>by
     rcases List.mem_append.1 hz with hz|hz
     .exact hp z hz
     .rw[f7O]at hz;rw[hz];exact hy) h
  .cases h;exact⟨by omega,hp⟩
omit hE in
theorem d5n{P:β->Prop}{c:Nat->Bool}{one:List β->aZ (List β)}(h1:Snc l P one)(a1:∀out,aB l 1 (one out)):qY l (λb=>b.length<=l.length/\∀y∈b,P y) (rN l c one []):=λi b j hi h=>c5f h1 a1 _ [] i b j hi (Nat.zero_le _) (λy hy=>by cases hy) h
theorem b9m{P:β->Prop}{c:Nm}{one:List Nm×List β->aZ (List Nm×List β)}(h1:∀out,qY l (λb=>∃y,b.1.length<=out.1.length+1/\b.2=out.2++[y]/\P y) (one out))(a1:∀out,aB l 1 (one out)):∀(g:Nat) (out:List Nm×List β) (i:Nat) (b:List Nm×List β) (j:Nat),i<l.length->out.1.length<=i->out.2.length<=i->(∀y∈out.2,P y)->gA l c one g out i=.ok b j->b.1.length<=l.length/\b.2.length<=l.length/\∀y∈b.2,P y
 |0,out,i,b,j,_,_,_,_,h=>by unfold gA at h;cases h
 |g+1,out,i,b,j,hi,hl,hl2,hp,h=>by
  unfold gA at h;split at h
  .cases h
  .rename_i b' j' ho;have k1:=a1 out i b' j' hi ho;obtain⟨y,e1,e2,hy⟩:=h1 out i b' j' hi ho;have dB:∀z∈b'.2,P z:=λz hz=>by
    rw[e2]at hz;rcases List.mem_append.1 hz with hz|hz
    .exact hp z hz
    .rw[f7O]at hz;rw[hz];exact hy
   have hlen:b'.2.length=out.2.length+1:=by rw[e2];simp
   split at h
   .rename_i hs;exact b9m h1 a1 g _ (j'+1) b j (aH hE k1.2 hs) (by omega) (by omega) dB h
   .cases h;exact⟨by omega,by omega,dB⟩
theorem b9n{P:β->Prop}{c:Nm}{one:List Nm×List β->aZ (List Nm×List β)}(h1:∀out,qY l (λb=>∃y,b.1.length<=out.1.length+1/\b.2=out.2++[y]/\P y) (one out))(a1:∀out,aB l 1 (one out)):qY l (λb=>b.1.length<=l.length/\b.2.length<=l.length/\∀y∈b.2,P y) (dE l c one ([],[])):=λi b j hi h=>b9m hE h1 a1 _ ([],[]) i b j hi (Nat.zero_le _) (Nat.zero_le _) (λy hy=>by cases hy) h
theorem e6U{kw:Nm->Bool}:qY l (λb:List Nm=>b.length<=l.length) (gG kw l):=by unfold gG;refine qY.skip ((aB.exp hE _ _).le (by omega)) λ_=>qY.bind (c5e hE (P:=λ_=>True) (λout=>qY.skip ((aB.word hE).le (by omega)) λw=>qY.bE ⟨w,rfl,trivial⟩) λout=>(aB.word hE).bl λ_=>aB.bE _) (aB.list hE (m:=0) (λout=>((aB.word hE).le (by omega)).bl λ_=>aB.bE _) _) λb hb=>qY.skip ((aB.exp hE _ _).le (by omega)) λ_=>qY.bE hb.1
end
theorem WB.zero:WB 900000000 mW:=.mk _ _ _ _ _ _ (by simp) (by simp) (by simp[eA,bH,cW]) (by simp) (λq hq=>by cases hq) (λk hk=>by cases hk)
theorem WB.small(op:Int)(nm:Nm){l:List Ty}{ns:List Nm}{ps:List Pr}(h1:l.length<=900000000)(h2:ns.length<=900000000)(h3:ps.length<=900000000)(h4:∀q∈ps,bH q<=900000000)(h5:∀k∈l,WB 900000000 k):WB 900000000 ⟨op,nm,l,ns,eA,ps⟩:=.mk _ _ _ _ _ _ h1 h2 (by simp[eA,bH,cW]) h3 h4 h5
theorem WB.tU(op:Int)(nm:Nm):WB 900000000 (tU op nm):=WB.small op nm (by simp) (by simp) (by simp) (λq hq=>by cases hq) (λk hk=>by cases hk)
theorem WB.pred{t:Ty}(h:WB 900000000 t){p:Pr}(hp:bH p<=900000000):WB 900000000 {t with pred:=p}:=by
 cases h with
 |mk _ _ _ _ _ _ h1 h2 h3 h4 h5 h6=>exact .mk _ _ _ _ _ _ h1 h2 hp h4 h5 h6
section
variable {aI:List Tok->Nat->Nat->kN Pr} {l:List Tok} (hV:oS G aI l)
include hV
theorem d5o:qY l (λp=>bH p<=900000000) (kO aI l):=λi p j hi h=>by have h1:=(hV.nod i _ p j hi h).1;have h2:=hV.sB _ i p j hi h;have h3:=hV.len;omega
theorem c5g:qY l (λo:Option Ty=>∀t,o=some t->WB 900000000 t) (eO aU l):=λi o j hi h=>by
 intro t ht;subst ht;unfold eO at h
 repeat' split at h
 all_goals first|(cases h;exact WB.tU _ _)|cases h
section
variable {ty:aZ Ty} (kH:qY l (WB 900000000) ty) (mT:aB l 1 ty) (ity:∀i t j,i<l.length->ty i=.ok t j->TyI t i j)
include kH mT ity
theorem c5h:qY l (WB 900000000) (vW bQ aI l ty):=λi t j hi h=>by
 have inv:=c4t hV mT ity i t j hi h;have ha:=aB.b9W (andP:=bQ) hV.fin (mT.le (by omega)) hV.sB.pred i t j hi h;have hl:=hV.len;have hn:bH t.pred<=900000000:=by have:=inv.2;omega
 unfold vW at h;obtain⟨_,k1,h1,h⟩:=bX h;have q1:=aB.exp hV.fin _ _ i _ k1 hi h1;obtain⟨t0,k2,h2,h⟩:=bX h;have w:=kH k1 t0 k2 q1.2 h2;split at h
 .unfold dN at h;cases h
 .obtain⟨_,k3,h3,h⟩:=bX h;obtain⟨p,k4,h4,h⟩:=bX h;obtain⟨_,k5,h5,h⟩:=bX h;cases h;exact w.pred hn
theorem d1g:qY l (WB 900000000) (do aV l [[40]];let t <- ty;aV l [[41]];pure t:aZ Ty):=qY.skip ((aB.exp hV.fin _ _).le (by omega)) λ_=>qY.bind kH (mT.le (by omega)) λt ht=>qY.skip ((aB.exp hV.fin _ _).le (by omega)) λ_=>qY.bE ht
theorem c7y:qY l (WB 900000000) (gR aU bQ aI l ty):=by
 unfold gR;refine qY.bind (c5g hV) (aB.base hV.fin) λo ho=>?_;cases o with
 |some t=>exact qY.bE (ho t rfl)
 |none=>
  intro i t j hi h;simp only at h;split at h
  .cases h;exact WB.tU _ _
  .split at h
   .exact c5h hV kH mT ity i t j hi h
   .exact d1g hV kH mT ity i t j hi h
theorem d1h:qY l (WB 900000000) (uB aU bQ aI l ty):=by
 have hl:=hV.len;unfold uB;have ash:aB l 1 (gR aU bQ aI l ty):=aB.zF hV.fin (mT.le (by omega)) hV.sB.pred;refine qY.skip ((aB.title hV.fin).le (by omega)) λnm=>qY.bind (d5n (P:=WB 900000000) (λout=>qY.bind (c7y hV kH mT ity) (ash.le (by omega)) λt ht=>qY.bE ⟨t,rfl,ht⟩) λout=>ash.bl λ_=>aB.bE _) (aB.many (λout=>(ash.le (by omega)).bl λ_=>aB.bE _) _) λargs jI=>qY.skip (aB.skip hV.fin _) λb=>qY.ite ?_ (qY.bE ?_)
 .refine qY.bind (c5e hV.fin (P:=λp=>bH p<=900000000) (λout=>qY.skip ((aB.exp hV.fin _ _).le (by omega)) λ_=>qY.bind (d5o hV) hV.sB.pred λp hp=>qY.bE ⟨p,rfl,hp⟩) λout=>(aB.exp hV.fin _ _).bl λ_=>hV.sB.pred.bl λ_=>aB.bE _) (aB.list hV.fin (λout=>((aB.exp hV.fin _ _).le (by omega)).bl λ_=>hV.sB.pred.bl λ_=>aB.bE _) _) λps hps=>qY.skip ((aB.exp hV.fin _ _).le (by omega)) λ_=>qY.bE ?_;exact WB.small (ns:=[]) 4 nm (by have:=jI.1;omega) (by simp) (by have:=hps.1;omega) hps.2 jI.2
 .exact WB.small (ns:=[]) (ps:=[]) 4 nm (by have:=jI.1;omega) (by simp) (by simp) (λq hq=>by cases hq) jI.2
theorem d5p:qY l (WB 900000000) (vX aU l ty):=by
 have hl:=hV.len;have hE:=hV.fin;have a1:∀out:List Nm×List Ty,aB l 1 (do let w <- bL aU l;aV l [[58]];let t <- ty;pure (out.1++[w],out.2++[t]):aZ (List Nm×List Ty)):=λout=>(aB.word hE).bl λ_=>((aB.exp hE _ _).le (by omega)).bl λ_=>(mT.le (by omega)).bl λ_=>aB.bE _;have a2:∀out:List Nm×List Ty,aB l 1 (do let t <- ty;pure (out.1,out.2++[t]):aZ (List Nm×List Ty)):=λout=>mT.bl λ_=>aB.bE _;have g1:∀out:List Nm×List Ty,qY l (λb=>∃y,b.1.length<=out.1.length+1/\b.2=out.2++[y]/\WB 900000000 y) (do let w <- bL aU l;aV l [[58]];let t <- ty;pure (out.1++[w],out.2++[t]):aZ (List Nm×List Ty)):=λout=>qY.skip ((aB.word hE).le (by omega)) λw=>qY.skip ((aB.exp hE _ _).le (by omega)) λ_=>qY.bind kH (mT.le (by omega)) λt ht=>qY.bE ⟨t,by simp,rfl,ht⟩;have g2:∀out:List Nm×List Ty,qY l (λb=>∃y,b.1.length<=out.1.length+1/\b.2=out.2++[y]/\WB 900000000 y) (do let t <- ty;pure (out.1,out.2++[t]):aZ (List Nm×List Ty)):=λout=>qY.bind kH (mT.le (by omega)) λt ht=>qY.bE ⟨t,by simp,rfl,ht⟩;unfold vX;refine qY.skip ((aB.exp hE _ _).le (by omega)) λ_=>qY.bind (P:=λb:List Nm×List Ty=>b.1.length<=l.length/\b.2.length<=l.length/\∀y∈b.2,WB 900000000 y) (λi b j hi h=>?_) (λi b j hi h=>?_) λq hq=>?_
 .split at h
  .exact b9n hE g1 a1 i b j hi h
  .exact b9n hE g2 a2 i b j hi h
 .split at h
  .exact aB.list hE (λout=>(a1 out).le (by omega)) _ i b j hi h
  .exact aB.list hE (λout=>(a2 out).le (by omega)) _ i b j hi h
 .obtain⟨ns,ts⟩:=q;obtain⟨q1,q2,q3⟩:=hq;simp only at q1 q2 q3;refine qY.skip ((aB.exp hE _ _).le (by omega)) λ_=>λi t j hi h=>?_;split at h
  .rename_i hc;simp only[f7H,decide_eq_true_eq]at hc;cases h
   match ts,hc.1.2,q3 with
   |[t],_,q3=>exact q3 t (.head _)
  .refine(qY.skip ((aB.exp hE _ _).le (by omega)) (λ_=>qY.bind kH (mT.le (by omega)) λt ht=>qY.bE ?_):qY l (WB 900000000) _) i t j hi h;refine WB.small (ps:=[]) 6 [] (by simp;omega) (by omega) (by simp) (λq hq=>by cases hq) λk hk=>?_;rcases List.mem_append.1 hk with hk|hk
   .exact q3 k hk
   .rw[f7O]at hk;rw[hk];exact ht
theorem d5q:qY l (WB 900000000) (xB aU bQ aI l ty):=by
 unfold xB;refine qY.bind (c5g hV) (aB.base hV.fin) λo ho=>?_;cases o with
 |some t=>exact qY.bE (ho t rfl)
 |none=>
  intro i t j hi h;simp only at h;split at h
  .exact d1h hV kH mT ity i t j hi h
  .split at h
   .exact c5h hV kH mT ity i t j hi h
   .exact d5p hV kH mT ity i t j hi h
end
theorem c5i:∀n,qY l (WB 900000000) (zE aU bQ aI l n)
 |0=>λi a j hi h=>by unfold zE at h;cases h
 |n+1=>d5q hV (c5i n) (aB.a7W hV.fin hV.sB.pred n) λi t j hi h=>b0b hV n i t j hi h
theorem e0n:qY l (WB 900000000) (kP aU bQ aI l):=c5i hV _
omit hV in
theorem WE.op(op:Int){ks:List jL}(h:ks.length<=900000000)(hk:∀k∈ks,WE 900000000 k):WE 900000000 (kM op ks):=.mk _ h (by simp[kM]) (by simp[kM]) (by simp[kM]) hk (λp hp=>by cases hp) (λa ha=>by cases ha) (λa ha=>by cases ha) (λt ht=>by cases ht)
omit hV in
theorem WE.one(op:Int){a:jL}(h:WE 900000000 a):WE 900000000 (kM op [a]):=WE.op op (by simp) λk hk=>by rw[f7O]at hk;rw[hk];exact h
end
end
section
section
variable {α β:Type} {kw:Nm->Bool} {andP:Pr->Pr->Pr} {aI:List Tok->Nat->Nat->kN Pr} {l l':List Tok} {N d:Nat} {W W':Nat->Prop} {u:Nm}
variable (hE:jJ l) (hN:d5j l l' N d u)
include hE hN
omit hE in
theorem e2p.base:e2p N d W (eO kw l) (eO kw l'):=λi a j hi h hj hw=>by
 have e1:=c1y hN (s:=[73,110,116]) (by decide) (by decide) hi;have e2:=c1y hN (s:=[66,111,111,108]) (by decide) (by decide) hi;have e3:=c1y hN (s:=[67,101,108,108]) (by decide) (by decide) hi;have e4:=e0k (kw:=kw) hN hi;unfold eO at h|-;rw[e1,e2,e3,e4];split at h
 .rename_i h1;rw[if_pos h1];cases h;rw[show i+1+d=i+d+1 by omega]
 rename_i h1;rw[if_neg h1];split at h
 .rename_i h2;rw[if_pos h2];cases h;rw[show i+1+d=i+d+1 by omega]
 rename_i h2;rw[if_neg h2];split at h
 .rename_i h3;rw[if_pos h3];cases h;rw[show i+1+d=i+d+1 by omega]
 rename_i h3;rw[if_neg h3];split at h
 .rename_i h4;rw[if_pos h4,hN.text i (by cases h;omega)];cases h;rw[show i+1+d=i+d+1 by omega]
 rename_i h4;rw[if_neg h4];cases h
 rfl
end
end
section
def e9z(l:List Tok)(i:Nat)(w:Nm):Prop:=(aK l i).kind=4/\(aK l i).text=w
section
variable {kw:Nm->Bool} {andP:Pr->Pr->Pr} {aI:List Tok->Nat->Nat->kN Pr} {l:List Tok} {ex:Nat->aZ jL} {i j k k1 k2 k3:Nat} {a b c e:jL}
theorem e9z.is{w:Nm}(h:e9z l i w)(s:Nm):aL l i s=decide (w=s):=by unfold aL cK;rw[h.1,h.2];simp
end
end
section
def e5H(ln1:Int)(l0:List Tok)(ln2:Int):List Tok:=e8M ln1 [40]::(l0++[e8M ln2 [41]])
structure Pc (x:List UInt8) (a:jL) (l0:List Tok) (m:Int):Prop where
 no:∀b∈x,b≠35
 lex:kE gB x 0 1 false=.ok (l0++[eTk m])
 f7a:kE gB (40::(x++[41])) 0 1 false=.ok (e5H 1 l0 m++[eTk m])
 cl:uX aU bQ rdQ (e5H 1 l0 m++[eTk m]) (zQ aU bQ rdQ (e5H 1 l0 m++[eTk m]) (l0.length+4)) 0=.ok a (l0.length+2)
end
section
open Go Go.VM
def TL:List TypeId:=[5,9,37,39,199,257,260,261]
theorem c7z:a1G prog TL=true:=by kernel_rfl
theorem rT:laidOutB prog=true:=by kernel_rfl
theorem hmr:mapsRowed prog=true:=by kernel_rfl
theorem hsf:((List.range prog.types.size).all λt=>match prog.underlying t with|some (.slice e)=>decide (0<prog.cellsOf e)|_=>true)=true:=by kernel_rfl
theorem kJ:ownKnob prog.godebug=none:=by kernel_rfl
theorem tu9:prog.underlying 9=some .string:=by kernel_rfl
end
section
open Go Go.VM
theorem e5I{s:List UInt8}{t:Ty}{j:Nat}(h:dO tyM s=.ok t j):WB 900000000 t:=by obtain⟨hs,l,hl,hx,_⟩:=d0T h;have hV:oS G0 rdQ l:=b9g a2a hl (by omega);exact e0n hV 0 t j (List.length_pos_iff.2 hV.fin.1) hx
end
section
open Go Go.VM
theorem e5J(s:List UInt8):WB 900000000 (a2o mW (dO tyM s)):=by
 cases h:dO tyM s with
 |bad n e=>exact WB.zero
 |ok m j=>exact e5I h
theorem b0s(s:List UInt8)(hs:s.length<=100000000):CS prog G0 6 [.str s] (.d (.bool true)) none:=by
 by_cases b1:600<s.length
 .have e1:(600:Int)<s.length:=by omega
  refine CS.aR func6 rfl ntmps6 rfl ?_;simp[e1,b1];refine aD.mk a7v (b0r ) ?_;simp
 have e1: ¬(600:Int)<s.length:=by omega
 have p1:=a2r (G:=G0) a2a a2V s (by omega);have p2:=c5c (G:=G0) s (by omega);have w3:=b0q (G:=G0) _ (e5J s);generalize a2o mW (dO tyM s)=t at p1 p2 w3;generalize a2Q (dO tyM s)=x3 at p1 p2;refine CS.aR func6 rfl ntmps6 rfl ?_;simp[e1,b1];refine aD.mk a1h p1 ?_;simp;refine aD.mk c1w p2 ?_;simp;refine aD.mk a2U w3 ?_;simp;refine aD.mk a7v (b0r ) ?_;simp
theorem parseTypes_all(xs:List D)(h:a9e prog [9] xs)(jG:szL xs<=1048576):CS prog G0 6 xs (.d (.bool true)) none:=by
 match xs,h with
 |[a],⟨h1,_⟩=>obtain⟨s,rfl,_⟩:=c9B tu9 h1;simp only[szL,szD]at jG;exact b0s s (by omega)
end
end Go.Proofs.YtjpodcmhcenjjaaGreatDoor
