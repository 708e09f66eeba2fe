/- Lemmas. No condition. -/
import Derived.Test.YtmfbjecjccipfaaGreatDoorOwm
import Derived.Defers
import Derived.Recover
import Derived.Tactics2
import Derived.Laws.Pointers
set_option linter.unusedVariables false
set_option linter.unusedSimpArgs false
set_option linter.unusedSectionVars false
set_option maxRecDepth 100000
set_option maxHeartbeats 64000000
open Go.Proofs.Tryz
section
section
namespace Go.Proofs.YtmfbjecjccipfaaGreatDoor
open Go Go.VM
variable {G:GT}
section
variable {l:List Tok} {f:Nat}
def b9w(s:List UInt8):Option (Int×Bool):=(cmpL.find? λp=>decide (s=p.1)).map (·.2)
variable{n:Nat}
theorem d9o(h:n<l.length):a3m l n=if l[n].kind=4 then b9w l[n].text else none:=by
 unfold a3m b9w;by_cases hk:l[n].kind=4
 .simp[b1h h,hk]
 .simp[b1h h,hk]
theorem d9p(h:¬n<l.length):a3m l n=none:=by unfold a3m;simp[c4D h]
def c8H(l:List Tok)(a:Pr)(n:Nat)(op:Int)(ex:Bool):St:=⟨[.undef,.undef,.ptr 2 0,.undef,.ptr 4 0,.d (.int .i64 0),.ptr 6 0,.d (.int .i64 n),.d (.int .i64 op),.d (.bool ex)]++List.replicate 79 .undef,[(2,.cells [.d (.sl (l.map bL))]),(4,.cells [.d (.int .i64 0),.d (.str []),.d (.int .i64 0),.d .aE]),(6,.cells ((prD a).map .d))],[]⟩
theorem c8I(hl:a0M l)(hA:AtC G l f)(i:Nat)(hi:i<=l.length)(hf:mu l.length i 6<=f+1):
  ∃j,CS prog G 192 [rdD l,.int .i64 i] (gH (a9w (jF aH l f) l i) j) none:=by
 have hll:=hl.1;obtain⟨ja,hat⟩:=hA i 7 (by omega) (by omega) (by omega) hi (by unfold mu at hf|-;omega);refine⟨ja,?_⟩;obtain⟨o,ho⟩:∃o,a9w (jF aH l f) l i=o:=⟨_,rfl⟩;rw[ho];unfold a9w at ho;refine CS.a4w func192 rfl ntmps192 rfl ?_;refine SW.gN (SW.vk ?_);simp;refine SW.gN (SW.vk ?_);simp;refine aC.mk (hkl:=cO _ _) a0b hat ?_;cases hr:jF aH l f i 7 with
 |none=>rw[hr]at ho;subst ho;simp[gH];refine SW.vk ?_;simp
 |some q=>
  obtain⟨a,n⟩:=q;have wF:=mT aH l f _ _ _ _ hr;rw[hr]at ho;simp only at ho;simp[gH];by_cases aG:n<l.length;rotate_left
  .rw[d9p aG]at ho;subst ho;have hge:l.length<=n:=g3Z aG;refine SW.vk ?_;simp[hge,gH]
  have hge:¬l.length<=n:=by omega
  rw[d9o aG]at ho;obtain⟨t,ht⟩:∃t,l[n]=t:=⟨_,rfl⟩;rw[ht]at ho;by_cases hk:t.kind=4;rotate_left
  .rw[if_neg hk]at ho;subst ho;refine SW.vk ?_;simp[hge,aG,ht,bL];simp[hk,gH]
  rw[if_pos hk]at ho;refine SW.gN (SW.vk ?_);simp[hge,aG,ht,bL];simp[hk];refine SW.gN (SW.vk ?_);simp;cases hc:b9w t.text with
  |none=>rw[hc]at ho;simp only at ho;subst ho;simp[b9w,cmpL]at hc;obtain⟨e1,e2,e3,e4,e5,e6⟩:=hc;refine SW.gN (SW.vk ?_);simp[aG,ht,bL,e1,e2,e3,e4,e5,e6,gH]
  |some c=>
   obtain⟨op,ex⟩:=c;rw[hc]at ho;simp only at ho;refine oJ (c8H l a n op ex) (SW.vk ?_) ?_
   .simp[aG,ht,bL];by_cases e1:t.text=[61]
    .obtain⟨rfl,rfl⟩:10=op/\false=ex:=by simpa[b9w,cmpL,e1]using hc
     simp[e1,c8H,List.replicate]
    by_cases e2:t.text=[33,61]
    .obtain⟨rfl,rfl⟩:11=op/\false=ex:=by simpa[b9w,cmpL,e2]using hc
     simp[e2,c8H,List.replicate]
    by_cases e3:t.text=[60]
    .obtain⟨rfl,rfl⟩:12=op/\false=ex:=by simpa[b9w,cmpL,e3]using hc
     simp[e3,aG,ht,bL];refine⟨.mk,?_⟩;simp[e3,aG,ht,bL,c8H,List.replicate]
    by_cases e4:t.text=[62]
    .obtain⟨rfl,rfl⟩:12=op/\true=ex:=by simpa[b9w,cmpL,e4]using hc
     simp[e4,aG,ht,bL];refine⟨.mk,?_⟩;simp[e4,aG,ht,bL,c8H,List.replicate]
    by_cases e5:t.text=[60,61]
    .obtain⟨rfl,rfl⟩:13=op/\false=ex:=by simpa[b9w,cmpL,e5]using hc
     simp[e5,aG,ht,bL];refine⟨.mk,?_⟩;simp[e5,aG,ht,bL,c8H,List.replicate]
    by_cases e6:t.text=[62,61]
    .obtain⟨rfl,rfl⟩:13=op/\true=ex:=by simpa[b9w,cmpL,e6]using hc
     simp[e6,aG,ht,bL];refine⟨.mk,?_⟩;simp[e6,aG,ht,bL,c8H,List.replicate]
    simp[b9w,cmpL,e1,e2,e3,e4,e5,e6]at hc
   have hn1:=aX (show n<9223372036854775807 by omega);obtain⟨jb,c4J⟩:=hA (n+1) 7 (by omega) (by omega) (by omega) aG (by have:=uT (L:=l.length) (i:=i) (i':=n+1) (k:=6) (k':=7) (by omega) aG;omega)
   refine SW.vk ?_;simp[c8H,List.replicate,hn1];refine aC.mk (hkl:=cO _ _) a0b c4J ?_;cases hr2:jF aH l f (n+1) 7 with
   |none=>rw[hr2]at ho;simp only at ho;subst ho;simp[gH]
   |some z=>
    obtain⟨b,m⟩:=z;rw[hr2]at ho;simp only at ho;subst ho;cases ex with
    |false=>simp[gH];refine aC.mk wH (xO op a b) ?_;simp
    |true=>simp[gH];refine aC.mk wH (xO op b a) ?_;simp
end
end Go.Proofs.YtmfbjecjccipfaaGreatDoor
end
section
namespace Go.Proofs.YtmfbjecjccipfaaGreatDoor
open Go Go.VM
variable {G:GT}
section
variable {l:List Tok} {f:Nat}
theorem e7k{L i k f:Nat}(h:mu L i k<=f+1)(hk:k+1<=10:=by omega):mu L i (k+1)<=f:=by have:=b9s (L:=L) (i:=i) (show k<k+1 by omega) hk;omega
theorem f4G(hl:a0M l)(hA:AtC G l f)(hC:CmC G l f)(hP:PrC G l f):AtC G l (f+1):=by
 have hll:=hl.1;intro i k h1 h9 h6 hi hf;obtain rfl|rfl|rfl|rfl|rfl|rfl|rfl|rfl:k=1\/k=2\/k=3\/k=4\/k=5\/k=7\/k=8\/k=9:=by omega
 .skip
  obtain⟨j,hc⟩:=a8u hl hA i 1 (by omega) hi hf;refine⟨j,?_⟩;have he:jF aH l (f+1) i 1=(jF aH l f i (1+1)).map λq=>eZ (jF aH l f) l 1 l.length q.1 q.2:=rfl;rw[he];refine CS.aY func176 rfl ntmps176 rfl ?_;simp;refine aC.mk (hkl:=cO _ _) a5j hc ?_;cases (jF aH l f i (1+1)).map λq=>eZ (jF aH l f) l 1 l.length q.1 q.2 with
  |none=>simp[gH]
  |some q=>obtain⟨p,n⟩:=q;simp[gH]
 .obtain⟨ja,hat⟩:=hA i 3 (by omega) (by omega) (by omega) hi (by unfold mu at hf|-;omega);refine⟨ja,?_⟩;obtain⟨o,ho⟩:∃o,b4j (jF aH l f) l i=o:=⟨_,rfl⟩;have he:jF aH l (f+1) i 2=o:=ho;rw[he];unfold b4j at ho;refine CS.aY func176 rfl ntmps176 rfl ?_;simp;refine aC.mk (hkl:=cO _ _) a0b hat ?_;cases hr:jF aH l f i 3 with
  |none=>rw[hr]at ho;subst ho;simp[gH]
  |some q=>
   obtain⟨a,n⟩:=q;have wF:=mT aH l f _ _ _ _ hr;rw[hr]at ho;simp only at ho;have hsg:=sM (G:=G) l n [61,62];simp[gH];refine aC.mk cE hsg ?_;cases hd:pM l n [61,62]with
   |false=>rw[if_neg (by simp[hd])]at ho;subst ho;simp[gH]
   |true=>
    rw[if_pos hd]at ho;have hnl:=oI hd;have hn1:=aX (show n<9223372036854775807 by omega);obtain⟨jb,c4J⟩:=hA (n+1) 2 (by omega) (by omega) (by omega) hnl (by have:=uT (L:=l.length) (i:=i) (i':=n+1) (k:=2) (k':=2) (by omega) hnl;omega)
    simp[hn1];refine aC.mk (hkl:=cO _ _) a0b c4J ?_;cases hr2:jF aH l f (n+1) 2 with
    |none=>rw[hr2]at ho;subst ho;simp[gH]
    |some z=>obtain⟨b,m⟩:=z;rw[hr2]at ho;subst ho;simp[gH];refine aC.mk wH (xO 17 a b) ?_;simp
 .skip
  obtain⟨j,hc⟩:=a8u hl hA i 3 (by omega) hi hf;refine⟨j,?_⟩;have he:jF aH l (f+1) i 3=(jF aH l f i (3+1)).map λq=>eZ (jF aH l f) l 3 l.length q.1 q.2:=rfl;rw[he];refine CS.aY func176 rfl ntmps176 rfl ?_;simp;refine aC.mk (hkl:=cO _ _) a5j hc ?_;cases (jF aH l f i (3+1)).map λq=>eZ (jF aH l f) l 3 l.length q.1 q.2 with
  |none=>simp[gH]
  |some q=>obtain⟨p,n⟩:=q;simp[gH]
 .skip
  obtain⟨j,hc⟩:=a8u hl hA i 4 (by omega) hi hf;refine⟨j,?_⟩;have he:jF aH l (f+1) i 4=(jF aH l f i (4+1)).map λq=>eZ (jF aH l f) l 4 l.length q.1 q.2:=rfl;rw[he];refine CS.aY func176 rfl ntmps176 rfl ?_;simp;refine aC.mk (hkl:=cO _ _) a5j hc ?_;cases (jF aH l f i (4+1)).map λq=>eZ (jF aH l f) l 4 l.length q.1 q.2 with
  |none=>simp[gH]
  |some q=>obtain⟨p,n⟩:=q;simp[gH]
 .skip
  have hsg:=sM (G:=G) l i [33];cases hd:pM l i [33]with
  |true=>
   have zC:=oI hd;have hi1:=aX (show i<9223372036854775807 by omega);obtain⟨ja,hat⟩:=hA (i+1) 5 (by omega) (by omega) (by omega) zC (by have:=uT (L:=l.length) (i:=i) (i':=i+1) (k:=5) (k':=5) (by omega) zC;omega)
   refine⟨⟨0,[],0,[]⟩,?_⟩;have he:jF aH l (f+1) i 5=(jF aH l f (i+1) 5).map λq=>((⟨14,[],0,[q.1]⟩:Pr),q.2):=by
    show(if pM l i [33]=true then _ else _)=_
    rw[if_pos hd]
   rw[he];rw[hd]at hsg;refine CS.aY func176 rfl ntmps176 rfl ?_;simp;refine aC.mk cE hsg ?_;simp[hi1];refine aC.mk (hkl:=cO _ _) a0b hat ?_;cases jF aH l f (i+1) 5 with
   |none=>simp[gH]
   |some q=>obtain⟨p,n⟩:=q;simp[gH,rg1,dE]
  |false=>
   obtain⟨j,hc⟩:=hC i hi (e7k hf);refine⟨j,?_⟩;have he:jF aH l (f+1) i 5=jF aH l f i (5+1):=by
    show(if pM l i [33]=true then _ else _)=_
    rw[if_neg (by simp[hd])]
   rw[he];rw[hd]at hsg;refine CS.aY func176 rfl ntmps176 rfl ?_;simp;refine aC.mk cE hsg ?_;simp;refine aC.mk (hkl:=cO _ _) (.mk func192 rfl) hc ?_;cases jF aH l f i (5+1)with
   |none=>simp[gH]
   |some q=>obtain⟨p,n⟩:=q;simp[gH]
 .skip
  obtain⟨j,hc⟩:=a8u hl hA i 7 (by omega) hi hf;refine⟨j,?_⟩;have he:jF aH l (f+1) i 7=(jF aH l f i (7+1)).map λq=>eZ (jF aH l f) l 7 l.length q.1 q.2:=rfl;rw[he];refine CS.aY func176 rfl ntmps176 rfl ?_;simp;refine aC.mk (hkl:=cO _ _) a5j hc ?_;cases (jF aH l f i (7+1)).map λq=>eZ (jF aH l f) l 7 l.length q.1 q.2 with
  |none=>simp[gH]
  |some q=>obtain⟨p,n⟩:=q;simp[gH]
 .skip
  obtain⟨j,hc⟩:=a8u hl hA i 8 (by omega) hi hf;refine⟨j,?_⟩;have he:jF aH l (f+1) i 8=(jF aH l f i (8+1)).map λq=>eZ (jF aH l f) l 8 l.length q.1 q.2:=rfl;rw[he];refine CS.aY func176 rfl ntmps176 rfl ?_;simp;refine aC.mk (hkl:=cO _ _) a5j hc ?_;cases (jF aH l f i (8+1)).map λq=>eZ (jF aH l f) l 8 l.length q.1 q.2 with
  |none=>simp[gH]
  |some q=>obtain⟨p,n⟩:=q;simp[gH]
 .skip
  have hsg:=sM (G:=G) l i [45];cases hd:pM l i [45]with
  |true=>
   have zC:=oI hd;have hi1:=aX (show i<9223372036854775807 by omega);obtain⟨ja,hat⟩:=hA (i+1) 9 (by omega) (by omega) (by omega) zC (by have:=uT (L:=l.length) (i:=i) (i':=i+1) (k:=9) (k':=9) (by omega) zC;omega)
   refine⟨⟨0,[],0,[]⟩,?_⟩;have he:jF aH l (f+1) i 9=(jF aH l f (i+1) 9).map λq=>((⟨9,[],0,[q.1]⟩:Pr),q.2):=by
    show(if pM l i [45]=true then _ else _)=_
    rw[if_pos hd]
   rw[he];rw[hd]at hsg;refine CS.aY func176 rfl ntmps176 rfl ?_;simp;refine aC.mk cE hsg ?_;simp[hi1];refine aC.mk (hkl:=cO _ _) a0b hat ?_;cases jF aH l f (i+1) 9 with
   |none=>simp[gH]
   |some q=>obtain⟨p,n⟩:=q;simp[gH,rg1,dE]
  |false=>
   obtain⟨j,hc⟩:=hP i hi (e7k hf);refine⟨j,?_⟩;have he:jF aH l (f+1) i 9=jF aH l f i (9+1):=by
    show(if pM l i [45]=true then _ else _)=_
    rw[if_neg (by simp[hd])]
   rw[he];rw[hd]at hsg;refine CS.aY func176 rfl ntmps176 rfl ?_;simp;refine aC.mk cE hsg ?_;simp;refine aC.mk (hkl:=cO _ _) (.mk func193 rfl) hc ?_;cases jF aH l f i (9+1)with
   |none=>simp[gH]
   |some q=>obtain⟨p,n⟩:=q;simp[gH]
end
end Go.Proofs.YtmfbjecjccipfaaGreatDoor
end
section
namespace Go.Proofs.YtmfbjecjccipfaaGreatDoor
open Go Go.VM
variable {G:GT}
section
variable {l:List Tok} {f:Nat}
def b1l(rd:Nat->Nat->Option (Pr×Nat))(l:List Tok)(i:Nat):Option (Pr×Nat):=match wR aH l i with
 |none=>none
 |some (s,n)=>(match uS rd l n with
  |some (ks,m)=>some (⟨4,s,0,ks⟩,m)
  |none=>some (⟨3,s,0,[]⟩,n))
theorem a9s{L i n f:Nat}(hf:mu L i 10<=f+1)(hn:i<n)(hl:n<=L):(L-n)*12+10<=f:=by unfold mu at hf;omega
theorem d5m(hG:G 1=some gD)(hl:a0M l)(hA:AtC G l f)(i:Nat)(hi:i<=l.length)(hf:mu l.length i 10<=f+1):
  CS prog G 216 [rdD l,.int .i64 i] (gH (b1l (jF aH l f) l i) ⟨0,[],0,[]⟩) none:=by
 have hll:=hl.1;have hnm:=c8D (G:=G) hG l i hl hi;obtain⟨o,ho⟩:∃o,b1l (jF aH l f) l i=o:=⟨_,rfl⟩;rw[ho];unfold b1l at ho;refine CS.aY func216 rfl ntmps216 rfl ?_;simp;refine aC.mk (hkl:=a2n _) a9r hnm ?_;cases hn:wR aH l i with
 |none=>rw[hn]at ho;subst ho;simp[b4l,gH]
 |some q=>
  obtain⟨s,n⟩:=q;have wF:=sL hn;rw[hn]at ho;simp only at ho;have hli:=c8G (G:=G) hl hA n (a9s hf wF.1 wF.2);simp[b4l];refine aC.mk (hkl:=a6j _) (.mk func215 rfl) hli ?_;cases hL:uS (jF aH l f) l n with
  |none=>rw[hL]at ho;subst ho;simp[c0W,gH]
  |some z=>obtain⟨ks,m⟩:=z;rw[hL]at ho;subst ho;simp[c0W,gH]
theorem d1v(hG:G 1=some gD)(hl:a0M l)(hA:AtC G l f):PrC G l (f+1):=by
 have hll:=hl.1;intro i hi hf;obtain⟨o,ho⟩:∃o,zX aH (jF aH l f) l i=o:=⟨_,rfl⟩;have he:jF aH l (f+1) i 10=o:=ho;rw[he];unfold zX at ho;by_cases aG:i<l.length;rotate_left
 .rw[g3X (by omega)]at ho;subst ho;have hge:l.length<=i:=g3Z aG;refine⟨⟨0,[],0,[]⟩,?_⟩;refine CS.aY func193 rfl ntmps193 rfl ?_;simp[hge,gH]
 have hge:¬l.length<=i:=by omega
 rw[g3u aG]at ho;obtain⟨t,ht⟩:∃t,l[i]=t:=⟨_,rfl⟩;rw[ht]at ho;simp only at ho;have hi1:=aX (show i<9223372036854775807 by omega);have hi2:IntKind.i64.wrap ((i:Int)+2)=((i+2:Nat):Int):=by rw[wrap64 (by omega)];simp
 have hi3:IntKind.i64.wrap ((i:Int)+3)=((i+3:Nat):Int):=by rw[wrap64 (by omega)];simp
 have hi4:IntKind.i64.wrap ((i:Int)+4)=((i+4:Nat):Int):=by rw[wrap64 (by omega)];simp
 by_cases k3:t.kind=3
 .rw[if_pos k3]at ho;subst ho;refine⟨⟨0,[],0,[]⟩,?_⟩;refine CS.aY func193 rfl ntmps193 rfl ?_;simp[hge,aG,ht,bL];simp[k3,hi1,gH]
 rw[if_neg k3]at ho;by_cases kt:t.kind=1/\t.text=[116,114,117,101]
 .rw[if_pos kt]at ho;subst ho;refine⟨⟨0,[],0,[]⟩,?_⟩;refine CS.aY func193 rfl ntmps193 rfl ?_;simp[hge,aG,ht,bL];simp[kt.1,kt.2,hi1,gH]
 rw[if_neg kt]at ho;by_cases kf:t.kind=1/\t.text=[102,97,108,115,101]
 .rw[if_pos kf]at ho;subst ho;refine⟨⟨0,[],0,[]⟩,?_⟩;refine CS.aY func193 rfl ntmps193 rfl ?_;simp[hge,aG,ht,bL];simp[kf.1,kf.2,hi1,gH]
 rw[if_neg kf]at ho;have hk:t.kind=1-> ¬t.text=[116,114,117,101]/\ ¬t.text=[102,97,108,115,101]:=λh=>⟨λe=>kt ⟨h,e⟩,λe=>kf ⟨h,e⟩⟩;have hsq:=sM (G:=G) l i [63];have hsp:=sM (G:=G) l i [40];cases hq:pM l i [63]with
 |true=>
  rw[if_pos hq]at ho;rw[hq]at hsq;have hnm:=c8D (G:=G) hG l (i+1) hl aG;cases hn:wR aH l (i+1)with
  |none=>
   rw[hn]at ho hnm;subst ho;refine⟨⟨0,[],0,[]⟩,?_⟩;refine CS.aY func193 rfl ntmps193 rfl ?_;simp[hge,aG,ht,bL];simp[k3];rcases Classical.em (t.kind=1)with k1|k1
   case' inl=>simp[k1,(hk k1).1,(hk k1).2]
   case' inr=>simp[k1]
   all_goals
    refine aC.mk cE hsq ?_;simp[hi1];refine aC.mk (hkl:=a2n _) a9r hnm ?_;simp[b4l,gH]
  |some q=>
   obtain⟨s,n⟩:=q;have wF:=sL hn;rw[hn]at ho hnm;simp only at ho;have hli:=c8G (G:=G) hl hA n (a9s hf (by omega) wF.2);cases hL:uS (jF aH l f) l n with
   |none=>
    rw[hL]at ho hli;subst ho;refine⟨⟨5,s,0,[]⟩,?_⟩;refine CS.aY func193 rfl ntmps193 rfl ?_;simp[hge,aG,ht,bL];simp[k3];rcases Classical.em (t.kind=1)with k1|k1
    case' inl=>simp[k1,(hk k1).1,(hk k1).2]
    case' inr=>simp[k1]
    all_goals
     refine aC.mk cE hsq ?_;simp[hi1];refine aC.mk (hkl:=a2n _) a9r hnm ?_;simp[b4l];refine aC.mk (hkl:=a6j _) (.mk func215 rfl) hli ?_;simp[c0W,gH]
   |some z=>
    obtain⟨ks,m⟩:=z;rw[hL]at ho hli;subst ho;refine⟨⟨0,[],0,[]⟩,?_⟩;refine CS.aY func193 rfl ntmps193 rfl ?_;simp[hge,aG,ht,bL];simp[k3];rcases Classical.em (t.kind=1)with k1|k1
    case' inl=>simp[k1,(hk k1).1,(hk k1).2]
    case' inr=>simp[k1]
    all_goals
     refine aC.mk cE hsq ?_;simp[hi1];refine aC.mk (hkl:=a2n _) a9r hnm ?_;simp[b4l];refine aC.mk (hkl:=a6j _) (.mk func215 rfl) hli ?_;simp[c0W,gH]
 |false=>
 rw[if_neg (by simp[hq])]at ho;rw[hq]at hsq;cases hp:pM l i [40]with
 |false=>
  rw[if_neg (by simp[hp])]at ho;rw[hp]at hsp;have hnd:=d5m hG hl hA i hi hf;have hx:b1l (jF aH l f) l i=o:=ho;rw[hx]at hnd;refine⟨⟨0,[],0,[]⟩,?_⟩;refine CS.aY func193 rfl ntmps193 rfl ?_;simp[hge,aG,ht,bL];simp[k3];rcases Classical.em (t.kind=1)with k1|k1
  case' inl=>simp[k1,(hk k1).1,(hk k1).2]
  case' inr=>simp[k1]
  all_goals
   refine aC.mk cE hsq ?_;simp;refine aC.mk cE hsp ?_;simp;refine aC.mk (hkl:=cO _ _) (.mk func216 rfl) hnd ?_;cases o with
   |none=>simp[gH]
   |some q=>obtain⟨p,n⟩:=q;simp[gH]
 |true=>
 rw[if_pos hp]at ho;rw[hp]at hsp;have hsm:=sM (G:=G) l (i+1) [45];have hsc:=sM (G:=G) l (i+3) [41];by_cases a5J:pM l (i+1) [45]=true/\kdB l (i+2) 3=true/\pM l (i+3) [41]=true
 .rw[if_pos a5J]at ho;subst ho;obtain⟨n1,n2,n3⟩:=a5J;have h2:=b9o n2;rw[b1i h2]at n2;rw[d9h h2];obtain⟨u,hu⟩:∃u,l[i+2]=u:=⟨_,rfl⟩;rw[hu]at n2|-;have ku:u.kind=3:=of_decide_eq_true n2;rw[n1]at hsm;rw[n3]at hsc;have h2':(i:Int)+2<(l.length:Int):=by omega
  have hnn:(0:Int)<=(i:Int)+2:=by omega
  have htn:((i:Int)+2).toNat=i+2:=by omega
  refine⟨⟨0,[],0,[]⟩,?_⟩;refine CS.aY func193 rfl ntmps193 rfl ?_;simp[hge,aG,ht,bL];simp[k3];rcases Classical.em (t.kind=1)with k1|k1
  case' inl=>simp[k1,(hk k1).1,(hk k1).2]
  case' inr=>simp[k1]
  all_goals
   refine aC.mk cE hsq ?_;simp;refine aC.mk cE hsp ?_;simp[hi1];refine aC.mk cE hsm ?_;simp[hi2,h2,h2',hnn,htn,hu,ku,bL,hi3];refine aC.mk cE hsc ?_;simp[hi2,h2,h2',hnn,htn,hu,ku,bL,hi4,gH]
 .rw[if_neg a5J]at ho;obtain⟨jp,hat⟩:=hA (i+1) 1 (by omega) (by omega) (by omega) aG (by have:=uT (L:=l.length) (i:=i) (i':=i+1) (k:=10) (k':=1) (by omega) aG;omega)
  refine⟨⟨0,[],0,[]⟩,?_⟩;have tail:∀n:Nat,CS prog G 190 [rdD l,.int .i64 n,.str [41]] (.d (.bool (pM l n [41]))) none:=λn=>sM (G:=G) l n [41];cases n1:pM l (i+1) [45]with
  |false=>
   rw[n1]at hsm;refine CS.aY func193 rfl ntmps193 rfl ?_;simp[hge,aG,ht,bL];simp[k3];rcases Classical.em (t.kind=1)with k1|k1
   case' inl=>simp[k1,(hk k1).1,(hk k1).2]
   case' inr=>simp[k1]
   all_goals
    refine aC.mk cE hsq ?_;simp;refine aC.mk cE hsp ?_;simp[hi1];refine aC.mk cE hsm ?_;simp[hi1];refine aC.mk (hkl:=cO _ _) a0b hat ?_;cases hr:jF aH l f (i+1) 1 with
    |none=>rw[hr]at ho;subst ho;simp[gH]
    |some q=>
     obtain⟨p,n⟩:=q;have wF:=mT aH l f _ _ _ _ hr;have sS:=tail n;rw[hr]at ho;simp only at ho;simp[gH];refine aC.mk cE sS ?_;cases hc:pM l n [41]with
     |false=>rw[if_neg (by simp[hc])]at ho;subst ho;simp[gH]
     |true=>rw[if_pos hc]at ho;subst ho;have hn1:=aX (show n<9223372036854775807 by omega);simp[hn1,gH]
  |true=>
  rw[n1]at hsm;have hnn:(0:Int)<=(i:Int)+2:=by omega
  have htn:((i:Int)+2).toNat=i+2:=by omega
  by_cases h2:i+2<l.length;rotate_left
  .have h2':¬(i:Int)+2<(l.length:Int):=by omega
   refine CS.aY func193 rfl ntmps193 rfl ?_;simp[hge,aG,ht,bL];simp[k3];rcases Classical.em (t.kind=1)with k1|k1
   case' inl=>simp[k1,(hk k1).1,(hk k1).2]
   case' inr=>simp[k1]
   all_goals
    refine aC.mk cE hsq ?_;simp;refine aC.mk cE hsp ?_;simp[hi1];refine aC.mk cE hsm ?_;simp[hi1,hi2,h2'];refine aC.mk (hkl:=cO _ _) a0b hat ?_;cases hr:jF aH l f (i+1) 1 with
    |none=>rw[hr]at ho;subst ho;simp[gH]
    |some q=>
     obtain⟨p,n⟩:=q;have wF:=mT aH l f _ _ _ _ hr;have sS:=tail n;rw[hr]at ho;simp only at ho;simp[gH];refine aC.mk cE sS ?_;cases hc:pM l n [41]with
     |false=>rw[if_neg (by simp[hc])]at ho;subst ho;simp[gH]
     |true=>rw[if_pos hc]at ho;subst ho;have hn1:=aX (show n<9223372036854775807 by omega);simp[hn1,gH]
  have h2':(i:Int)+2<(l.length:Int):=by omega
  obtain⟨u,hu⟩:∃u,l[i+2]=u:=⟨_,rfl⟩;by_cases ku:u.kind=3;rotate_left
  .skip
   refine CS.aY func193 rfl ntmps193 rfl ?_;simp[hge,aG,ht,bL];simp[k3];rcases Classical.em (t.kind=1)with k1|k1
   case' inl=>simp[k1,(hk k1).1,(hk k1).2]
   case' inr=>simp[k1]
   all_goals
    refine aC.mk cE hsq ?_;simp;refine aC.mk cE hsp ?_;simp[hi1];refine aC.mk cE hsm ?_;simp[hi1,hi2,h2,h2',hnn,htn,hu,ku,bL];refine aC.mk (hkl:=cO _ _) a0b hat ?_;cases hr:jF aH l f (i+1) 1 with
    |none=>rw[hr]at ho;subst ho;simp[gH]
    |some q=>
     obtain⟨p,n⟩:=q;have wF:=mT aH l f _ _ _ _ hr;have sS:=tail n;rw[hr]at ho;simp only at ho;simp[gH];refine aC.mk cE sS ?_;cases hc:pM l n [41]with
     |false=>rw[if_neg (by simp[hc])]at ho;subst ho;simp[gH]
     |true=>rw[if_pos hc]at ho;subst ho;have hn1:=aX (show n<9223372036854775807 by omega);simp[hn1,gH]
  have n3:pM l (i+3) [41]=false:=by
   cases n3:pM l (i+3) [41]with
   |false=>rfl
   |true=>exact absurd ⟨n1,by rw[b1i h2,hu];simp[ku],n3⟩ a5J
  rw[n3]at hsc;refine CS.aY func193 rfl ntmps193 rfl ?_;simp[hge,aG,ht,bL];simp[k3];rcases Classical.em (t.kind=1)with k1|k1
  case' inl=>simp[k1,(hk k1).1,(hk k1).2]
  case' inr=>simp[k1]
  all_goals
   refine aC.mk cE hsq ?_;simp;refine aC.mk cE hsp ?_;simp[hi1];refine aC.mk cE hsm ?_;simp[hi2,h2,h2',hnn,htn,hu,ku,bL,hi3];refine aC.mk cE hsc ?_;simp[hi1];refine aC.mk (hkl:=cO _ _) a0b hat ?_;cases hr:jF aH l f (i+1) 1 with
   |none=>rw[hr]at ho;subst ho;simp[gH]
   |some q=>
    obtain⟨p,n⟩:=q;have wF:=mT aH l f _ _ _ _ hr;have sS:=tail n;rw[hr]at ho;simp only at ho;simp[gH];refine aC.mk cE sS ?_;cases hc:pM l n [41]with
    |false=>rw[if_neg (by simp[hc])]at ho;subst ho;simp[gH]
    |true=>rw[if_pos hc]at ho;subst ho;have hn1:=aX (show n<9223372036854775807 by omega);simp[hn1,gH]
end
end Go.Proofs.YtmfbjecjccipfaaGreatDoor
end
section
namespace Go.Proofs.YtmfbjecjccipfaaGreatDoor
def Nod(rd:Nat->Nat->Option (Pr×Nat)):Prop:=∀i k p n,rd i k=some (p,n)->bN p+i<=n
theorem d1w(op:Int)(a b:Pr):bN (tw op a b)=bN a+bN b+1:=by simp[tw,bN,eJ];omega
theorem d2L(op:Int)(a:Pr):bN ⟨op,[],0,[a]⟩=bN a+1:=by simp[bN,eJ];omega
theorem a8v(op:Int)(s:List UInt8)(n:Int):bN ⟨op,s,n,[]⟩=1:=by simp[bN,eJ]
theorem d2M(op:Int)(s:List UInt8)(ks:List Pr):bN ⟨op,s,0,ks⟩=eJ ks+1:=by simp[bN];omega
section
variable {kw:List UInt8->Bool} {rd:Nat->Nat->Option (Pr×Nat)} {l:List Tok}
theorem c2G(h:Nod rd)(k:Nat):∀(g:Nat)(a:Pr)(n i:Nat),bN a+i<=n->bN (eZ rd l k g a n).1+i<=(eZ rd l k g a n).2
 |0,a,n,i,hn=>hn
 |g+1,a,n,i,hn=>by
  rw[eZ];split
  .exact hn
  .split
   .exact hn
   .rename_i op _ _ b m hr;have h1:=h _ _ _ _ hr;exact c2G h k g (tw op a b) m i (by rw[d1w];omega)
theorem c8K(h:Nod rd):∀(g i:Nat)(acc ks:List Pr)(m b:Nat),eJ acc+b<=i->qG rd l g i acc=some (ks,m)->eJ ks+b+1<=m
 |0,_,_,_,_,_,_,hr=>by cases hr
 |g+1,i,acc,ks,m,b,hb,hr=>by
  rw[qG]at hr;split at hr
  .cases hr
  .rename_i p n hp;have h1:=h _ _ _ _ hp;have h2:eJ (acc++[p])=eJ acc+bN p:=by rw[b3K];simp[eJ]
   split at hr
   .cases hr;omega
   .split at hr
    .exact c8K h g n _ ks m b (by omega) hr
    .cases hr
variable{i n:Nat}
theorem c8L(h:Nod rd){m:Nat}{ks:List Pr}(hr:uS rd l i=some (ks,m)):eJ ks+i+1<=m:=by
 unfold uS at hr;split at hr
 .exact c8K h _ _ _ _ _ _ (by simp[eJ]) hr
 .cases hr
variable{p:Pr}
theorem d9q(h:Nod rd)(hr:zX kw rd l i=some (p,n)):bN p+i<=n:=by
 unfold zX at hr;split at hr
 .cases hr
 .split at hr
  .cases hr;rw[a8v];omega
  split at hr
  .cases hr;rw[a8v];omega
  split at hr
  .cases hr;rw[a8v];omega
  split at hr
  .split at hr
   .cases hr
   .rename_i s m hn;have h1:=sL hn;rw[g3p]at hr;obtain⟨⟨ks,q⟩,hq,he⟩:=hr;have h2:=c8L h hq;cases he;rw[d2M];simp only at *;omega
  split at hr
  .split at hr
   .cases hr;rw[a8v];omega
   .split at hr
    .cases hr
    .rename_i q m hq;have h1:=h _ _ _ _ hq;split at hr
     .cases hr;omega
     .cases hr
  .split at hr
   .cases hr
   .rename_i s m hn;have h1:=sL hn;split at hr
    .rename_i ks q hq;have h2:=c8L h hq;cases hr;rw[d2M];omega
    .cases hr;rw[a8v];omega
theorem f0x(h:Nod rd){k:Nat}(hr:atG kw rd l i k=some (p,n)):bN p+i<=n:=by
 unfold atG at hr;split at hr
 .unfold b4j at hr;split at hr
  .cases hr
  .rename_i a m ha;have h1:=h _ _ _ _ ha;split at hr
   .split at hr
    .rename_i b q hb;have h2:=h _ _ _ _ hb;cases hr;rw[d1w];omega
    .cases hr;exact h1
   .cases hr;exact h1
 .split at hr
  .rw[g3p]at hr;obtain⟨⟨a,m⟩,ha,he⟩:=hr;have h1:=h _ _ _ _ ha;cases he;rw[d2L];simp only;omega
  .exact h _ _ _ _ hr
 .unfold a9w at hr;split at hr
  .cases hr
  .rename_i a m ha;have h1:=h _ _ _ _ ha;split at hr
   .cases hr;exact h1
   .split at hr
    .cases hr;exact h1
    .rename_i b q hb;have h2:=h _ _ _ _ hb;cases hr;split<;>rw[d1w]<;>omega
 .split at hr
  .rw[g3p]at hr;obtain⟨⟨a,m⟩,ha,he⟩:=hr;have h1:=h _ _ _ _ ha;cases he;rw[d2L];simp only;omega
  .exact h _ _ _ _ hr
 .exact d9q h hr
 .rw[g3p]at hr;obtain⟨⟨a,m⟩,ha,he⟩:=hr;have h1:=h _ _ _ _ ha;have h2:=c2G (l:=l) h k l.length a m i h1;simp only at he;rw[he]at h2;exact h2
end
theorem c4L(kw:List UInt8->Bool)(l:List Tok):∀f,Nod (jF kw l f)
 |0=>λ_ _ _ _ h=>by cases h
 |f+1=>λ_ _ _ _ h=>f0x (c4L kw l f) h
end Go.Proofs.YtmfbjecjccipfaaGreatDoor
end
section
namespace Go.Proofs.YtmfbjecjccipfaaGreatDoor
theorem d9r(s:List UInt8):(vG s).length<=s.length:=by
 unfold vG;cases h:dD.find? λt=>t.isPrefixOf s with
 |none=>simp
 |some t=>have h1:t.isPrefixOf s=true:=List.find?_some (p:=λt:List UInt8=>t.isPrefixOf s) h;exact(List.isPrefixOf_iff_prefix.1 h1).length_le
theorem d5n(num:List UInt8->Int×Bool)(c:UInt8)(r:List UInt8):(firstT num (c::r)).2.1.length<=r.length+1:=by
 have h1:∀p:UInt8->Bool,((c::r).takeWhile p).length<=r.length+1:=λp=>(List.takeWhile_sublist p).length_le;have h2:(vG (c::r)).length<=r.length+1:=d9r (c::r)
 show(if smU c then _ else _:Int×List UInt8×Int×Bool).2.1.length<=_
 split
 .exact h1 _
 split
 .exact h1 _
 split
 .exact h1 _
 split
 .simp
 .exact h2
theorem yF(num:List UInt8->Int×Bool):∀(s:List UInt8)(k:Nat)(ln:Int)(cm:Bool)(l:List Tok),oV num s k ln cm=.ok l->1<=l.length/\l.length<=s.length+1/\txS l<=2*(s.length-k)+1
 |[],k,ln,cm,l,h=>by cases k<;>(simp[oV]at h;subst h;simp[txS])
 |c::r,k+1,ln,cm,l,h=>by rw[oV]at h;obtain⟨h1,h2,h3⟩:=yF num r k ln cm l h;simp only[List.length_cons];omega
 |c::r,0,ln,cm,l,h=>by
  rw[oV]at h;simp only[List.length_cons];split at h
  .obtain⟨h1,h2,h3⟩:=yF num r 0 (ln+1) false l h;omega
  split at h
  .obtain⟨h1,h2,h3⟩:=yF num r 0 ln cm l h;omega
  split at h
  .obtain⟨h1,h2,h3⟩:=yF num r 0 ln true l h;omega
  split at h
  .generalize hT:(firstT num (c::r)).2.1=T at h;split at h
   .rename_i l' hl';obtain⟨h1,h2,h3⟩:=yF num r (T.length-1) ln false l' hl';cases h;have hTl:T.length<=r.length+1:=by rw[<-hT];exact d5n num c r
    simp only[List.length_cons,txS];omega
   .cases h
  .cases h
end Go.Proofs.YtmfbjecjccipfaaGreatDoor
end
section
namespace Go.Proofs.YtmfbjecjccipfaaGreatDoor
open Go Go.VM
variable {G:GT}
theorem b9x(hG:G 1=some gD){l:List Tok}(hl:a0M l):∀f,AtC G l f/\CmC G l f/\PrC G l f
 |0=>⟨λi k _ h9 _ hi h=>by unfold mu at h;omega,λi hi h=>by unfold mu at h;omega,λi hi h=>by unfold mu at h;omega⟩
 |f+1=>by obtain⟨hA,hC,hP⟩:=b9x hG hl f;exact⟨f4G hl hA hC hP,λi hi h=>c8I hl hA i hi h,d1v hG hl hA⟩
def a6J(l:List Tok):Option (Pr×Nat):=jF aH l (mu l.length 0 1) 0 1
variable{l:List Tok}
theorem f0y(hG:G 1=some gD)(hl:a0M l):∃j,CS prog G 176 [rdD l,.int .i64 0,.int .i64 1] (gH (a6J l) j) none:=
 (b9x hG hl _).1 0 1 (by omega) (by omega) (by omega) (by omega) (g3G _)
theorem a5k{p:Pr}{n:Nat}(h:a6J l=some (p,n)):0<n/\n<=l.length:=mT aH l _ _ _ _ _ h
def b5E(l:List Tok):DV:=match a6J l with
 |none=>.cX [.agg (prD ⟨0,[],0,[]⟩),.int .i64 0,.int .i64 14]
 |some (p,n)=>if a8f p=0 then .cX [.agg (prD p),.int .i64 n,.int .i64 0] else .cX [.agg (prD ⟨0,[],0,[]⟩),.int .i64 0,.int .i64 (a8f p)]
theorem b4n(hG:G 1=some gD)(l:List Tok)(hl:a0M l)(hn:∀p n,a6J l=some (p,n)->bN p<=1000000):CS prog G 157 [.sl (l.map bL)] (b5E l) none:=by
 obtain⟨j,hat⟩:=f0y hG hl;obtain⟨o,ho⟩:∃o,a6J l=o:=⟨_,rfl⟩;rw[ho]at hat hn;unfold b5E;rw[ho];refine CS.aY func157 rfl ntmps157 rfl ?_;simp;refine aC.mk (hkl:=cO _ _) a0b hat ?_;cases o with
 |none=>simp[gH]
 |some q=>
  obtain⟨p,n⟩:=q;have hck:=c0C hG p (hn p n rfl);simp[gH];refine aC.mk (.mk func177 rfl) hck ?_;by_cases h0:a8f p=0
  .simp[h0]
  .simp[h0]
end Go.Proofs.YtmfbjecjccipfaaGreatDoor
end
section
namespace Go.Proofs.YtmfbjecjccipfaaGreatDoor
open Go Go.VM
variable {G:GT}
variable{l:List Tok}
theorem c8M{s:List UInt8}(h:oV kN s 0 1 false=.ok l)(hs:s.length<=40000):a0M l/\1<=l.length:=by obtain⟨h1,h2,h3⟩:=yF kN s 0 1 false l h;exact⟨⟨by omega,by omega⟩,h1⟩
theorem b4o{p:Pr}{n:Nat}(h:a6J l=some (p,n)):bN p<=l.length:=by have h1:=c4L aH l _ _ _ _ _ h;have h2:=a5k h;omega
end Go.Proofs.YtmfbjecjccipfaaGreatDoor
end
end
namespace Go.Proofs.YtmfbjecjccipfaaGreatDoor
section
def rdQ(l:List Tok)(i e:Nat):gO Pr:=match a6J ((l.take e).drop (min i e))with
 |none=>.bad (aJ l i).line 14
 |some (p,n)=>if a8f p=0 then .ok p (i+n) else .bad (aJ l i).line (a8f p)
theorem d2N{num:List UInt8->Int×Bool}{l:List Tok}{ln:Int}(h:OkT num l ln):∀t∈l,TkW t/\(t.kind≠4->b1g t=0):=by
 induction h with
 |fin ln l hl=>intro t ht;simp at ht;subst ht;exact⟨.inl rfl,λ_=>by simp[b1g]⟩
 |cons t r ln h1 h2 h3 ih=>
  intro u hu;rcases g3N.1 hu with rfl|hu
  .obtain⟨k,x,n,ln'⟩:=u;simp only at h2;cases x with
   |nil=>simp[firstT]at h2
   |cons c s=>
    have hp:(smU c=true\/caU c=true\/dgU c=true)->b1g ⟨k,c::s,n,ln'⟩=0:=λh=>by
     have h40:c≠40/\c≠41:=by
      constructor
      .rintro rfl
       revert h
       decide
      .rintro rfl
       revert h
       decide
     simp[b1g,h40.1,h40.2]
    simp only[firstT]at h2;split at h2
    .rename_i a1;simp only[Prod.mk.injEq]at h2;exact⟨.inr (.inr (.inl ⟨h2.1.symm,a1⟩)),λ_=>hp (.inl a1)⟩
    .rename_i a1;split at h2
     .rename_i a2;simp only[Prod.mk.injEq]at h2;exact⟨.inr (.inr (.inr (.inl ⟨h2.1.symm,a2⟩))),λ_=>hp (.inr (.inl a2))⟩
     .rename_i a2;split at h2
      .rename_i a3;simp only[Prod.mk.injEq]at h2;exact⟨.inr (.inl h2.1.symm),λ_=>hp (.inr (.inr a3))⟩
      .split at h2
       .simp at h2
       .simp only[Prod.mk.injEq]at h2;exact⟨.inr (.inr (.inr (.inr ⟨h2.1.symm,Bool.eq_false_iff.2 a1,Bool.eq_false_iff.2 a2⟩))),λhk=>absurd h2.1.symm hk⟩
  .exact ih u hu
section
variable {l:List Tok}
theorem d2O:∀(g:Nat)(d:Int)(i:Nat),i<=l.length->i<=kC l g d i/\kC l g d i<=l.length
 |0,d,i,h=>⟨h,g3G _⟩
 |g+1,d,i,h=>by
  unfold kC;split
  .rename_i hi;have h1:=λd=>d2O g d (i+1) hi
   repeat' split
   .have:=h1 (d+1);omega
   .have:=h1 (d-1);omega
   .omega
   .have:=h1 d;omega
  .omega
theorem b3a:∀(g g':Nat)(d:Int)(i:Nat),l.length<g+i->l.length<g'+i->kC l g d i=kC l g' d i
 |0,0,d,i,_,_=>rfl
 |0,g'+1,d,i,h,_=>by unfold kC;rw[if_neg (by omega)]
 |g+1,0,d,i,_,h=>by
  show kC l (g+1) d i=l.length
  unfold kC;rw[if_neg (by omega)]
 |g+1,g'+1,d,i,h,h'=>by unfold kC;rw[b3a g g' (d+1) (i+1) (by omega) (by omega),b3a g g' (d-1) (i+1) (by omega) (by omega),b3a g g' d (i+1) (by omega) (by omega)]
theorem d9s(g:Nat)(d:Int)(i:Nat):kC l (g+1) d i=if i<l.length then(if cQ (aJ l i) [40] then kC l g (d+1) (i+1) else if cQ (aJ l i) [41] then kC l g (d-1) (i+1) else if cQ (aJ l i) [61]&&decide (d<=0) then i else kC l g d (i+1)) else l.length:=rfl
variable (hW:WfD l)
include hW
theorem e4K{i:Nat}(hi:i<l.length):a3z l i=if cQ (aJ l i) [40] then 1 else if cQ (aJ l i) [41] then -1 else 0:=by
 have hg:l[i]? =some (aJ l i):=by
  unfold aJ;rw[if_pos hi,g4s,g3u hi]
  rfl
 have h:=hW i _ hg;unfold a3z;rw[hg];generalize aJ l i=t at h|-;simp only;by_cases h4:t.kind=4
 .simp[b1g,cQ,h4]
 .have hp:=h h4;have h40:t.text≠[40]:=λe=>by simp[b1g,e]at hp
  have h41:t.text≠[41]:=λe=>by simp[b1g,e]at hp
  simp[cQ,h40,h41,hp]
theorem b3b:∀(n g:Nat)(d:Int)(i:Nat),i+n<=kC l g d i->i+n<=l.length->n<=g->kC l g d i=kC l (g-n) (d+par l i (i+n)) (i+n)
 |0,g,d,i,_,_,_=>by rw[Nat.add_zero,zY,Int.add_zero,Nat.sub_zero]
 |n+1,g,d,i,h,hl,hg=>by
  obtain⟨g,rfl⟩:∃k,g=k+1:=⟨g-1,by omega⟩;have hi:i<l.length:=by omega
  have e1:par l i (i+(n+1))=a3z l i+par l (i+1) (i+1+n):=by rw[mU,show i+1+n=i+(n+1) by omega]
  rw[e1,e4K hW hi,show g+1-(n+1)=g-n by omega,show i+(n+1)=i+1+n by omega];rw[d9s g d i,if_pos hi]at h|-;by_cases p1:cQ (aJ l i) [40]=true
  .rw[if_pos p1]at h|-;rw[b3b n g (d+1) (i+1) (by omega) (by omega) (by omega),if_pos p1,Int.add_assoc]
  rw[if_neg p1]at h|-;by_cases p2:cQ (aJ l i) [41]=true
  .rw[if_pos p2]at h|-;rw[b3b n g (d-1) (i+1) (by omega) (by omega) (by omega),if_neg p1,if_pos p2, <- Int.add_assoc]
   rfl
  rw[if_neg p2]at h|-;by_cases p3:(cQ (aJ l i) [61]&&decide (d<=0))=true
  .rw[if_pos p3]at h;omega
  rw[if_neg p3]at h|-;rw[b3b n g d (i+1) (by omega) (by omega) (by omega),if_neg p1,if_neg p2,Int.zero_add]
theorem e4L(i:Nat)(p:Pr)(k:Nat)(hi:i<l.length)(h:rdQ l i (kC l (l.length+1) 0 i)=.ok p k)(hk:k<l.length)(hs:cQ (aJ l k) [44]=true):kC l (l.length+1) 0 (k+1)=kC l (l.length+1) 0 i:=by
 have hge:=d2O (l:=l) (l.length+1) 0 i (by omega);obtain⟨e,he⟩:∃e,kC l (l.length+1) 0 i=e:=⟨_,rfl⟩;rw[he]at h hge|-;unfold rdQ at h;rw[show min i e=i by omega]at h;split at h
 .cases h
 .rename_i q n hr;split at h
  .cases h;have ha:=a5k hr;have hll:((l.take e).drop i).length<=e-i:=by simp;omega
   have hb:=d2K aH (hW.part e i) _ _ _ _ _ hr;rw[d9g l e i n]at hb;have h1:=b3b hW n (l.length+1) 0 i (by rw[he];omega) (by omega) (by omega);rw[he,hb]at h1;rw[h1];obtain⟨g,hg⟩:∃g,l.length+1-n=g+1:=⟨l.length-n,by omega⟩;rw[hg]
   conv=>rhs;rw[d9s]
   have gJ:∀x:List UInt8,x≠[44]->cQ (aJ l (i+n)) x=false:=λx hx=>by unfold cQ at hs|-;simp only[g3q,g4e]at hs;rw[hs.2];simp[show ¬ [44]=x from λe=>hx e.symm]
   rw[if_pos hk,gJ [40] (by decide),gJ [41] (by decide),gJ [61] (by decide)];simp only[g3K,if_false,Bool.false_and];exact b3a _ _ _ _ (by omega) (by omega)
  .cases h
end
end
section
open Go Go.VM
variable {G:GT}
theorem b9y(a b:List Tok):txS (a++b)=txS a+txS b:=by
 induction a with
 |nil=>simp[txS]
 |cons t r ih=>simp only[List.cons_append,txS,ih];omega
variable{l:List Tok}
theorem c8N(h:a0M l)(e k:Nat):a0M ((l.take e).drop k):=by have h1:=b9y (l.take e) (l.drop e);rw[g4d]at h1;have h2:=b9y ((l.take e).take k) ((l.take e).drop k);rw[g4d]at h2;refine⟨?_,by have:=h.2;omega⟩;have:=h.1;simp;omega
theorem b0h(l:List Tok):qN (b5E l)=true:=by
 unfold b5E;split
 .rfl
 .split<;>rfl
theorem c4M(hG:G 1=some gD)(pG:a0M l)(i e:Nat)(hi:i<l.length)(he:e<=l.length):tR G 116 [.int .i64 e] l i (rdQ l i e) d4n:=by
 have hl:=pG.1;obtain⟨k,hk⟩:∃k,min i e=k:=⟨_,rfl⟩;have hke:k<=e:=by omega
 have a5x:min (i:Int) (e:Int)=(k:Int):=by omega
 obtain⟨L,hL⟩:∃L,(l.take e).drop k=L:=⟨_,rfl⟩;have d9t:a0M L:=by rw[<-hL];exact c8N pG e k
 have hrd:=b4n (G:=G) hG L d9t (λp n h=>Nat.le_trans (b4o h) (by have:=d9t.1;omega));have hLm:((l.map bL).take e).drop k=L.map bL:=by rw[<-hL,List.map_drop,List.map_take]
 rw[<-hLm]at hrd;have d7O:(if e<i then(e:Int) else(i:Int))=(k:Int):=by split<;>omega
 have ht:=dM (G:=G) l i i 0;refine qA.xA func116 rfl ntmps116 rfl (by simp) ?_;intro Q Q0;unfold rdQ at Q0;rw[hk,hL]at Q0;refine SW.gN (SW.xk ?_);simp;refine SW.gN (SW.vk ?_);simp[a5x,hke,he,d7O,a3k];refine⟨.mk,?_⟩;refine aC.mk (hkl:=b0h L) (.mk func157 rfl) hrd ?_;unfold b5E;cases hR:a6J L with
 |none=>rw[hR]at Q0;simp;refine SW.gN (SW.gN (SW.xk ?_));simp;refine SW.a9S rfl ?_;refine SW.lw (LW.app 5 ?_);simp;refine c3O (i:=i) (ds:=[.int .i64 0]) cJ ht ?_;have hb:=λs=>Q0.bad (aJ l i).line 14 s rfl;simp[bL];refine LW.d0q (td:=_) (n:=(aJ l i).line) (e:=14) rfl rfl (by simp) (by simp) ?_;exact hb _
 |some q=>
  obtain⟨p,n⟩:=q;have hn:=a5k hR;have hLl:L.length<=e-k:=by rw[<-hL];simp;omega
  rw[hR]at Q0;simp only at Q0|-;by_cases hc:a8f p=0
  .have Q0:=Q0.sW hc;have hw:IntKind.i64.wrap ((i:Int)+(n:Int))=((i+n:Nat):Int):=by rw[wrap64 (by omega)];omega
   rw[if_pos hc];simp;refine SW.xk ?_;simp[hw];exact Q0.ok p (i+n) _ _ rfl (.inr rfl) (by simp)
  .have Q0:=Q0.rK hc;rw[if_neg hc];simp;refine SW.gN (SW.gN (SW.xk ?_));simp[hc];refine SW.a9S rfl ?_;refine SW.lw (LW.app 5 ?_);simp;refine c3O (i:=i) (ds:=[.int .i64 0]) cJ ht ?_;have hb:=λs=>Q0.bad (aJ l i).line (a8f p) s rfl;simp[bL];refine LW.d0q (td:=_) (n:=(aJ l i).line) (e:=a8f p) rfl rfl (by simp) (by simp) ?_;exact hb _
end
section
def b3c(l:List Tok):Prop:=∀t,l[l.length-1]? =some t->t.kind=0
variable{i:Nat}{l:List Tok}
theorem b4p(hE:b3c l){t:Tok}(h:l[i]? =some t)(hk:t.kind≠0:=by omega):i+1<l.length:=by
 have hi:=(g3r.1 h).1;rcases Nat.lt_or_ge (i+1) l.length with h1|h1
 .exact h1
 .have:l.length-1=i:=by omega
  exact(hk (hE t (by rw[this];exact h))).elim
variable{s:List UInt8}
theorem b6A(hE:b3c l)(h:pM l i s=true):i+1<l.length:=by
 unfold pM at h;split at h
 .rename_i t ht;simp only[g3q,g4e]at h;exact b4p hE ht
 .cases h
theorem d2P(hE:b3c l){k:Int}(h:kdB l i k=true)(hk:k≠0:=by omega):i+1<l.length:=by
 unfold kdB at h;split at h
 .rename_i t ht;simp only[g4e]at h;exact b4p hE ht
 .cases h
theorem c4N(hE:b3c l)(h:wtB l i=true):i+1<l.length:=by unfold wtB at h;rw[g3C]at h;rcases h with h|h<;>exact d2P hE h
theorem a6k{l:List Tok}(hE:b3c l):∀(f i:Nat)(s:List UInt8),i<l.length->i<=(sK l f i s).2/\(sK l f i s).2<l.length
 |0,i,s,h=>⟨g3G _,h⟩
 |f+1,i,s,h=>by
  rw[sK];split
  .rename_i h1;have:=b6A hE h1;split
   .rename_i h2;have:=c4N hE h2;have:=a6k hE (l:=l) f (i+2) (s++[46]++txA l (i+1)) (by omega);omega
   .split
    .rename_i h3;have:=d2P hE h3;split
     .rename_i h4;have:=c4N hE h4;have:=a6k hE (l:=l) f (i+3) (s++[46]++txA l (i+1)++txA l (i+2)) (by omega);omega
     .have:=a6k hE (l:=l) f (i+2) (s++[46]++txA l (i+1)) (by omega);omega
    .exact⟨g3G _,h⟩
  .exact⟨g3G _,h⟩
theorem c2H{kw:List UInt8->Bool}(hE:b3c l){n:Nat}(h:wR kw l i=some (s,n)):i<n/\n<l.length:=by
 unfold wR at h;split at h
 .rename_i hb;unfold b9n at hb;rw[g3q]at hb;have h1:=c4N hE hb.1;have h2:=a6k hE (l:=l) l.length (i+1) (txA l i) (by omega);rw[g3w]at h;rw[h]at h2;simp only at h2;omega
 .cases h
def d5o(l:List Tok)(rd:Nat->Nat->Option (Pr×Nat)):Prop:=∀i k p n,rd i k=some (p,n)->i<n/\n<l.length
section
variable {kw:List UInt8->Bool} {rd rd':Nat->Nat->Option (Pr×Nat)} {l:List Tok}
theorem b9z(hE:b3c l)(h:d5o l rd)(k:Nat):∀(g:Nat)(a:Pr)(n:Nat),n<l.length->n<=(eZ rd l k g a n).2/\(eZ rd l k g a n).2<l.length
 |0,a,n,hn=>⟨g3G _,hn⟩
 |g+1,a,n,hn=>by
  rw[eZ];split
  .exact⟨g3G _,hn⟩
  .split
   .exact⟨g3G _,hn⟩
   .rename_i op _ _ b m hr;have h1:=h _ _ _ _ hr;have h2:=b9z hE h k g (tw op a b) m h1.2;omega
theorem c2I(hE:b3c l)(h:d5o l rd):∀(g i:Nat)(acc ks:List Pr)(m:Nat),qG rd l g i acc=some (ks,m)->i<m/\m<l.length
 |0,_,_,_,_,hr=>by cases hr
 |g+1,i,acc,ks,m,hr=>by
  rw[qG]at hr;split at hr
  .cases hr
  .rename_i p n hp;have h1:=h _ _ _ _ hp;split at hr
   .rename_i hs;have:=b6A hE hs;cases hr;omega
   .split at hr
    .have:=c2I hE h g n _ ks m hr;omega
    .cases hr
variable{i n:Nat}
theorem c2J(hE:b3c l)(h:d5o l rd){m:Nat}{ks:List Pr}(hr:uS rd l i=some (ks,m)):i<m/\m<l.length:=by
 unfold uS at hr;split at hr
 .exact c2I hE h _ _ _ _ _ hr
 .cases hr
variable{p:Pr}
theorem d5p(hE:b3c l)(h:d5o l rd)(hr:zX kw rd l i=some (p,n)):i<n/\n<l.length:=by
 unfold zX at hr;split at hr
 .cases hr
 .rename_i t ht;have zC:=(g3r.1 ht).1;have hnx:∀x:Int,x≠0->t.kind=x->i+1<l.length:=λx hx hk=>b4p hE ht;split at hr
  .rename_i hk;have:=hnx 3 (by omega) hk;cases hr;omega
  split at hr
  .rename_i hk;have:=hnx 1 (by omega) hk.1;cases hr;omega
  split at hr
  .rename_i hk;have:=hnx 1 (by omega) hk.1;cases hr;omega
  split at hr
  .split at hr
   .cases hr
   .rename_i s m hn;have h1:=c2H hE hn;rw[g3p]at hr;obtain⟨⟨ks,q⟩,hq,he⟩:=hr;have h2:=c2J hE h hq;cases he;simp only at *;omega
  split at hr
  .split at hr
   .rename_i hc;have:=b6A hE hc.2.2;cases hr;omega
   .split at hr
    .cases hr
    .rename_i q m hq;have h1:=h _ _ _ _ hq;split at hr
     .rename_i hs;have:=b6A hE hs;cases hr;omega
     .cases hr
  .split at hr
   .cases hr
   .rename_i s m hn;have h1:=c2H hE hn;split at hr
    .rename_i ks q hq;have h2:=c2J hE h hq;cases hr;omega
    .cases hr;omega
theorem e4M(hE:b3c l)(h:d5o l rd){k:Nat}(hr:atG kw rd l i k=some (p,n)):i<n/\n<l.length:=by
 unfold atG at hr;split at hr
 .unfold b4j at hr;split at hr
  .cases hr
  .rename_i a m ha;have h1:=h _ _ _ _ ha;split at hr
   .split at hr
    .rename_i b q hb;have h2:=h _ _ _ _ hb;cases hr;omega
    .cases hr;exact h1
   .cases hr;exact h1
 .split at hr
  .rw[g3p]at hr;obtain⟨⟨a,m⟩,ha,he⟩:=hr;have h1:=h _ _ _ _ ha;cases he;simp only;omega
  .exact h _ _ _ _ hr
 .unfold a9w at hr;split at hr
  .cases hr
  .rename_i a m ha;have h1:=h _ _ _ _ ha;split at hr
   .cases hr;exact h1
   .split at hr
    .cases hr;exact h1
    .rename_i b q hb;have h2:=h _ _ _ _ hb;cases hr;omega
 .split at hr
  .rw[g3p]at hr;obtain⟨⟨a,m⟩,ha,he⟩:=hr;have h1:=h _ _ _ _ ha;cases he;simp only;omega
  .exact h _ _ _ _ hr
 .exact d5p hE h hr
 .rw[g3p]at hr;obtain⟨⟨a,m⟩,ha,he⟩:=hr;have h1:=h _ _ _ _ ha;have h2:=b9z (k:=k) hE h l.length a m h1.2;have h3:(eZ rd l k l.length a m).2=n:=by rw[he]
  omega
end
theorem c8O(kw:List UInt8->Bool)(l:List Tok)(hE:b3c l):∀f,d5o l (jF kw l f)
 |0=>λ_ _ _ _ h=>by cases h
 |f+1=>λ_ _ _ _ h=>e4M hE (c8O kw l hE f) h
theorem c4O(hE:b3c l)(e i:Nat)(p:Pr)(j:Nat)(hi:i<l.length)(h:rdQ l i e=.ok p j):i<=j/\j<l.length:=by
 unfold rdQ at h;split at h
 .cases h
 .rename_i q n hr;split at h
  .cases h;refine⟨by omega,?_⟩;have h1:=a5k hr;rw[g4p,g4c]at h1;rcases Nat.lt_or_ge e l.length with he|he
   .omega
   .have a5x:min i e=i:=by omega
    rw[a5x,List.take_of_length_le he]at hr;have hS:b3c (l.drop i):=λt ht=>by rw[g4p,g3J]at ht;exact hE t (by rw[show l.length-1=i+(l.length-i-1) by omega];exact ht)
    have h2:=(c8O aH (l.drop i) hS _ _ _ _ _ hr).2;rw[g4p]at h2;omega
  .cases h
def gA{α:Type}(x:List Tok->bF α)(s:List UInt8):gO α:=if 40000<s.length then .bad 0 7 else match oV kN s 0 1 false with
 |.error n=>.bad n 14
 |.ok l=>match x l 0 with
  |.bad n e=>.bad n e
  |.ok a j=>match a5a l j with
   |.bad n e=>.bad n e
   |.ok _ _=>.ok a j
theorem d5q{α:Type}{x:List Tok->bF α}{a:α}{j:Nat}(h:gA x s=.ok a j):¬40000<s.length/\∃l,oV kN s 0 1 false=.ok l/\x l 0=.ok a j/\(aJ l j).kind=0:=by
 unfold gA at h;split at h
 .cases h
 .rename_i hl;split at h
  .cases h
  .rename_i l hlx;split at h
   .cases h
   .rename_i b k hx;split at h
    .cases h
    .rename_i u m he;cases h;refine⟨hl,l,hlx,hx,?_⟩;unfold a5a at he;split at he
     .assumption
     .unfold eV at he;cases he
end
section
open Go Go.VM
variable {G:GT}
theorem e4N{p:Pr}(h:a8f p=0):p.op≠0:=by
 unfold a8f b5Y at h;split at h
 .cases h
 split at h
 .cases h
 intro h0;have hn:a4b p=1:=by unfold a4b;rw[if_pos (by omega)]
 obtain⟨op,nm,n,ks⟩:=p;simp[a3x,qK,hn]at h
variable{ln:Int}{l:List Tok}
theorem b6B{num:List UInt8->Int×Bool}(h:OkT num l ln):l≠[]/\∀t,l[l.length-1]? =some t->t.kind=0:=by
 induction h with
 |fin ln l hl=>exact⟨by simp,λt ht=>by simp at ht;subst ht;rfl⟩
 |cons t r ln h1 h2 h3 ih=>refine⟨by simp,λu hu=>ih.2 u ?_⟩;have:0<r.length:=g3U.2 ih.1;rw[List.length_cons,Nat.add_sub_cancel]at hu;rw[show r.length=(r.length-1)+1 by omega]at hu;simpa using hu
theorem e4O(h:OkT kN l ln):∀t∈l,0<=t.n/\t.n<=1000000000000:=by
 induction h with
 |fin ln l hl=>intro t ht;simp at ht;subst ht;simp
 |cons t r ln h1 h2 h3 ih=>
  intro u hu;rcases g3N.1 hu with rfl|hu
  .have hn:(firstT kN u.text).2.2.1=u.n:=by rw[h2]
   rw[<-hn];have hb:∀s,0<=(kN s).1/\(kN s).1<=1000000000000:=λs=>by
    unfold kN;split
    .simp only;omega
    .simp only;omega
   unfold firstT;split
   .simp
   .split
    .simp
    .split
     .simp
     .split
      .exact hb _
      .split<;>simp
  .exact ih u hu
theorem c8P(h:l≠[])(i:Nat):aJ l i∈l:=by
 unfold aJ;split
 .rename_i hi;rw[g4s,g3u hi];exact g3P hi
 .rw[List.getLastD_eq_getLast?,List.getLast?_eq_some_getLast h];exact List.getLast_mem h
variable{s:List UInt8}
theorem d5r(hG:G 1=some gD)(h:oV kN s 0 1 false=.ok l)(hs:s.length<=40000:=by omega):rQ G rdQ l:=by
 have pG:=(c8M h hs).1;have hO:=a2b s 0 1 false l h;have hE:=b6B hO;refine⟨hG,pG.1,⟨hE.1,?_⟩,λi e hi he=>c4M hG pG i e hi he,λe i p j hi hx=>c4O hE.2 e i p j hi hx,λi e p j hi hx=>?_⟩
 .have a2I:0<l.length:=g3U.2 hE.1;have aG:l.length-1<l.length:=by omega
  refine hE.2 _ ?_;unfold aJ;rw[if_pos aG,g4s,g3u aG]
  rfl
 .unfold rdQ at hx;split at hx
  .cases hx
  .rename_i q n hr;split at hx
   .rename_i hc;cases hx;have:=c4L aH _ _ _ _ _ _ hr;exact⟨by omega,e4N hc⟩
   .cases hx
theorem c2K(h:oV kN s 0 1 false=.ok l):∀i, -9223372036854775807<=(aJ l i).n/\(aJ l i).n<=9223372036854775807:=λi=>by have hO:=a2b s 0 1 false l h;have:=e4O hO _ (c8P (b6B hO).1 i);omega
end
section
abbrev tyM(l:List Tok):bF Ty:=mD aH aZ rdQ l
abbrev exM(l:List Tok):bF cP:=sG aH aZ rdQ l
abbrev moQ(l:List Tok):bF eK:=a7K aH aZ rdQ l
def a0N{α:Type}(z:α):gO α->α
 |.ok a _=>a
 |.bad _ _=>z
def a5l{α:Type}:gO α->Int
 |.ok _ _=>0
 |.bad _ e=>e
def c0X{α:Type}:gO α->Int
 |.ok _ _=>0
 |.bad n _=>n
end
end Go.Proofs.YtmfbjecjccipfaaGreatDoor
section
namespace Go.VM
open Go Go.RowKit
section
variable {P:Program} {G:GT} {st:St} {base:dU} {R:Nat->Nat->Prop} {μ:Nat->Nat} {a:Act} {w:World}
variable{s0:St}{args:Array Value}{rest:List (TypeId×List Loc)}{ls:List (Option Loc)}{g3o:List DV}
theorem b9B(K:List (Nat×Nat))(mX:aW K s0 .undef s0.H=true)(pJ:WkT g3o (bA K s0.tmps))(hH:WkH st.H (dC K s0.H))(oO:yK st st.own (s0.own.map (sD K ls))=some rest)(kn:a1w st.tmps.length ls s0.own=true)(hr:Rel P G base R μ st a w)(hl:args.size=g3o.length)(hv:∀(i:Nat)(d:DV),g3o[i]? =some d->TV R μ w (args.getD i undef) d)(a9u:∀(i:Nat)(l:Loc),ls[i]? =some (some l)->∀u,cY a w μ l=some u->u=args.getD i undef):
  ∃mV:dU,(∀b,mV b->base b)/\Rel P G mV R (λk=>μ (rk K k)) s0 {tmps:=args,defers:=[]} w/\∀k o,getKey k st.H=some o->(∀p∈s0.H,k≠rk K p.1)-> ¬mV (μ k):=by
 simp only[aW,g3q,g4e,g3t]at mX;obtain⟨⟨⟨⟨⟨⟨⟨⟨kf,ks⟩,kp⟩,kt⟩,kh⟩,kl⟩,kr⟩,kd⟩,k1⟩:=mX;obtain⟨vs,tA⟩:=hr.own;obtain⟨vsT,vsR,t1,t2,t3,t4,t5,t6,t7⟩:=a7F hr _ _ _ vs ⟨tA.len,tA.one,tA.apart⟩ oO;have inK:∀k o,getKey k s0.H=some o->(K.any λp=>p.1==k)=true/\bD K o=true/\(getKey k s0.H).isSome=true:=λk o hk=>by
  have:=kh _ (kK hk)
  try simp only[g3q]at this
  exact⟨this.1.1,this.1.2,this.2⟩
 have inst:∀k o,getKey k s0.H=some o->∃o',getKey (rk K k) st.H=some o'/\WkO o' (dL K o):=λk o hk=>by
  have hm:=kK hk;have:∀{l:List (Nat×bG)},WkH st.H (dC K l)->(k,o)∈l->∃o',getKey (rk K k) st.H=some o'/\WkO o' (dL K o):=by
   intro l
   induction l with
   |nil=>intro _ h;cases h
   |cons p l ih=>
    intro hw hp;obtain⟨h1,h2⟩:=hw;rcases g3N.1 hp with rfl|hp
    .exact h1
    .exact ih h2 hp
  exact this hH hm
 have big:∀k,(K.any λp=>p.1==k)=true->100000<=k:=λk hk=>by obtain⟨p,h1,h2,_⟩:=a2J hk;rw[<-h2];exact kp p h1
 have d7q:∀k k',(K.any λp=>p.1==k)=true->(K.any λp=>p.1==k')=true->rk K k=rk K k'->k=k':=λk k' h h' he=>by
  obtain⟨p,p1,p2,p3⟩:=a2J h;obtain⟨q,q1,q2,q3⟩:=a2J h';have hpq:p.2=q.2:=by rw[<-p3, <- q3,he]
  have:p=q:=pC.b4T.a8K ks p1 q1 hpq;rw[<-p2, <- q2,this]
 have one:∀k,(getKey k s0.H).isSome=true->∃o,getKey k s0.H=some o:=λk hk=>by
  obtain⟨o,ho⟩:=g3S.1 hk;have:=k1 _ (kK ho)
  try simp only[g3q]at this
  exact g3S.1 this.2
 let mV:dU:=⟨λb=>w.heap.size<=b\/(∃k o,getKey k s0.H=some o/\b=μ (rk K k))\/(∃v∈vsT,bR v=some b),λk=>μ (rk K k)⟩
 have sub:∀b,mV b->base b:=λb hb=>by
  rcases hb with hb|⟨k,o,hk,rfl⟩|⟨v,hv,hs⟩
  .exact hr.base b hb
  .obtain⟨o',xS,_⟩:=inst k o hk;exact(hr.mL _ o' xS).1
  .obtain⟨i,hi⟩:=g3H hv;have zC:i<(s0.own.map (sD K ls)).length:=by rw[<-t1];exact(g3r.1 hi).1
   exact(t2 i _ v (g3u zC) hi).own.a3C hs
 have a2Q:Rel P G mV R (λk=>μ (rk K k)) s0 {tmps:=args,defers:=[]} w:=by
  obtain⟨g1,g2⟩:=a1f pJ;rw[tM]at g1 g2;refine⟨rfl,by show args.size=s0.tmps.length;rw[List.length_map]at g1;omega,λi v d hiv hid=>?_,λk o hk=>?_,λk k' o o' hk hk' he=>?_,λc hc k off hl'=>?_,⟨vsT,by simpa using t1,λi c v hc hv'=>?_,t3⟩,hr.wY.up sub,hr.sB,λb hb=>.inl hb,λk hk=>rfl⟩
  .obtain⟨d0,hd0,b7s⟩:=g2 i (bI K d) (by rw[g3A,hid];rfl);have hva:=hv i d0 hd0;have hav:args.getD i undef=v:=by simp only at hiv;simp[g3s,hiv]
   rw[hav]at hva;have d7r:TV R μ w v (bI K d):=by
    rcases b7s with hc|hc|⟨hc1,hc2⟩
    .rw[hc];exact .undef _
    .rw[hc];exact hva
    .rw[hc2];rw[hc1]at hva;obtain⟨ao,rfl⟩:=hva.b1B.mW;exact .d _ _ (.emp _ _)
   exact d7r.ren (μ:=μ) (λ_ _=>rfl) (kt d (g3v hid))
  .obtain⟨q1,q2,_⟩:=inK k o hk;obtain⟨o',xS,hw⟩:=inst k o hk;obtain⟨p1,p2,p3⟩:=hr.mL _ o' xS;exact⟨.inr (.inl ⟨k,o,hk,rfl⟩),p2,(b6t hw p3).ren (λ_ _=>rfl) q2⟩
  .obtain⟨o1,h1,_⟩:=inst k o hk;obtain⟨o2,h2,_⟩:=inst k' o' hk';exact d7q k k' (inK k o hk).1 (inK k' o' hk').1 (hr.inj _ _ o1 o2 h1 h2 he)
  .have:=g3t.1 (g3t.1 kl c hc) _ hl';exact g3S.1 this
  .have ho:=t2 i (sD K ls c) v (by rw[g3A,hc];rfl) hv';refine⟨λl hl' u hu=>?_,?_,λk o hk=>?_⟩
   .have hn:=g3t.1 (g3t.1 kn c (g3v hc)) l hl';cases l with
    |t j=>
     simp only at hn;split at hn
     .rename_i t hj;simp only[g4e]at hn;have ht:t<a.tmps.size:=by rw[hr.size];exact hn
      have hlv:cY a w μ (.t t)=some a.tmps[t]:=by simp[cY,ht]
      have h1:=a9u j _ hj _ hlv;have h2:=ho.eU (.t t) (g3V.2 ⟨.t j,hl',by simp[b7q,hj]⟩) _ hlv;simp only[cY]at hu;have h3:args.getD j undef=u:=by simp[g3s,hu]
      rw[<-h3, <- h1,h2]
     .cases hn
    |c k off=>exact ho.eU (.c (rk K k) off) (g3V.2 ⟨.c k off,hl',rfl⟩) u hu
   .rcases ho.own with h|⟨g,n,cap,cur,h0,h1,h2,h3,h4⟩
    .exact .inl h
    .by_cases hc0:cap=0
     .subst hc0;have:n=0:=by omega
      subst this;exact .inl ⟨_,h0⟩
     .exact .inr ⟨g,n,cap,cur,h0,.inr (.inr ⟨v,g3v hv',by rw[h0];simp[bR,hc0]⟩),h2,h3,h4⟩
   .obtain⟨o',xS,_⟩:=inst k o hk;exact ho.keys _ o' xS
 refine⟨mV,sub,a2Q,λk o ho hk hb=>?_⟩;rcases hb with hb|⟨k0,o0,h0,he'⟩|⟨u,hu,hsp⟩
 .have:=(hr.mL k o ho).2.2.lt;omega
 .obtain⟨o',xS,_⟩:=inst k0 o0 h0;have:=hr.inj k (rk K k0) o o' ho xS he';exact hk (k0,o0) (kK h0) this
 .obtain⟨i,hi⟩:=g3H hu;have zC:i<(s0.own.map (sD K ls)).length:=by rw[<-t1];exact(g3r.1 hi).1
  exact(t2 i _ u (g3u zC) hi).keys k o ho hsp
def CHd(P:Program)(G:GT)(f:FuncId)(s0:St)(r:DV):Prop:=
 ∀(base:dU)(R:Nat->Nat->Prop)(μ:Nat->Nat)(args:Array Value)(w:World),Rel P G base R μ s0 {tmps:=args,defers:=[]} w->
  Calls P f args w λe w'=>∃v R',e=.returned v/\(∀μ',TV R' μ' w' v r)/\Step base R w R' w'/\∀b o,R' b o->b<w'.heap.size
variable{f:FuncId}
theorem pC.f0A{r:DV}(hch:CHd P G f s0 r)(K:List (Nat×Nat)){dst:Option Tmp}(H':List (Nat×bG))(mX:aW K s0 .undef s0.H=true)(pJ:WkT g3o (bA K s0.tmps))(hH:WkH st.H (dC K s0.H))(oO:yK st st.own (s0.own.map (sD K ls))=some rest)(kn:a1w st.tmps.length ls s0.own=true)(hK:∀k o,getKey k H'=some o->getKey k st.H=some o/\∀p∈s0.H,k≠rk K p.1):
  pC P G f g3o ls st dst ⟨kJ dst r st.tmps,H',[]⟩:=by
 intro base R μ a w args hr hl hv a9u;obtain⟨mV,sub,a2Q,vT⟩:=b9B K mX pJ hH oO kn hr hl hv a9u;refine(hch mV R _ args w a2Q).mono λe w' ⟨v,R',he,mB,hs,hb⟩=>⟨v,R',μ,he,?_,⟨hs.below.mono sub,hs.mono,λb o h1 h2=>sub b (hs.new b o h1 h2),hs.cells⟩⟩;have hsb:Step base R w R' w':=⟨hs.below.mono sub,hs.mono,λb o h1 h2=>sub b (hs.new b o h1 h2),hs.cells⟩;have kept:∀b, ¬mV b->w'.heap[b]? =w.heap[b]? /\∀off,R' b off->R b off:=λb hb=>⟨hs.below.block b hb,λoff h=>by
  by_cases hx:R b off
  .exact hx
  .exact absurd (hs.new b off h hx) hb⟩
 refine⟨by cases dst<;>exact hr.defers,?_,λi u d hu hd=>?_,λk o hk=>?_,λk k' o o' hk hk' he'=>?_,(λc hc=>by cases hc),⟨[],rfl,λi c v h _=>by simp at h,.nil⟩,hr.wY.cD hsb,hb,λb hb=>hr.base b (Nat.le_trans hs.below.size hb),hr.pass⟩
 .cases dst with
  |none=>exact hr.size
  |some t=>simp[kJ,Act.put,hr.size]
 .cases dst with
  |none=>exact(hr.tmps i u d hu hd).cD hsb
  |some t=>
   simp only[kJ,Act.put]at hu hd;by_cases hti:t=i
   .subst hti;have h1:t<st.tmps.length:=by
     by_cases aG:t<st.tmps.length
     .exact aG
     .have vB:(st.tmps.set t r)[t]? =none:=g3X (by rw[List.length_set];exact g3Z aG);rw[vB]at hd;cases hd
    have h2:t<a.tmps.size:=by rw[hr.size];exact h1
    simp[h1]at hd;simp[h2]at hu;subst hu hd;exact mB μ
   .rw[g4q hti]at hu;rw[List.getElem?_set_ne hti]at hd;exact(hr.tmps i u d hu hd).cD hsb
 .obtain⟨hk2,hk1⟩:=hK k o hk;obtain⟨p1,p2,p3⟩:=hr.mL k o hk2;obtain⟨e1,e2⟩:=kept _ (vT k o hk2 hk1);exact⟨p1,λoff h=>p2 off (e2 off h),p3.cD hsb e1⟩
 .exact hr.inj k k' o o' (hK k o hk).1 (hK k' o' hk').1 he'
theorem b2e.qY{v:Value}(hch:CPn P G f s0 v)(K:List (Nat×Nat))(H':List (Nat×bG))(mX:aW K s0 .undef s0.H=true)(pJ:WkT g3o (bA K s0.tmps))(hH:WkH st.H (dC K s0.H))(oO:yK st st.own (s0.own.map (sD K ls))=some rest)(kn:a1w st.tmps.length ls s0.own=true)(hK:∀k o,getKey k H'=some o->getKey k st.H=some o/\∀p∈s0.H,k≠rk K p.1)(hr:Rel P G base R μ st a w)(hl:args.size=g3o.length)(hv:∀(i:Nat)(d:DV),g3o[i]? =some d->TV R μ w (args.getD i undef) d)(a9u:∀(i:Nat)(l:Loc),ls[i]? =some (some l)->∀u,cY a w μ l=some u->u=args.getD i undef):
  Calls P f args w λe w'=>∃R',e=.panicked (a2d v)/\Rel P G base R' μ ⟨st.tmps,H',[]⟩ a w'/\Step base R w R' w':=by
 obtain⟨mV,sub,a2Q,vT⟩:=b9B K mX pJ hH oO kn hr hl hv a9u;refine(hch mV R _ args w a2Q).mono λe w' ⟨R',he,hs,hb⟩=>⟨R',he,?_,⟨hs.below.mono sub,hs.mono,λb o h1 h2=>sub b (hs.new b o h1 h2),hs.cells⟩⟩;have hsb:Step base R w R' w':=⟨hs.below.mono sub,hs.mono,λb o h1 h2=>sub b (hs.new b o h1 h2),hs.cells⟩;have kept:∀b, ¬mV b->w'.heap[b]? =w.heap[b]? /\∀off,R' b off->R b off:=λb hb=>⟨hs.below.block b hb,λoff h=>by
  by_cases hx:R b off
  .exact hx
  .exact absurd (hs.new b off h hx) hb⟩
 refine⟨hr.defers,hr.size,λi u d hu hd=>(hr.tmps i u d hu hd).cD hsb,λk o hk=>?_,λk k' o o' hk hk' he'=>?_,(λc hc=>by cases hc),⟨[],rfl,λi c v h _=>by simp at h,.nil⟩,hr.wY.cD hsb,hb,λb hb=>hr.base b (Nat.le_trans hs.below.size hb),hr.pass⟩
 .obtain⟨hk2,hk1⟩:=hK k o hk;obtain⟨p1,p2,p3⟩:=hr.mL k o hk2;obtain⟨e1,e2⟩:=kept _ (vT k o hk2 hk1);exact⟨p1,λoff h=>p2 off (e2 off h),p3.cD hsb e1⟩
 .exact hr.inj k k' o o' (hK k o hk).1 (hK k' o' hk').1 he'
end
end Go.VM
namespace Go.VM
open Go Go.RowKit
section
variable {P:Program} {G:GT} {st:St} {base:dU} {R:Nat->Nat->Prop} {μ:Nat->Nat} {a:Act} {w:World}
theorem put_defers(a:Act)(ds:List Deferred)(dst:Option Tmp)(v:Value):({a with defers:=ds}:Act).put dst v={a.put dst v with defers:=ds}:=by cases dst<;>rfl
theorem f4H{o:Oper}{ds:List Deferred}{K K':Act->World->Prop}{Q Q':Exit->Act->World->Prop}(ha:a.defers=[])(h:o.wp P a w K Q)(hK0:∀a' w',K a' w'->a'.defers=[])(hK:∀a' w',K a' w'->K' {a' with defers:=ds} w')(hQ:∀e a' w',Q e a' w'->Q' e {a' with defers:=ds} w'):o.wp P {a with defers:=ds} w K' Q':=by
 unfold Oper.wp at h|-;have he:execOp ({a with defers:=ds}:Act).eval o=execOp a.eval o:=rfl;rw[he];generalize (execOp a.eval o).run P w=r at h|-;unfold Oper.upon at h|-;split at h
 .rw[put_defers];exact hK _ _ h
 .rw[put_defers];exact hK _ _ h
 .rename_i d w';have:=hK0 _ _ h;rw[put_defers]at this;simp at this
 .refine h.mono λe w' hx=>?_;cases e with
  |returned v=>simp only at hx|-;rw[put_defers];exact hK _ _ hx
  |panicked chain=>exact hQ _ _ _ hx
  |outgrown=>obtain⟨a0,w0,h0⟩:=hx;exact⟨_,_,hQ _ _ _ h0⟩
 .refine h.mono λv w' hx=>?_;rw[put_defers];exact hK _ _ hx
 .exact hQ _ _ _ h
 .exact h.elim
def d5s(P:Program)(G:GT)(all:Array Oper)(Q:Exit->St->Prop):List Oper->St->Prop
 |[],st=>Q .normal st
 |o::rest,st=>a8r P G all o st (d5s P G all Q rest) Q
theorem c4P{all:Array Oper}{Q:Exit->St->Prop}(ds:List Deferred):∀(l:List Oper)(st:St),d5s P G all Q l st->∀(base:dU)(R:Nat->Nat->Prop)(μ:Nat->Nat)(a:Act)(w:World),Rel P G base R μ st a w->
  ∀QQ:Exit->Act->World->Prop,(∀e s a' w' R' μ',Q e s->Rel P G base R' μ' s a' w'->Step base R w R' w'->QQ e {a' with defers:=ds} w')->wpList P all QQ l {a with defers:=ds} w
 |[],st,h,base,R,μ,a,w,hr,QQ,hk=>hk _ st a w R μ h hr (.refl _ _ _)
 |o::rest,st,h,base,R,μ,a,w,hr,QQ,hk=>by
  have h1:=c8b (KK:=λa' w'=>a'.defers=[]/\wpList P all QQ rest {a' with defers:=ds} w') (QQ:=λe a' w'=>QQ e {a' with defers:=ds} w') (show a8r P G all o st (d5s P G all Q rest) Q from h) hr (λs v w' R' μ' p1 p2 p3=>⟨p2.defers,c4P ds rest s p1 base R' μ' _ w' p2 QQ λe s a' w2 R2 μ2 q1 q2 q3=>hk e s a' w2 R2 μ2 q1 q2 (p3.trans q3)⟩) λc s w' R' μ' p1 p2 p3=>hk _ s a w' R' μ' p1 p2 p3;unfold wpList;by_cases hw:Region.wanted o (yielded all a.tmps)=true
  .rw[if_pos hw]at h1;rw[if_pos (show Region.wanted o (yielded all ({a with defers:=ds}:Act).tmps)=true from hw)];rcases h1 with h1|⟨h1,a0,w0,h2⟩
   .exact .inl (f4H hr.defers h1 (λ_ _ h=>h.1) (λ_ _ h=>h.2) λ_ _ _ h=>h)
   .exact .inr ⟨h1,_,_,h2⟩
  .rw[if_neg hw]at h1;rw[if_neg (show ¬Region.wanted o (yielded all ({a with defers:=ds}:Act).tmps)=true from hw),put_defers];exact h1.2
def DW(P:Program)(G:GT)(ds:List Deferred)(c:Code)(st:St)(Q:Exit->St->Prop):Prop:=
 ∀(base:dU)(R:Nat->Nat->Prop)(μ:Nat->Nat)(a:Act)(w:World),Rel P G base R μ st a w->c.wp P (λe a' w'=>∃a0 s R' μ',a'={a0 with defers:=ds}/\Q e s/\Rel P G base R' μ' s a0 w'/\Step base R w R' w') {a with defers:=ds} w
theorem DW.region{ds:List Deferred}{id:Nat}{ops:Array Oper}{Q:Exit->St->Prop}(h:d5s P G ops Q ops.toList st):DW P G ds (.region id ops false) st Q:=λbase R μ a w hr=>wp_region_list (c4P ds ops.toList st h base R μ a w hr _ λe s a' w' R' μ' q1 q2 q3=>⟨a',s,R',μ',rfl,q1,q2,q3⟩)
theorem DW.seq{ds:List Deferred}{x y:Code}{Q:Exit->St->Prop}(h:DW P G ds x st λe s=>match e with
  |.normal=>DW P G ds y s Q
  |e=>Q e s):DW P G ds (.seq x y) st Q:=λbase R μ a w hr=>
 wp_seq (wp_mono (h base R μ a w hr) λe a1 w1 ⟨a0,s,R1,μ1,q0,q1,q2,q3⟩=>by
  cases e with
  |normal=>subst q0;exact wp_mono (q1 base R1 μ1 a0 w1 q2) λe2 a2 w2 ⟨a3,s2,R2,μ2,p0,p1,p2,p3⟩=>⟨a3,s2,R2,μ2,p0,p1,p2,q3.trans p3⟩
  |_=>exact⟨a0,s,R1,μ1,q0,q1,q2,q3⟩)
theorem DW.ret{ds:List Deferred}{Q:Exit->St->Prop}(h:Q .ret st):DW P G ds .ret st Q:=λbase R μ a w hr=>wp_ret ⟨a,st,R,μ,rfl,h,hr,.refl _ _ _⟩
attribute [simp] d5s
end
end Go.VM
end
namespace Go.Proofs.YtmfbjecjccipfaaGreatDoor
section
open Go Go.VM
theorem d9v{p q:Addr}(w:World):
  CallsD prog 45 #[.pointer (some p),.pointer (some q)] .returning w λe u' w'=>e=.returned (.tuple #[])/\u'=.returning/\w'=w:=by
 refine callsD_of_wpS func45 rfl λc₀ cs hu=>?_;apply wpS_seq;apply wpS_region;simp[wpOpsS,go_sem,recoverD,hu,ntmps45,Exit.thenS];apply wpS_seq;apply wpS_region;simp[wpOpsS,go_sem,recoverD,hu,ntmps45,Exit.thenS];refine wpS_cond (t:=false) (by simp[Act.eval,Array.replicate]) ?_;simp only[g3K,if_false];refine wpS_of_wp (wp_skip ?_);cases c₀
 simp_all [bodyPostS,results]
variable{P:Program}
theorem f0B{T xT:TypeId}(hu:(P.underlying T).map (λtd=>match td with|.interface _=>false|_=>true)=some true)(v:Value)(w:World):(Instr.typeAssert (.iface T v) xT T true).run P w=.ok (.tuple #[v,.bool true]) w:=by obtain⟨td,h1,h2⟩:=g3p.1 hu;unfold Instr.typeAssert;rw[g4f,g4g h1];simp only[g4h];cases td<;>first|(simp at h2;done)|(simp only[if_true,go_sem];done)|(simp[go_sem,Result.andThen];done)
variable {G:GT}
variable{D:Code}{R:Nat->Nat->Prop}{a:Act}{w:World}
theorem c8Q{id:Nat}{ops:Array Oper}{QQ:Exit->Act->World->Prop}{base:dU}(Qf:Exit->St->Prop)(hk:∀e s a' w' R' μ',Qf e s->Rel P G base R' μ' s a' w'->Step base R w R' w'->QQ e a' w')(h:∀QL:Exit->Act->World->Prop,(∀s a' w' R' μ',SW P G D s Qf->Rel P G base R' μ' s a' w'->Step base R w R' w'->QL .normal a' w')->wpList P ops QL ops.toList a w):(Code.seq (.region id ops false) D).wp P QQ a w:=
 wp_seq (wp_region_list (h _ λs a' w' R' μ' hD hr hs=>wp_mono (hD base R' μ' a' w' hr) λe a2 w2 ⟨s2,R2,μ2,q1,q2,q3⟩=>hk e s2 a2 w2 R2 μ2 q1 q2 (hs.trans q3)))
variable{μ:Nat->Nat}
theorem LW.next{all:Array Oper}{l:List Oper}{st:St}{Qf:Exit->St->Prop}{base:dU}{QL:Exit->Act->World->Prop}(hQL:∀s a' w' R' μ',SW P G D s Qf->Rel P G base R' μ' s a' w'->Step base R w R' w'->QL .normal a' w')(hr:Rel P G base R μ st a w)(h:LW P G all l st λe s=>e=.normal/\SW P G D s Qf):wpList P all QL l a w:=by unfold LW at h;exact h base R μ a w hr QL λe s a' w' R' μ' hq jG hs=>by obtain⟨rfl,hq⟩:=hq;exact hQL s a' w' R' μ' hq jG hs
def f4I:OT:=(.op 0 (.op 1 (.op 2 (.op 3 (.op 4 (.op 5 .stop .none) .none) (.op 4 (.op 3 (.op 5 .stop .none) .none) .none)) (.op 4 (.op 2 (.op 3 (.op 5 .stop .none) .none) .none) .none)) (.op 2 (.op 1 (.op 3 (.op 4 (.op 5 .stop .none) .none) (.op 4 (.op 3 (.op 5 .stop .none) .none) .none)) (.op 3 (.op 1 (.op 4 (.op 5 .stop .none) .none) .none) .none)) .none)) (.op 2 (.op 0 (.op 1 (.op 3 (.op 4 (.op 5 .stop .none) .none) (.op 4 (.op 3 (.op 5 .stop .none) .none) .none)) (.op 3 (.op 1 (.op 4 (.op 5 .stop .none) .none) .none) .none)) (.op 3 (.op 0 (.op 1 (.op 4 (.op 5 .stop .none) .none) .none) .none) .none)) .none))
abbrev d9w(x y:Int):List (Nat×bG):=[(100000,.cells [.d (.int .i64 x)]),(100001,.cells [.d (.int .i64 y)])]
theorem e4P{base:dU}{args:Array Value}{x y:Int}(n e:Int)(hr:Rel prog G base R μ ⟨[.ptr 100000 0,.ptr 100001 0],d9w x y,[]⟩ {tmps:=args,defers:=[]} w):
  CallsD prog 45 args (.panicking (a2d (rP n e))) w λe' u' w'=>e'=.returned (.tuple #[])/\u'=.panicking [{v:=rP n e,recovered:=true}]/\∃R' μ' a',Rel prog G base R' μ' ⟨List.replicate 20 .undef,d9w n e,[]⟩ a' w'/\Step base R w R' w':=by
 have mQ:args.size=2:=hr.size;obtain⟨v0,v1,rfl⟩:∃v0 v1,args=#[v0,v1]:=by
  obtain⟨l⟩:=args
  match l,mQ with
  |[a,b],_=>exact⟨a,b,rfl⟩
 refine callsD_of_wpS func45 rfl λc₀ cs hu=>?_;apply wpS_seq;apply wpS_region;simp[wpOpsS,go_sem,recoverD,hu,ntmps45,Exit.thenS];apply wpS_seq;apply wpS_region;simp[wpOpsS,go_sem,recoverD,hu,ntmps45,Exit.thenS];refine wpS_cond (t:=true) (by simp[Act.eval,Array.replicate]) ?_;simp only[if_true];refine wpS_of_wp ?_;have hr1:Rel prog G base R μ ⟨.ptr 100000 0::.ptr 100001 0::List.replicate 18 .undef,d9w x y,[]⟩ {tmps:=#[v0,v1,rP n e,undef,undef,rP n e,rP n e,.bool true,undef,undef,undef,undef,undef,undef,undef,undef,undef,undef,undef,undef],defers:=[]} w:=by
  refine⟨rfl,rfl,λi v d hv hd=>?_,hr.mL,hr.inj,hr.eU,⟨[],rfl,λi c v h _=>by simp at h,.nil⟩,hr.wY,hr.sB,hr.base,hr.pass⟩
  match i,hv,hd with
  |0,hv,hd=>exact hr.tmps 0 v d (by simpa using hv) (by simpa using hd)
  |1,hv,hd=>exact hr.tmps 1 v d (by simpa using hv) (by simpa using hd)
  |i+2,hv,hd=>
   simp only[List.getElem?_cons_succ,g4i]at hd;split at hd
   .simp at hd;subst hd;exact .undef _
   .cases hd
 have hta:=λ(v:Value) (w:World)=>f0B (P:=prog) (T:=115) (xT:=20) (by kernel_rfl) v w
 show Code.wp prog _ _ {tmps:=#[v0,v1,rP n e,undef,undef,rP n e,rP n e,.bool true,undef,undef,undef,undef,undef,undef,undef,undef,undef,undef,undef,undef],defers:=[]} w
 generalize ha1:({tmps:=#[v0,v1,rP n e,undef,undef,rP n e,rP n e,.bool true,undef,undef,undef,undef,undef,undef,undef,undef,undef,undef,undef,undef],defers:=[]}:Act)=a1 at hr1|-;have h2:a1.eval (.tmp 2)=rP n e:=by rw[<-ha1];rfl
 have hz:a1.tmps.size=20:=by rw[<-ha1];rfl
 refine c8Q (G:=G) (base:=base) (R:=R) (λe' s=>e'=.normal/\yY s ⟨List.replicate 20 .undef,d9w n e,[]⟩) (λe2 s2 a2 w2 R2 μ2 hq q2 q3=>?_) λQL hQL=>?_
 .obtain⟨he,hw⟩:=hq;subst he;exact⟨q2.defers,_,rfl,.tuple #[],by simp[results],rfl,rfl,R2,⟨μ2,a2,q2.a4n hw⟩,q3⟩
 have hr2:=hr1.put (dst:=some 9) (v:=rP n e) (dv:=.undef) (act:=.no) (.undef _) trivial;refine tK (w':=w) (v:=rP n e) rfl (.inl (by show(pure (Next.value (a1.eval (.tmp 2))):Sem Next).run _ w=_;rw[h2];rfl)) rfl ?_;have h9:(a1.put (some 9) (rP n e)).eval (.tmp 9)=rP n e:=eP (by omega);have hr3:=hr2.put (dst:=some 10) (v:=.tuple #[.agg #[.int .i64 n,.int .i64 e],.bool true]) (dv:=.cX [.agg [.int .i64 n,.int .i64 e],.bool true]) (act:=.no) (.cX _ _ rfl (λi d hd=>by
  match i,hd with
  |0,hd=>
   simp at hd;subst hd;refine .agg _ _ rfl (λi d hd=>?_) (λi d hd=>?_)
   .match i,hd with
    |0,hd=>simp at hd;subst hd;rfl
    |1,hd=>simp at hd;subst hd;rfl
   .match i,hd with
    |0,hd=>simp at hd;subst hd;exact .int _ _
    |1,hd=>simp at hd;subst hd;exact .int _ _
  |1,hd=>simp at hd;subst hd;exact .bool _)) trivial
 refine tK (w':=w) (v:=.tuple #[.agg #[.int .i64 n,.int .i64 e],.bool true]) rfl (.inl ?_) rfl ?_
 .show(Instr.typeAssert ((a1.put (some 9) (rP n e)).eval (.tmp 9)) _ _ true >>=λs=>pure (Next.value s):Sem Next).run _ w=_
  rw[h9,g4f,hta]
  rfl
 refine LW.next hQL hr3 (LW.vk ?_);simp;refine SW.gN (SW.xk ?_);simp;refine c2y f4I (by kernel_rfl) (by kernel_rfl) ?_;simp[f4I]
end
section
open Go Go.VM
variable {G:GT}
theorem oT:VM.Enters prog 15:=.mk func15 rfl
variable{μ:Nat->Nat}{P:Program}{R:Nat->Nat->Prop}{w:World}
theorem Rel.frame{base:dU}{args:Array Value}{fn:Func}{n:Nat}{s0:St}(hn:fn.ntmps=n)(hT:(s0.own.all λc=>c.2.all λl=>match l with|.t i=>decide (i<s0.tmps.length)|_=>true)=true)(hr:Rel P G base R μ s0 {tmps:=args,defers:=[]} w):
  Rel P G base R μ ⟨s0.tmps++List.replicate (n-s0.tmps.length) (.cX []),s0.H,s0.own⟩ {tmps:=args++Array.replicate (fn.ntmps-args.size) undef,defers:=[]} w:=by
 have mQ:args.size=s0.tmps.length:=hr.size;refine⟨rfl,by simp[mQ,hn],λi v d hiv hid=>?_,hr.mL,hr.inj,hr.eU,?_,hr.wY,hr.sB,hr.base,hr.pass⟩
 .simp only at hid;by_cases hi:i<s0.tmps.length
  .rw[g3B hi]at hid;rw[g3Y (by omega)]at hiv;exact hr.tmps i v d hiv hid
  .rw[g3y (by omega),g4i]at hid;split at hid<;>simp at hid;subst hid;rw[g4n (by omega),Array.getElem?_replicate]at hiv;split at hiv<;>simp at hiv;subst hiv;exact .cX #[] [] rfl (by simp)
 .obtain⟨vs,hl,h1,hap⟩:=hr.own;refine⟨vs,hl,λi c v hc hv=>?_,hap⟩;have ho:=h1 i c v hc hv;refine⟨λl hl u hu=>?_,ho.own,ho.keys⟩;cases l with
  |t j=>have hj:=g3t.1 (g3t.1 hT c (g3v hc)) _ hl;simp only[g4e]at hj;simp only[cY]at hu;rw[g3Y (by omega)]at hu;exact ho.eU _ hl u hu
  |c k off=>exact ho.eU _ hl u hu
variable{T:Exit->St->Prop}{st:St}{a:Act}{QQ:Exit->Act->World->Prop}
theorem SW.wps{x y:Code}{base:dU}(h:SW P G x st T)(hr:Rel P G base R μ st a w)(hn:∀s R' μ' a' w',T .normal s->Rel P G base R' μ' s a' w'->Step base R w R' w'->y.wp P QQ a' w')(hq:∀e s R' μ' a' w',e≠ .normal->T e s->Rel P G base R' μ' s a' w'->Step base R w R' w'->QQ e a' w'):(Code.seq x y).wp P QQ a w:=
 wp_seq (wp_mono (h base R μ a w hr) λe a' w' ⟨s,R',μ',q1,q2,q3⟩=>by
  cases e with
  |normal=>exact hn s R' μ' a' w' q1 q2 q3
  |_=>exact hq _ s R' μ' a' w' (by simp) q1 q2 q3)
variable{rest:Code}
theorem SW.e4Q{r0 r1 rc:Code}{base:dU}(h:SW P G r0 st λe s=>e=.normal/\SW P G r1 s λe s=>e=.normal/\SW P G rc s T)(hr:Rel P G base R μ st a w)(hn:∀s R' μ' a' w',T .normal s->Rel P G base R' μ' s a' w'->Step base R w R' w'->rest.wp P QQ a' w')(hq:∀e s R' μ' a' w',e≠ .normal->T e s->Rel P G base R' μ' s a' w'->Step base R w R' w'->QQ e a' w'):(Code.seq r0 (.seq r1 (.seq rc rest))).wp P QQ a w:=
 SW.wps h hr (λs R1 μ1 a1 w1 q1 q2 q3=>SW.wps q1.2 q2 (λs R2 μ2 a2 w2 p1 p2 p3=>SW.wps p1.2 p2 (λs R3 μ3 a3 w3 k1 k2 k3=>hn s R3 μ3 a3 w3 k1 k2 ((q3.trans p3).trans k3)) λe s R3 μ3 a3 w3 k0 k1 k2 k3=>hq e s R3 μ3 a3 w3 k0 k1 k2 ((q3.trans p3).trans k3)) λe s R2 μ2 a2 w2 p0 p1 p2 p3=>(p0 p1.1).elim) λe s R1 μ1 a1 w1 q0 q1 q2 q3=>(q0 q1.1).elim
theorem TV.d2Q{μ':Nat->Nat}{v:Value}{ds:List D}(h:TV R μ w v (.cX ds)):TV R μ' w v (.cX ds):=by
 cases h with
 |cX vs ds h1 h2=>exact .cX _ _ h1 h2
theorem b9C{cs:List DV}(F:FuncId)(s:List UInt8)(n e:Int)(he:e≠0)(hlx:CS prog G 44 [.str s] (.cX [.aE,.int .i64 n,.int .i64 e]) none):
  CHd prog G 15 ⟨[.d (.str s),.clo F [.ptr 100001 0]],[(100001,.cells cs)],[]⟩ (.cX [.int .i64 n,.int .i64 e]):=by
 intro base R μ args w hr;refine calls_of_wp_defers func15 rfl ?_;have hr0:=Rel.frame ntmps15 rfl hr;refine SW.e4Q (T:=λe' s'=>e'=.ret/\a3O prog s' [.cell 4 3,.cell 5 31]=some (.cX [.int .i64 n,.int .i64 e])) ?h hr0 (λs' R' μ' a' w' q1 q2 q3=>by cases q1.1) (λe' s' R' μ' a' w' q0 q1 q2 q3=>?_)
 case h=>refine SW.xk ?_;simp;refine SW.xk ?_;simp;refine jV.mk zR hlx ?_;simp;refine SW.xk ?_;simp[he]
 .obtain⟨rfl,mB⟩:=q1;obtain⟨v,hv1,hv2⟩:=a2P (fn:=f15) q2 mB
  show Leaves _ _ _ _ a'.defers _ _
  rw[q2.defers];exact⟨v,hv1,v,R',rfl,λμ'=>TV.d2Q hv2,q3,q2.sB⟩
abbrev b9D(s:List UInt8)(F:FuncId)(l:List Tok)(H:List (Nat×bG)):St:=⟨[.d (.str s),.clo F [.ptr 100001 0],.undef,.undef,.ptr 4 0,.ptr 5 0,.d (.sl (l.map bL))]++List.replicate 21 .undef,(4,.cells [.d (.int .i64 0)])::(5,.cells [.d (.int .i64 0)])::H,[]⟩
abbrev d5t(p q:Value):Deferred:={target:=.fn (.func 45) #[p,q],args:=#[]}
variable{l:List Tok}{s:List UInt8}{F:FuncId}
theorem b1m{base:dU}{H:List (Nat×bG)}{id:Nat}{all:Array Oper}{y0 y1:TypeId}{p0 p1:String}{f0 f1:Array Edge}(eQ:all=#[⟨some 19,.makeFunc (.func 45) #[] #[.tmp 4,.tmp 5],y0,p0,f0,none⟩,⟨none,.defer {callee:=.value (.tmp 19),args:=#[],argTypes:=#[]},y1,p1,f1,none⟩])(hr:Rel prog G base R μ (b9D s F l H) a w)(h:∀a1,Rel prog G base R μ (b9D s F l H) a1 w->rest.wp prog QQ {a1 with defers:=[d5t (.pointer (some ⟨μ 4,0,none⟩)) (.pointer (some ⟨μ 5,0,none⟩))]} w):(Code.seq (.region id all false) rest).wp prog QQ a w:=by
 subst eQ;have h4:a.eval (.tmp 4)=.pointer (some ⟨μ 4,0,none⟩):=hr.eO rfl;have h5:a.eval (.tmp 5)=.pointer (some ⟨μ 5,0,none⟩):=hr.eO rfl;have hz:a.tmps.size=28:=hr.size;refine wp_seq (wp_region_list ?_);generalize hfv:(Value.func (.func 45) #[] #[.pointer (some ⟨μ 4,0,none⟩),.pointer (some ⟨μ 5,0,none⟩)])=fv;have hr2:=hr.put (dst:=some 19) (v:=fv) (dv:=.undef) (act:=.no) (.undef _) trivial;refine tK (w':=w) (v:=fv) rfl (.inl ?_) rfl ?_
 .rw[<-hfv, <- h4, <- h5]
  show(Instr.makeFunc (.func 45) (#[].map a.eval) (#[.tmp 4,.tmp 5].map a.eval) >>=λx=>pure (Next.value x):Sem Next).run _ w=_
  simp[Instr.makeFunc,go_sem]
 have h19:(a.put (some 19) fv).eval (.tmp 19)=fv:=eP (by omega);have hw:∀(o:Oper) y,o.guard=none->Region.wanted o y=true:=λo y hg=>by unfold Region.wanted;rw[hg]
 unfold wpList;rw[if_pos (hw _ _ rfl)];left;unfold Oper.wp;have e2:(execOp (a.put (some 19) fv).eval ⟨none,.defer {callee:=.value (.tmp 19),args:=#[],argTypes:=#[]},y1,p1,f1,none⟩).run prog w=.ok (.defer (d5t (.pointer (some ⟨μ 4,0,none⟩)) (.pointer (some ⟨μ 5,0,none⟩)))) w:=by
  show((Deferred.ofValue ((a.put (some 19) fv).eval (.tmp 19)) (#[].map (a.put (some 19) fv).eval) >>=λd=>pure (Next.defer d)):Sem Next).run _ w=_
  rw[h19, <- hfv,g4f];simp[Deferred.ofValue,go_sem]
 rw[e2];have hd:(a.put (some 19) fv).defers=[]:=hr2.defers;rw[Oper.upon_defer];unfold wpList;have a1k:finish (b9D s F l H) (some 19) .undef .no=b9D s F l H:=by simp[finish,oW,dH,kJ,List.replicate]
 rw[a1k]at hr2;have:=h (a.put (some 19) fv) hr2;rw[<-hd]at this;exact this
theorem DW.go{ds:List Deferred}{c:Code}{Q:Exit->St->Prop}(h:DW P G ds c st Q){base:dU}(hr:Rel P G base R μ st a w):c.wp P (λe a' w'=>∃a0 s R' μ',a'={a0 with defers:=ds}/\Q e s/\Rel P G base R' μ' s a0 w'/\Step base R w R' w') {a with defers:=ds} w:=h base R μ a w hr
@[simp] theorem e1l(k:Nat)(ds:List D):ds.map (oW k∘DV.d)=ds.map DV.d:=rfl
@[simp] theorem e1m(k k':Nat)(ds:List D):ds.map ((oW k∘oW k')∘DV.d)=ds.map DV.d:=rfl
@[simp] theorem d9x:∀ds:List D,WkT (ds.map DV.d) (ds.map DV.d)
 |[]=>by simp
 |d::r=>by have:=d9x r;simp[this]
@[simp] theorem d5u(K:List (Nat×Nat)):∀ds:List D,bC K (ds.map DV.d)=true
 |[]=>by simp[bC]
 |d::r=>by have:=d5u K r;simp[bC,bB,this]
@[simp] theorem d5v:∀ds:List D,d7P (ds.map DV.d) (ds.map DV.d)
 |[]=>by simp
 |d::r=>by have:=d5v r;simp[this]
theorem a2o{f:FuncId}(he:VM.Enters P f)(args cap:Array Value)(w:World):(invoke (.fn (.func f) cap) args).run P w=.ok (.enter f (args++cap)) w:=by
 obtain⟨fn,hf1,hf2,hf3⟩:=he;have c3d:¬fn.body=none:=λhe=>by simp[he]at hf2
 have c3e:¬fn.name= "runtime.NumGoroutine" :=by simpa using hf3
 simp[invoke,callFunc,hf1,c3d,c3e]
theorem e4R{α:Type}{rdP:List Tok->Nat->Nat->gO Pr}(hV:rQ G rdP l)(C:α->List D)(a0 a:α)(j:Nat)(he:VM.Enters prog F)(hlx:CS prog G 44 [.str s] (.cX [.sl (l.map bL),.int .i64 0,.int .i64 0]) none)(hc:qA G F [.ptr 100000 0,.ptr 100001 0] [(100001,.cells ((C a0).map .d))] [] l 0 (.ok a j) (λ_=>.cX []) (λa=>[(100001,.cells ((C a).map .d))]))(hj:j<l.length)(a2a:a5a l j=.ok () j):
  CH prog G 15 ⟨[.d (.str s),.clo F [.ptr 100001 0]],[(100001,.cells ((C a0).map .d))],[]⟩ ⟨[.cX [.int .i64 0,.int .i64 0]],[(100001,.cells ((C a).map .d))],[]⟩:=by
 intro base R μ args w hr;refine calls_of_wp_defers func15 rfl ?_;have hr0:=Rel.frame ntmps15 rfl hr;refine SW.e4Q (T:=λe' s'=>e'=.normal/\yY s' (b9D s F l [(100001,.cells ((C a0).map .d))])) ?h hr0 (λs' R' μ' a' w' q1 q2 q3=>?_) (λe' s' R' μ' a' w' q0 q1 q2 q3=>(q0 q1.1).elim)
 case h=>refine SW.xk ?_;simp;refine SW.xk ?_;simp;refine jV.mk zR hlx ?_;simp;refine SW.xk ?_;simp[List.replicate]
 .refine b1m rfl (q2.a4n q1.2) λa1 hr1=>?_;refine wp_mono (DW.go (Q:=λe s=>e=.ret/\a4z prog s [.cell 4 3,.cell 5 31] (.cX [.int .i64 0,.int .i64 0]) [(100001,.cells ((C a).map .d))] []) ?hD hr1) λe a2 w2 ⟨a3,s3,R3,μ3,h0,⟨h1,h2⟩,h3,h4⟩=>?_
  case hD=>
   refine DW.seq (DW.region ?_);simp[List.replicate];refine DW.seq (DW.region ?_);simp;refine b2R.mk (a2e he hc [(100000,22),(100001,100001)] (λa j hx=>?_) ?_ ?_ ?_ rfl rfl (λa2 j2 hx=>?_) (λn e hx=>by cases hx))
   .simp[aW,bB,bD,bC,bK,getKey,eX]
   .simp[aW,bB,bD,bC,bK,getKey,eX]
   .simp[bA,bI,rk]
   .simp[bA,bI,rk,dC,dL,kO]
   .cases hx;simp[bJ,bA,bI,rk,dC,dL,bX,kI,jA,eI,kO];refine DW.seq (DW.region ?_);simp;refine b2R.mk (a2e (X:=[]) (own:=[]) (r:=a5a l j) (enc:=λ_=>.cX []) (Y:=λ_=>[]) (av0:=[.ptr 100000 0]) (.mk func46 rfl) (c2z hV j hj) [(100000,22)] (λa j hx=>?_) ?_ ?_ ?_ rfl rfl (λu j2 hx=>?_) (λn e hx=>by rw[a2a]at hx;cases hx))
    .simp[aW,bB,bD,bC,bK,getKey,eX]
    .simp[aW,bB,bD,bC,bK,getKey,eX]
    .simp[bA,bI,rk]
    .simp[bA,bI,rk,dC,dL,kO]
    .simp[bJ,bA,bI,rk,dC,dL,bX,kI,jA,eI,kO];refine DW.seq (DW.region ?_);simp;exact DW.ret ⟨rfl,by simp⟩
  .subst h0 h1;have p4:=hr1.eO (x:=.tmp 4) rfl
   show Leaves _ _ _ _ [d5t _ _] .returning w2
   refine leaves_cons (f:=45) (args:=#[.pointer (some ⟨μ' 4,0,none⟩),.pointer (some ⟨μ' 5,0,none⟩)]) (by simp) (a2o (.mk func45 rfl) #[] #[.pointer (some ⟨μ' 4,0,none⟩),.pointer (some ⟨μ' 5,0,none⟩)] w2) ?_;refine(d9v w2).mono ?_;rintro e' u' w'' ⟨rfl,rfl,rfl⟩;unfold a4z at h2;split at h2
   .rename_i r mB;obtain⟨v,hv1,hv2⟩:=a2P (fn:=f15) h3 mB;exact⟨v,hv1,v,R3,μ3,rfl,((h3.ret hv1 hv2).e6M h2.1).e9H h2.2,q3.trans h4⟩
   .exact h2.elim
abbrev a8w(x y:Int):List (Nat×bG):=[(4,.cells [.d (.int .i64 x)]),(5,.cells [.d (.int .i64 y)])]
theorem b0i{base:dU}{tmps:List DV}{x y:Int}(n e:Int)(hr:Rel prog G base R μ ⟨tmps,a8w x y,[]⟩ a w)(h4:tmps[4]? =some (.ptr 4 0))(h5:tmps[5]? =some (.ptr 5 0))(RR:Ending->World->Prop)(hR:∀v R' w',(∀μ',TV R' μ' w' v (.cX [.int .i64 n,.int .i64 e]))->Step base R w R' w'->(∀b o,R' b o->b<w'.heap.size)->RR (.returned v) w'):
  Leaves prog f15 a.tmps RR [d5t (.pointer (some ⟨μ 4,0,none⟩)) (.pointer (some ⟨μ 5,0,none⟩))] (.panicking (a2d (rP n e))) w:=by
 refine leaves_cons (f:=45) (args:=#[.pointer (some ⟨μ 4,0,none⟩),.pointer (some ⟨μ 5,0,none⟩)]) (by simp) (a2o (.mk func45 rfl) #[] #[.pointer (some ⟨μ 4,0,none⟩),.pointer (some ⟨μ 5,0,none⟩)] w) ?_;obtain⟨mV,sub,a2Q,vT⟩:=b9B (s0:=⟨[.ptr 100000 0,.ptr 100001 0],d9w x y,[]⟩) (args:=#[.pointer (some ⟨μ 4,0,none⟩),.pointer (some ⟨μ 5,0,none⟩)]) [(100000,4),(100001,5)] («g3o» :=[.ptr 4 0,.ptr 5 0]) (ls:=[]) (rest:=[]) (by simp[aW,bB,bD,bC,bK,getKey]) (by simp[bA,bI,rk]) (by simp[bA,bI,rk,dC,dL]) rfl rfl hr rfl (λi d hd=>by
  match i,hd with
  |0,hd=>simp at hd;subst hd;exact .ptr 4 0
  |1,hd=>simp at hd;subst hd;exact .ptr 5 0) (λi l h=>by simp at h)
 refine(e4P n e a2Q).mono ?_;rintro e' u' w' ⟨rfl,rfl,R',μ',a',jG,hs⟩;have tL:Step base R w R' w':=⟨hs.below.mono sub,hs.mono,λb o h1 h2=>sub b (hs.new b o h1 h2),hs.cells⟩;have m4:μ' 100000=μ 4:=(jG.pass 100000 (by omega)).trans (a2Q.pass 100000 (by omega)).symm;have m5:μ' 100001=μ 5:=(jG.pass 100001 (by omega)).trans (a2Q.pass 100001 (by omega)).symm;have a1k:Rel prog G base R' μ ⟨tmps,a8w n e,[]⟩ a w':=by
  refine⟨hr.defers,hr.size,λi u d hu hd=>(hr.tmps i u d hu hd).cD tL,λk o hk=>?_,λk k' o o' hk hk' he'=>?_,(λc hc=>by cases hc),⟨[],rfl,λi c v h _=>by simp at h,.nil⟩,hr.wY.cD tL,jG.sB,λb hb=>hr.base b (Nat.le_trans hs.below.size hb),hr.pass⟩
  .simp only[a8w,getKey]at hk;split at hk
   .rename_i hk4;cases hk;subst hk4;obtain⟨q1,q2,q3⟩:=jG.mL 100000 (.cells [.d (.int .i64 n)]) rfl;rw[m4]at q1 q2 q3;exact⟨sub _ q1,q2,q3.c1o (ν:=μ') (K:=[]) (λk hk=>by simp at hk) rfl⟩
   .split at hk
    .rename_i hk5;cases hk;subst hk5;obtain⟨q1,q2,q3⟩:=jG.mL 100001 (.cells [.d (.int .i64 e)]) rfl;rw[m5]at q1 q2 q3;exact⟨sub _ q1,q2,q3.c1o (ν:=μ') (K:=[]) (λk hk=>by simp at hk) rfl⟩
    .cases hk
  .have one:∀k o,getKey k (a8w n e)=some o->∃o1,getKey k (a8w x y)=some o1:=λk o h=>by
    simp only[a8w,getKey]at h|-;split at h
    .exact⟨_,by rw[if_pos (by assumption)]⟩
    .split at h
     .exact⟨_,by rw[if_neg (by assumption),if_pos (by assumption)]⟩
     .cases h
   obtain⟨o1,h1⟩:=one k o hk;obtain⟨o2,h2⟩:=one k' o' hk';exact hr.inj k k' o1 o2 h1 h2 he'
 have f8i:settle (.panicking [{v:=rP n e,recovered:=true}])=.returning:=by simp[settle]
 show Leaves _ _ _ _ [] (settle _) _
 rw[f8i];have mB:a3O prog ⟨tmps,a8w n e,[]⟩ (f15).results.toList=some (.cX [.int .i64 n,.int .i64 e]):=by simp[a3O,h4,h5]
 obtain⟨v,hv1,hv2⟩:=a2P (fn:=f15) a1k mB;exact⟨v,hv1,hR v R' w' (λμ'=>TV.d2Q hv2) tL jG.sB⟩
end
end Go.Proofs.YtmfbjecjccipfaaGreatDoor
section
namespace Go.VM
open Go Go.RowKit
section
variable {P:Program} {G:GT} {st:St}
variable{t:Tmp}{a:Act}
theorem a2y{dst:Option Tmp}(hd:dst≠some t){v:Value}:(a.put dst v).eval (.tmp t)=a.eval (.tmp t):=by
 cases dst with
 |none=>rfl
 |some x=>exact cK (λe=>hd (by rw[e]))
variable{w:World}
theorem d9y{o:Oper}{K:Act->World->Prop}{Q:Exit->Act->World->Prop}(hd:o.dst≠some t)(h:o.wp P a w K Q):o.wp P a w (λa' w'=>K a' w'/\a'.eval (.tmp t)=a.eval (.tmp t)) (λe a' w'=>Q e a' w'/\(e≠ .outgrown->a'.eval (.tmp t)=a.eval (.tmp t))):=by
 unfold Oper.wp at h|-;generalize (execOp a.eval o).run P w=r at h|-;unfold Oper.upon at h|-;split at h
 .exact⟨h,a2y hd⟩
 .exact⟨h,a2y hd⟩
 .rename_i d w';exact⟨h,(a2y (a:={a with defers:=d::a.defers}) hd).trans rfl⟩
 .refine h.mono λe w' hx=>?_;cases e with
  |returned v=>exact⟨hx,a2y hd⟩
  |panicked chain=>exact⟨hx,λ_=>rfl⟩
  |outgrown=>obtain⟨a0,w0,h0⟩:=hx;exact⟨a0,w0,h0,λh=>(h rfl).elim⟩
 .exact h.mono λv w' hx=>⟨hx,a2y hd⟩
 .exact⟨h,λ_=>rfl⟩
 .exact h.elim
theorem a6l{all:Array Oper}{QQ:Exit->Act->World->Prop}{t:Tmp}:∀(l:List Oper)(a:Act)(w:World),(∀o∈l,o.dst≠some t)->wpList P all QQ l a w->wpList P all (λe a' w'=>QQ e a' w'/\(e≠ .outgrown->a'.eval (.tmp t)=a.eval (.tmp t))) l a w
 |[],a,w,_,h=>⟨h,λ_=>rfl⟩
 |o::rest,a,w,hd,h=>by
  have h0:=hd o (by simp);have hr:=λo' (ho:o'∈rest)=>hd o' (by simp[ho]);have mono:∀(a1:Act)(w1:World),a1.eval (.tmp t)=a.eval (.tmp t)->wpList P all QQ rest a1 w1->wpList P all (λe a' w'=>QQ e a' w'/\(e≠ .outgrown->a'.eval (.tmp t)=a.eval (.tmp t))) rest a1 w1:=λa1 w1 he hx=>by
   have:=a6l rest a1 w1 hr hx
   rwa[he]at this
  unfold wpList at h|-;split at h
  .rename_i hw;rw[if_pos hw];rcases h with h|⟨h1,a0,w0,h2⟩
   .exact .inl (Oper.wp_mono (λa1 w1 hx=>mono a1 w1 hx.2 hx.1) (d9y h0 h))
   .exact .inr ⟨h1,a0,w0,h2,λh=>(h rfl).elim⟩
  .rename_i hw;rw[if_neg hw];exact mono _ _ (a2y h0) h
theorem DW.frame{ds:List Deferred}{id:Nat}{ops:Array Oper}{Q:Exit->St->Prop}{u:Tmp}(h:d5s P G ops Q ops.toList st)(ht:∀o∈ops.toList,o.dst≠some t)(hu:∀o∈ops.toList,o.dst≠some u){base:dU}{R:Nat->Nat->Prop}{μ:Nat->Nat}(hr:Rel P G base R μ st a w):
  (Code.region id ops false).wp P (λe a' w'=>((∃a0 s R' μ',a'={a0 with defers:=ds}/\Q e s/\Rel P G base R' μ' s a0 w'/\Step base R w R' w')/\(e≠ .outgrown->a'.eval (.tmp t)=a.eval (.tmp t)))/\(e≠ .outgrown->a'.eval (.tmp u)=a.eval (.tmp u))) {a with defers:=ds} w:=
 wp_region_list (a6l ops.toList _ w hu (a6l ops.toList _ w ht (c4P ds ops.toList st h base R μ a w hr _ λe s a' w' R' μ' q1 q2 q3=>⟨a',s,R',μ',rfl,q1,q2,q3⟩)))
end
end Go.VM
end
namespace Go.Proofs.YtmfbjecjccipfaaGreatDoor
section
open Go Go.VM
variable {G:GT}
abbrev b9E(s:List UInt8)(F:FuncId)(l:List Tok)(ds:List D):St:=⟨[.d (.str s),.clo F [.ptr 100001 0],.undef,.undef,.ptr 4 0,.ptr 5 0,.undef,.undef,.ptr 22 0]++List.replicate 19 .undef,[(4,.cells [.d (.int .i64 0)]),(5,.cells [.d (.int .i64 0)]),(22,rdO l 0),(100001,.cells (ds.map .d))],[]⟩
variable{s:List UInt8}{F:FuncId}{l:List Tok}{rdP:List Tok->Nat->Nat->gO Pr}
theorem d9z{α:Type}(hV:rQ G rdP l)(C:α->List D)(a0:α)(n e:Int)(he:VM.Enters prog F)(hlx:CS prog G 44 [.str s] (.cX [.sl (l.map bL),.int .i64 0,.int .i64 0]) none)(hc:qA G F [.ptr 100000 0,.ptr 100001 0] [(100001,.cells ((C a0).map .d))] [] l 0 (.bad n e:gO α) (λ_=>.cX []) (λa=>[(100001,.cells ((C a).map .d))])):
  CHd prog G 15 ⟨[.d (.str s),.clo F [.ptr 100001 0]],[(100001,.cells ((C a0).map .d))],[]⟩ (.cX [.int .i64 n,.int .i64 e]):=by
 intro base R μ args w hr;refine calls_of_wp_defers func15 rfl ?_;have hr0:=Rel.frame ntmps15 rfl hr;refine SW.e4Q (T:=λe' s'=>e'=.normal/\yY s' (b9D s F l [(100001,.cells ((C a0).map .d))])) ?h hr0 (λs' R' μ' a' w' q1 q2 q3=>?_) (λe' s' R' μ' a' w' q0 q1 q2 q3=>(q0 q1.1).elim)
 case h=>refine SW.xk ?_;simp;refine SW.xk ?_;simp;refine jV.mk zR hlx ?_;simp;refine SW.xk ?_;simp[List.replicate]
 .refine b1m rfl (q2.a4n q1.2) λa1 hr1=>?_;refine wp_seq (wp_mono (DW.frame (t:=4) (u:=5) (Q:=λe s'=>e=.normal/\yY s' (b9E s F l (C a0))) ?hD (by decide) (by decide) hr1) λe2 a2 w2 ⟨⟨⟨a3,s3,R3,μ3,h0,⟨h1,h2⟩,h3,h4⟩,f4⟩,f5⟩=>?_)
  case hD=>simp[List.replicate]
  .subst h0 h1;have hr3:=h3.a4n h2;have f4:a3.eval (.tmp 4)=a1.eval (.tmp 4):=f4 (by simp);have f5:a3.eval (.tmp 5)=a1.eval (.tmp 5):=f5 (by simp);have m4:μ3 4=μ' 4:=by have k1:=hr3.eO (x:=.tmp 4) (k:=4) (off:=0) rfl;have k2:=hr1.eO (x:=.tmp 4) (k:=4) (off:=0) rfl;rw[f4,k2]at k1;exact((Addr.mk.inj (Option.some.inj (Value.pointer.inj k1))).1).symm
   have m5:μ3 5=μ' 5:=by have k1:=hr3.eO (x:=.tmp 5) (k:=5) (off:=0) rfl;have k2:=hr1.eO (x:=.tmp 5) (k:=5) (off:=0) rfl;rw[f5,k2]at k1;exact((Addr.mk.inj (Option.some.inj (Value.pointer.inj k1))).1).symm
   have hz:a3.tmps.size=28:=hr3.size;obtain⟨vs,f8j,tA,hvc⟩:=(hr3.qR (x:=.tmp 1) rfl).b1D;obtain⟨vc,rfl⟩:∃vc,vs=#[vc]:=by
    obtain⟨L⟩:=vs
    match L,tA with
    |[x],_=>exact⟨x,rfl⟩
   have h8:a3.eval (.tmp 8)=.pointer (some ⟨μ3 22,0,none⟩):=hr3.eO rfl;refine wp_seq (wp_region_list ?_);have hr4:=hr3.put (dst:=some 23) (v:=.func (.func F) #[] #[vc]) (dv:=.undef) (act:=.no) (.undef _) trivial;have hr5:=hr4.put (dst:=some 24) (v:=.pointer (some ⟨μ3 22,0,none⟩)) (dv:=.undef) (act:=.no) (.undef _) trivial;have a1k:finish (finish (b9E s F l (C a0)) (some 23) .undef .no) (some 24) .undef .no=b9E s F l (C a0):=by simp[finish,oW,dH,kJ,List.replicate]
   rw[a1k]at hr5;refine tK (w':=w2) (v:=.func (.func F) #[] #[vc]) rfl (.inl (by show(pure (Next.value (a3.eval (.tmp 1))):Sem Next).run _ w2=_;rw[f8j];rfl)) rfl ?_;refine tK (w':=w2) (v:=.pointer (some ⟨μ3 22,0,none⟩)) rfl (.inl (by show(pure (Next.value (((a3.put (some 23) (.func (.func F) #[] #[vc]))).eval (.tmp 8))):Sem Next).run _ w2=_;rw[cK (by decide),h8];rfl)) rfl ?_
   change wpList _ _ _ _ { (a3.put (some 23) (.func (.func F) #[] #[vc])).put (some 24) (.pointer (some ⟨μ3 22,0,none⟩))with defers:=[d5t (.pointer (some ⟨μ' 4,0,none⟩)) (.pointer (some ⟨μ' 5,0,none⟩))]} w2
   generalize ha5:(a3.put (some 23) (.func (.func F) #[] #[vc])).put (some 24) (.pointer (some ⟨μ3 22,0,none⟩))=a5 at hr5|-;have e23:a5.eval (.tmp 23)=.func (.func F) #[] #[vc]:=by rw[<-ha5,cK (by decide)];exact eP (by omega)
   have e24:a5.eval (.tmp 24)=.pointer (some ⟨μ3 22,0,none⟩):=by rw[<-ha5];exact eP (by rw[size_put];omega)
   have hd5:a5.defers=[]:=hr5.defers;have hw:∀(o:Oper) y,o.guard=none->Region.wanted o y=true:=λo y hg=>by unfold Region.wanted;rw[hg]
   unfold wpList;rw[if_pos (hw _ _ rfl)];left;unfold Oper.wp;have e2:∀(o:Oper),o.op=.call {callee:=.value (.tmp 23),args:=#[.tmp 24],argTypes:=#[76]}->(execOp a5.eval o).run prog w2=.ok (.enter F (#[.pointer (some ⟨μ3 22,0,none⟩)]++ #[vc])) w2:=λo ho=>by have hi:=a2o he #[.pointer (some ⟨μ3 22,0,none⟩)] #[vc] w2;simp[execOp,ho,resolve,e23,e24,Deferred.ofValue];exact hi
   show Oper.upon _ _ _ _ _ ((execOp a5.eval _).run prog w2)
   rw[e2 _ (by rfl),Oper.upon_enter];refine(b2e.qY (st:=b9E s F l (C a0)) hc [(100000,22),(100001,100001)] («g3o» :=[.ptr 22 0,.ptr 100001 0]) (ls:=[]) (rest:=[]) (a8w 0 0) (by simp[aW,bB,bD,bC,bK,getKey]) (by simp[bA,bI,rk]) (by simp[bA,bI,rk,dC,dL,kO]) rfl rfl (λk o hk=>?_) hr5 rfl (λi d hd=>?_) (λi l h=>by simp at h)).mono ?_
   .simp only[a8w,getKey]at hk;split at hk
    .rename_i hk4;subst hk4;exact⟨by simpa[getKey]using hk,by simp[rk]⟩
    .split at hk
     .rename_i hk5;subst hk5;exact⟨by simpa[getKey]using hk,by simp[rk]⟩
     .cases hk
   .match i,hd with
    |0,hd=>simp at hd;subst hd;exact(TV.ptr 22 0:TV R3 μ3 w2 (.pointer (some ⟨μ3 22,0,none⟩)) _)
    |1,hd=>simp at hd;subst hd;exact hvc 0 (.ptr 100001 0) rfl
   .rintro e' w4 ⟨R4,rfl,hr6,hs6⟩;have hP:=b0i n e hr6 rfl rfl (λen w'=>∃v R',en=.returned v/\(∀μ',TV R' μ' w' v (.cX [.int .i64 n,.int .i64 e]))/\Step base R w R' w'/\∀b o,R' b o->b<w'.heap.size) λv R7 w7 hv hs7 hb7=>by exact⟨v,R7,rfl,hv,((q3.trans h4).trans hs6).trans hs7,hb7⟩
    rw[m4,m5]at hP;exact hP
abbrev c4Q(s:List UInt8)(F:FuncId)(l:List Tok)(j:Nat)(ds:List D):St:=⟨[.d (.str s),.clo F [.ptr 100001 0],.undef,.undef,.ptr 4 0,.ptr 5 0,.undef,.undef,.ptr 22 0]++List.replicate 19 .undef,[(4,.cells [.d (.int .i64 0)]),(5,.cells [.d (.int .i64 0)]),(22,rdO l j),(100001,.cells (ds.map .d))],[]⟩
theorem d5w{α:Type}(hV:rQ G rdP l)(C:α->List D)(a0 a:α)(j:Nat)(n e:Int)(he:VM.Enters prog F)(hlx:CS prog G 44 [.str s] (.cX [.sl (l.map bL),.int .i64 0,.int .i64 0]) none)(hc:qA G F [.ptr 100000 0,.ptr 100001 0] [(100001,.cells ((C a0).map .d))] [] l 0 (.ok a j) (λ_=>.cX []) (λa=>[(100001,.cells ((C a).map .d))]))(hj:j<l.length)(a2a:a5a l j=.bad n e):
  CHd prog G 15 ⟨[.d (.str s),.clo F [.ptr 100001 0]],[(100001,.cells ((C a0).map .d))],[]⟩ (.cX [.int .i64 n,.int .i64 e]):=by
 intro base R μ args w hr;refine calls_of_wp_defers func15 rfl ?_;have hr0:=Rel.frame ntmps15 rfl hr;refine SW.e4Q (T:=λe' s'=>e'=.normal/\yY s' (b9D s F l [(100001,.cells ((C a0).map .d))])) ?h hr0 (λs' R' μ' a' w' q1 q2 q3=>?_) (λe' s' R' μ' a' w' q0 q1 q2 q3=>(q0 q1.1).elim)
 case h=>refine SW.xk ?_;simp;refine SW.xk ?_;simp;refine jV.mk zR hlx ?_;simp;refine SW.xk ?_;simp[List.replicate]
 .refine b1m rfl (q2.a4n q1.2) λa1 hr1=>?_;refine wp_seq (wp_mono (DW.frame (t:=4) (u:=5) (Q:=λe s'=>e=.normal/\yY s' (b9E s F l (C a0))) ?hD (by decide) (by decide) hr1) λe2 a2 w2 ⟨⟨⟨a3,s3,R3,μ3,h0,⟨h1,h2⟩,h3,h4⟩,f4⟩,f5⟩=>?_)
  case hD=>simp[List.replicate]
  .subst h0 h1;have hr3:=h3.a4n h2;have f4:a3.eval (.tmp 4)=a1.eval (.tmp 4):=f4 (by simp);have f5:a3.eval (.tmp 5)=a1.eval (.tmp 5):=f5 (by simp);have m4:μ3 4=μ' 4:=by have k1:=hr3.eO (x:=.tmp 4) (k:=4) (off:=0) rfl;have k2:=hr1.eO (x:=.tmp 4) (k:=4) (off:=0) rfl;rw[f4,k2]at k1;exact((Addr.mk.inj (Option.some.inj (Value.pointer.inj k1))).1).symm
   have m5:μ3 5=μ' 5:=by have k1:=hr3.eO (x:=.tmp 5) (k:=5) (off:=0) rfl;have k2:=hr1.eO (x:=.tmp 5) (k:=5) (off:=0) rfl;rw[f5,k2]at k1;exact((Addr.mk.inj (Option.some.inj (Value.pointer.inj k1))).1).symm
   have hz:a3.tmps.size=28:=hr3.size;refine wp_seq (wp_mono (DW.frame (t:=4) (u:=5) (Q:=λe s'=>e=.normal/\yY s' (c4Q s F l j (C a))) ?hD2 (by decide) (by decide) hr3) λe5 a5 w5 ⟨⟨⟨a6,s6,R6,μ6,h0',⟨h1',h2'⟩,h3',h4'⟩,g4⟩,g5⟩=>?_)
   case hD2=>
    simp[List.replicate];refine b2R.mk (a2e he hc [(100000,22),(100001,100001)] (λa j hx=>?_) ?_ ?_ ?_ rfl rfl (λa2 j2 hx=>?_) (λn e hx=>by cases hx))
    .simp[aW,bB,bD,bC,bK,getKey,eX]
    .simp[aW,bB,bD,bC,bK,getKey,eX]
    .simp[bA,bI,rk]
    .simp[bA,bI,rk,dC,dL,kO]
    .cases hx;simp[bJ,bA,bI,rk,dC,dL,bX,kI,jA,eI,kO]
   .subst h0' h1';have hr6:=h3'.a4n h2';have g4:a6.eval (.tmp 4)=a3.eval (.tmp 4):=g4 (by simp);have g5:a6.eval (.tmp 5)=a3.eval (.tmp 5):=g5 (by simp);have n4:μ6 4=μ' 4:=by have k1:=hr6.eO (x:=.tmp 4) (k:=4) (off:=0) rfl;have k2:=hr1.eO (x:=.tmp 4) (k:=4) (off:=0) rfl;rw[g4,f4,k2]at k1;exact((Addr.mk.inj (Option.some.inj (Value.pointer.inj k1))).1).symm
    have n5:μ6 5=μ' 5:=by have k1:=hr6.eO (x:=.tmp 5) (k:=5) (off:=0) rfl;have k2:=hr1.eO (x:=.tmp 5) (k:=5) (off:=0) rfl;rw[g5,f5,k2]at k1;exact((Addr.mk.inj (Option.some.inj (Value.pointer.inj k1))).1).symm
    have h8:a6.eval (.tmp 8)=.pointer (some ⟨μ6 22,0,none⟩):=hr6.eO rfl;have hz6:a6.tmps.size=28:=hr6.size;refine wp_seq (wp_region_list ?_);have hr7:=hr6.put (dst:=some 26) (v:=.pointer (some ⟨μ6 22,0,none⟩)) (dv:=.undef) (act:=.no) (.undef _) trivial;have a1k:finish (c4Q s F l j (C a)) (some 26) .undef .no=c4Q s F l j (C a):=by simp[finish,oW,dH,kJ,List.replicate]
    rw[a1k]at hr7;refine tK (w':=w5) (v:=.pointer (some ⟨μ6 22,0,none⟩)) rfl (.inl (by show(pure (Next.value (a6.eval (.tmp 8))):Sem Next).run _ w5=_;rw[h8];rfl)) rfl ?_
    change wpList _ _ _ _ {a6.put (some 26) (.pointer (some ⟨μ6 22,0,none⟩))with defers:=[d5t (.pointer (some ⟨μ' 4,0,none⟩)) (.pointer (some ⟨μ' 5,0,none⟩))]} w5
    generalize ha7:a6.put (some 26) (.pointer (some ⟨μ6 22,0,none⟩))=a7 at hr7|-;have e26:a7.eval (.tmp 26)=.pointer (some ⟨μ6 22,0,none⟩):=by rw[<-ha7];exact eP (by omega)
    have hw:∀(o:Oper) y,o.guard=none->Region.wanted o y=true:=λo y hg=>by unfold Region.wanted;rw[hg]
    unfold wpList;rw[if_pos (hw _ _ rfl)];left;unfold Oper.wp;have e2:∀(o:Oper),o.op=.call {callee:=.value (.func 46),args:=#[.tmp 26],argTypes:=#[76]}->(execOp a7.eval o).run prog w5=.ok (.enter 46 (#[.pointer (some ⟨μ6 22,0,none⟩)]++ #[])) w5:=λo ho=>by
     have hi:=a2o (.mk func46 rfl) #[.pointer (some ⟨μ6 22,0,none⟩)] #[] w5;have f8l:a7.tmps[26]?.getD undef=.pointer (some ⟨μ6 22,0,none⟩):=by simpa[Act.eval]using e26
     simp[execOp,ho,resolve,f8l,Deferred.ofValue,Act.eval]at hi|-;exact hi
    show Oper.upon _ _ _ _ _ ((execOp a7.eval _).run prog w5)
    rw[e2 _ (by rfl),Oper.upon_enter];have hce:=c2z (G:=G) hV j hj;rw[a2a]at hce;refine(b2e.qY (st:=c4Q s F l j (C a)) hce [(100000,22)] («g3o» :=[.ptr 22 0]) (ls:=[]) (rest:=[]) (a8w 0 0) (by simp[aW,bB,bD,bC,bK,getKey]) (by simp[bA,bI,rk]) (by simp[bA,bI,rk,dC,dL,kO]) rfl rfl (λk o hk=>?_) hr7 rfl (λi d hd=>?_) (λi l h=>by simp at h)).mono ?_
    .simp only[a8w,getKey]at hk;split at hk
     .rename_i hk4;subst hk4;exact⟨by simpa[getKey]using hk,by simp[rk]⟩
     .split at hk
      .rename_i hk5;subst hk5;exact⟨by simpa[getKey]using hk,by simp[rk]⟩
      .cases hk
    .match i,hd with
     |0,hd=>simp at hd;subst hd;exact(TV.ptr 22 0:TV R6 μ6 w5 (.pointer (some ⟨μ6 22,0,none⟩)) _)
    .rintro e' w8 ⟨R8,rfl,hr8,hs8⟩;have hP:=b0i n e hr8 rfl rfl (λen w'=>∃v R',en=.returned v/\(∀μ',TV R' μ' w' v (.cX [.int .i64 n,.int .i64 e]))/\Step base R w R' w'/\∀b o,R' b o->b<w'.heap.size) λv R9 w9 hv hs9 hb9=>by exact⟨v,R9,rfl,hv,(((q3.trans h4).trans h4').trans hs8).trans hs9,hb9⟩
     rw[n4,n5]at hP;exact hP
end
section
def PzR{α:Type}(r:gO α):Prop:=∀n e,r=.bad n e->e≠0
def bH{α:Type}(x:bF α):Prop:=∀i,PzR (x i)
section
variable {kw:Nm->Bool} {l:List Tok} {α β:Type}
theorem PzR.ok{a:α}{i:Nat}:PzR (.ok a i):=λn e h=>by cases h
variable{c:Prop}
theorem PzR.ite[Decidable c]{x y:gO α}(h:PzR x)(h':PzR y):PzR (if c then x else y):=by
 split
 .exact h
 .exact h'
theorem bH.at{x:bF α}(h:bH x)(i:Nat):PzR (x i):=h i
theorem bH.bP(a:α):bH (pure a:bF α):=λi=>PzR.ok
theorem bH.xW{x:bF α}{f:α->bF β}(h:bH x)(hf:∀a,bH (f a)):bH (x >>=f):=λi n e hr=>by
 rw[cR]at hr;cases hk:x i with
 |bad n' e'=>rw[hk]at hr;cases hr;exact h i n e hk
 |ok a j=>rw[hk]at hr;exact hf a j n e hr
theorem bH.ite[Decidable c]{x y:bF α}(h:bH x)(h':bH y):bH (if c then x else y):=by
 split
 .exact h
 .exact h'
theorem bH.failed:bH (eV l:bF α):=λi n e h=>by unfold eV at h;cases h;decide
theorem bH.exp:∀s:List Nm,bH (aR l s)
 |[]=>bH.bP ()
 |s::r=>λi=>PzR.ite (bH.exp r (i+1)) (bH.failed i)
theorem bH.skip(s:Nm):bH (cS l s):=λi=>PzR.ite PzR.ok PzR.ok
theorem bH.take(ok:Tok->Bool):bH (pD l ok):=λi=>PzR.ite PzR.ok (bH.failed i)
theorem bH.loop{c:Nm}{one:α->bF α}(h:∀a,bH (one a)):∀(g:Nat)(a:α),bH (jC l c one g a)
 |0,a=>λi n e h=>by unfold jC at h;cases h;decide
 |g+1,a=>λi=>by
  unfold jC;split
  .rename_i n e hb;exact hb▸h a i
  .exact PzR.ite (bH.loop h g _ _) PzR.ok
theorem bH.list{c:Nm}{one:α->bF α}{a:α}(h:∀a,bH (one a)):bH (dJ l c one a):=bH.loop h _ a
theorem bH.b5U{c:Nat->Bool}{one:α->bF α}(h:∀a,bH (one a)):∀(g:Nat)(a:α),bH (gE c one g a)
 |0,a=>λi n e h=>by unfold gE at h;cases h;decide
 |g+1,a=>λi=>by
  unfold gE;refine PzR.ite ?_ PzR.ok;split
  .rename_i n e hb;exact hb▸h a i
  .exact bH.b5U h g _ _
theorem bH.many{c:Nat->Bool}{one:α->bF α}{a:α}(h:∀a,bH (one a)):bH (rJ l c one a):=bH.b5U h _ a
theorem bH.chain{ops:List (Nm×Int)}{one:bF cP}(h:bH one):∀(g:Nat)(e:cP),bH (jE l ops one g e)
 |0,a=>λi n e h=>by unfold jE at h;cases h;decide
 |g+1,a=>λi=>by
  unfold jE;split
  .exact PzR.ok
  .split
   .rename_i n e hb;exact hb▸h (i+1)
   .exact bH.chain h g _ _
theorem NZ{p:Prop}(h:p:=by repeat' first|assumption|exact bH.at (by assumption) _|exact PzR.ok|exact bH.bP _|exact bH.exp _|exact bH.skip _|exact bH.take _|exact bH.failed|exact hN _ _|refine bH.xW ?_ λ_=>?_|refine bH.ite ?_ ?_|refine bH.list λ_=>?_|refine bH.many λ_=>?_|refine bH.chain ?_ _ _|refine PzR.ite ?_ ?_|split|refine bH.at ?_ _|intro _):p:=h
theorem bH.words:bH (jD kw l):=by unfold jD;exact NZ
theorem bH.vars(v:Bool):bH (sE kw l v):=by unfold sE;exact NZ
theorem bH.base:bH (jI kw l):=by unfold jI;exact NZ
theorem bH.wN:bH (uN kw l):=by unfold uN;exact NZ
theorem bH.head(m:Int):bH (xY kw l m):=by have:=bH.words (kw:=kw) (l:=l);unfold xY;exact NZ
variable {andP:Pr->Pr->Pr} {rdP:List Tok->Nat->Nat->gO Pr} (hN:∀i e,PzR (rdP l i e))
include hN
theorem bH.pred:bH (pE rdP l):=λi=>hN i _
section
variable {ty:bF Ty} (ht:bH ty)
include ht
theorem bH.c6O:bH (zN andP rdP l ty):=by have:=bH.pred hN;unfold zN;exact NZ
theorem bH.a2W:bH (oP kw andP rdP l ty):=by have:=bH.base (kw:=kw) (l:=l);have:=bH.c6O (andP:=andP) hN ht;unfold oP;exact NZ
theorem bH.d7A:bH (xL kw andP rdP l ty):=by have:=bH.pred hN;have:=bH.a2W (kw:=kw) (andP:=andP) hN ht;unfold xL;exact NZ
omit hN in
theorem bH.d3Z:bH (zO kw l ty):=by unfold zO;exact NZ
theorem bH.d0l:bH (a0w kw andP rdP l ty):=by have:=bH.base (kw:=kw) (l:=l);have:=bH.c6O (andP:=andP) hN ht;have:=bH.d7A (kw:=kw) (andP:=andP) hN ht;have:=bH.d3Z (kw:=kw) (l:=l) ht;unfold a0w;exact NZ
end
theorem bH.b1Y:∀n,bH (a1y kw andP rdP l n)
 |0=>λi n e h=>by unfold a1y at h;cases h;decide
 |n+1=>bH.d0l hN (bH.b1Y n)
theorem bH.typ:bH (mD kw andP rdP l):=bH.b1Y hN _
section
variable {ex:Nat->bF cP} (hx:∀k,bH (ex k))
include hx
theorem bH.b7z:bH (zP kw andP rdP l ex):=by have:=bH.typ (kw:=kw) (andP:=andP) hN;have h0:=hx 0;unfold zP a2U uM kW sF;exact NZ
theorem bH.unG:bH (a6C kw andP rdP l ex):=by have:=bH.b7z (kw:=kw) (andP:=andP) hN hx;have:=hx 7;unfold a6C;exact NZ
theorem bH.b0J:bH (qT kw andP rdP l ex):=by have:=bH.unG (kw:=kw) (andP:=andP) hN hx;unfold qT a8M a1N;exact NZ
theorem bH.b3M:bH (a1z kw andP rdP l ex):=by have:=bH.b0J (kw:=kw) (andP:=andP) hN hx;have:=hx 3;unfold a1z a4v;exact NZ
theorem bH.exG:bH (a7J kw andP rdP l ex):=by have:=bH.b3M (kw:=kw) (andP:=andP) hN hx;have:=bH.typ (kw:=kw) (andP:=andP) hN;have:=bH.words (kw:=kw) (l:=l);have:=hx 0;unfold a7J a4t xC a4u kW c1L b3L a1N;exact NZ
end
theorem bH.exF:∀n k,bH (yM kw andP rdP l n k)
 |0,k=>λi n e h=>by unfold yM at h;cases h;decide
 |n+1,k=>by unfold yM;exact bH.ite (bH.unG hN (bH.exF n)) (bH.ite (bH.b3M hN (bH.exF n)) (bH.exG hN (bH.exF n)))
theorem bH.expr:bH (sG kw andP rdP l):=bH.exF hN _ _
theorem bH.sig:bH (tP kw andP rdP l):=by have:=bH.typ (kw:=kw) (andP:=andP) hN;have:=bH.pred hN;have:=bH.wN (kw:=kw) (l:=l);have:=bH.vars (kw:=kw) (l:=l) false;unfold tP uO;exact NZ
theorem bH.defn:bH (xD kw andP rdP l):=by have:=bH.sig (kw:=kw) (andP:=andP) hN;have:=bH.expr (kw:=kw) (andP:=andP) hN;have:=bH.head (kw:=kw) (l:=l) 0;have:=bH.head (kw:=kw) (l:=l) 1;have:=bH.head (kw:=kw) (l:=l) 2;unfold xD zQ;exact NZ
theorem bH.data:bH (a0x kw andP rdP l):=by have:=bH.typ (kw:=kw) (andP:=andP) hN;have:=bH.vars (kw:=kw) (l:=l) false;unfold a0x a9P;exact NZ
theorem bH.cls:bH (wA kw andP rdP l):=by have:=bH.typ (kw:=kw) (andP:=andP) hN;unfold wA;exact NZ
theorem bH.inst:bH (a1A kw andP rdP l):=by have:=bH.defn (kw:=kw) (andP:=andP) hN;have:=bH.a2W (kw:=kw) (andP:=andP) hN (bH.typ (kw:=kw) (andP:=andP) hN);have:=bH.wN (kw:=kw) (l:=l);unfold a1A;exact NZ
theorem bH.d4a:bH (a1B kw rdP l):=by have:=bH.pred hN;have:=bH.words (kw:=kw) (l:=l);unfold a1B;exact NZ
theorem bH.d4b:bH (a1C kw rdP l):=by have:=bH.pred hN;have:=bH.vars (kw:=kw) (l:=l) true;unfold a1C;exact NZ
theorem bH.decl(m:eK):bH (vI kw andP rdP l m):=by have:=bH.defn (kw:=kw) (andP:=andP) hN;have:=bH.data (kw:=kw) (andP:=andP) hN;have:=bH.cls (kw:=kw) (andP:=andP) hN;have:=bH.inst (kw:=kw) (andP:=andP) hN;have:=bH.d4a (kw:=kw) hN;have:=bH.d4b (kw:=kw) hN;unfold vI;exact NZ
theorem bH.mod:bH (a7K kw andP rdP l):=by unfold a7K;exact bH.many λm=>bH.xW (bH.decl hN m) λ_=>NZ
end
end
end Go.Proofs.YtmfbjecjccipfaaGreatDoor
