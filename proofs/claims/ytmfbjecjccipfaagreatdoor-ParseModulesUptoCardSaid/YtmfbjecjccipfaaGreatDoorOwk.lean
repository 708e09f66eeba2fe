/- Lemmas. No condition. -/
import Derived.Test.YtmfbjecjccipfaaGreatDoorOwj
set_option linter.unusedVariables false
set_option linter.unusedSimpArgs false
set_option linter.unusedSectionVars false
set_option maxRecDepth 100000
set_option maxHeartbeats 64000000
open Go.Proofs.Tryz
namespace Go.Proofs.YtmfbjecjccipfaaGreatDoor
section
open Go Go.VM
variable {G:GT}
theorem yC:VM.Enters prog 209:=.mk func209 rfl
section
variable {l:List Tok} {ops:List (Nm×Int)} {one:bF cP} {g:Nat} {e x:cP} {i j:Nat} {p:Nm×Int}
theorem a2l(h:(ops.find? λp=>aL l i p.1)=none):jE l ops one (g+1) e i=.ok e i:=by rw[jE];simp only[h]
theorem yD(h:(ops.find? λp=>aL l i p.1)=some p)(h1:one (i+1)=.ok x j):jE l ops one (g+1) e i=jE l ops one g (eD p.2 [e,x]) j:=by rw[jE];simp only[h,h1]
theorem vO{n m:Int}(h:(ops.find? λp=>aL l i p.1)=some p)(h1:one (i+1)=.bad n m):jE l ops one (g+1) e i=.bad n m:=by rw[jE];simp only[h,h1]
end
section
variable {rdP:List Tok->Nat->Nat->gO Pr} {l:List Tok} (hV:rQ G rdP l) (hN:∀i, -9223372036854775807<=(aJ l i).n/\(aJ l i).n<=9223372036854775807)
include hV hN
section
variable {ex:Nat->bF cP} {low:Nat} (hex:∀i,low<=i->i<l.length->tR G 41 [] l i (ex 0 i) jP) (h3:∀i,low<=i->i<l.length->tR G 164 [] l i (ex 3 i) jP) (h7:∀i,low<=i->i<l.length->tR G 245 [] l i (ex 7 i) jP) (kE:∀k,aB l 1 (ex k))
include hex h3 h7 kE
omit h3 in
theorem b5u(j0:Nat)(cM:low<=j0+1)(hi:j0<l.length):tR G 245 [] l j0 (a6C aH aZ rdP l ex j0) jP:=by
 have hl:=hV.len;have p0:=gT hi;refine qA.bO func245 rfl ntmps245 rfl (by simp) ?_;intro Q Q0;unfold a6C at Q0;simp;cases hs:aL l j0 [45]with
 |true=>have Q1:=Q0.sW hs;refine rdT hs p0 hV.fin λp1=>?_;obtain⟨j1,tS⟩:∃j,j0+1=j:=⟨_,rfl⟩;rw[tS]at Q1 p1|-;simp;refine uG Q1 p1 zV ((h7 j1 (by omega) p1.2)) (kE 7) λe j2 x2 Q2 p2=>?_;simp;refine jV.mk cZ (a9k 15 e) ?_;simp;exact Q2.ok _ j2 _ _ rfl (.inr rfl) (by simp)
 |false=>have Q0:=Q0.rK (by rw[hs];decide);refine rdF hs p0 ?_;simp;refine rdR Q0 (.mk func255 rfl) (d0R hV hN hex kE j0 (by omega) p0.2) λt j h=>?_;simp;exact Q0.ok t j _ _ h (.inr rfl) (by simp)
omit h3 in
theorem c0K(i:Nat)(cM:low<=i+1)(hi:i<l.length):tR G 230 [] l i (a8M aH aZ rdP l ex i) jP:=by
 refine qA.bO func230 rfl ntmps230 rfl (by simp) ?_;intro Q Q0;unfold a8M a1N at Q0;have hl:=hV.len;obtain⟨j0,rfl⟩:∃j0,j0=i:=⟨_,rfl⟩;have p0:=gT hi;generalize kR:a6C aH aZ rdP l ex=one at *;have b2I:∀i,low<=i+1->i<l.length->tR G 245 [] l i (one i) jP:=by rw[<-kR];exact b5u hV hN hex h7 kE
 have b2J:aB l 1 one:=by
  first
   |assumption
   |(rw[<-kR]
     exact aB.unG hV.fin kE hV.mZ.pred)
 simp;refine uG Q0 p0 zV ((b2I j0 (by omega) p0.2)) (b2J) λe j1 x1 Q1 p1=>?_;simp;refine SW.sV (ι:={x:cP×Nat×Nat//j1<=x.2.1/\x.2.1<l.length/\l.length<x.2.2+x.2.1/\jE l [([42],12),([100,105,118],13),([109,111,100],14)] one x.2.2 x.1 x.2.1=jE l [([42],12),([100,105,118],13),([109,111,100],14)] one (l.length+2) e j1}) (λ_=>[]) (λx=>[(2,.cells [.d (.int .i64 0),.d (.str []),.d (.int .i64 0),.d .aE,.d .aE,.d .aE,.d .aE]),(3,.cells ((a0h x.1.1).map .d)),(100000,rdO l x.1.2.1)]) (λ_=>[]) (λx=>l.length-x.1.2.1) ⟨(e,j1,l.length+2),g3G _,p1.2,by simp only;omega,rfl⟩ (by simp) ?_;rintro⟨⟨e2,j2,g⟩,hb,vH,hg,hp⟩;simp only at hb vH hg hp;obtain⟨g,rfl⟩:∃k,g=k+1:=⟨g-1,by omega⟩;have p2:j1<=j2/\j2<l.length:=⟨hb,vH⟩;simp;cases s1:aL l j2 [42]with
 |true=>
  have hf:([([42],12),([100,105,118],13),([109,111,100],14)].find? λp:Nm×Int=>aL l j2 p.1)=some ([42],12):=by simp[s1]
  have hn:=aV hV.fin vH s1;refine qB (ds:=[.str [42]]) (d:=.d (.bool true)) kU (tY l j2 [42] p2.2 (by omega) s1) ?_;simp;refine mS 2 [1] (.op 0 (.call [3,4,5] .none) (.call [0,3,4,5] .none)) (kZ (one (j2+1))) (by kernel_rfl) (by kernel_rfl) ?_;simp;refine⟨?_,?_⟩
  all_goals
   refine rdZ (i:=j2+1) (ds:=[]) zV (b2I (j2+1) (by omega) hn) (λx j3 x3=>?_) (λn e hx=>?_)
   .have p3:=b2J (j2+1) x j3 hn x3;rw[yD hf x3]at hp;refine cG.mk ?_;simp;refine aC.mk cZ (oZ 12 e2 x) ?_;simp;exact bE.mk ⟨(eD 12 [e2,x],j3,g),by simp only;omega,p3.2,by simp only;omega,hp⟩ (by simp) (by simp;omega)
   .rw[vO hf hx]at hp;simp
    first|exact Q1.bad _ _ _ hp.symm|exact λs=>Q1.bad _ _ s hp.symm
 |false=>
 refine rdF s1 p2 ?_;simp;cases s2:aL l j2 [100,105,118]with
 |true=>
  have hf:([([42],12),([100,105,118],13),([109,111,100],14)].find? λp:Nm×Int=>aL l j2 p.1)=some ([100,105,118],13):=by simp[s1,s2]
  have hn:=aV hV.fin vH s2;refine qB (ds:=[.str [100,105,118]]) (d:=.d (.bool true)) kU (tY l j2 [100,105,118] p2.2 (by omega) s2) ?_;simp;refine mS 2 [1] (.op 0 (.call [3,4,5] .none) (.call [0,3,4,5] .none)) (kZ (one (j2+1))) (by kernel_rfl) (by kernel_rfl) ?_;simp;refine⟨?_,?_⟩
  all_goals
   refine rdZ (i:=j2+1) (ds:=[]) zV (b2I (j2+1) (by omega) hn) (λx j3 x3=>?_) (λn e hx=>?_)
   .have p3:=b2J (j2+1) x j3 hn x3;rw[yD hf x3]at hp;refine cG.mk ?_;simp;refine aC.mk cZ (oZ 13 e2 x) ?_;simp;exact bE.mk ⟨(eD 13 [e2,x],j3,g),by simp only;omega,p3.2,by simp only;omega,hp⟩ (by simp) (by simp;omega)
   .rw[vO hf hx]at hp;simp
    first|exact Q1.bad _ _ _ hp.symm|exact λs=>Q1.bad _ _ s hp.symm
 |false=>
 refine rdF s2 p2 ?_;simp;cases s3:aL l j2 [109,111,100]with
 |true=>
  have hf:([([42],12),([100,105,118],13),([109,111,100],14)].find? λp:Nm×Int=>aL l j2 p.1)=some ([109,111,100],14):=by simp[s1,s2,s3]
  have hn:=aV hV.fin vH s3;refine qB (ds:=[.str [109,111,100]]) (d:=.d (.bool true)) kU (tY l j2 [109,111,100] p2.2 (by omega) s3) ?_;simp;refine mS 2 [1] (.op 0 (.call [3,4,5] .none) (.call [0,3,4,5] .none)) (kZ (one (j2+1))) (by kernel_rfl) (by kernel_rfl) ?_;simp;refine⟨?_,?_⟩
  all_goals
   refine rdZ (i:=j2+1) (ds:=[]) zV (b2I (j2+1) (by omega) hn) (λx j3 x3=>?_) (λn e hx=>?_)
   .have p3:=b2J (j2+1) x j3 hn x3;rw[yD hf x3]at hp;refine cG.mk ?_;simp;refine aC.mk cZ (oZ 14 e2 x) ?_;simp;exact bE.mk ⟨(eD 14 [e2,x],j3,g),by simp only;omega,p3.2,by simp only;omega,hp⟩ (by simp) (by simp;omega)
   .rw[vO hf hx]at hp;simp
    first|exact Q1.bad _ _ _ hp.symm|exact λs=>Q1.bad _ _ s hp.symm
 |false=>
 refine rdF s3 p2 ?_;have hf:([([42],12),([100,105,118],13),([109,111,100],14)].find? λp:Nm×Int=>aL l j2 p.1)=none:=by simp[s1,s2,s3]
 have Q2:=hp.symm.trans (a2l hf);simp;exact Q1.ok _ j2 _ _ Q2 (.inr rfl) (by simp)
omit h3 in
theorem uC(i:Nat)(cM:low<=i+1)(hi:i<l.length):tR G 209 [] l i (qT aH aZ rdP l ex i) jP:=by
 refine qA.bO func209 rfl ntmps209 rfl (by simp) ?_;intro Q Q0;unfold qT a1N at Q0;have hl:=hV.len;obtain⟨j0,rfl⟩:∃j0,j0=i:=⟨_,rfl⟩;have p0:=gT hi;generalize kR:a8M aH aZ rdP l ex=one at *;have b2I:∀i,low<=i+1->i<l.length->tR G 230 [] l i (one i) jP:=by rw[<-kR];exact c0K hV hN hex h7 kE
 have b2J:aB l 1 one:=by
  first
   |assumption
   |(rw[<-kR]
     exact aB.d7C hV.fin kE hV.mZ.pred)
 simp;refine uG Q0 p0 (.mk func230 rfl) ((b2I j0 (by omega) p0.2)) (b2J) λe j1 x1 Q1 p1=>?_;simp;refine SW.sV (ι:={x:cP×Nat×Nat//j1<=x.2.1/\x.2.1<l.length/\l.length<x.2.2+x.2.1/\jE l [([43],10),([45],11)] one x.2.2 x.1 x.2.1=jE l [([43],10),([45],11)] one (l.length+2) e j1}) (λ_=>[]) (λx=>[(2,.cells [.d (.int .i64 0),.d (.str []),.d (.int .i64 0),.d .aE,.d .aE,.d .aE,.d .aE]),(3,.cells ((a0h x.1.1).map .d)),(100000,rdO l x.1.2.1)]) (λ_=>[]) (λx=>l.length-x.1.2.1) ⟨(e,j1,l.length+2),g3G _,p1.2,by simp only;omega,rfl⟩ (by simp) ?_;rintro⟨⟨e2,j2,g⟩,hb,vH,hg,hp⟩;simp only at hb vH hg hp;obtain⟨g,rfl⟩:∃k,g=k+1:=⟨g-1,by omega⟩;have p2:j1<=j2/\j2<l.length:=⟨hb,vH⟩;simp;cases s1:aL l j2 [43]with
 |true=>
  have hf:([([43],10),([45],11)].find? λp:Nm×Int=>aL l j2 p.1)=some ([43],10):=by simp[s1]
  have hn:=aV hV.fin vH s1;refine qB (ds:=[.str [43]]) (d:=.d (.bool true)) kU (tY l j2 [43] p2.2 (by omega) s1) ?_;simp;refine mS 2 [1] (.op 0 (.call [3,4,5] .none) (.call [0,3,4,5] .none)) (kZ (one (j2+1))) (by kernel_rfl) (by kernel_rfl) ?_;simp;refine⟨?_,?_⟩
  all_goals
   refine rdZ (i:=j2+1) (ds:=[]) (.mk func230 rfl) (b2I (j2+1) (by omega) hn) (λx j3 x3=>?_) (λn e hx=>?_)
   .have p3:=b2J (j2+1) x j3 hn x3;rw[yD hf x3]at hp;refine cG.mk ?_;simp;refine aC.mk cZ (oZ 10 e2 x) ?_;simp;exact bE.mk ⟨(eD 10 [e2,x],j3,g),by simp only;omega,p3.2,by simp only;omega,hp⟩ (by simp) (by simp;omega)
   .rw[vO hf hx]at hp;simp
    first|exact Q1.bad _ _ _ hp.symm|exact λs=>Q1.bad _ _ s hp.symm
 |false=>
 refine rdF s1 p2 ?_;simp;cases s2:aL l j2 [45]with
 |true=>
  have hf:([([43],10),([45],11)].find? λp:Nm×Int=>aL l j2 p.1)=some ([45],11):=by simp[s1,s2]
  have hn:=aV hV.fin vH s2;refine qB (ds:=[.str [45]]) (d:=.d (.bool true)) kU (tY l j2 [45] p2.2 (by omega) s2) ?_;simp;refine mS 2 [1] (.op 0 (.call [3,4,5] .none) (.call [0,3,4,5] .none)) (kZ (one (j2+1))) (by kernel_rfl) (by kernel_rfl) ?_;simp;refine⟨?_,?_⟩
  all_goals
   refine rdZ (i:=j2+1) (ds:=[]) (.mk func230 rfl) (b2I (j2+1) (by omega) hn) (λx j3 x3=>?_) (λn e hx=>?_)
   .have p3:=b2J (j2+1) x j3 hn x3;rw[yD hf x3]at hp;refine cG.mk ?_;simp;refine aC.mk cZ (oZ 11 e2 x) ?_;simp;exact bE.mk ⟨(eD 11 [e2,x],j3,g),by simp only;omega,p3.2,by simp only;omega,hp⟩ (by simp) (by simp;omega)
   .rw[vO hf hx]at hp;simp
    first|exact Q1.bad _ _ _ hp.symm|exact λs=>Q1.bad _ _ s hp.symm
 |false=>
 refine rdF s2 p2 ?_;have hf:([([43],10),([45],11)].find? λp:Nm×Int=>aL l j2 p.1)=none:=by simp[s1,s2]
 have Q2:=hp.symm.trans (a2l hf);simp;exact Q1.ok _ j2 _ _ Q2 (.inr rfl) (by simp)
omit h3 in
theorem c0L(j0:Nat)(cM:low<=j0+1)(hi:j0<l.length):tR G 181 [] l j0 (a4v aH aZ rdP l ex j0) jP:=by
 have hl:=hV.len;have p0:=gT hi;refine qA.bO func181 rfl ntmps181 rfl (by simp) ?_;intro Q Q0;unfold a4v at Q0;simp;refine uG Q0 p0 yC ((uC hV hN hex h7 kE j0 (by omega) p0.2)) (aB.b0J hV.fin kE hV.mZ.pred) λe j1 x1 Q1 p1=>?_;simp;have hc:=uC hV hN hex h7 kE;cases hs1:aL l j1 [61,61]with
 |true=>
  have Q2:=Q1.sW hs1;refine rdT hs1 p1 hV.fin λp2=>?_;obtain⟨j2,vH⟩:∃j,j1+1=j:=⟨_,rfl⟩;rw[vH]at Q2 p2|-;simp;refine mS 2 [1] (.op 0 (.call [3,4,5] .none) (.call [0,3,4,5] .none)) (kZ (qT aH aZ rdP l ex j2)) (by kernel_rfl) (by kernel_rfl) ?_;simp;refine⟨?_,?_⟩
  all_goals
   refine rX Q2 p2 yC ((uC hV hN hex h7 kE j2 (by omega) p2.2)) (aB.b0J hV.fin kE hV.mZ.pred) λx j3 x3 Q3 p3=>cG.mk ?_;simp;refine aC.mk cZ (oZ 16 e x) ?_;simp;exact Q3.ok _ j3 _ _ rfl (.inr rfl) (by simp)
 |false=>
 have Q1:=Q1.rK (by rw[hs1];decide);refine rdF hs1 p1 ?_;simp;cases hs2:aL l j1 [33,61]with
 |true=>
  have Q2:=Q1.sW hs2;refine rdT hs2 p1 hV.fin λp2=>?_;obtain⟨j2,vH⟩:∃j,j1+1=j:=⟨_,rfl⟩;rw[vH]at Q2 p2|-;simp;refine mS 2 [1] (.op 0 (.call [3,4,5,6,7] .none) (.call [0,3,4,5,6,7] .none)) (kZ (qT aH aZ rdP l ex j2)) (by kernel_rfl) (by kernel_rfl) ?_;simp;refine⟨?_,?_⟩
  all_goals
   refine rX Q2 p2 yC ((uC hV hN hex h7 kE j2 (by omega) p2.2)) (aB.b0J hV.fin kE hV.mZ.pred) λx j3 x3 Q3 p3=>cG.mk ?_;simp;refine aC.mk cZ (oZ 16 e x) ?_;simp;refine aC.mk cZ (a9k 21 (eD 16 [e,x])) ?_;simp;exact Q3.ok _ j3 _ _ rfl (.inr rfl) (by simp)
 |false=>
 have Q1:=Q1.rK (by rw[hs2];decide);refine rdF hs2 p1 ?_;simp;have hc:=uC hV hN hex h7 kE;cases hs3:aL l j1 [60]with
 |true=>
  have Q2:=Q1.sW hs3;refine rdT hs3 p1 hV.fin λp2=>?_;obtain⟨j2,vH⟩:∃j,j1+1=j:=⟨_,rfl⟩;rw[vH]at Q2 p2|-;simp;refine mS 2 [1] (.op 0 (.call [3,4,5] .none) (.call [0,3,4,5] .none)) (kZ (qT aH aZ rdP l ex j2)) (by kernel_rfl) (by kernel_rfl) ?_;simp;refine⟨?_,?_⟩
  all_goals
   refine rX Q2 p2 yC ((uC hV hN hex h7 kE j2 (by omega) p2.2)) (aB.b0J hV.fin kE hV.mZ.pred) λx j3 x3 Q3 p3=>cG.mk ?_;simp;refine aC.mk cZ (oZ 17 e x) ?_;simp;exact Q3.ok _ j3 _ _ rfl (.inr rfl) (by simp)
 |false=>
 have Q1:=Q1.rK (by rw[hs3];decide);refine rdF hs3 p1 ?_;simp;have hc:=uC hV hN hex h7 kE;cases hs4:aL l j1 [60,61]with
 |true=>
  have Q2:=Q1.sW hs4;refine rdT hs4 p1 hV.fin λp2=>?_;obtain⟨j2,vH⟩:∃j,j1+1=j:=⟨_,rfl⟩;rw[vH]at Q2 p2|-;simp;refine mS 2 [1] (.op 0 (.call [3,4,5] .none) (.call [0,3,4,5] .none)) (kZ (qT aH aZ rdP l ex j2)) (by kernel_rfl) (by kernel_rfl) ?_;simp;refine⟨?_,?_⟩
  all_goals
   refine rX Q2 p2 yC ((uC hV hN hex h7 kE j2 (by omega) p2.2)) (aB.b0J hV.fin kE hV.mZ.pred) λx j3 x3 Q3 p3=>cG.mk ?_;simp;refine aC.mk cZ (oZ 18 e x) ?_;simp;exact Q3.ok _ j3 _ _ rfl (.inr rfl) (by simp)
 |false=>
 have Q1:=Q1.rK (by rw[hs4];decide);refine rdF hs4 p1 ?_;simp;cases hs5:aL l j1 [62]with
 |true=>
  have Q2:=Q1.sW hs5;refine rdT hs5 p1 hV.fin λp2=>?_;obtain⟨j2,vH⟩:∃j,j1+1=j:=⟨_,rfl⟩;rw[vH]at Q2 p2|-;simp;refine mS 1 [0] (.op 2 (.call [3,4,5] .none) (.call [2,3,4,5] .none)) (kZ (qT aH aZ rdP l ex j2)) (by kernel_rfl) (by kernel_rfl) ?_;simp;refine⟨?_,?_⟩
  all_goals
   refine rX Q2 p2 yC ((uC hV hN hex h7 kE j2 (by omega) p2.2)) (aB.b0J hV.fin kE hV.mZ.pred) λx j3 x3 Q3 p3=>cG.mk ?_;simp;refine aC.mk cZ (oZ 17 x e) ?_;simp;exact Q3.ok _ j3 _ _ rfl (.inr rfl) (by simp)
 |false=>
 have Q1:=Q1.rK (by rw[hs5];decide);refine rdF hs5 p1 ?_;simp;cases hs6:aL l j1 [62,61]with
 |true=>
  have Q2:=Q1.sW hs6;refine rdT hs6 p1 hV.fin λp2=>?_;obtain⟨j2,vH⟩:∃j,j1+1=j:=⟨_,rfl⟩;rw[vH]at Q2 p2|-;simp;refine mS 1 [0] (.op 2 (.call [3,4,5] .none) (.call [2,3,4,5] .none)) (kZ (qT aH aZ rdP l ex j2)) (by kernel_rfl) (by kernel_rfl) ?_;simp;refine⟨?_,?_⟩
  all_goals
   refine rX Q2 p2 yC ((uC hV hN hex h7 kE j2 (by omega) p2.2)) (aB.b0J hV.fin kE hV.mZ.pred) λx j3 x3 Q3 p3=>cG.mk ?_;simp;refine aC.mk cZ (oZ 18 x e) ?_;simp;exact Q3.ok _ j3 _ _ rfl (.inr rfl) (by simp)
 |false=>
 have Q1:=Q1.rK (by rw[hs6];decide);refine rdF hs6 p1 ?_;simp;exact Q1.ok _ j1 _ _ rfl (.inr rfl) (by simp)
theorem c2q(j0:Nat)(cM:low<=j0+1)(hi:j0<l.length):tR G 164 [] l j0 (a1z aH aZ rdP l ex j0) jP:=by
 have hl:=hV.len;have p0:=gT hi;refine qA.bO func164 rfl ntmps164 rfl (by simp) ?_;intro Q Q0;unfold a1z at Q0;simp;cases hs:aL l j0 [33]with
 |true=>have Q1:=Q0.sW hs;refine rdT hs p0 hV.fin λp1=>?_;obtain⟨j1,tS⟩:∃j,j0+1=j:=⟨_,rfl⟩;rw[tS]at Q1 p1|-;simp;refine uG Q1 p1 (.mk func164 rfl) ((h3 j1 (by omega) p1.2)) (kE 3) λe j2 x2 Q2 p2=>?_;simp;refine jV.mk cZ (a9k 21 e) ?_;simp;exact Q2.ok _ j2 _ _ rfl (.inr rfl) (by simp)
 |false=>have Q0:=Q0.rK (by rw[hs];decide);refine rdF hs p0 ?_;simp;refine rdR Q0 (.mk func181 rfl) (c0L hV hN hex h7 kE j0 (by omega) p0.2) λt j h=>?_;simp;exact Q0.ok t j _ _ h (.inr rfl) (by simp)
theorem d4N(i:Nat)(cM:low<=i+1)(hi:i<l.length):tR G 130 [] l i (b3L aH aZ rdP l ex i) jP:=by
 refine qA.bO func130 rfl ntmps130 rfl (by simp) ?_;intro Q Q0;unfold b3L a1N at Q0;have hl:=hV.len;obtain⟨j0,rfl⟩:∃j0,j0=i:=⟨_,rfl⟩;have p0:=gT hi;generalize kR:a1z aH aZ rdP l ex=one at *;have b2I:∀i,low<=i+1->i<l.length->tR G 164 [] l i (one i) jP:=by rw[<-kR];exact c2q hV hN hex h3 h7 kE
 have b2J:aB l 1 one:=by
  first
   |assumption
   |(rw[<-kR]
     exact aB.b3M hV.fin kE hV.mZ.pred)
 simp;refine uG Q0 p0 (.mk func164 rfl) ((b2I j0 (by omega) p0.2)) (b2J) λe j1 x1 Q1 p1=>?_;simp;refine SW.sV (ι:={x:cP×Nat×Nat//j1<=x.2.1/\x.2.1<l.length/\l.length<x.2.2+x.2.1/\jE l [([38,38],19)] one x.2.2 x.1 x.2.1=jE l [([38,38],19)] one (l.length+2) e j1}) (λ_=>[]) (λx=>[(2,.cells [.d (.int .i64 0),.d (.str []),.d (.int .i64 0),.d .aE,.d .aE,.d .aE,.d .aE]),(3,.cells ((a0h x.1.1).map .d)),(100000,rdO l x.1.2.1)]) (λ_=>[]) (λx=>l.length-x.1.2.1) ⟨(e,j1,l.length+2),g3G _,p1.2,by simp only;omega,rfl⟩ (by simp) ?_;rintro⟨⟨e2,j2,g⟩,hb,vH,hg,hp⟩;simp only at hb vH hg hp;obtain⟨g,rfl⟩:∃k,g=k+1:=⟨g-1,by omega⟩;have p2:j1<=j2/\j2<l.length:=⟨hb,vH⟩;simp;cases s1:aL l j2 [38,38]with
 |true=>
  have hf:([([38,38],19)].find? λp:Nm×Int=>aL l j2 p.1)=some ([38,38],19):=by simp[s1]
  have hn:=aV hV.fin vH s1;refine qB (ds:=[.str [38,38]]) (d:=.d (.bool true)) kU (tY l j2 [38,38] p2.2 (by omega) s1) ?_;simp;refine mS 2 [1] (.op 0 (.call [3,4,5] .none) (.call [0,3,4,5] .none)) (kZ (one (j2+1))) (by kernel_rfl) (by kernel_rfl) ?_;simp;refine⟨?_,?_⟩
  all_goals
   refine rdZ (i:=j2+1) (ds:=[]) (.mk func164 rfl) (b2I (j2+1) (by omega) hn) (λx j3 x3=>?_) (λn e hx=>?_)
   .have p3:=b2J (j2+1) x j3 hn x3;rw[yD hf x3]at hp;refine cG.mk ?_;simp;refine aC.mk cZ (oZ 19 e2 x) ?_;simp;exact bE.mk ⟨(eD 19 [e2,x],j3,g),by simp only;omega,p3.2,by simp only;omega,hp⟩ (by simp) (by simp;omega)
   .rw[vO hf hx]at hp;simp
    first|exact Q1.bad _ _ _ hp.symm|exact λs=>Q1.bad _ _ s hp.symm
 |false=>
 refine rdF s1 p2 ?_;have hf:([([38,38],19)].find? λp:Nm×Int=>aL l j2 p.1)=none:=by simp[s1]
 have Q2:=hp.symm.trans (a2l hf);simp;exact Q1.ok _ j2 _ _ Q2 (.inr rfl) (by simp)
theorem d0S:aB l 1 (b3L aH aZ rdP l ex):=aB.lvl hV.fin (aB.b3M hV.fin kE hV.mZ.pred)
theorem d8y(i:Nat)(cM:low<=i+1)(hi:i<l.length):tR G 83 [] l i (c1L aH aZ rdP l ex i) jP:=by
 refine qA.bO func83 rfl ntmps83 rfl (by simp) ?_;intro Q Q0;unfold c1L a1N at Q0;have aor:=d0S hV hN hex h3 h7 kE;have hl:=hV.len;obtain⟨j0,rfl⟩:∃j0,j0=i:=⟨_,rfl⟩;have p0:=gT hi;generalize kR:b3L aH aZ rdP l ex=one at *;have b2I:∀i,low<=i+1->i<l.length->tR G 130 [] l i (one i) jP:=by rw[<-kR];exact d4N hV hN hex h3 h7 kE
 have b2J:aB l 1 one:=by
  first
   |assumption
   |(rw[<-kR]
     exact(λ_ _ _=>aor) hV.fin kE hV.mZ.pred)
 simp;refine uG Q0 p0 (.mk func130 rfl) ((b2I j0 (by omega) p0.2)) (b2J) λe j1 x1 Q1 p1=>?_;simp;refine SW.sV (ι:={x:cP×Nat×Nat//j1<=x.2.1/\x.2.1<l.length/\l.length<x.2.2+x.2.1/\jE l [([124,124],20)] one x.2.2 x.1 x.2.1=jE l [([124,124],20)] one (l.length+2) e j1}) (λ_=>[]) (λx=>[(2,.cells [.d (.int .i64 0),.d (.str []),.d (.int .i64 0),.d .aE,.d .aE,.d .aE,.d .aE]),(3,.cells ((a0h x.1.1).map .d)),(100000,rdO l x.1.2.1)]) (λ_=>[]) (λx=>l.length-x.1.2.1) ⟨(e,j1,l.length+2),g3G _,p1.2,by simp only;omega,rfl⟩ (by simp) ?_;rintro⟨⟨e2,j2,g⟩,hb,vH,hg,hp⟩;simp only at hb vH hg hp;obtain⟨g,rfl⟩:∃k,g=k+1:=⟨g-1,by omega⟩;have p2:j1<=j2/\j2<l.length:=⟨hb,vH⟩;simp;cases s1:aL l j2 [124,124]with
 |true=>
  have hf:([([124,124],20)].find? λp:Nm×Int=>aL l j2 p.1)=some ([124,124],20):=by simp[s1]
  have hn:=aV hV.fin vH s1;refine qB (ds:=[.str [124,124]]) (d:=.d (.bool true)) kU (tY l j2 [124,124] p2.2 (by omega) s1) ?_;simp;refine mS 2 [1] (.op 0 (.call [3,4,5] .none) (.call [0,3,4,5] .none)) (kZ (one (j2+1))) (by kernel_rfl) (by kernel_rfl) ?_;simp;refine⟨?_,?_⟩
  all_goals
   refine rdZ (i:=j2+1) (ds:=[]) (.mk func130 rfl) (b2I (j2+1) (by omega) hn) (λx j3 x3=>?_) (λn e hx=>?_)
   .have p3:=b2J (j2+1) x j3 hn x3;rw[yD hf x3]at hp;refine cG.mk ?_;simp;refine aC.mk cZ (oZ 20 e2 x) ?_;simp;exact bE.mk ⟨(eD 20 [e2,x],j3,g),by simp only;omega,p3.2,by simp only;omega,hp⟩ (by simp) (by simp;omega)
   .rw[vO hf hx]at hp;simp
    first|exact Q1.bad _ _ _ hp.symm|exact λs=>Q1.bad _ _ s hp.symm
 |false=>
 refine rdF s1 p2 ?_;have hf:([([124,124],20)].find? λp:Nm×Int=>aL l j2 p.1)=none:=by simp[s1]
 have Q2:=hp.symm.trans (a2l hf);simp;exact Q1.ok _ j2 _ _ Q2 (.inr rfl) (by simp)
end
end
end
end Go.Proofs.YtmfbjecjccipfaaGreatDoor
section
namespace Go.VM
open Go Go.RowKit
section
variable {P:Program} {G:GT} {st:St}
variable{all:Array Oper}
theorem tK{QQ:Exit->Act->World->Prop}{a a':Act}{w w':World}{o:Oper}{rest:List Oper}(hg:o.guard=none){v:Value}(dG:(execOp a.eval o).run P w=.ok (.value v) w'\/((execOp a.eval o).run P w=.ok .skip w'/\v=Go.undef))(ha:a.put o.dst v=a')(h:wpList P all QQ rest a' w'):wpList P all QQ (o::rest) a w:=by
 have hw:∀y,Region.wanted o y=true:=λy=>by unfold Region.wanted;rw[hg]
 unfold wpList;rw[if_pos (hw _)];left;unfold Oper.wp;rcases dG with h1|⟨h1,rfl⟩
 .rw[h1]
  show wpList P all QQ rest (a.put o.dst v) w'
  rw[ha];exact h
 .rw[h1]
  show wpList P all QQ rest (a.put o.dst Go.undef) w'
  rw[ha];exact h
def f3Z(P:Program)(G:GT)(t:TypeId)(x d s:Tmp)(j:Nat)(parts:Array (Nat×Operand))(Q:St->Prop)(st:St):Prop:=
 ∃(d8z b2K d4O:Out)(k off:Nat),(s<st.tmps.length/\x<st.tmps.length/\d<st.tmps.length)/\b0q P G t parts st=some d8z/\b3v P (some d) t (finish d8z.st (some x) d8z.v d8z.act)=some b2K/\uF P G t (.tmp d) (.tmp x) (finish b2K.st (some d) b2K.v b2K.act)=some d4O/\(finish b2K.st (some d) b2K.v b2K.act).eval G (.tmp d)=.ptr k off/\d4O.st.eval G (.tmp d)=.ptr k off/\(∃cs,getKey k (finish b2K.st (some d) b2K.v b2K.act).H=some (.cells cs))/\
  (∀(o:Oper),o.op=.build t parts->∀base R μ a w,Rel P G base R μ st a w->∃cs:Array Value,(execOp a.eval o).run P w=.ok (.value (.agg cs)) w/\cs[j]? =some (a.eval (.tmp s))/\cs.size=P.cellsOf t)/\(getKey k d4O.st.H).isSome=true/\Q {d4O.st with own:=addAlias (.t s) (.c k (off+j)) d4O.st.own}
theorem LW.f0d{t:TypeId}{x d s:Tmp}{j:Nat}{parts:Array (Nat×Operand)}{y0 y1 y2:TypeId}{p0 p1 p2:String}{f0 f1 f2:Array Edge}{Q:Exit->St->Prop}(gJ:x≠s/\x≠d/\d≠s)(hct:P.cellsOf t≠0)(h:f3Z P G t x d s j parts (λs'=>Q .normal s') st):
  LW P G all [⟨some x,.build t parts,y0,p0,f0,none⟩,⟨some d,.alloc t,y1,p1,f1,none⟩,⟨none,.store t (.tmp d) (.tmp x),y2,p2,f2,none⟩] st Q:=by
 unfold LW;intro base R μ a w hr QQ hk;obtain⟨d8z,b2K,d4O,k,off,k0,k1,kA,k2,k3,k4,⟨cs0,k5⟩,f7M,k6,k7⟩:=h;obtain⟨cs,e0,e1,e2⟩:=f7M ⟨some x,.build t parts,y0,p0,f0,none⟩ rfl base R μ a w hr;obtain⟨v,w0,R0,μ0,dG,hr1,hv1,ha1,hs1⟩:=c1i (o:=⟨some x,.build t parts,y0,p0,f0,none⟩) rfl k1 base R μ a w hr;rw[e0]at dG;have hv:v=.agg cs/\w0=w:=by
  rcases dG with dG|⟨dG,_⟩
  .cases dG;exact⟨rfl,rfl⟩
  .cases dG
 obtain⟨rfl,rfl⟩:=hv;have hr2:=hr1.put (dst:=some x) hv1 ha1;generalize ha:a.put (some x) (.agg cs)=a0 at hr2;have hsa:s<a.tmps.size:=by rw[hr.size];exact k0.1
 have hxa:x<a.tmps.size:=by rw[hr.size];exact k0.2.1
 have hda:d<a.tmps.size:=by rw[hr.size];exact k0.2.2
 have f7N:a0.eval (.tmp x)=.agg cs:=by rw[<-ha];exact eP hxa
 have es0:a0.eval (.tmp s)=a.eval (.tmp s):=by rw[<-ha];exact cK (Ne.symm gJ.1)
 obtain⟨vA,w1,R1,μ1,f4a,hrA,hvA,haA,hsA⟩:=c1k (o:=⟨some d,.alloc t,y1,p1,f1,none⟩) rfl kA base R0 μ0 a0 w0 hr2;have hr2:=hrA.put (dst:=some d) hvA haA;generalize hb:a0.put (some d) vA=a1 at hr2;have f7O:s<a1.tmps.size:=by rw[<-hb,size_put, <- ha,size_put];exact hsa
 have es:a1.eval (.tmp s)=a.eval (.tmp s):=by rw[<-hb,cK (Ne.symm gJ.2.2)];exact es0
 have hxv:a1.eval (.tmp x)=.agg cs:=by rw[<-hb,cK gJ.2.1];exact f7N
 obtain⟨v2,w2,R2,μ2,a9R,hr3,_,_,hs2⟩:=a8J (o:=⟨none,.store t (.tmp d) (.tmp x),y2,p2,f2,none⟩) rfl k2 base R1 μ1 a1 w1 hr2;obtain⟨_,_,cur,T0,hh,hcz,_⟩:=hr2.mL k _ k5;have had:=hr2.eO k3;have hcc:(Value.agg cs).cells=cs:=rfl;have k2':=k2;unfold uF at k2;rw[k3]at k2;split at k2;rotate_left
 .cases k2
 rename_i k' a7h ys hk' hys;cases hk';rw[k5]at k2;simp only at k2;split at k2;rotate_left
 .cases k2
 rename_i hcd;have hvx:xQ ((finish b2K.st (some d) b2K.v b2K.act).eval G (.tmp x))=some ys:=hys;obtain⟨tA,hvc⟩:=a4R (hr2.eval (.tmp x)) hvx;rw[hxv,hcc]at tA hvc;have kR:∀u∈cs.toList,u.oneCell'=true:=λu hu=>by
  obtain⟨i,hi⟩:=g3H hu;have zC:i<ys.length:=by rw[<-tA];simpa using (g3r.1 hi).1
  obtain⟨_,_,h2⟩:=hvc i ys[i] (by simp[zC]);have:cs.getD i undef=u:=by
   have:cs[i]? =some u:=by simpa using hi
   simp[g3s,this]
  rw[this]at h2;exact h2
 have mX:off+cs.size<=cur.size:=by rw[hcz,tA];omega
 have pP:=wB (P:=P) (a:=a1) (w:=w1) (o:=⟨none,.store t (.tmp d) (.tmp x),y2,p2,f2,none⟩) rfl had hh (by rw[hxv,hcc];exact e2) hct (by rw[hxv,hcc];exact kR) (by rw[hxv,hcc];exact mX);rw[hxv,hcc]at pP;have hw2:w2=w1.setRow (μ1 k) (spl cur off cs.toList):=by
  rw[pP]at a9R;rcases a9R with a9R|⟨a9R,_⟩
  .cases a9R
  .cases a9R;rfl
 have hμ:μ2 k=μ1 k:=by have h1:=hr3.eO k4;rw[had]at h1;have h2:=(Addr.mk.inj (Option.some.inj (Value.pointer.inj h1))).1;exact h2.symm
 have rN:∀u,w2.cell? ⟨μ2 k,off+j,none⟩=some u->u=a1.eval (.tmp s):=λu hu=>by
  have hjl:j<cs.size:=(g3z.1 e1).1;rw[hμ,hw2,cell_of_row _ _ _ _ T0 (0,0) (setRow_heap w1 (μ1 k) cur _ T0 _ hh),b2b (by simpa using mX),if_neg (by omega),if_pos (by simp;omega),Nat.add_sub_cancel_left]at hu;have:cs.toList[j]? =some (a.eval (.tmp s)):=by simpa using e1
  rw[this]at hu;cases hu;exact es.symm
 have hr4:=hr3.alias (t:=s) (k:=k) (off:=off+j) (g3S.1 k6) f7O rN;refine tK rfl (.inl e0) ha ?_;refine tK rfl f4a hb ?_;refine tK (w':=w2) rfl (.inr ⟨by rw[hw2];exact pP,rfl⟩) rfl ?_;unfold wpList;exact hk _ _ _ _ R2 μ2 k7 hr4 ((hs1.trans hsA).trans hs2)
end
end Go.VM
end
namespace Go.Proofs.YtmfbjecjccipfaaGreatDoor
section
open Go Go.VM
variable {G:GT}
variable{w:World}
theorem d8A{R:Nat->Nat->Prop}{v:Value}{es:List (List D)}(h:V R w v (.sl es)):∃ao n c,v=.slice ao n c:=by
 cases h with
 |emp ao cap=>exact⟨_,_,_,rfl⟩
 |sl b o n cap size es f h1 h2 h3 h4 h5 h6 h7=>exact⟨_,_,_,rfl⟩
theorem d4P{a:Act}{o:Oper}(ho:o.op=.build 43 #[(0,.const (.int .i64 25)),(1,.tmp 44),(3,.tmp 46)]){s:ByteArray}{a1:Option Addr}{n1 c1:Nat}(h2:a.eval (.tmp 44)=.string s)(h1:a.eval (.tmp 46)=.slice a1 n1 c1):
  (execOp a.eval o).run prog w=.ok (.value (.agg #[.int .i64 25,.string s,.int .i64 0,.slice a1 n1 c1,.slice none 0 0,.slice none 0 0,.slice none 0 0])) w:=by
 have hz:(prog.info? 43).bind (·.zero)=some (.agg #[.int .i64 0,.string ⟨#[]⟩,.int .i64 0,.slice none 0 0,.slice none 0 0,.slice none 0 0,.slice none 0 0]):=by kernel_rfl
 obtain⟨i,hi,hz⟩:=g3E.1 hz;simp[execOp,ho,Instr.build,zeroValue,typeInfo,hi,hz];rw[h1,h2]
 rfl
section
variable {α:Type} {Q:Exit->St->Prop} {l:List Tok} {i:Nat} {enc:α->DV} {e:TypeId} {r:gO α}
theorem f7P{f:FuncId}{ds:List D}{av:List DV}{st:St}{ls:List (Option VM.Loc)}{dst:Option Tmp}{KK:St->Prop}(he:VM.Enters prog f)(hc:RdO G f ds l i e r enc)(pG:∀a j,r=.ok a j->KK (bJ K1 dst st st.own (enc a) (rH l j) [(e,[.t 0])]))(a4X:∀n e,r=.bad n e->Q (.panic (a2d (rP n e))) (a3R st))(hk:∀a,bB K1 (enc a)=true/\bI K1 (enc a)=enc a:=by intro a;exact⟨rfl,rfl⟩)(hw:WkT av (.ptr 100000 0::ds.map .d):=by simp)(hH:getKey 100000 st.H=some (rdO l i):=by simp):tQ prog G f av ls dst st KK Q (kZ r):=by
 rw[<-c7o (l:=l) (enc:=enc) (Y:=λ_=>[]) (own:=[(e,[.t 0])]) r];refine tQ.mk he hc K1 (λd H1 own1 hx=>?_) (λv hx=>?_) ?_ ?_ rfl rfl (λd H1 own1 hx=>?_) (λv hx=>?_)
 .cases r with
  |bad n e=>cases hx
  |ok a j=>cases hx;simp[aW,bB,bD,bC,eX,bK,getKey,(hk a).1]
 .simp[aW,bB,bD,bC,eX,bK,getKey]
 .simpa[bA,bI,rk,kO]using hw
 .simp only[dC,rdO,List.append_nil,List.map_cons,List.map_nil,rk,if_true,dL,bA,bI,WkH,and_true];exact⟨_,hH,by simp[WkO]⟩
 .cases r with
  |bad n e=>cases hx
  |ok a j=>cases hx;exact pG a j rfl
 .cases r with
  |bad n e=>cases hx;exact a4X n e rfl
  |ok a j=>cases hx
end
section
variable {rdP:List Tok->Nat->Nat->gO Pr} {l:List Tok} (hV:rQ G rdP l) (hN:∀i, -9223372036854775807<=(aJ l i).n/\(aJ l i).n<=9223372036854775807)
include hV hN
section
variable {ex:Nat->bF cP} {low:Nat} (hex:∀i,low<=i->i<l.length->tR G 41 [] l i (ex 0 i) jP) (h3:∀i,low<=i->i<l.length->tR G 164 [] l i (ex 3 i) jP) (h7:∀i,low<=i->i<l.length->tR G 245 [] l i (ex 7 i) jP) (kE:∀k,aB l 1 (ex k))
include hex h3 h7 kE
omit hN hex h3 h7 in
theorem d4Q(i:Nat)(ks:List cP)(j:Nat)(hi:i<l.length)(h:kW l ex i=.ok ks j):ks.length<=j:=by unfold kW at h;obtain⟨_,k1,h1,h⟩:=dF h;obtain⟨es,k2,h2,h⟩:=dF h;obtain⟨_,k3,h3,h⟩:=dF h;have a1:=aB.exp hV.fin _ _ i _ k1 hi h1;have a2:=vM hV (one:=c7J ex) (λa p=>a.length<=p) (λa p b q hp ha hab=>⟨b8D hV kE a p b q hp ha hab,(b3Z hV kE a p b q hp hab).2⟩) (λa p h=>by omega) _ _ _ _ _ a1.2 (by simp) h2;have a3:=aB.exp hV.fin _ _ k2 _ k3 a2.2 h3;cases h;omega
theorem d0T(j0:Nat)(cM:low<=j0+1)(hi:j0<l.length):tR G 41 [] l j0 (a7J aH aZ rdP l ex j0) jP:=by
 have hl:=hV.len;have p0:=gT hi;refine qA.xA func41 rfl ntmps41 rfl (by simp) ?_;intro Q Q0;unfold a7J at Q0;refine SW.gN (SW.xk ?_);simp;refine SW.gN (SW.d0n ?_);refine SW.gN (SW.xk ?_);simp;cases s1:aL l j0 [108,101,116]with
 |true=>have Q1:=Q0.sW s1;refine rdT s1 p0 hV.fin λp1=>?_;obtain⟨j1,tS⟩:∃j,j0+1=j:=⟨_,rfl⟩;rw[tS]at Q1 p1|-;simp;refine SW.a9S rfl ?_;refine SW.xk ?_;simp;refine rdR Q1 (.mk func77 rfl) (d4J hV hex kE j1 (by omega) p1.2) λt j h=>?_;simp;exact Q1.ok t j _ _ h (.inr rfl) (by simp)
 |false=>
 have Q0:=Q0.rK (by rw[s1];decide);refine rdF s1 p0 ?_;simp;refine SW.b5e rfl ?_;refine SW.gN (SW.xk ?_);simp;cases s2:aL l j0 [105,102]with
 |true=>
  have Q1:=Q0.sW s2;refine rdT s2 p0 hV.fin λp1=>?_;obtain⟨j1,tS⟩:∃j,j0+1=j:=⟨_,rfl⟩;rw[tS]at Q1 p1|-;simp;refine SW.a9S rfl ?_;refine SW.xk ?_;simp;refine uG Q1 p1 cW ((hex j1 (by omega) p1.2)) (kE 0) λa j2 x2 Q2 p2=>?_;simp;refine eS Q2 p2 hV.fin λu3 j3 x3 Q3 p3=>?_;simp;refine uG Q3 p3 cW ((hex j3 (by omega) p3.2)) (kE 0) λb j4 x4 Q4 p4=>?_;simp;refine eS Q4 p4 hV.fin λu5 j5 x5 Q5 p5=>?_;simp;refine mS 3 [2] (.op 0 (.op 1 (.call [4,5,6] .none) (.call [1,4,5,6] .none)) (.op 1 (.op 0 (.call [4,5,6] .none) (.call [0,4,5,6] .none)) (.call [0,1,4,5,6] .none))) (kZ (ex 0 j5)) (by kernel_rfl) (by kernel_rfl) ?_;simp
  repeat' apply And.intro
  all_goals
   refine rX Q5 p5 cW ((hex j5 (by omega) p5.2)) (kE 0) λc j6 x6 Q6 p6=>cG.mk ?_;simp;refine aC.mk cZ (d4H 8 a b c) ?_;simp;exact Q6.ok _ j6 _ _ rfl (.inr rfl) (by simp)
 |false=>
 have Q0:=Q0.rK (by rw[s2];decide);refine rdF s2 p0 ?_;simp;refine SW.b5e rfl ?_;refine SW.gN (SW.xk ?_);simp;cases s3:aL l j0 [99,97,115,101]with
 |true=>have Q1:=Q0.sW s3;refine rdT s3 p0 hV.fin λp1=>?_;obtain⟨j1,tS⟩:∃j,j0+1=j:=⟨_,rfl⟩;rw[tS]at Q1 p1|-;simp;refine SW.a9S rfl ?_;refine SW.xk ?_;simp;refine rdR Q1 (.mk func79 rfl) (c7L hV hex kE j1 (by omega) p1.2) λt j h=>?_;simp;exact Q1.ok t j _ _ h (.inr rfl) (by simp)
 |false=>
 have Q0:=Q0.rK (by rw[s3];decide);refine rdF s3 p0 ?_;simp;refine SW.b5e rfl ?_;refine SW.gN (SW.xk ?_);simp;cases s4:aL l j0 [102,117,110]with
 |true=>have Q1:=Q0.sW s4;refine rdT s4 p0 hV.fin λp1=>?_;obtain⟨j1,tS⟩:∃j,j0+1=j:=⟨_,rfl⟩;rw[tS]at Q1 p1|-;simp;refine SW.a9S rfl ?_;refine SW.xk ?_;simp;refine rdR Q1 (.mk func80 rfl) (c4i hV hex kE j1 (by omega) p1.2) λt j h=>?_;simp;exact Q1.ok t j _ _ h (.inr rfl) (by simp)
 |false=>
 have Q0:=Q0.rK (by rw[s4];decide);refine rdF s4 p0 ?_;simp;refine SW.b5e rfl ?_;refine SW.gN (SW.xk ?_);simp;cases s5:aL l j0 [117,115,101]with
 |true=>
  have Q1:=Q0.sW s5;refine rdT s5 p0 hV.fin λp1=>?_;obtain⟨j1,tS⟩:∃j,j0+1=j:=⟨_,rfl⟩;rw[tS]at Q1 p1|-;simp;refine SW.a9S rfl ?_;refine SW.gN (SW.lw ?_);refine LW.at 1 1 (kZ (bV aH l j1)) rfl ⟨_,rfl⟩ ?_;simp;refine rdZ (ds:=[]) dS (eN hV.kw l j1 p1.2 (by omega)) (λnm j2 x2=>?_) (λn e hx=>Q1.fail hx _);have Q2:=Q1.step x2;have p2:=aB.word hV.fin j1 nm j2 p1.2 x2;simp;refine LW.at 1 3 (kZ (kW l ex j2)) rfl ⟨_,rfl⟩ ?_;simp;refine f7P a4d (b8E hV hex kE j2 (by omega) p2.2) (λks j3 x3=>?_) (λn e hx=>Q2.fail hx _);have Q3:=Q2.step x3;have p3:=aB.qG hV.fin kE j2 ks j3 p2.2 x3;have hks:=d4Q hV kE j2 ks j3 p2.2 x3;simp[bJ,bA,bI,rk,dC,dL,bX,kI,jA,eI];refine LW.f0d (s:=46) (j:=3) (by decide) (by decide+kernel) ?_;refine⟨_,_,_,_,_,by simp,rfl,rfl,rfl,rfl,rfl,⟨_,rfl⟩,?_,rfl,?_⟩
  .intro o ho base R μ a w hr;obtain⟨ao,n1,c1,hs1⟩:=d8A (hr.pX (x:=.tmp 46) rfl);have hs2:=(hr.pX (x:=.tmp 44) rfl).vR;exact⟨_,d4P ho hs2 hs1,by rw[hs1];rfl,by kernel_rfl⟩
  refine SW.xk ?_;simp[addAlias];refine eS Q3 p3 hV.fin λu4 j4 x4 Q4 p4=>?_;simp;refine dK [0,2] 3 [] (.op 1 (.call [4,5,6,7] .none) (.call [1,4,5,6,7] .none)) (kZ (ex 0 j4)) (by kernel_rfl) (by kernel_rfl) ?_;simp;refine⟨?_,?_⟩
  all_goals
   refine rX Q4 p4 cW ((hex j4 (by omega) p4.2)) (kE 0) λb j5 x5 Q5 p5=>cG.mk ?_;simp;refine bQ ⟨λx _=>by rw[cB];rfl,by omega⟩ ?_;simp;exact Q5.ok _ j5 _ _ rfl (.inr rfl) (by simp[cB])
 |false=>
 have Q0:=Q0.rK (by rw[s5];decide);refine rdF s5 p0 ?_;simp;refine SW.b5e rfl ?_;refine SW.xk ?_;simp;refine SW.xk ?_;simp;refine rdR Q0 (.mk func83 rfl) (d8y hV hN hex h3 h7 kE j0 (by omega) p0.2) λt j h=>?_;simp;exact Q0.ok t j _ _ h (.inr rfl) (by simp)
end
theorem c2r:∀n,(∀i,i<l.length->l.length<n+i->tR G 41 [] l i (yM aH aZ rdP l n 0 i) jP)/\(∀i,i<l.length->l.length<n+i->tR G 164 [] l i (yM aH aZ rdP l n 3 i) jP)/\(∀i,i<l.length->l.length<n+i->tR G 245 [] l i (yM aH aZ rdP l n 7 i) jP)
 |0=>⟨λi hi h=>by omega,λi hi h=>by omega,λi hi h=>by omega⟩
 |n+1=>by
  obtain⟨k0,k3,k7⟩:=c2r n;have kE:=aB.exF (kw:=aH) (andP:=aZ) hV.fin hV.mZ.pred n;refine⟨λi hi h=>?_,λi hi h=>?_,λi hi h=>?_⟩
  .exact d0T hV hN (ex:=yM aH aZ rdP l n) (low:=i+1) (λi' h1 h2=>k0 i' h2 (by omega)) (λi' h1 h2=>k3 i' h2 (by omega)) (λi' h1 h2=>k7 i' h2 (by omega)) kE i (g3G _) hi
  .exact c2q hV hN (ex:=yM aH aZ rdP l n) (low:=i+1) (λi' h1 h2=>k0 i' h2 (by omega)) (λi' h1 h2=>k3 i' h2 (by omega)) (λi' h1 h2=>k7 i' h2 (by omega)) kE i (g3G _) hi
  .exact b5u hV hN (ex:=yM aH aZ rdP l n) (low:=i+1) (λi' h1 h2=>k0 i' h2 (by omega)) (λi' h1 h2=>k7 i' h2 (by omega)) kE i (g3G _) hi
theorem a4e(i:Nat)(hi:i<l.length):tR G 41 [] l i (sG aH aZ rdP l i) jP:=(c2r hV hN _).1 i hi (by omega)
omit hN in
theorem b0Y:aB l 1 (sG aH aZ rdP l):=aB.expr hV.fin hV.mZ.pred
end
theorem jO:VM.Enters prog 74:=.mk func74 rfl
theorem mI:VM.Enters prog 125:=.mk func125 rfl
section
variable {rdP:List Tok->Nat->Nat->gO Pr} {l:List Tok} (hV:rR G rdP l)
include hV
omit hV in
theorem RfG.drop{α:Type}{f:FuncId}{ds:List D}{s:dB}{y:α×dB}{enc:α->DV}{own:List (TypeId×List VM.Loc)}(h:RfG G f ds l s y enc own):eH G f ds l s y enc:=CH.drop (own1:=own) h
section
variable {ex:Nat->bF cP} {ex':Nat->RM cP} {low:Nat} (hM:∀k,aF l (low+1) (ex k) (ex' k)) (ax:∀k,aB l 1 (ex k)) (h0:∀s,bY l s->(s.er=0->low+1<=s.pl)->eH G 74 [] l s (ex' 0 s) jP)
include hM ax h0
abbrev e7e(ex':Nat->RM cP)(out:List cP):RM (List cP):=do let e <- ex' 0;pure (out++[e])
theorem b5v(s0:dB)(hv:bY l s0)(cM:s0.er=0->low<=s0.pl):RfG G 124 [] l s0 (tH l ex' s0) (λes=>.d (.sl (es.map a2c))) [(43,[.t 0])]:=by
 have hl:=hV.len;have v0:=hv;refine eH.bO func124 rfl ntmps124 rfl ?_;intro Q Q0;unfold tH at Q0;simp;refine rfM Q0 v0 hV.fin λu1 s1 h1 Q1 p1 v1=>?_;have l1:s1.er=0->low+1<=s1.pl:=λh=>by have:=p1 h;have:=cM this.1;omega
 simp;refine a1F hV.fin [44] (e7e ex') (λa=>a.length) (λ_=>True) 4 (λa=>[(3,.d (.sl (a.map a2c)))]) (λ_ s=>rfH l s) (λ_=>[(43,[.t 3])]) (l.length+2) [] s1 (by omega) v1 rfl trivial (by simp) ?_ ?_
 .intro a s0 e0 i0 bs la _ R hR;have v0:bY l s0:=λ_=>i0;have l0:s0.er=0->low+1<=s0.pl:=λ_=>Nat.le_trans (l1 bs.1) bs.2;simp[e0];refine cH jO (h0 s0 v0 l0) (λe s1 h1=>?_);have p1:uI l 1 s0 s1:=(hM 0).mZ (ax 0) v0 l0 h1;have v1:=bY.next p1;simp;refine eF (by first|omega|(simp[cB];omega)|exact⟨λx hx=>by obtain⟨y,_,rfl⟩:=g3L.1 hx;first|rfl|(rw[cB];rfl),by omega⟩|exact⟨rfl,by omega⟩) ?_;simp;refine cH bS (cN (by omega) [44] s1 v1) (λbh sh hh=>?_);simp;refine hR _ (a++[e]) s1 (by simp only[aQ,h1];rfl) (by rw[hh];simp[cB]) (λh=>?_) (by simp) trivial;have:=(p1) h;omega
 ·
  intro a s2 m hm qZ la hJ v2 hy R;have hm':m=false\/(m=true/\ ¬s2.er=0):=by
   cases m
   .exact .inl rfl
   .rcases hm with h|h
    .cases h
    .exact .inr ⟨rfl,h⟩
  have Q2:=Q1.step (x:=mH l [44] (e7e ex') []) hy;rcases hm' with rfl|⟨rfl,h⟩
  all_goals
   first
    |simp[h]
    |simp
   refine rfM Q2 v2 hV.fin λu3 s3 h3 Q3 p3 v3=>?_;simp;exact Q3.ok _ _ (.inr rfl) (by simp)
theorem d0U(s:dB)(hv:bY l s)(cM:s.er=0->low<=s.pl):eH G 124 [] l s (tH l ex' s) (λes=>.d (.sl (es.map a2c))):=RfG.drop (b5v hV hM ax h0 s hv cM)
theorem c4k(s0:dB)(hn:∀i, -9223372036854775807<=(aJ l i).n/\(aJ l i).n<=9223372036854775807)(he:s0.er=0)(hv:s0.pl<l.length)(cM:low<=s0.pl):eH G 207 [] l s0 (c7p aH aZ rdP l ex' s0) jP:=by
 have hl:=hV.len;have v0:bY l s0:=λ_=>hv;have hs1:eH G 60 [.int .i64 1,.str [45]] l s0 _ _:=tI (by omega) 1 [45] s0 v0 (by omega);have hs3:eH G 60 [.int .i64 3,.str [41]] l s0 _ _:=tI (by omega) 3 [41] s0 v0 (by omega);have hp2:eH G 21 [.int .i64 2] l s0 _ _:=oG (by omega) 2 s0 v0 (by omega);have hnn: -9223372036854775807<=(gG l 2 s0).n/\(gG l 2 s0).n<=9223372036854775807:=by
  unfold gG;split
  .exact hn _
  .simp
 refine eH.xA func207 rfl ntmps207 rfl ?_;intro Q Q0;unfold c7p at Q0;refine SW.gN (SW.xk ?_);simp;obtain⟨c,hc⟩:∃c,(bZ l 1 [45] s0&&(decide ((gG l 2 s0).kind=3)&&bZ l 3 [41] s0))=c:=⟨_,rfl⟩;refine SW.gN (SW.a7Q [(16,.d (.bool c))] ([(2,.cells [.d (.int .i64 0),.d (.str []),.d (.int .i64 0),.d .aE,.d .aE,.d .aE,.d .aE])]++rfH l s0) [] (SW.xk ?_) (SW.xk ?_))
 .simp;refine cH cC hs1 (λb x hx=>?_);cases hx;rcases g3O (bZ l 1 [45] s0)with w1|w1
  .rw[w1];simp;refine cH gV hp2 (λT x hx=>?_);cases hx;generalize gG l 2 s0=T at hc|-;obtain⟨a,b,n,d⟩:=T;by_cases k3:a=3
   .simp[bL,k3];refine cH cC hs3 (λb x hx=>?_);cases hx;simp[<-hc,w1,k3]
   .simp[bL,k3];simp[<-hc,w1,k3]
  .rw[w1];simp[<-hc,w1]
 rw[hc]at Q0;cases c with
 |true=>
  have Q0:=Q0.sW rfl;have aG:s0.pl+2<l.length:=by
   simp only[g3q,g4e]at hc;have h:=hc.2.1;unfold gG at h;split at h
   .rename_i h2;exact h2.2
   .cases h
  have hw:IntKind.i64.wrap ((s0.pl:Int)+4)=((s0.pl+4:Nat):Int):=by rw[wrap64 (by omega)];omega
  simp;refine cH gV hp2 (λT x hx=>?_);cases hx;generalize gG l 2 s0=T at hnn Q0|-;obtain⟨a,b,n,d⟩:=T;simp only at hnn;have hwn:IntKind.i64.wrap (-n)= -n:=wrap64 (by omega);simp[bL,hw,hwn];exact Q0.ok _ _ (.inr rfl) (by simp)
 |false=>
  have Q0:=Q0.rK (by decide);simp;refine SW.xk ?_;simp;refine rfM Q0 v0 hV.fin λu1 s1 h1 Q1 p1 v1=>?_;have l1:s1.er=0->low+1<=s1.pl:=λh=>by have:=p1 h;omega
  simp;refine cH jO (h0 s1 v1 l1) (λe s2 h2=>?_);have Q2:=Q1.step h2;have p2:uI l 1 s1 s2:=(hM 0).mZ (ax 0) v1 l1 h2;have v2:=bY.next p2;simp;refine cH bS (cN (by omega) [58] s2 v2) (λb3 s3 h3=>?_);have Q3:=Q2.step h3;have p3:=yA hV.fin v2 h3;have v3:=bY.next p3;rcases oL hV.fin h3 with⟨_,rfl,_,_,_,_⟩|⟨_,rfl,_⟩
  .simp;refine mS 3 [2] (.op 0 (.op 1 (.call [4,5,6] .none) (.call [1,4,5,6] .none)) (.call [0,1,4,5,6] .none)) true (by kernel_rfl) (by kernel_rfl) ?_;simp;refine⟨⟨?_,?_⟩,?_⟩
   all_goals
    refine rfZ qL (a0J hV s3 v3) (λt s4 h4=>?_);have p4:=a2x hV v3 h4;have v4:=bY.next p4;rw[if_pos rfl]at Q3;have Q4:=Q3.step (show(sX aH aZ rdP l >>=λt=>pure {eD 26 [e]with types:=[t]}:RM cP) s3=(_,s4) by rw[aQ,h4];rfl);refine cG.mk ?_;simp;refine rfM Q4 v4 hV.fin λu5 s5 h5 Q5 p5 v5=>?_;simp;exact Q5.ok _ _ (.inr rfl) (by simp[cB,bW])
  .simp;rw[if_neg (by decide)]at Q3;have Q3:=Q3.step (show(pure e:RM cP) s3=(e,s3) from rfl);refine rfM Q3 v3 hV.fin λu4 s4 h4 Q4 p4 v4=>?_;simp;exact Q4.ok _ _ (.inr rfl) (by simp)
end
end
def b4a(l:List Tok)(ex:RM cP):Nat->Nat->List cP->RM (List cP)
 |0,_,ks=>pure ks
 |g+1,i,ks=>do
  (if 0<i then aK l [44] else pure ())
  let e <- ex
  b4a l ex g (i+1) (ks++[e])
section
variable {rdP:List Tok->Nat->Nat->gO Pr} {l:List Tok} (hV:rR G rdP l)
include hV
section
variable {ex:Nat->bF cP} {ex':Nat->RM cP} {low:Nat} (hM:∀k,aF l (low+1) (ex k) (ex' k)) (ax:∀k,aB l 1 (ex k)) (h0:∀s,bY l s->(s.er=0->low+1<=s.pl)->eH G 74 [] l s (ex' 0 s) jP)
include hM ax h0
theorem b0f(op:Int)(n:Nat)(hn:n<=2)(i:Nat)(s0:dB)(hi:s0.pl=i+1)(v0:bY l s0)(hs:i<l.length)(cM:s0.er=0->low<=s0.pl):eH G 206 [.int .i64 op,.int .i64 n] l ⟨i,s0.er,s0.ln⟩ ((do
  aK l [40]
  let ks <- b4a l (ex' 0) n 0 []
  aK l [41]
  pure (eD op ks):RM cP) s0) jP:=by
 have hl:=hV.len;have hw:IntKind.i64.wrap ((i:Int)+1)=(s0.pl:Int):=by rw[wrap64 (by omega)];omega
 refine eH.bO func206 rfl ntmps206 rfl ?_;intro Q Q0;simp[hw];refine rfM Q0 v0 hV.fin λu1 s1 h1 Q1 p1 v1=>?_;have l1:s1.er=0->low+1<=s1.pl:=λh=>by have:=p1 h;have:=cM this.1;omega
 simp;obtain⟨Y,hY⟩:∃Y,b4a l (ex' 0) n 0 [] s1=Y:=⟨_,rfl⟩;have Q1:=Q1.step hY;refine SW.sV (ι:={x:Nat×List cP×dB//x.1<=n/\x.2.1.length=x.1/\bY l x.2.2/\(x.2.2.er=0->low+1<=x.2.2.pl)/\b4a l (ex' 0) (n-x.1) x.1 x.2.1 x.2.2=Y}) (λx=>[(8,.d (.int .i64 (x.1.1:Nat)))]) (λx=>(7,.cells [.d (.int .i64 op),.d (.str []),.d (.int .i64 0),.d (.sl (x.1.2.1.map a2c)),.d .aE,.d .aE,.d .aE])::(6,.cells [.d (.int .i64 0),.d (.str []),.d (.int .i64 0),.d .aE,.d .aE,.d .aE,.d .aE])::rfH l x.1.2.2) (λ_=>[(43,[.c 7 3])]) (λx=>n-x.1.1) ⟨(0,[],s1),by simp,rfl,v1,l1,hY⟩ (by simp) ?_;rintro⟨⟨k,ks,s⟩,hk,hks,v,lo,hy⟩;simp only at hk hks v lo hy;by_cases hkn:k<n
 .obtain⟨g,hg⟩:∃g,n-k=g+1:=⟨n-k-1,by omega⟩;rw[hg]at hy;unfold b4a at hy;have hwk:=aX (show k<9223372036854775807 by omega);have hgk:n-(k+1)=g:=by omega
  simp[hkn];by_cases hk0:0<k
  case' pos=>
   rw[if_pos hk0]at hy;simp[hk0];obtain⟨s1,rfl⟩:∃s1,s1=s:=⟨_,rfl⟩;have v1:=v;refine rfN [44] v1 hV.fin λu2 s2 h2 p2 v2=>?_;rw[aQ,h2]at hy;have lo2:s2.er=0->low+1<=s2.pl:=λh=>by have:=p2 h;have:=lo this.1;omega
   simp
  case' neg=>
   rw[if_neg hk0]at hy;simp[hk0];obtain⟨s2,rfl⟩:∃s2,s2=s:=⟨_,rfl⟩;have v2:=v;have lo2:=lo
   replace hy:(ex' 0 >>=λe=>b4a l (ex' 0) g (k+1) (ks++[e])) s2=Y:=hy
  all_goals
   refine dK [0] 3 [2] (.op 1 (.call [4,5,6,7] .none) (.call [1,4,5,6,7] .none)) true (by kernel_rfl) (by kernel_rfl) ?_;simp;refine⟨?_,?_⟩
   all_goals
    refine rfZ jO (h0 s2 v2 lo2) (λe s3 h3=>?_);have p3:uI l _ s2 s3:=(hM 0).mZ (ax 0) v2 lo2 h3;have v3:=bY.next p3;refine cG.mk ?_;simp
   all_goals
    refine bQ (by first|omega|(simp[cB];omega)|exact⟨λx hx=>by obtain⟨y,_,rfl⟩:=g3L.1 hx;first|rfl|(rw[cB];rfl),by omega⟩|exact⟨rfl,by omega⟩) ?_;simp[hwk];rw[aQ,h3]at hy;exact bE.mk ⟨(k+1,ks++[e],s3),by simp only;omega,by simp[hks],v3,λh=>by have:=p3 h;have:=lo2 this.1;simp only;omega,by simp only;rw[hgk];exact hy⟩ (by simp[cB]) (by simp only;omega)
 .have f7Q:k=n:=by omega
  subst f7Q
  replace hy:(ks,s)=Y:=by
   rw[<-hy,Nat.sub_self]
   rfl
  subst hy;simp;obtain⟨s1,rfl⟩:∃s1,s1=s:=⟨_,rfl⟩;have v1:=v;refine rfM Q1 v1 hV.fin λu2 s2 h2 Q2 p2 v2=>?_;simp;exact Q2.ok _ _ (.inr rfl) (by simp[eD])
theorem c2s(op:Int)(i:Nat)(s0:dB)(hi:s0.pl=i+1)(v0:bY l s0)(hs:i<l.length)(cM:s0.er=0->low<=s0.pl):eH G 206 [.int .i64 op,.int .i64 1] l ⟨i,s0.er,s0.ln⟩ (b7N l ex' op s0) jP:=b0f hV hM ax h0 op 1 (by omega) i s0 hi v0 hs cM
theorem d4R(op:Int)(i:Nat)(s0:dB)(hi:s0.pl=i+1)(v0:bY l s0)(hs:i<l.length)(cM:s0.er=0->low<=s0.pl):eH G 206 [.int .i64 op,.int .i64 2] l ⟨i,s0.er,s0.ln⟩ (c3P l ex' op s0) jP:=b0f hV hM ax h0 op 2 (by omega) i s0 hi v0 hs cM
theorem c0N(s0:dB)(he:s0.er=0)(hv:s0.pl<l.length)(cM:low<=s0.pl)(hwt:(mG aH l 0 s0||pS l s0)=true):eH G 208 [] l s0 (b3S aH aZ rdP l ex' s0) jP:=by
 have hl:=hV.len;have v0:bY l s0:=λ_=>hv;have g1:eH G 60 [.int .i64 1,.str [91]] l s0 _ _:=tI (by omega) 1 [91] s0 v0 (by omega);have g2:eH G 60 [.int .i64 1,.str [40]] l s0 _ _:=tI (by omega) 1 [40] s0 v0 (by omega);refine eH.xA func208 rfl ntmps208 rfl ?_;intro Q Q0;refine SW.gN (SW.xk ?_);simp;refine SW.gN (SW.xk ?_);simp;obtain⟨op,qD⟩:∃op:Int,(if pS l s0 then 4 else 3)=op:=⟨_,rfl⟩;obtain⟨c,hc⟩:∃c,(!pS l s0&&(bZ l 1 [91] s0||bZ l 1 [40] s0))=c:=⟨_,rfl⟩;refine SW.a7Q [] ([(3,.cells [.d (.int .i64 op),.d (.str []),.d (.int .i64 0),.d .aE,.d .aE,.d .aE,.d .aE])]++[(2,.cells [.d (.int .i64 0),.d (.str []),.d (.int .i64 0),.d .aE,.d .aE,.d .aE,.d .aE])]++rfH l s0) [] (SW.xk ?_) ?_
 .simp;refine cH gQ (jN (by omega) s0 v0) (λb x hx=>?_);cases hx;rcases g3O (pS l s0)with w|w
  all_goals
   rw[w]at qD|-;subst qD;simp
 simp;refine SW.a7Q [(4,.d (.bool c))] ([(3,.cells [.d (.int .i64 op),.d (.str []),.d (.int .i64 0),.d .aE,.d .aE,.d .aE,.d .aE])]++[(2,.cells [.d (.int .i64 0),.d (.str []),.d (.int .i64 0),.d .aE,.d .aE,.d .aE,.d .aE])]++rfH l s0) [] (SW.xk ?_) ?_
 .rcases g3O (pS l s0)with w|w
  .rw[w]at qD hc;subst qD;subst hc;simp
  .rw[w]at qD hc;subst qD;simp;refine cH cC g1 (λb x hx=>?_);cases hx;rcases g3O (bZ l 1 [91] s0)with w1|w1
   .rw[w1]at hc|-;subst hc;simp
   .rw[w1]at hc|-;simp;refine cH cC g2 (λb x hx=>?_);cases hx;simp[<-hc]
 simp;refine SW.gN (SW.xk ?_);simp;refine cH cI (dZ (by omega) true s0 v0) (λnm s1 h1=>?_);have Q1:=Q0.eq (show b3S aH aZ rdP l ex' s0=b0O aH aZ rdP l ex' (pS l s0) c nm s1 by unfold b3S;rw[hc,h1])
 have p1:uI l 1 s0 s1:=kP hV.fin (λ_=>by unfold mG pS at hwt;simp only[g3C,g3q,g4e]at hwt;omega) v0 h1
 have v1:=bY.next p1;unfold b0O at Q1;simp;obtain⟨ts,s2,h2⟩:∃ts s2,(uH (bZ l 0 [91]) >>=λc=>if c then a5U aH aZ rdP l else pure []:RM (List Ty)) s1=(ts,s2):=⟨_,_,rfl⟩;have Q2:=Q1.step h2;have p2:uI l 0 s1 s2:=(aF.types hV.toRfH).c7r v1 h2;have v2:=bY.next p2;have l2:s2.er=0->low<=s2.pl:=λh=>by have:=(uI.tr p1 p2) h;omega
 refine SW.a7Q [] ([(3,.cells [.d (.int .i64 op),.d (.str nm),.d (.int .i64 0),.d .aE,.d .aE,.d .aE,.d (.sl (ts.map tyC))])]++[(2,.cells [.d (.int .i64 0),.d (.str []),.d (.int .i64 0),.d .aE,.d .aE,.d .aE,.d .aE])]++rfH l s2) [] (SW.xk ?_) (SW.xk ?_)
 .replace h2:(if bZ l 0 [91] s1=true then a5U aH aZ rdP l else pure []:RM (List Ty)) s1=(ts,s2):=h2
  simp;refine cH cC (dT hV [91] s1 v1) (λb x hx=>?_);cases hx;rcases g3O (bZ l 0 [91] s1)with w|w
  .rw[w,if_pos rfl]at h2;rw[w];simp;refine cH (.mk func229 rfl) (c7G hV s1 v1) (λb x hx=>?_);cases hx.symm.trans h2;simp
  .rw[w,if_neg (by decide)]at h2;cases h2;rw[w];simp
 have hA:=d0U hV hM ax h0 s2 v2 l2;cases c with
 |true=>simp;refine cH (.mk func124 rfl) hA (λks s3 h3=>?_);have Q3:=Q2.step (show(uH (λs=>true||bZ l 0 [40] s) >>=λc=>if c then tH l ex' else pure []:RM (List cP)) s2=(ks,s3) from h3);simp;exact Q3.ok _ _ (.inr rfl) (by simp)
 |false=>
  simp;refine cH cC (dT hV [40] s2 v2) (λb x hx=>?_);cases hx;rcases g3O (bZ l 0 [40] s2)with w|w
  .rw[w];simp;refine cH (.mk func124 rfl) hA (λks s3 h3=>?_);have Q3:=Q2.step (show(uH (λs=>false||bZ l 0 [40] s) >>=λc=>if c then tH l ex' else pure []:RM (List cP)) s2=(ks,s3) by
    show(if (false||bZ l 0 [40] s2)=true then _ else _:RM _) s2=_
    rw[w];exact h3)
   simp;exact Q3.ok _ _ (.inr rfl) (by simp[<-qD])
  .rw[w];simp;have Q3:=Q2.step (show(uH (λs=>false||bZ l 0 [40] s) >>=λc=>if c then tH l ex' else pure []:RM (List cP)) s2=([],s2) by
    show(if (false||bZ l 0 [40] s2)=true then _ else _:RM _) s2=_
    rw[w]
    rfl)
   exact Q3.ok _ _ (.inr rfl) (by simp[<-qD])
end
end
section
variable {rdP:List Tok->Nat->Nat->gO Pr} {l:List Tok} (hV:rR G rdP l)
include hV
variable{s:dB}{t:Nm}
theorem gX{s1:dB}{b:Bool}(h:wO l t s=(b,s1)):(eY l t s=true/\b=true/\s1=⟨s.pl+1,s.er,s.ln⟩/\bY l s1)\/(eY l t s=false/\b=false/\s1=s):=by
 have hx:=λhv=>a0I hV.fin (t:=t) (s:=s) (s1:=s1) (b:=b) hv h;unfold wO at h;split at h
 .rename_i hs;cases h;refine .inl ⟨hs,rfl,rfl,λh1=>?_⟩;exact(a0I hV.fin (t:=t) (s:=s) (s1:=⟨s.pl+1,s.er,s.ln⟩) (b:=true) (λ_=>by
   unfold eY gG at hs;by_cases h2:s.er=0/\s.pl+0<l.length
   .exact h2.2
   .rw[if_neg h2]at hs;simp at hs) (by unfold wO;rw[if_pos hs]) h1).2.2
 .rename_i hs;cases h;exact .inr ⟨Bool.eq_false_iff.2 hs,rfl,rfl⟩
theorem qW(h:eY l t s=true):s.er=0/\s.pl+1<l.length:=by
 rcases gX hV (t:=t) (s:=s) (s1:=⟨s.pl+1,s.er,s.ln⟩) (b:=true) (by unfold wO;rw[if_pos h])with⟨_,_,_,h2⟩|⟨h2,_⟩
 .have he:s.er=0:=by
   by_cases he:s.er=0
   .exact he
   .rw[uQ he]at h;cases h
  exact⟨he,h2 he⟩
 .rw[h2]at h;cases h
section
variable {ex:Nat->bF cP} {ex':Nat->RM cP} {low:Nat} (hM:∀k,aF l (low+1) (ex k) (ex' k)) (ax:∀k,aB l 1 (ex k)) (h0:∀s,bY l s->(s.er=0->low+1<=s.pl)->eH G 74 [] l s (ex' 0 s) jP)
include hM ax h0
theorem d0V(hn:∀i, -9223372036854775807<=(aJ l i).n/\(aJ l i).n<=9223372036854775807)(s0:dB)(hv:bY l s0)(cM:s0.er=0->low<=s0.pl):eH G 180 [] l s0 (a9a aH aZ rdP l ex' s0) jP:=by
 have hl:=hV.len;have v0:=hv;have hp:eH G 21 [.int .i64 0] l s0 _ _:=oG (by omega) 0 s0 v0 (by omega);refine eH.bO func180 rfl ntmps180 rfl ?_;intro Q Q0;unfold a9a at Q0;simp;refine cH gV hp (λT x hx=>?_);cases hx;obtain⟨T,hT⟩:∃T,gG l 0 s0=T:=⟨_,rfl⟩;rw[hT];rw[hT]at Q0;obtain⟨a,b,n,d⟩:=T;by_cases he:s0.er=0;rotate_left
 .have Q0:=Q0.rK he;simp[he,bL];exact Q0.ok _ _ (.inr rfl) (by simp[qP])
 have he':(s0.er=0)=True:=eq_true he;have Q0:=Q0.sW he;have h1:=hv he;have hw:=aX (show s0.pl<9223372036854775807 by omega);have lo:=cM he;simp[he',bL];by_cases k3:a=3
 .have Q0:=Q0.sW k3;simp[k3,hw];exact Q0.ok _ _ (.inr rfl) (by simp)
 have Q0:=Q0.rK k3;simp[k3];refine cH cU (dR (by omega) [116,114,117,101] s0 v0) (λb x hx=>?_);rcases gX hV hx with⟨w,rfl,rfl,_⟩|⟨w,rfl,rfl⟩
 .have Q0:=Q0.sW w;simp;exact Q0.ok _ _ (.inr rfl) (by simp)
 have Q0:=Q0.rK (by rw[w];decide);simp;refine cH cU (dR (by omega) [102,97,108,115,101] x v0) (λb x1 hx=>?_);rcases gX hV hx with⟨w,rfl,rfl,_⟩|⟨w,rfl,rfl⟩
 .have Q0:=Q0.sW w;simp;exact Q0.ok _ _ (.inr rfl) (by simp)
 have Q0:=Q0.rK (by rw[w];decide);simp;obtain⟨x,rfl⟩:∃x,x=x1:=⟨_,rfl⟩;have key:∀t,eH G 53 [.str t] l x (eY l t x,x) (λb=>.d (.bool b)):=λt=>eM (by omega) t x v0;refine cH dA (key [110,101,119]) (λb x1 hx=>?_);cases hx;rcases g3O (eY l [110,101,119] x)with w|w
 .have Q0:=Q0.sW w;rw[w];simp;refine cH (.mk func206 rfl) (c2s hV hM ax h0 22 x.pl ⟨x.pl+1,x.er,x.ln⟩ rfl (λ_=>(qW hV w).2) h1 (λ_=>by simp only;omega)) (λe s2 h2=>?_);have Q0:=Q0.eq h2;simp;exact Q0.ok _ _ (.inr rfl) (by simp)
 have Q0:=Q0.rK (by rw[w];decide);rw[w];simp;refine cH dA (key [103,101,116]) (λb x1 hx=>?_);cases hx;rcases g3O (eY l [103,101,116] x)with w|w
 .have Q0:=Q0.sW w;rw[w];simp;refine cH (.mk func206 rfl) (c2s hV hM ax h0 23 x.pl ⟨x.pl+1,x.er,x.ln⟩ rfl (λ_=>(qW hV w).2) h1 (λ_=>by simp only;omega)) (λe s2 h2=>?_);have Q0:=Q0.eq h2;simp;exact Q0.ok _ _ (.inr rfl) (by simp)
 have Q0:=Q0.rK (by rw[w];decide);rw[w];simp;refine cH dA (key [115,101,116]) (λb x1 hx=>?_);cases hx;rcases g3O (eY l [115,101,116] x)with w|w
 .have Q0:=Q0.sW w;rw[w];simp;refine cH (.mk func206 rfl) (d4R hV hM ax h0 24 x.pl ⟨x.pl+1,x.er,x.ln⟩ rfl (λ_=>(qW hV w).2) h1 (λ_=>by simp only;omega)) (λe s2 h2=>?_);have Q0:=Q0.eq h2;simp;exact Q0.ok _ _ (.inr rfl) (by simp)
 have Q0:=Q0.rK (by rw[w];decide);rw[w];simp;refine cH cC (dT hV [40] x v0) (λb x1 hx=>?_);cases hx;rcases g3O (bZ l 0 [40] x)with w|w
 .have Q0:=Q0.sW w;rw[w];simp;refine cH (.mk func207 rfl) (c4k hV hM ax h0 x hn he h1 lo) (λe s2 h2=>?_);have Q0:=Q0.eq h2;simp;exact Q0.ok _ _ (.inr rfl) (by simp)
 have Q0:=Q0.rK (by rw[w];decide);rw[w];simp;have hA:=λhw=>c0N hV hM ax h0 x he h1 lo hw;have hF:=a3d (G:=G) (l:=l) (by omega) x v0;refine cH mN (rE hV x v0) (λb x1 hx=>?_);cases hx;rcases g3O (mG aH l 0 x)with w1|w1
 .have w2:(mG aH l 0 x||pS l x)=true:=by rw[w1];rfl
  have Q0:=Q0.sW w2;rw[w1];simp;refine cH (.mk func208 rfl) (hA w2) (λe s2 h2=>?_);have Q0:=Q0.eq h2;simp;exact Q0.ok _ _ (.inr rfl) (by simp)
 rw[w1];simp;refine cH gQ (jN (by omega) x v0) (λb x1 hx=>?_);cases hx;rcases g3O (pS l x)with w|w
 .have w2:(mG aH l 0 x||pS l x)=true:=by rw[w,Bool.or_true]
  have Q0:=Q0.sW w2;rw[w];simp;refine cH (.mk func208 rfl) (hA w2) (λe s2 h2=>?_);have Q0:=Q0.eq h2;simp;exact Q0.ok _ _ (.inr rfl) (by simp)
 have Q0:=Q0.rK (by rw[w1,w];decide);rw[w];simp;refine cH yR hF (λu s2 h2=>?_);cases h2;simp;exact Q0.ok _ _ (.inr rfl) (by simp[qP])
end
end
section
variable {rdP:List Tok->Nat->Nat->gO Pr} {l:List Tok} (hV:rR G rdP l)
include hV
theorem c7O(n:Nat)(hn:n=1\/n=2\/n=4\/n=5)(s:dB)(hv:bY l s):eH G 163 [.int .i64 n] l s (wD l (vK n) s) (λo=>.d (.int .i64 o)):=by
 have hl:=hV.len;have hh:∀t,eH G 35 [.str t] l s (eL l t s) (λb=>.d (.bool b)):=λt=>cN (by omega) t s hv;have hb:∀t,eH G 69 [.str t] l s (wO l t s) (λb=>.d (.bool b)):=λt=>dR (by omega) t s hv;rcases hn with rfl|rfl|rfl|rfl
 .refine eH.bO func163 rfl ntmps163 rfl ?_;intro Q Q0;simp;refine cH bS (hh [124,124]) (λb s1 h1=>?_);rcases oL hV.fin h1 with⟨w,rfl,rfl,_,_,_⟩|⟨w,rfl,rfl⟩
  .have Q0:=Q0.eq (show _=((20:Int),_) by simp[wD,xG,vK,w,List.find?];rfl);simp;exact Q0.ok _ _ (.inr rfl) (by simp)
  .have Q0:=Q0.eq (show _=((0:Int),_) by simp[wD,xG,vK,w,List.find?];rfl);simp;exact Q0.ok _ _ (.inr rfl) (by simp)
 .refine eH.bO func163 rfl ntmps163 rfl ?_;intro Q Q0;simp;refine cH bS (hh [38,38]) (λb s1 h1=>?_);rcases oL hV.fin h1 with⟨w,rfl,rfl,_,_,_⟩|⟨w,rfl,rfl⟩
  .have Q0:=Q0.eq (show _=((19:Int),_) by simp[wD,xG,vK,w,List.find?];rfl);simp;exact Q0.ok _ _ (.inr rfl) (by simp)
  .have Q0:=Q0.eq (show _=((0:Int),_) by simp[wD,xG,vK,w,List.find?];rfl);simp;exact Q0.ok _ _ (.inr rfl) (by simp)
 .refine eH.bO func163 rfl ntmps163 rfl ?_;intro Q Q0;simp;refine cH bS (hh [43]) (λb s1 h1=>?_);rcases oL hV.fin h1 with⟨w,rfl,rfl,_,_,_⟩|⟨w,rfl,e⟩
  .have Q0:=Q0.eq (show _=((10:Int),_) by simp[wD,xG,vK,w,List.find?];rfl);simp;exact Q0.ok _ _ (.inr rfl) (by simp)
  .cases e;simp;refine cH bS (hh [45]) (λb s1 h1=>?_);rcases oL hV.fin h1 with⟨w2,rfl,rfl,_,_,_⟩|⟨w2,rfl,rfl⟩
   .have Q0:=Q0.eq (show _=((11:Int),_) by simp[wD,xG,vK,w,w2,List.find?];rfl);simp;exact Q0.ok _ _ (.inr rfl) (by simp)
   .have Q0:=Q0.eq (show _=((0:Int),_) by simp[wD,xG,vK,w,w2,List.find?];rfl);simp;exact Q0.ok _ _ (.inr rfl) (by simp)
 .refine eH.bO func163 rfl ntmps163 rfl ?_;intro Q Q0;simp;refine cH bS (hh [42]) (λb s1 h1=>?_);rcases oL hV.fin h1 with⟨w,rfl,rfl,_,_,_⟩|⟨w,rfl,e⟩
  .have Q0:=Q0.eq (show _=((12:Int),_) by simp[wD,xG,vK,w,List.find?];rfl);simp;exact Q0.ok _ _ (.inr rfl) (by simp)
  .cases e;simp;refine cH cU (hb [100,105,118]) (λb s1 h1=>?_);rcases gX hV h1 with⟨w2,rfl,rfl,_⟩|⟨w2,rfl,e⟩
   .have Q0:=Q0.eq (show _=((13:Int),_) by simp[wD,xG,vK,w,w2,List.find?];rfl);simp;exact Q0.ok _ _ (.inr rfl) (by simp)
   .cases e;simp;refine cH cU (hb [109,111,100]) (λb s1 h1=>?_);rcases gX hV h1 with⟨w3,rfl,rfl,_⟩|⟨w3,rfl,rfl⟩
    .have Q0:=Q0.eq (show _=((14:Int),_) by simp[wD,xG,vK,w,w2,w3,List.find?];rfl);simp;exact Q0.ok _ _ (.inr rfl) (by simp)
    .have Q0:=Q0.eq (show _=((0:Int),_) by simp[wD,xG,vK,w,w2,w3,List.find?];rfl);simp;exact Q0.ok _ _ (.inr rfl) (by simp)
section
variable {ex:Nat->bF cP} {ex':Nat->RM cP} {low:Nat} (hM:∀k,aF l (low+1) (ex k) (ex' k)) (ax:∀k,aB l 1 (ex k)) (h0:∀s,bY l s->(s.er=0->low+1<=s.pl)->eH G 74 [] l s (ex' 0 s) jP) (h7:∀s,bY l s->s.er=0->low+1<=s.pl->eH G 162 [] l s (ex' 7 s) jP)
include hM ax h0 h7
theorem b5w(hn:∀i, -9223372036854775807<=(aJ l i).n/\(aJ l i).n<=9223372036854775807)(s0:dB)(hv:bY l s0)(cM:s0.er=0->low<=s0.pl):eH G 162 [] l s0 (b5k aH aZ rdP l ex' s0) jP:=by
 have hl:=hV.len;have v0:=hv;have hA:=d0V hV hM ax h0 hn s0 v0 cM;refine eH.bO func162 rfl ntmps162 rfl ?_;intro Q Q0;unfold b5k at Q0;simp;refine cH bS (cN (by omega) [45] s0 v0) (λb s1 h1=>?_);rcases oL hV.fin h1 with⟨w,rfl,e1,e2,e3,v1⟩|⟨w,rfl,rfl⟩
 .have Q0:=Q0.sW w;rw[<-e1]at Q0;have f1:s1.er=0:=by rw[e1];exact e2
  have f2:=cM e2;simp;refine cH (.mk func162 rfl) (h7 s1 v1 f1 (by omega)) (λe s2 h2=>?_);have Q0:=Q0.step h2;simp;exact Q0.ok _ _ (.inr rfl) (by simp[cB])
 .have Q0:=Q0.rK (by rw[w];decide);simp;refine cH (.mk func180 rfl) hA (λe s2 h2=>?_);have Q0:=Q0.eq h2;simp;exact Q0.ok _ _ (.inr rfl) (by simp)
end
theorem d0W{ops:List (Nm×Bool×Int)}{s:dB}(h:xG l ops s≠0):s.er=0/\s.pl+1<l.length:=by
 unfold xG at h;split at h
 .exact absurd rfl h
 .rename_i p hp;have h2:(if p.2.1 then eY l p.1 s else bZ l 0 p.1 s)=true:=List.find?_some (p:=λp:Nm×Bool×Int=>if p.2.1 then eY l p.1 s else bZ l 0 p.1 s) hp;split at h2
  .exact qW hV h2
  .exact a2u hV.fin h2
theorem a4f(n:Nat)(hn:n=1\/n=2\/n=4\/n=5){low:Nat}{one:bF cP}{one':RM cP}(h1:aF l low one one')(a1:aB l 1 one)(kR:∀s0,bY l s0->(s0.er=0->low<=s0.pl)->eH G 125 [.int .i64 (n+1:Nat)] l s0 (one' s0) jP)(s0:dB)(hv:bY l s0)(cM:s0.er=0->low<=s0.pl):eH G 125 [.int .i64 n] l s0 (b5l l (vK n) one' s0) jP:=by
 have hl:=hV.len;have hw:IntKind.i64.wrap ((n:Int)+1)=((n+1:Nat):Int):=by rcases hn with rfl|rfl|rfl|rfl<;>rfl
 have hn3:¬n=3:=by omega
 have hn6:¬n=6:=by omega
 have f7R:¬(n:Int)=3:=by omega
 have f7S:¬(n:Int)=6:=by omega
 have hI:=λs0 hv=>c7O hV n hn s0 hv;have v0:=hv;refine eH.bO func125 rfl ntmps125 rfl ?_;intro Q Q0;unfold b5l at Q0;simp[hn3,hn6,f7R,f7S,hw];refine cH mI (kR s0 v0 cM) (λe s1 h2=>?_);have Q0:=Q0.step h2;have p1:=h1.mZ a1 v0 cM h2;have v1:=bY.next p1;obtain⟨Y,hY⟩:∃Y,zT l (vK n) one' (l.length+2) e s1=Y:=⟨_,rfl⟩;have Q0:=Q0.eq hY;simp;refine SW.sV (ι:={x:cP×dB×Nat//bY l x.2.1/\(x.2.1.er=0->low<=x.2.1.pl)/\(x.2.1.er=0->l.length<x.2.2+x.2.1.pl)/\zT l (vK n) one' x.2.2 x.1 x.2.1=Y}) (λ_=>[]) (λx=>[(4,.cells [.d (.int .i64 0),.d (.str []),.d (.int .i64 0),.d .aE,.d .aE,.d .aE,.d .aE]),(5,.cells ((a0h x.1.1).map .d))]++rfH l x.1.2.1) (λ_=>[]) (λx=>if x.1.2.1.er=0 then l.length-x.1.2.1.pl+1 else 0) ⟨(e,s1,l.length+2),v1,λh=>by have:=p1 h;have:=cM this.1;simp only;omega,λh=>by simp only;omega,hY⟩ (by simp) ?_;rintro⟨⟨e2,s2,g⟩,v2,l2,g2,hy⟩;simp only at v2 l2 g2 hy;by_cases he:s2.er=0
 .have he':(s2.er=0)=True:=eq_true he;have hi2:=v2 he;have lo2:=l2 he;have hg2:=g2 he;obtain⟨g,rfl⟩:∃k,g=k+1:=⟨g-1,by omega⟩;unfold zT at hy;simp[he'];refine cH (.mk func163 rfl) (hI s2 v2) (λo s3 h3=>?_);unfold wD at h3;by_cases ho:xG l (vK n) s2=0
  .rw[if_pos ho]at h3;cases h3;rw[if_neg (λh=>h.2 ho)]at hy;cases hy;simp;exact Q0.ok _ _ (.inr rfl) (by simp)
  .rw[if_neg ho]at h3;obtain⟨rfl,e3⟩:=Prod.mk.inj h3;rw[if_pos ⟨he,ho⟩]at hy;have hnx:=d0W hV ho;generalize xG l (vK n) s2=o at ho hy|-;rw[e3]at hy;have v3:bY l s3:=λ_=>by rw[<-e3];exact hnx.2
   have q3:s3.pl=s2.pl+1:=by rw[<-e3]
   simp[ho];refine dK [0] 5 [2,3,4] (.op 1 (.call [6,7,8] .none) (.call [1,6,7,8] .none)) true (by kernel_rfl) (by kernel_rfl) ?_;simp[hw];refine⟨?_,?_⟩
   all_goals
    refine rfZ mI (kR s3 v3 (λ_=>by omega)) (λx s4 h4=>?_);have p4:=h1.mZ a1 v3 (λ_=>by omega) h4;have v4:=bY.next p4;rw[h4]at hy;refine cG.mk ?_;simp;refine bE.mk ⟨(eD o [e2,x],s4,g),v4,λh=>?_,λh=>?_,hy⟩ (by simp[cB]) ?_
    .have:=p4 h;simp only;omega
    .have:=p4 h;simp only;omega
    .simp only[he,if_true];split
     .rename_i h;have:=p4 h;omega
     .omega
 .have hy:(e2,s2)=Y:=by
   rw[<-hy];cases g with
   |zero=>rfl
   |succ g=>unfold zT;rw[if_neg (λh=>he h.1)]
  subst hy;simp[he];exact Q0.ok _ _ (.inr rfl) (by simp)
end
section
variable {rdP:List Tok->Nat->Nat->gO Pr} {l:List Tok} (hV:rR G rdP l)
include hV
section
variable {ex:Nat->bF cP} {ex':Nat->RM cP} {low:Nat} (hM:∀k,aF l (low+1) (ex k) (ex' k)) (ax:∀k,aB l 1 (ex k))
include hM ax
theorem b8L(b5R:∀s0,bY l s0->(s0.er=0->low<=s0.pl)->eH G 125 [.int .i64 4] l s0 (a1D aH aZ rdP l ex' s0) jP)(s0:dB)(hv:bY l s0)(cM:s0.er=0->low<=s0.pl):eH G 161 [] l s0 (b7O aH aZ rdP l ex' s0) jP:=by
 have hl:=hV.len;have hS:=aF.b0J (kw:=aH) (andP:=aZ) hV.toRfH hM ax;have aS:=aB.b0J (kw:=aH) (andP:=aZ) hV.fin ax hV.mZ.pred;have v0:=hv;refine eH.bO func161 rfl ntmps161 rfl ?_;intro Q Q0;unfold b7O at Q0;generalize a1D aH aZ rdP l ex'=S at b5R hS Q0;simp;refine cH mI (b5R s0 v0 cM) (λe s1 h1=>?_);have Q1:=Q0.step h1;have p1:=hS.mZ aS v0 cM h1;have v1:=bY.next p1;simp;have hp:eH G 21 [.int .i64 0] l s1 _ _:=oG (by omega) 0 s1 v1 (by omega);refine cH gV hp (λT x hx=>?_);cases hx;obtain⟨T,hT⟩:∃T,gG l 0 s1=T:=⟨_,rfl⟩;rw[hT];rw[hT]at Q1;by_cases k4:T.kind=4;rotate_left
 .have Q2:=Q1.rK k4
  clear Q1
  obtain⟨a,b,n,d⟩:=T;simp only at k4;simp[bL,k4];exact Q2.ok _ _ (.inr rfl) (by simp)
 have hnx:s1.er=0/\s1.pl+1<l.length:=by
  unfold gG at hT;by_cases h:s1.er=0/\s1.pl+0<l.length
  .rw[if_pos h]at hT;refine⟨h.1,rD hV.fin (i:=s1.pl) h.2 ?_⟩;simp only[Nat.add_zero]at hT;rw[hT,k4];decide
  .rw[if_neg h]at hT;rw[<-hT]at k4;cases k4
 have Q1:=Q1.sW k4;obtain⟨a,b,n,d⟩:=T;simp only at k4;have lo1:=p1 hnx.1;have lo0:=cM lo1.1;obtain⟨s2,hs2⟩:∃s2:dB,(⟨s1.pl+1,s1.er,s1.ln⟩:dB)=s2:=⟨_,rfl⟩;have hw:IntKind.i64.wrap ((s1.pl:Int)+1)=(s2.pl:Int):=by rw[<-hs2,wrap64 (by omega)];simp
 have v2:bY l s2:=λ_=>by rw[<-hs2];exact hnx.2
 have q2:s2.pl=s1.pl+1:=by rw[<-hs2]
 have q3:s1.er=s2.er/\s1.ln=s2.ln:=by rw[<-hs2];exact⟨rfl,rfl⟩
 rw[hs2]at Q1;simp only at Q1;by_cases x1:b=[61,61]
 .have Q1:=Q1.sW x1;simp[bL,k4,x1,hw];refine cH (hH:=by simp[q3]) mI (b5R s2 v2 (λ_=>by omega)) (λx s3 h3=>?_);have Q3:=Q1.step h3;simp;exact Q3.ok _ _ (.inr rfl) (by simp[cB])
 have Q1:=Q1.rK x1;by_cases x2:b=[33,61]
 .have Q1:=Q1.sW x2;simp[bL,k4,x2,hw];refine cH (hH:=by simp[q3]) mI (b5R s2 v2 (λ_=>by omega)) (λx s3 h3=>?_);have Q3:=Q1.step h3;simp;exact Q3.ok _ _ (.inr rfl) (by simp[cB])
 have Q1:=Q1.rK x2;by_cases x3:b=[60]
 .have Q1:=Q1.sW x3;simp[bL,k4,x3,hw];refine cH (hH:=by simp[q3]) mI (b5R s2 v2 (λ_=>by omega)) (λx s3 h3=>?_);have Q3:=Q1.step h3;simp;exact Q3.ok _ _ (.inr rfl) (by simp[cB])
 have Q1:=Q1.rK x3;by_cases x4:b=[60,61]
 .have Q1:=Q1.sW x4;simp[bL,k4,x4,hw];refine cH (hH:=by simp[q3]) mI (b5R s2 v2 (λ_=>by omega)) (λx s3 h3=>?_);have Q3:=Q1.step h3;simp;exact Q3.ok _ _ (.inr rfl) (by simp[cB])
 have Q1:=Q1.rK x4;by_cases x5:b=[62]
 .have Q1:=Q1.sW x5;simp[bL,k4,x5,hw];refine cH (hH:=by simp[q3]) mI (b5R s2 v2 (λ_=>by omega)) (λx s3 h3=>?_);have Q3:=Q1.step h3;simp;exact Q3.ok _ _ (.inr rfl) (by simp[cB])
 have Q1:=Q1.rK x5;by_cases x6:b=[62,61]
 .have Q1:=Q1.sW x6;simp[bL,k4,x6,hw];refine cH (hH:=by simp[q3]) mI (b5R s2 v2 (λ_=>by omega)) (λx s3 h3=>?_);have Q3:=Q1.step h3;simp;exact Q3.ok _ _ (.inr rfl) (by simp[cB])
 have Q1:=Q1.rK x6;simp[bL,k4,x1,x2,x3,x4,x5,x6];exact Q1.ok _ _ (.inr rfl) (by simp)
section
variable (h0:∀s,bY l s->(s.er=0->low+1<=s.pl)->eH G 74 [] l s (ex' 0 s) jP) (h7:∀s,bY l s->s.er=0->low+1<=s.pl->eH G 162 [] l s (ex' 7 s) jP) (hn:∀i, -9223372036854775807<=(aJ l i).n/\(aJ l i).n<=9223372036854775807)
include h0 h7 hn
theorem c4m(s0:dB)(hv:bY l s0)(cM:s0.er=0->low<=s0.pl):eH G 125 [.int .i64 (6:Nat)] l s0 (b5k aH aZ rdP l ex' s0) jP:=by have hu:=b5w hV hM ax h0 h7 hn s0 hv cM;refine eH.bO func125 rfl ntmps125 rfl ?_;intro Q Q0;simp;refine cH (.mk func162 rfl) hu (λe s2 h2=>?_);have Q0:=Q0.eq h2;simp;exact Q0.ok _ _ (.inr rfl) (by simp)
theorem d4S(s:dB)(hv:bY l s)(cM:s.er=0->low<=s.pl):eH G 125 [.int .i64 4] l s (a1D aH aZ rdP l ex' s) jP:=by have hU:=aF.unG (kw:=aH) (andP:=aZ) hV.toRfH hM ax;have aU:=aB.unG (kw:=aH) (andP:=aZ) hV.fin ax hV.mZ.pred;have aP:=aB.d7C (kw:=aH) (andP:=aZ) hV.fin ax hV.mZ.pred;exact a4f hV 4 (by decide) (aF.lvl (ops:=_) (ops':=vK 5) hU (by decide) hV.toRfH) aP (λs hv cM=>a4f hV 5 (by decide) hU aU (λs hv cM=>c4m hV hM ax h0 h7 hn s hv cM) s hv cM) s hv cM
section
variable (h3:∀s,bY l s->s.er=0->low+1<=s.pl->eH G 125 [.int .i64 3] l s (ex' 3 s) jP)
include h3
theorem c2t(s0:dB)(hv:bY l s0)(cM:s0.er=0->low<=s0.pl):eH G 125 [.int .i64 3] l s0 (b0P aH aZ rdP l ex' s0) jP:=by
 have hl:=hV.len;have hc:=b8L hV hM ax (d4S hV hM ax h0 h7 hn) s0 hv cM;have v0:=hv;refine eH.bO func125 rfl ntmps125 rfl ?_;intro Q Q0;unfold b0P at Q0;simp;refine cH bS (cN (by omega) [33] s0 v0) (λb s1 h1=>?_);rcases oL hV.fin h1 with⟨w,rfl,e1,e2,e4,v1⟩|⟨w,rfl,rfl⟩
 .have Q0:=Q0.sW w;rw[<-e1]at Q0;have f1:s1.er=0:=by rw[e1];exact e2
  have f2:=cM e2;simp;refine cH mI (h3 s1 v1 f1 (by omega)) (λe s2 h2=>?_);have Q0:=Q0.step h2;simp;exact Q0.ok _ _ (.inr rfl) (by simp[cB])
 .have Q0:=Q0.rK (by rw[w];decide);simp;refine cH (.mk func161 rfl) hc (λe s2 h2=>?_);have Q0:=Q0.eq h2;simp;exact Q0.ok _ _ (.inr rfl) (by simp)
theorem d8B(s:dB)(hv:bY l s)(cM:s.er=0->low<=s.pl):eH G 125 [.int .i64 1] l s (d7Z aH aZ rdP l ex' s) jP:=by have hN:=aF.b3M (kw:=aH) (andP:=aZ) hV.toRfH hM ax;have aN:=aB.b3M (kw:=aH) (andP:=aZ) hV.fin ax hV.mZ.pred;exact a4f hV 1 (by decide) (aF.lvl (ops:=[([38,38],19)]) (ops':=vK 2) hN (by decide) hV.toRfH) (aB.lvl hV.fin aN) (λs hv cM=>a4f hV 2 (by decide) hN aN (λs hv cM=>c2t hV hM ax h0 h7 hn h3 s hv cM) s hv cM) s hv cM
end
end
end
end
theorem a3j{α β:Type}(f:β->α){l:List Tok}{sep:Nm}{one:α->RM α}{one':β->RM β}(h:∀b s,one (f b) s=(f (one' b s).1,(one' b s).2)):∀g b s,mP l sep one g (f b) s=(f (mP l sep one' g b s).1,(mP l sep one' g b s).2)
 |0,b,s=>rfl
 |g+1,b,s=>by
  unfold mP;rw[h];split
  .split
   .exact a3j f h g _ _
   .rfl
  .rfl
theorem b2M{α:Type}{f g:α->List D}(h:∀a,WkL (f a) (g a))(l:List α):b7d (l.map f) (l.map g):=by
 refine⟨by simp,λi d d' h1 h2=>?_⟩;rw[g3A]at h1 h2;cases hx:l[i]? with
 |none=>rw[hx]at h1;cases h1
 |some a=>rw[hx]at h1 h2;cases h1;cases h2;exact h a
section
variable {rdP:List Tok->Nat->Nat->gO Pr} {l:List Tok} (hV:rR G rdP l)
include hV
abbrev f4c(rdP:List Tok->Nat->Nat->gO Pr)(l:List Tok)(out:List (Nm×Ty)):RM (List (Nm×Ty)):=do
 let w <- dY aH l
 let b <- eL l [58]
 let t <- (if b then sX aH aZ rdP l else pure jZ)
 pure (out++[(w,t)])
abbrev d8C(rdP:List Tok->Nat->Nat->gO Pr)(l:List Tok)(out:List (Nm×Option Ty)):RM (List (Nm×Option Ty)):=do
 let w <- dY aH l
 let b <- eL l [58]
 let t <- (if b then sX aH aZ rdP l >>=λt=>pure (some t) else pure none:RM (Option Ty))
 pure (out++[(w,t)])
def c7Q(p:Nm×Option Ty):Nm×Ty:=(p.1,p.2.getD jZ)
def c7R(p:Nm×Option Ty):List D:=match p.2 with
 |some t=>.str p.1::tyD t
 |none=>[.str p.1,.int .i64 0,.str [],.aE,.aE,.int .i64 0,.str [],.int .i64 0,.aE,.aE]
omit hV in
theorem e4j(a:List (Nm×Option Ty))(s:dB):f4c rdP l (a.map c7Q) s=((d8C rdP l a s).1.map c7Q,(d8C rdP l a s).2):=by
 show(dY aH l >>=λw=>eL l [58] >>=λb=>(if b then sX aH aZ rdP l else pure jZ) >>=λt=>pure (a.map c7Q++[(w,t)])) s=(((dY aH l >>=λw=>eL l [58] >>=λb=>(if b then sX aH aZ rdP l >>=λt=>pure (some t) else pure none:RM (Option Ty)) >>=λt=>pure (a++[(w,t)])) s).1.map c7Q,_)
 simp only[aQ,zS];cases (eL l [58] (dY aH l s).2).1<;>simp[c7Q,aQ,zS]
omit hV in
theorem f0e(a:List (Nm×Option Ty)):b7d (a.map c7R) ((a.map c7Q).map a0y):=by rw[List.map_map];refine b2M (λp=>?_) a;obtain⟨w,t⟩:=p;cases t<;>simp[c7R,c7Q,zW,jZ,eE,strs]
variable{a:List (Nm×Option Ty)}
omit hV in
theorem c2u{c:List D}(hc:c∈a.map c7R):(c.length==prog.cellsOf 176)=true:=by obtain⟨y,_,rfl⟩:=g3L.1 hc;unfold c7R;split<;>rfl
omit hV in
theorem c7S(h:a.length<=50000):((a.map c7R).length+1)*(prog.bytesOf 176+1)<=140737488355328:=by
 have hb:prog.bytesOf 176<=1000:=by decide
 rw[List.length_map]
 calc (a.length+1)*(prog.bytesOf 176+1)<=50001*1001:=Nat.mul_le_mul (by omega) (by omega)
  _<=140737488355328:=by decide
theorem c4n(s0:dB)(hv:bY l s0):eH G 123 [] l s0 (a3b aH aZ rdP l s0) (λps=>.d (.sl (ps.map a0y))):=by
 have hl:=hV.len;have v0:=hv;refine eH.bO func123 rfl ntmps123 rfl ?_;intro Q Q0;unfold a3b at Q0;simp;refine rfM Q0 v0 hV.fin λu1 s1 h1 Q1 p1 v1=>?_;simp;refine a1F hV.fin [44] (d8C rdP l) (λa=>a.length) (λ_=>True) 4 (λa=>[(3,.d (.sl (a.map c7R)))]) (λ_ s=>rfH l s) (λ_=>[(176,[.t 3])]) (l.length+2) [] s1 (by omega) v1 rfl trivial (by simp) ?_ ?_
 .intro a s0 e0 i0 bs la _ R hR;have v0:bY l s0:=λ_=>i0;simp[e0];refine rfL v0 gK (jJ (by omega) s0 v0) (gW hV.fin) λw s1 h1 p1 v1=>?_;simp;refine cH bS (cN (by omega) [58] s1 v1) (λb s2 h2=>?_);have p2:uI l 0 s1 s2:=yA hV.fin v1 h2;have v2:=bY.next p2;cases b with
  |true=>
   simp;refine rfL v2 qL (a0J hV s2 v2) (a2x hV) λt s3 h3 p3 v3=>?_;simp;refine eF ⟨rfl,g3t.2 λc hc=>c2u hc,c7S (by omega)⟩ ?_;simp;have ho:d8C rdP l a s0=(a++[(w,some t)],s3):=by
    show(dY aH l >>=λw=>eL l [58] >>=λb=>(if b then sX aH aZ rdP l >>=λt=>pure (some t) else pure none:RM (Option Ty)) >>=λt=>pure (a++[(w,t)])) s0=_
    rw[aQ,h1,aQ,h2,if_pos rfl,aQ,aQ,h3]
    rfl
   refine cH bS (cN (by omega) [44] s3 v3) (λbh sh hh=>?_);simp;refine hR _ (a++[(w,some t)]) s3 ho (by rw[hh];simp[c7R]) (λh=>?_) (by simp) trivial;have:=((p1.tr p2).tr p3) h;omega
  |false=>
   simp;refine eF ⟨rfl,g3t.2 λc hc=>c2u hc,c7S (by omega)⟩ ?_;simp;have ho:d8C rdP l a s0=(a++[(w,none)],s2):=by
    show(dY aH l >>=λw=>eL l [58] >>=λb=>(if b then sX aH aZ rdP l >>=λt=>pure (some t) else pure none:RM (Option Ty)) >>=λt=>pure (a++[(w,t)])) s0=_
    rw[aQ,h1,aQ,h2]
    rfl
   refine cH bS (cN (by omega) [44] s2 v2) (λbh sh hh=>?_);simp;refine hR _ (a++[(w,none)]) s2 ho (by rw[hh];simp[c7R]) (λh=>?_) (by simp) trivial;have:=(p1.tr p2) h;omega
 ·
  intro a s2 m hm qZ la hJ v2 hy R;have hm':m=false\/(m=true/\ ¬s2.er=0):=by
   cases m
   .exact .inl rfl
   .rcases hm with h|h
    .cases h
    .exact .inr ⟨rfl,h⟩
  have Q2:=Q1.step (x:=mH l [44] (f4c rdP l) []) ((a3j (List.map c7Q) e4j _ [] s1).trans (by rw[hy]));have hwk:=f0e a;rcases hm' with rfl|⟨rfl,h⟩
  all_goals
   first
    |simp[h]
    |simp
   refine rfM Q2 v2 hV.fin λu3 s3 h3 Q3 p3 v3=>?_;simp;exact Q3.ok _ _ (.inr rfl) (by simpa using hwk)
section
variable {ex:Nat->bF cP} {ex':Nat->RM cP} {low:Nat} (hM:∀k,aF l (low+1) (ex k) (ex' k)) (ax:∀k,aB l 1 (ex k)) (h0:∀s,bY l s->(s.er=0->low+1<=s.pl)->eH G 74 [] l s (ex' 0 s) jP)
include hM ax h0
abbrev f4d(l:List Tok)(ex':Nat->RM cP)(out:List b0e):RM (List b0e):=do
 let c <- dQ l
 let b <- uH (bZ l 0 [40])
 let ns <- (if b then jM aH l else pure []:RM (List Nm))
 aK l [45,62]
 let b <- ex' 0
 pure (out++[(c,ns,b)])
abbrev b4b:=Nm×Option (List Nm)×cP
omit hV hM ax h0 in
abbrev d8D(l:List Tok)(ex':Nat->RM cP)(out:List b4b):RM (List b4b):=do
 let c <- dQ l
 let b <- uH (bZ l 0 [40])
 let ns <- (if b then jM aH l >>=λns=>pure (some ns) else pure none:RM (Option (List Nm)))
 aK l [45,62]
 let b <- ex' 0
 pure (out++[(c,ns,b)])
def c7T(p:b4b):b0e:=(p.1,p.2.1.getD [],p.2.2)
def d0Y(p:b4b):List D:=.str p.1::(match p.2.1 with
 |some ns=>.sl (strs ns)
 |none=>.aE)::a0h p.2.2
omit hV hM ax h0 in
theorem e4k(a:List b4b)(s:dB):f4d l ex' (a.map c7T) s=((d8D l ex' a s).1.map c7T,(d8D l ex' a s).2):=by
 show(dQ l >>=λc=>uH (bZ l 0 [40]) >>=λb=>(if b then jM aH l else pure []:RM (List Nm)) >>=λns=>aK l [45,62] >>=λ_=>ex' 0 >>=λb=>pure (a.map c7T++[(c,ns,b)])) s=(((dQ l >>=λc=>uH (bZ l 0 [40]) >>=λb=>(if b then jM aH l >>=λns=>pure (some ns) else pure none:RM (Option (List Nm))) >>=λns=>aK l [45,62] >>=λ_=>ex' 0 >>=λb=>pure (a++[(c,ns,b)])) s).1.map c7T,_)
 simp only[aQ,zS];cases (uH (bZ l 0 [40]) (dQ l s).2).1<;>simp[c7T,aQ,zS]
omit hV hM ax h0 in
theorem f0f(a:List b4b):b7d (a.map d0Y) ((a.map c7T).map b1Z):=by rw[List.map_map];refine b2M (λp=>?_) a;obtain⟨w,t,e⟩:=p;cases t<;>simp[d0Y,c7T,a9l,strs]
theorem d0Z(s0:dB)(hv:bY l s0)(cM:s0.er=0->low<=s0.pl):eH G 122 [] l s0 (b2r aH l ex' s0) (λps=>.d (.sl (ps.map b1Z))):=by
 have hl:=hV.len;have v0:=hv;refine eH.bO func122 rfl ntmps122 rfl ?_;intro Q Q0;unfold b2r at Q0;simp;refine rfM Q0 v0 hV.fin λu1 s1 h1 Q1 p1 v1=>?_;have l1:s1.er=0->low+1<=s1.pl:=λh=>by have:=p1 h;have:=cM this.1;omega
 simp;refine a1F hV.fin [59] (d8D l ex') (λa=>a.length) (λ_=>True) 4 (λa=>[(3,.d (.sl (a.map d0Y)))]) (λ_ s=>rfH l s) (λ_=>[(143,[.t 3])]) (l.length+2) [] s1 (by omega) v1 rfl trivial (by simp) ?_ ?_
 .intro a s0 e0 i0 bs la _ R hR;have v0:bY l s0:=λ_=>i0;have l0:s0.er=0->low+1<=s0.pl:=λ_=>Nat.le_trans (l1 bs.1) bs.2;simp[e0];refine cH gQ (jN (by omega) s0 v0) (λb x hx=>?_);cases hx;simp;refine cH cI (dZ (by omega) (pS l s0) s0 v0) (λc s1 h1=>?_);have h1:dQ l s0=(c,s1):=h1;have p1:uI l 1 s0 s1:=kP hV.fin (λhb=>by unfold pS at hb;simp only[g4e]at hb;omega) v0 h1
  have v1:=bY.next p1;simp;refine cH cC (dT hV [40] s1 v1) (λb x hx=>?_);cases hx;rcases g3O (bZ l 0 [40] s1)with w|w
  .rw[w];simp;refine cH (.mk func72 rfl) (a8i hV s1 v1) (λns s2 h2=>?_);have p2:uI l 1 s1 s2:=(aF.words hV.toRfH).d4m (aB.words hV.fin) v1 h2;have v2:=bY.next p2;simp;refine rfN [45,62] v2 hV.fin λu3 s3 h3 p3 v3=>?_;have l3:s3.er=0->low+1<=s3.pl:=λh=>by have:=(uI.tr (uI.tr p1 p2) p3) h;have:=l0 this.1;omega
   simp;refine cH jO (h0 s3 v3 l3) (λe s4 h4=>?_);have p4:uI l 1 s3 s4:=(hM 0).mZ (ax 0) v3 l3 h4;have v4:=bY.next p4;simp;refine eF (by first|omega|(simp[d0Y];omega)|exact⟨λx hx=>by obtain⟨y,_,rfl⟩:=g3L.1 hx;rfl,by omega⟩) ?_;simp;have ho:d8D l ex' a s0=(a++[(c,some ns,e)],s4):=by
    show(dQ l >>=λc=>uH (bZ l 0 [40]) >>=λb=>(if b then jM aH l >>=λns=>pure (some ns) else pure none:RM (Option (List Nm))) >>=λns=>aK l [45,62] >>=λ_=>ex' 0 >>=λb=>pure (a++[(c,ns,b)])) s0=_
    rw[aQ,h1]
    show((if bZ l 0 [40] s1 then jM aH l >>=λns=>pure (some ns) else pure none:RM (Option (List Nm))) >>=λns=>aK l [45,62] >>=λ_=>ex' 0 >>=λb=>pure (a++[(c,ns,b)])) s1=_
    have hN:(jM aH l >>=λns=>pure (some ns):RM (Option (List Nm))) s1=(some ns,s2):=by
     rw[aQ,h2]
     rfl
    rw[w,if_pos rfl,aQ,hN]
    show(aK l [45,62] >>=λ_=>ex' 0 >>=λb=>pure (a++[(c,some ns,b)])) s2=_
    rw[aQ,h3,aQ,h4]
    rfl
   refine cH bS (cN (by omega) [59] s4 v4) (λbh sh hh=>?_);simp;refine hR _ (a++[(c,some ns,e)]) s4 ho (by rw[hh];simp[d0Y]) (λh=>?_) (by simp) trivial;have:=(((p1.tr p2).tr p3).tr p4) h;omega
  .rw[w];simp;refine rfN [45,62] v1 hV.fin λu3 s3 h3 p3 v3=>?_;have l3:s3.er=0->low+1<=s3.pl:=λh=>by have:=(uI.tr p1 p3) h;have:=l0 this.1;omega
   simp;refine cH jO (h0 s3 v3 l3) (λe s4 h4=>?_);have p4:uI l 1 s3 s4:=(hM 0).mZ (ax 0) v3 l3 h4;have v4:=bY.next p4;simp;refine eF (by first|omega|(simp[d0Y];omega)|exact⟨λx hx=>by obtain⟨y,_,rfl⟩:=g3L.1 hx;rfl,by omega⟩) ?_;simp;have ho:d8D l ex' a s0=(a++[(c,none,e)],s4):=by
    show(dQ l >>=λc=>uH (bZ l 0 [40]) >>=λb=>(if b then jM aH l >>=λns=>pure (some ns) else pure none:RM (Option (List Nm))) >>=λns=>aK l [45,62] >>=λ_=>ex' 0 >>=λb=>pure (a++[(c,ns,b)])) s0=_
    rw[aQ,h1]
    show((if bZ l 0 [40] s1 then jM aH l >>=λns=>pure (some ns) else pure none:RM (Option (List Nm))) >>=λns=>aK l [45,62] >>=λ_=>ex' 0 >>=λb=>pure (a++[(c,ns,b)])) s1=_
    rw[w,if_neg (by decide)]
    show(aK l [45,62] >>=λ_=>ex' 0 >>=λb=>pure (a++[(c,none,b)])) s1=_
    rw[aQ,h3,aQ,h4]
    rfl
   refine cH bS (cN (by omega) [59] s4 v4) (λbh sh hh=>?_);simp;refine hR _ (a++[(c,none,e)]) s4 ho (by rw[hh];simp[d0Y]) (λh=>?_) (by simp) trivial;have:=((p1.tr p3).tr p4) h;omega
 ·
  intro a s2 m hm qZ la hJ v2 hy R;have hm':m=false\/(m=true/\ ¬s2.er=0):=by
   cases m
   .exact .inl rfl
   .rcases hm with h|h
    .cases h
    .exact .inr ⟨rfl,h⟩
  have Q2:=Q1.step (x:=mH l [59] (f4d l ex') []) ((a3j (List.map c7T) e4k _ [] s1).trans (by rw[hy]));have hwk:=f0f a;rcases hm' with rfl|⟨rfl,h⟩
  all_goals
   first
    |simp[h]
    |simp
   refine rfM Q2 v2 hV.fin λu3 s3 h3 Q3 p3 v3=>?_;simp;exact Q3.ok _ _ (.inr rfl) (by simpa using hwk)
theorem d4T(s0:dB)(hv:bY l s0)(cM:s0.er=0->low+1<=s0.pl):eH G 121 [] l s0 (b7P aH aZ rdP l ex' s0) jP:=by
 have hl:=hV.len;have v0:=hv;refine eH.xA func121 rfl ntmps121 rfl ?_;intro Q Q0;unfold b7P at Q0;refine SW.gN (SW.xk ?_);simp;refine SW.gN (SW.xk ?_);simp;refine rfG Q0 v0 gK (jJ (by omega) s0 v0) (gW hV.fin) λnm s1 h1 Q1 p1 v1=>?_;simp;obtain⟨b,s2,h2⟩:∃b s2,eL l [58] s1=(b,s2):=⟨_,_,rfl⟩;have Q2:=Q1.step h2;have p2:uI l 0 s1 s2:=yA hV.fin v1 h2;have v2:=bY.next p2;obtain⟨ts,s3,h3⟩:∃ts s3,(if b=true then sX aH aZ rdP l >>=λt=>pure [t] else pure []:RM (List Ty)) s2=(ts,s3):=⟨_,_,rfl⟩;have Q3:=Q2.step h3;have p3:uI l 0 s2 s3:=by
  intro h;cases b with
  |true=>
   obtain⟨t,s',ht⟩:∃t s',sX aH aZ rdP l s2=(t,s'):=⟨_,_,rfl⟩;rw[if_pos rfl,aQ,ht]at h3;cases h3;have:=a2x hV v2 ht h;refine⟨this.1,?_,this.2.2⟩
   show s2.pl+0<=s'.pl
   omega
  |false=>rw[if_neg (by decide)]at h3;cases h3;exact⟨h,g3G _,v2 h⟩
 have v3:=bY.next p3;refine SW.a7Q [] ([(3,.cells [.d (.int .i64 7),.d (.str nm),.d (.int .i64 0),.d .aE,.d .aE,.d .aE,.d (.sl (ts.map tyC))]),(2,.cells [.d (.int .i64 0),.d (.str []),.d (.int .i64 0),.d .aE,.d .aE,.d .aE,.d .aE])]++rfH l s3) [] (SW.xk ?_) (SW.xk ?_)
 .simp;refine cH bS (cN (by omega) [58] s1 v1) (λb2 x hx=>?_);cases hx.symm.trans h2;cases b with
  |true=>rw[if_pos rfl]at h3;simp;refine cH qL (a0J hV s2 v2) (λt x hx=>?_);rw[aQ,hx]at h3;cases h3;simp[bW]
  |false=>rw[if_neg (by decide)]at h3;cases h3;simp
 simp;refine rfM Q3 v3 hV.fin λu4 s4 h4 Q4 p4 v4=>?_;have l4:s4.er=0->low+1<=s4.pl:=λh=>by have:=(uI.tr (uI.tr (uI.tr p1 p2) p3) p4) h;have:=cM this.1;omega
 simp;refine cH jO (h0 s4 v4 l4) (λa s5 h5=>?_);have Q5:=Q4.step h5;have p5:uI l 1 s4 s5:=(hM 0).mZ (ax 0) v4 l4 h5;have v5:=bY.next p5;simp;refine cH dA (eM (by omega) [105,110] s5 v5) (λc x hx=>?_);cases hx;simp;refine cH cI (dZ (by omega) (eY l [105,110] s5) s5 v5) (λu6 s6 h6=>?_);have Q6:=Q5.step (x:=wP l [105,110]) h6;have p6:=yU hV.fin v5 h6;have v6:=bY.next p6;have l6:s6.er=0->low+1<=s6.pl:=λh=>by have:=(uI.tr p5 p6) h;have:=l4 this.1;omega
 simp;refine mS 2 [1] (.op 0 (.call [3,4,5] .none) (.call [0,3,4,5] .none)) true (by kernel_rfl) (by kernel_rfl) ?_;simp;refine⟨?_,?_⟩
 all_goals
  refine rfZ jO (h0 s6 v6 l6) (λc s7 h7=>?_);have Q7:=Q6.step h7;refine cG.mk ?_;simp;exact Q7.ok _ _ (.inr rfl) (by simp[cB])
end
end
section
variable {β:Type} {Q:Exit->St->Prop} {l:List Tok} {s:dB} {enc:β->DV} {o:TypeId}
theorem f7T{f:FuncId}{ds:List D}{av:List DV}{y:β×dB}{st:St}{ls:List (Option VM.Loc)}{dst:Option Tmp}{all:Array Oper}{ops:List Oper}{k:List XI}(he:VM.Enters prog f)(hc:RfG G f ds l s y enc [(o,[.t 0])])(pG:∀a s1,y=(a,s1)->XK prog G (.ops all ops::k) .normal (bJ K1 dst st st.own (enc a) (rfH l s1) [(o,[.t 0])]) Q)(hk:∀a,bB K1 (enc a)=true/\bI K1 (enc a)=enc a:=by intro a;exact⟨rfl,rfl⟩)(hw:WkT av (.ptr 100000 0::ds.map .d):=by simp)(hH:getKey 100000 st.H=some (rfO l s):=by simp):dX prog G f av ls dst all ops k st Q:=by
 refine dX.mk (tQ.mk (x:=.inl (enc y.1,rfH l y.2,[(o,[.t 0])])) he hc K1 (λd H1 own1 hx=>?_) (λv hx=>by cases hx) ?_ ?_ rfl rfl (λd H1 own1 hx=>?_) (λv hx=>by cases hx) (rest:=st.own))
 .cases hx;simp[aW,bB,bD,bC,eX,bK,getKey,(hk y.1).1]
 .simpa[bA,bI,rk,kO]using hw
 .simp only[dC,rfO,List.map_cons,List.map_nil,rk,if_true,dL,bA,bI,WkH,and_true];exact⟨_,hH,by simp[WkO]⟩
 .cases hx;exact pG y.1 y.2 rfl
end
theorem b0Z{β:Type}{l:List Tok}{sep:Nm}{one:List β->RM (List β)}(h:∀a s,(one a s).1.length<=a.length+1):∀g a s,(mP l sep one g a s).1.length<=a.length+g
 |0,a,s=>g3G _
 |g+1,a,s=>by
  unfold mP;have h1:=h a s;split
  .split
   .have:=b0Z (l:=l) (sep:=sep) h g (one a s).1 ⟨(one a s).2.pl+1,(one a s).2.er,(one a s).2.ln⟩;omega
   .omega
  .simp
theorem d1a{l:List Tok}{ex':Nat->RM cP}(s:dB):(tH l ex' s).1.length<=l.length+2:=by
 have h:∀s,(mH l [44] (λout:List cP=>do let e <- ex' 0;pure (out++[e])) [] s).1.length<=0+(l.length+2):=λs=>b0Z (λa s=>by simp[aQ]) _ _ _;have h2:=h (aK l [40] s).2
 show(mH l [44] (λout:List cP=>do let e <- ex' 0;pure (out++[e])) [] (aK l [40] s).2).1.length<=_
 omega
section
variable {rdP:List Tok->Nat->Nat->gO Pr} {l:List Tok} (hV:rR G rdP l)
include hV
omit hV in
theorem b8M(s:dB)(hs:s.er≠0):eH G 74 [] l s (qP,s) jP:=by obtain⟨i,e,ln⟩:=s;refine eH.bO func74 rfl ntmps74 rfl ?_;intro Q Q0;simp[hs];exact Q0.ok _ _ (.inr rfl) (by simp[qP])
theorem c4o{s s1:dB}{ps:List (Nm×Ty)}(hv:bY l s)(h:a3b aH aZ rdP l s=(ps,s1)):uI l 0 s s1:=by have H:=hV.toRfH;have hM:aF l 0 (aR l [[40]] >>=λ_=>dJ l [44] (λout=>bV aH l >>=λw=>cS l [58] >>=λb=>(if b then mD aH aZ rdP l else pure jZ) >>=λt=>pure (out++[(w,t)])) [] >>=λps=>aR l [[41]] >>=λ_=>pure ps) (a3b aH aZ rdP l):=aF.mus (aF.b0 (aF.list (λout=>aF.b0 aF.word λw=>aF.b0 aF.a9X λb=>aF.b0 (aF.ite (aF.typ H) (aF.bP _)) λt=>aF.bP _) _) λps=>aF.mus (aF.bP _));exact hM.c7r hv h
section
variable {ex:Nat->bF cP} {ex':Nat->RM cP} {low:Nat} (hM:∀k,aF l (low+1) (ex k) (ex' k)) (ax:∀k,aB l 1 (ex k)) (h0:∀s,bY l s->(s.er=0->low+1<=s.pl)->eH G 74 [] l s (ex' 0 s) jP) (h7:∀s,bY l s->s.er=0->low+1<=s.pl->eH G 162 [] l s (ex' 7 s) jP) (hn:∀i, -9223372036854775807<=(aJ l i).n/\(aJ l i).n<=9223372036854775807) (h3:∀s,bY l s->s.er=0->low+1<=s.pl->eH G 125 [.int .i64 3] l s (ex' 3 s) jP)
include hM ax h0 h7 hn h3
theorem c7U(s0:dB)(hv:bY l s0)(cM:s0.er=0->low<=s0.pl):eH G 74 [] l s0 (b7Q aH aZ rdP l ex' s0) jP:=by
 have hl:=hV.len;by_cases he:s0.er=0;rotate_left
 .have:=b8M (G:=G) (l:=l) s0 he;unfold b7Q
  rwa[if_neg he]
 have he':(s0.er=0)=True:=eq_true he;have lo:=cM he;have v0:=hv;refine eH.bO func74 rfl ntmps74 rfl ?_;intro Q Q0;unfold b7Q at Q0;have Q0:=Q0.sW he;simp[he'];refine cH cU (dR (by omega) [108,101,116] s0 v0) (λb s1 hx=>?_);have hx:=gX hV hx;have a3v:eY l [108,101,116] s0=true->s1=⟨s0.pl+1,s0.er,s0.ln⟩->s1.er=0->low+1<=s1.pl:=λ_ h _=>by rw[h];exact Nat.succ_le_succ lo
 rcases hx with⟨w,rfl,e1,v1⟩|⟨w,rfl,e1⟩
 .have l1:=a3v w e1;have Q1:=Q0.sW w;rw[<-e1]at Q1;simp;refine cH (.mk func121 rfl) (d4T hV hM ax h0 s1 v1 l1) (λe s2 h2=>?_);have Q2:=Q1.eq h2;simp;exact Q2.ok _ _ (.inr rfl) (by simp)
 have Q0:=Q0.rK (by rw[w];decide);rw[e1];simp
 clear a3v e1
 refine cH cU (dR (by omega) [105,102] s0 v0) (λb s1 hx=>?_);have hx:=gX hV hx;have a3v:eY l [105,102] s0=true->s1=⟨s0.pl+1,s0.er,s0.ln⟩->s1.er=0->low+1<=s1.pl:=λ_ h _=>by rw[h];exact Nat.succ_le_succ lo
 rcases hx with⟨w,rfl,e1,v1⟩|⟨w,rfl,e1⟩
 .have l1:=a3v w e1;have Q1:=Q0.sW w;rw[<-e1]at Q1;simp;refine cH jO (h0 s1 v1 l1) (λa s2 h2=>?_);have Q2:=Q1.step h2;have p2:uI l 1 s1 s2:=(hM 0).mZ (ax 0) v1 l1 h2;have v2:=bY.next p2;have l2:s2.er=0->low+1<=s2.pl:=λh=>by have:=p2 h;have:=l1 this.1;omega
  simp;refine cH dA (eM (by omega) [116,104,101,110] s2 v2) (λc x hx=>?_);cases hx;simp;refine cH cI (dZ (by omega) (eY l [116,104,101,110] s2) s2 v2) (λu3 s3 h3=>?_);have Q3:=Q2.step (x:=wP l [116,104,101,110]) h3;have p3:=yU hV.fin v2 h3;have v3:=bY.next p3;have l3:s3.er=0->low+1<=s3.pl:=λh=>by have:=p3 h;have:=l2 this.1;omega
  simp;refine cH jO (h0 s3 v3 l3) (λb s4 h4=>?_);have Q4:=Q3.step h4;have p4:uI l 1 s3 s4:=(hM 0).mZ (ax 0) v3 l3 h4;have v4:=bY.next p4;have l4:s4.er=0->low+1<=s4.pl:=λh=>by have:=p4 h;have:=l3 this.1;omega
  simp;refine cH dA (eM (by omega) [101,108,115,101] s4 v4) (λc x hx=>?_);cases hx;simp;refine cH cI (dZ (by omega) (eY l [101,108,115,101] s4) s4 v4) (λu5 s5 h5=>?_);have Q5:=Q4.step (x:=wP l [101,108,115,101]) h5;have p5:=yU hV.fin v4 h5;have v5:=bY.next p5;have l5:s5.er=0->low+1<=s5.pl:=λh=>by have:=p5 h;have:=l4 this.1;omega
  simp;refine mS 3 [2] (.op 0 (.op 1 (.call [4,5,6] .none) (.call [1,4,5,6] .none)) (.op 1 (.op 0 (.call [4,5,6] .none) (.call [0,4,5,6] .none)) (.call [0,1,4,5,6] .none))) true (by kernel_rfl) (by kernel_rfl) ?_;simp;refine⟨⟨?_,?_⟩,⟨?_,?_⟩,?_⟩
  all_goals
   refine rfZ jO (h0 s5 v5 l5) (λc s6 h6=>?_);have Q6:=Q5.step h6;refine cG.mk ?_;simp;exact Q6.ok _ _ (.inr rfl) (by simp[cB])
 have Q0:=Q0.rK (by rw[w];decide);rw[e1];simp
 clear a3v e1
 refine cH cU (dR (by omega) [99,97,115,101] s0 v0) (λb s1 hx=>?_);have hx:=gX hV hx;have a3v:eY l [99,97,115,101] s0=true->s1=⟨s0.pl+1,s0.er,s0.ln⟩->s1.er=0->low+1<=s1.pl:=λ_ h _=>by rw[h];exact Nat.succ_le_succ lo
 rcases hx with⟨w,rfl,e1,v1⟩|⟨w,rfl,e1⟩
 .have l1:=a3v w e1;have Q1:=Q0.sW w;rw[<-e1]at Q1;simp;refine cH jO (h0 s1 v1 l1) (λa s2 h2=>?_);have Q2:=Q1.step h2;have p2:uI l 1 s1 s2:=(hM 0).mZ (ax 0) v1 l1 h2;have v2:=bY.next p2;have l2:s2.er=0->low+1<=s2.pl:=λh=>by have:=p2 h;have:=l1 this.1;omega
  simp;refine cH dA (eM (by omega) [111,102] s2 v2) (λc x hx=>?_);cases hx;simp;refine cH cI (dZ (by omega) (eY l [111,102] s2) s2 v2) (λu3 s3 h3=>?_);have Q3:=Q2.step (x:=wP l [111,102]) h3;have p3:=yU hV.fin v2 h3;have v3:=bY.next p3;have l3:s3.er=0->low+1<=s3.pl:=λh=>by have:=p3 h;have:=l2 this.1;omega
  simp;refine mS 3 [2] (.op 0 (.op 1 (.call [4,5] .none) (.call [1,4,5] .none)) (.call [0,1,4,5] .none)) true (by kernel_rfl) (by kernel_rfl) ?_;simp;refine⟨⟨?_,?_⟩,?_⟩
  all_goals
   refine rfZ (.mk func122 rfl) (d0Z hV hM ax h0 s3 v3 (λh=>by have:=l3 h;omega)) (λc s4 h4=>?_);have Q4:=Q3.step h4;refine cG.mk ?_;simp;exact Q4.ok _ _ (.inr rfl) (by simp[cB])
 have Q0:=Q0.rK (by rw[w];decide);rw[e1];simp
 clear a3v e1
 refine cH cU (dR (by omega) [102,117,110] s0 v0) (λb s1 hx=>?_);have hx:=gX hV hx;have a3v:eY l [102,117,110] s0=true->s1=⟨s0.pl+1,s0.er,s0.ln⟩->s1.er=0->low+1<=s1.pl:=λ_ h _=>by rw[h];exact Nat.succ_le_succ lo
 rcases hx with⟨w,rfl,e1,v1⟩|⟨w,rfl,e1⟩
 .have l1:=a3v w e1;have Q1:=Q0.sW w;rw[<-e1]at Q1;simp;refine cH (.mk func123 rfl) (c4n hV s1 v1) (λps s2 h2=>?_);have Q2:=Q1.step h2;have p2:uI l 0 s1 s2:=c4o hV v1 h2;have v2:=bY.next p2;have l2:s2.er=0->low+1<=s2.pl:=λh=>by have:=p2 h;have:=l1 this.1;omega
  simp;refine rfM Q2 v2 hV.fin λu3 s3 h3 Q3 p3 v3=>?_;have l3:s3.er=0->low+1<=s3.pl:=λh=>by have:=p3 h;have:=l2 this.1;omega
  simp;refine cH jO (h0 s3 v3 l3) (λa s4 h4=>?_);have Q4:=Q3.step h4;have p4:uI l 1 s3 s4:=(hM 0).mZ (ax 0) v3 l3 h4;have v4:=bY.next p4;have l4:s4.er=0->low+1<=s4.pl:=λh=>by have:=p4 h;have:=l3 this.1;omega
  simp;exact Q4.ok _ _ (.inr rfl) (by simp[cB])
 have Q0:=Q0.rK (by rw[w];decide);rw[e1];simp
 clear a3v e1
 refine cH cU (dR (by omega) [117,115,101] s0 v0) (λb s1 hx=>?_);have hx:=gX hV hx;have a3v:eY l [117,115,101] s0=true->s1=⟨s0.pl+1,s0.er,s0.ln⟩->s1.er=0->low+1<=s1.pl:=λ_ h _=>by rw[h];exact Nat.succ_le_succ lo
 rcases hx with⟨w,rfl,e1,v1⟩|⟨w,rfl,e1⟩
 .have l1:=a3v w e1;have Q1:=Q0.sW w;rw[<-e1]at Q1;simp;refine rfG Q1 v1 gK (jJ (by omega) s1 v1) (gW hV.fin) λnm s2 h2 Q2 p2 v2=>?_;have l2:s2.er=0->low+1<=s2.pl:=λh=>by have:=p2 h;have:=l1 this.1;omega
  simp;refine f7T (.mk func124 rfl) (b5v hV hM ax h0 s2 v2 (λh=>by have:=l2 h;omega)) (λks s3 h3=>?_);have Q3:=Q2.step h3;have hA:=aF.qG (l:=l) hV.toRfH hM ax;have p3:uI l 1 s2 s3:=hA.mZ (aB.qG hV.fin ax) v2 (λh=>by have:=l2 h;omega) h3;have v3:=bY.next p3;have l3:s3.er=0->low+1<=s3.pl:=λh=>by have:=p3 h;have:=l2 this.1;omega
  simp[bJ,bX,dC,dL,bA,bI,rk,kI,jA,eI];refine cH dA (eM (by omega) [105,110] s3 v3) (λc x hx=>?_);cases hx;simp;refine cH cI (dZ (by omega) (eY l [105,110] s3) s3 v3) (λu4 s4 h4=>?_);have Q4:=Q3.step (x:=wP l [105,110]) h4;have p4:=yU hV.fin v3 h4;have v4:=bY.next p4;have l4:s4.er=0->low+1<=s4.pl:=λh=>by have:=p4 h;have:=l3 this.1;omega
  simp;have kl:ks.length<=20002:=by have:=d1a (l:=l) (ex':=ex') s2;rw[h3]at this;simp only at this;omega
  refine dK [0] 3 [2] (.op 1 (.call [4,5,6,7] .none) (.call [1,4,5,6,7] .none)) true (by kernel_rfl) (by kernel_rfl) ?_;simp;refine⟨?_,?_⟩
  all_goals
   refine rfZ jO (h0 s4 v4 l4) (λe s5 h5=>?_);have p5:uI l _ s4 s5:=(hM 0).mZ (ax 0) v4 l4 h5;have v5:=bY.next p5;refine cG.mk ?_;simp
  all_goals
   have Q5:=Q4.step h5;refine bQ (by first|omega|(simp[cB];omega)|exact⟨λx hx=>by obtain⟨y,_,rfl⟩:=g3L.1 hx;first|rfl|(rw[cB];rfl),by omega⟩|exact⟨rfl,by omega⟩) ?_;simp;exact Q5.ok _ _ (.inr rfl) (by simp[cB])
 have Q0:=Q0.rK (by rw[w];decide);rw[e1];simp;refine cH mI (d8B hV hM ax h0 h7 hn h3 s0 v0 (λ_=>lo)) (λe s2 h2=>?_);have Q0:=Q0.eq h2;simp;exact Q0.ok _ _ (.inr rfl) (by simp)
end
theorem c2v(hn:∀i, -9223372036854775807<=(aJ l i).n/\(aJ l i).n<=9223372036854775807):∀(n low:Nat),l.length<n+low->(∀s,bY l s->(s.er=0->low<=s.pl)->eH G 74 [] l s (b2s aH aZ rdP l n 0 s) jP)/\(∀s,bY l s->s.er=0->low<=s.pl->eH G 125 [.int .i64 3] l s (b2s aH aZ rdP l n 3 s) jP)/\(∀s,bY l s->s.er=0->low<=s.pl->eH G 162 [] l s (b2s aH aZ rdP l n 7 s) jP)
 |0,low,h=>⟨λs hv cM=>by
   have he:s.er≠0:=λh0=>by have:=hv h0;have:=cM h0;omega
   exact b8M s he,λs hv he cM=>by
   have:=hv he;omega,λs hv he cM=>by
   have:=hv he;omega⟩
 |n+1,low,h=>by obtain⟨i0,i3,i7⟩:=c2v hn n (low+1) (by omega);have hM:=aF.exF (kw:=aH) (andP:=aZ) hV.toRfH n (low+1) (by omega);have ax:=λk=>aB.exF (kw:=aH) (andP:=aZ) hV.fin hV.mZ.pred n k;exact⟨λs hv cM=>c7U hV hM ax i0 i7 hn i3 s hv cM,λs hv he cM=>c2t hV hM ax i0 i7 hn i3 s hv (λ_=>cM),λs hv he cM=>b5w hV hM ax i0 i7 hn s hv (λ_=>cM)⟩
theorem d1b(hn:∀i, -9223372036854775807<=(aJ l i).n/\(aJ l i).n<=9223372036854775807)(s:dB)(hv:bY l s):eH G 74 [] l s (a4C aH aZ rdP l s) jP:=(c2v hV hn (l.length+2) 0 (by omega)).1 s hv (λ_=>Nat.zero_le _)
end
abbrev f0g(b:pR):List D:=.str b.name::.sl (b.vars.map dP)::(prD b.hyp++prD b.goal)
theorem a9m(b:pR):b0K b=f0g b:=by
 rw[b0K,dE,dE]
 rfl
section
variable {rdP:List Tok->Nat->Nat->gO Pr} {l:List Tok} (hV:rQ G rdP l)
include hV
def a4F(out:List psV):List (Nat×bG):=[(100001,.cells [.ptr 100000 0]),(100002,.cells [.d (.sl (out.map dP))])]
abbrev d8E:List (TypeId×List VM.Loc):=[(168,[.c 100002 0])]
abbrev c4q(l:List Tok)(out:List psV):bF (List psV):=do
 let c <- mC l
 let w <- bV aH l
 pure (out++[(c,w)])
theorem d1c:a3e l K3 [.ptr 100001 0,.ptr 100002 0] a4F d8E:=by
 constructor
 all_goals intros
 all_goals first
  |rfl
  |simp[a4F,aW,bB,bD,bC,bK,getKey,bA,bI,dC,rk,dL,bX, *]
theorem b8O(out:List psV):aB l 1 (c4q l out):=(aB.title hV.fin).bl λ_=>(aB.word hV.fin).bz λ_=>aB.bP _
theorem c7V(a:List psV)(i:Nat)(b:List psV)(j:Nat)(hi:i<l.length)(h:a.length<=i)(hx:c4q l a i=.ok b j):b.length<=j:=by have h1:=b8O hV a i b j hi hx;obtain⟨_,_,_,hx⟩:=dF hx;obtain⟨_,_,_,hx⟩:=dF hx;cases hx;simp;omega
theorem c4r(out:List psV)(j0:Nat)(hi:j0<l.length)(vT:out.length<=j0):qA G 146 [.ptr 100001 0,.ptr 100002 0] (a4F out) d8E l j0 (c4q l out j0) (λ_=>.cX []) a4F:=by
 have hl:=hV.len;have p0:=gT hi;refine qA.bO func146 rfl ntmps146 rfl (by simp) ?_;intro Q Q0;simp[a4F];refine uG Q0 p0 mE (oS l j0 p0.2) (aB.title hV.fin) λc j1 x1 Q1 p1=>?_;simp;refine dK [1] 3 [2] (.op 0 (.call [4,5,6,7] .none) (.call [0,4,5,6,7] .none)) (kZ (bV aH l j1)) (by kernel_rfl) (by kernel_rfl) ?_;simp;refine⟨?_,?_⟩
 all_goals
  refine rX Q1 p1 dS (eN hV.kw l j1 p1.2 (by omega)) (aB.word hV.fin) λw j2 x2 Q2 p2=>cG.mk ?_;simp;refine bQ (by first|omega|(simp[dP];omega)) ?_;simp;exact Q2.ok _ j2 _ _ rfl (.inl rfl) (by simp[a4F,a9h hV])
theorem b5x(i:Nat)(hi:i<l.length):tR G 98 [] l i (uN aH l i) (λws=>.d (.sl (ws.map dP))):=by
 have hl:=hV.len;refine qA.bO func98 rfl ntmps98 rfl (by simp) ?_;intro Q Q0;unfold uN at Q0;simp;have kR:=jK hV [44] (c4q l) (λout i=>out.length<=i) 0 (.mk func146 rfl) (d1c hV) (λa=>(b8O hV a).le (by omega)) (λa i _ hi h=>c4r hV a i hi h) (c7V hV) (λa i h=>by omega) [] i (by omega) hi (by simp);refine dX.mk (a2e eT kR [(100000,100000),(100001,1),(100002,3)] (λa j hx=>?_) ?_ ?_ ?_ rfl rfl (λws j2 hx2=>?_) (λn e hx2=>Q0.bad n e _ hx2))
 .simp[a4F,aW,bB,bD,bC,bK,getKey]
 .simp[a4F,aW,bB,bD,bC,bK,getKey]
 .simp[bA,bI,rk]
 .simp[a4F,bA,bI,rk,dC,dL]
 .simp[bJ,a4F,bA,bI,rk,dC,dL,bX,kI,jA,eI];exact Q0.ok _ j2 _ _ hx2 (.inr rfl) (by simp)
theorem c7W(j0:Nat)(hi:j0<l.length):tR G 113 [] l j0 (uO aH rdP l j0) (λb=>.d (.agg (f0g b))):=by have hl:=hV.len;have p0:=gT hi;refine qA.bO func113 rfl ntmps113 rfl (by simp) ?_;intro Q Q0;unfold uO at Q0;simp;refine uG Q0 p0 dS (eN hV.kw l j0 p0.2 (by omega)) (aB.word hV.fin) λnm j1 x1 Q1 p1=>?_;simp;refine eS Q1 p1 hV.fin λu2 j2 x2 Q2 p2=>?_;simp;refine uG Q2 p2 a4a ((a5Z hV false j2 p2.2)) ((aB.vars hV.fin false)) λvs j3 x3 Q3 p3=>?_;simp;refine eS Q3 p3 hV.fin λu4 j4 x4 Q4 p4=>?_;simp;refine uG Q4 p4 sY (vL hV j4 p4.2) (hV.mZ.pred) λp j5 x5 Q5 p5=>?_;simp;refine eS Q5 p5 hV.fin λu6 j6 x6 Q6 p6=>?_;simp;refine uG Q6 p6 sY (vL hV j6 p6.2) (hV.mZ.pred) λq j7 x7 Q7 p7=>?_;simp;refine eS Q7 p7 hV.fin λu8 j8 x8 Q8 p8=>?_;simp;exact Q8.ok _ j8 _ _ rfl (.inr rfl) (by simp)
omit hV in
theorem a3k(t:Tok):(bL t).length=4:=rfl
variable{d:Int}{g i:Nat}
theorem f0h(hi:i<l.length)(h:cQ (aJ l i) [40]=true):kC l (g+1) d i=kC l g (d+1) (i+1):=by rw[kC,if_pos hi,if_pos h]
theorem f0i(hi:i<l.length)(h0:cQ (aJ l i) [40]=false)(h:cQ (aJ l i) [41]=true):kC l (g+1) d i=kC l g (d-1) (i+1):=by rw[kC,if_pos hi,if_neg (by rw[h0];decide),if_pos h]
theorem f0j(hi:i<l.length)(h0:cQ (aJ l i) [40]=false)(h1:cQ (aJ l i) [41]=false):kC l (g+1) d i=if cQ (aJ l i) [61]&&decide (d<=0) then i else kC l g d (i+1):=by rw[kC,if_pos hi,if_neg (by rw[h0];decide),if_neg (by rw[h1];decide)]
theorem f0k(hi:¬i<l.length):kC l (g+1) d i=l.length:=by rw[kC,if_neg hi]
theorem b6y:∀(g:Nat)(d:Int)(i:Nat),kC l g d i<=l.length
 |0,d,i=>by unfold kC;omega
 |g+1,d,i=>by
  unfold kC;split
  .split
   .exact b6y g _ _
   .split
    .exact b6y g _ _
    .split
     .omega
     .exact b6y g _ _
  .omega
theorem b8P(i:Nat)(hi:i<l.length):CH prog G 114 ⟨[.ptr 100000 0],rH l i,[]⟩ ⟨[.d (.int .i64 (kC l (l.length+1) 0 i))],rH l i,[]⟩:=by
 have hl:=hV.len;generalize hR:kC l (l.length+1) 0 i=R;refine CH.aY func114 rfl ntmps114 rfl (by simp) ?_;simp;refine SW.eA (ι:={x:Int×Nat×Nat//i<=x.2.1/\x.2.1<=l.length/\l.length<x.2.2+x.2.1/\(-(x.2.1:Int)<=x.1/\x.1<=x.2.1)/\kC l x.2.2 x.1 x.2.1=R}) (λx=>[(3,.d (.int .i64 x.1.1)),(4,.d (.int .i64 x.1.2.1))]) (λ_=>rH l i) (λ_=>[]) (λx=>l.length-x.1.2.1) ⟨(0,i,l.length+1),g3G _,by simp only;omega,by simp only;omega,by simp only;omega,hR⟩ (by simp) ?_;rintro⟨⟨d,k,g⟩,h1,h2,h3,h4,hp⟩;simp only at h1 h2 h3 h4 hp;obtain⟨g,rfl⟩:∃k,g=k+1:=⟨g-1,by omega⟩;by_cases hk:k<l.length
 .have hT:aJ l k=l[k]:=by simp[aJ,hk]
  have hw:=aX (show k<9223372036854775807 by omega);have hd1:IntKind.i64.wrap (d+1)=d+1:=wrap64 (by omega);have hd2:IntKind.i64.wrap (d-1)=d-1:=wrap64 (by omega);simp[hk,a3k];refine aC.mk pF (qH l[k] [40]) ?_;cases e1:cQ l[k] [40]with
  |true=>rw[f0h hV hk (by rw[hT];exact e1)]at hp;simp[hd1,hw];exact bE.mk ⟨(d+1,k+1,g),by simp only;omega,by simp only;omega,by simp only;omega,by simp only;omega,hp⟩ (by simp) (by simp;omega)
  |false=>
   simp[hk,a3k];refine aC.mk pF (qH l[k] [41]) ?_;cases e2:cQ l[k] [41]with
   |true=>rw[f0i hV hk (by rw[hT];exact e1) (by rw[hT];exact e2)]at hp;simp[hd2,hw];exact bE.mk ⟨(d-1,k+1,g),by simp only;omega,by simp only;omega,by simp only;omega,by simp only;omega,hp⟩ (by simp) (by simp;omega)
   |false=>
    rw[f0j hV hk (by rw[hT];exact e1) (by rw[hT];exact e2),hT]at hp;simp[hk,a3k];refine aC.mk pF (qH l[k] [61]) ?_;cases e3:cQ l[k] [61]with
    |true=>
     by_cases hd:d<=0
     .rw[e3,if_pos (by simp[hd])]at hp;subst hp;simp[hd]
     .rw[e3,if_neg (by simp[hd])]at hp;simp[hd,hw];exact bE.mk ⟨(d,k+1,g),by simp only;omega,by simp only;omega,by simp only;omega,by simp only;omega,hp⟩ (by simp) (by simp;omega)
    |false=>rw[e3,if_neg (by simp)]at hp;simp[hw];exact bE.mk ⟨(d,k+1,g),by simp only;omega,by simp only;omega,by simp only;omega,by simp only;omega,hp⟩ (by simp) (by simp;omega)
 .rw[f0k hV hk]at hp;subst hp;simp[hk,a3k]
end
section
variable {rdP:List Tok->Nat->Nat->gO Pr} {l:List Tok} (hV:rR G rdP l)
include hV
theorem c4t(s:dB)(hv:s.pl<l.length):eH G 120 [] l s (kC l (l.length+1) 0 s.pl,s) (λn:Nat=>.d (.int .i64 n)):=by
 have hl:=hV.len;obtain⟨i,er,ln⟩:=s;simp only at hv;generalize hR:kC l (l.length+1) 0 i=R;refine eH.bO func120 rfl ntmps120 rfl ?_;intro Q Q0;simp;refine SW.sV (ι:={x:Int×Nat×Nat//i<=x.2.1/\x.2.1<=l.length/\l.length<x.2.2+x.2.1/\(-(x.2.1:Int)<=x.1/\x.1<=x.2.1)/\kC l x.2.2 x.1 x.2.1=R}) (λx=>[(3,.d (.int .i64 x.1.1)),(4,.d (.int .i64 x.1.2.1))]) (λ_=>rfH l ⟨i,er,ln⟩) (λ_=>[]) (λx=>l.length-x.1.2.1) ⟨(0,i,l.length+1),g3G _,by simp only;omega,by simp only;omega,by simp only;omega,hR⟩ (by simp) ?_;rintro⟨⟨d,k,g⟩,h1,h2,h3,h4,hp⟩;simp only at h1 h2 h3 h4 hp;obtain⟨g,rfl⟩:∃k,g=k+1:=⟨g-1,by omega⟩;by_cases hk:k<l.length
 .have hT:aJ l k=l[k]:=by simp[aJ,hk]
  have hw:=aX (show k<9223372036854775807 by omega);have hd1:IntKind.i64.wrap (d+1)=d+1:=wrap64 (by omega);have hd2:IntKind.i64.wrap (d-1)=d-1:=wrap64 (by omega);have f1:cQ (aJ l k) [40]=_:=(hV.tkw k).sg (by decide);have f2:cQ (aJ l k) [41]=_:=(hV.tkw k).sg (by decide);have f3:cQ (aJ l k) [61]=_:=(hV.tkw k).sg (by decide);rw[kC,if_pos hk,f1,f2,f3]at hp;rw[hT]at hp;obtain⟨T,hTT⟩:∃T,l[k]=T:=⟨_,rfl⟩;rw[hTT]at hp;obtain⟨a,b,n,dd⟩:=T;simp only at hp;by_cases k4:a=4;rotate_left
  .simp[k4]at hp;simp[hk,hTT,bL,k4,hw];exact bE.mk ⟨(d,k+1,g),by simp only;omega,by simp only;omega,by simp only;omega,by simp only;omega,hp⟩ (by simp) (by simp;omega)
  by_cases x1:b=[40]
  .simp[k4,x1]at hp;simp[hk,hTT,bL,k4,x1,hw,hd1];exact bE.mk ⟨(d+1,k+1,g),by simp only;omega,by simp only;omega,by simp only;omega,by simp only;omega,hp⟩ (by simp) (by simp;omega)
  by_cases x2:b=[41]
  .simp[k4,x2]at hp;simp[hk,hTT,bL,k4,x2,hw,hd2];exact bE.mk ⟨(d-1,k+1,g),by simp only;omega,by simp only;omega,by simp only;omega,by simp only;omega,hp⟩ (by simp) (by simp;omega)
  by_cases x3:b=[61]
  .by_cases hd:d<=0
   .simp[k4,x3,hd]at hp;subst hp;simp[hk,hTT,bL,k4,x3,hd];exact Q0.ok _ _ (.inr rfl) (by simp)
   .simp[k4,x3,hd]at hp;simp[hk,hTT,bL,k4,x3,hd,hw];exact bE.mk ⟨(d,k+1,g),by simp only;omega,by simp only;omega,by simp only;omega,by simp only;omega,hp⟩ (by simp) (by simp;omega)
  .simp[k4,x1,x2,x3]at hp;simp[hk,hTT,bL,k4,x1,x2,x3,hw];exact bE.mk ⟨(d,k+1,g),by simp only;omega,by simp only;omega,by simp only;omega,by simp only;omega,hp⟩ (by simp) (by simp;omega)
 .rw[kC,if_neg hk]at hp;subst hp;simp[hk,a3k];exact Q0.ok _ _ (.inr rfl) (by simp)
theorem a0K{b:Bool}{s s1:dB}{vs:List psV}(hv:bY l s)(h:wT aH l b s=(vs,s1)):uI l 0 s s1:=(aF.vars hV.toRfH _).c7r hv h
theorem c7X(s0:dB)(hv:bY l s0):eH G 117 [] l s0 (a9b aH rdP l s0) (λb=>.d (.agg (f0g b))):=by have hl:=hV.len;have v0:=hv;refine eH.bO func117 rfl ntmps117 rfl ?_;intro Q Q0;unfold a9b at Q0;simp;refine rfG Q0 v0 gK (jJ (by omega) s0 v0) (gW hV.fin) λnm s1 h1 Q1 p1 v1=>?_;simp;refine rfM Q1 v1 hV.fin λu2 s2 h2 Q2 p2 v2=>?_;simp;refine rfG Q2 v2 a4c (a6e hV false s2 v2) (a0K hV) λvs s3 h3 Q3 p3 v3=>?_;simp;refine rfM Q3 v3 hV.fin λu4 s4 h4 Q4 p4 v4=>?_;simp;refine rfG Q4 v4 sZ (vN hV s4 v4) (yB hV) λh s5 h5 Q5 p5 v5=>?_;simp;refine rfM Q5 v5 hV.fin λu6 s6 h6 Q6 p6 v6=>?_;simp;refine rfG Q6 v6 sZ (vN hV s6 v6) (yB hV) λg s7 h7 Q7 p7 v7=>?_;simp;refine rfM Q7 v7 hV.fin λu8 s8 h8 Q8 p8 v8=>?_;simp;exact Q8.ok _ _ (.inr rfl) (by simp)
end
end
end Go.Proofs.YtmfbjecjccipfaaGreatDoor
