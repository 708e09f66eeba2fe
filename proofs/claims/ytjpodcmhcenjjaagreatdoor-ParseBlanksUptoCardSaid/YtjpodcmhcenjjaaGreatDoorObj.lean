/- Lemmas that the law of this claim needs (PsP VmRB PsQ PsT VmRD PsV PsW PsX PsY ZR). No condition. -/
import Derived.Test.YtjpodcmhcenjjaaGreatDoorOba
import Derived.Test.YtjpodcmhcenjjaaGreatDoorObc
import Derived.Test.YtjpodcmhcenjjaaGreatDoorObd
import Derived.Test.YtjpodcmhcenjjaaGreatDoorObf
import Derived.Test.YtjpodcmhcenjjaaGreatDoorObg
import Derived.Test.YtjpodcmhcenjjaaGreatDoorObi
set_option linter.unusedVariables false
set_option linter.unusedSimpArgs false
set_option linter.unusedSectionVars false
set_option maxRecDepth 100000
set_option maxHeartbeats 64000000
open Go.Proofs.Tryz
namespace Go.Proofs.YtjpodcmhcenjjaaGreatDoor
section
open Go Go.VM
variable {G:GT}
theorem zY:VM.Enters prog 229:=.mk func229 rfl
theorem tD:VM.Enters prog 207:=.mk func207 rfl
theorem b2W:VM.Enters prog 191:=.mk func191 rfl
theorem b2X:VM.Enters prog 122:=.mk func122 rfl
theorem c6v:VM.Enters prog 73:=.mk func73 rfl
section
variable {l:List Tok} {ops:List (Nm×Int)} {one:bB eM} {g:Nat} {e x:eM} {i j:Nat} {p:Nm×Int}
theorem yL(h:(ops.find? λp=>aQ l i p.1)=none):dY l ops one (g+1) e i=.ok e i:=by rw[dY];simp only[h]
theorem tE(h:(ops.find? λp=>aQ l i p.1)=some p)(h1:one (i+1)=.ok x j):dY l ops one (g+1) e i=dY l ops one g (dG p.2 [e,x]) j:=by rw[dY];simp only[h,h1]
theorem rJ{n m:Int}(h:(ops.find? λp=>aQ l i p.1)=some p)(h1:one (i+1)=.bad n m):dY l ops one (g+1) e i=.bad n m:=by rw[dY];simp only[h,h1]
end
section
variable {aG:List Tok->Nat->Nat->kX Pr} {l:List Tok} (hV:kU G aG l) (hN:∀i, -9223372036854775807<=(aR l i).n/\(aR l i).n<=9223372036854775807)
include hV hN
section
variable {ex:Nat->bB eM} {low:Nat} (hex:∀i,low<=i->i<l.length->pW G 34 [] l i (ex 0 i) sO) (h3:∀i,low<=i->i<l.length->pW G 168 [] l i (ex 3 i) sO) (h7:∀i,low<=i->i<l.length->pW G 247 [] l i (ex 7 i) sO) (kV:∀k,aA l 1 (ex k))
include hex h3 h7 kV
omit h3 in
theorem b0h(i:Nat)(oE:low<=i+1)(hi:i<l.length):pW G 247 [] l i (a0B aX bI aG l ex i) sO:=by
 have hl:=hV.len;obtain⟨j0,rfl⟩:∃j0,j0=i:=⟨_,rfl⟩;have p0:j0<=j0/\j0<l.length:=⟨f3d _,hi⟩;refine kZ.cP func247 rfl ntmps247 rfl (by simp) ?_;intro Q Q0;unfold a0B at Q0;simp;cases hs:aQ l j0 [45]with
 |true=>have Q1:=Q0.ifp hs;refine yT hs p0 hV.fin λp1=>?_;obtain⟨j1,sR⟩:∃j,j0+1=j:=⟨_,rfl⟩;rw[sR]at Q1 p1|-;simp;refine qI Q1 p1 uP ((h7 j1 (by omega) p1.2)) (kV 7) λe j2 x2 Q2 p2=>?_;simp;refine jC.mk cC (a4U 15 e) ?_;simp;exact Q2.ok _ j2 _ _ rfl (.inr rfl) (by simp)
 |false=>have Q0:=Q0.ifn (by rw[hs];decide);refine vX hs p0 ?_;simp;refine rdR Q0 c0u (c2O hV hN hex kV j0 (by omega) p0.2) λt j h=>?_;simp;exact Q0.ok t j _ _ h (.inr rfl) (by simp)
omit h3 in
theorem b4u(i:Nat)(oE:low<=i+1)(hi:i<l.length):pW G 229 [] l i (a7v aX bI aG l ex i) sO:=by
 refine kZ.cP func229 rfl ntmps229 rfl (by simp) ?_;intro Q Q0;unfold a7v wV at Q0;have hl:=hV.len;obtain⟨j0,rfl⟩:∃j0,j0=i:=⟨_,rfl⟩;have p0:j0<=j0/\j0<l.length:=⟨f3d _,hi⟩;generalize gO:a0B aX bI aG l ex=one at *;have a7V:∀i,low<=i+1->i<l.length->pW G 247 [] l i (one i) sO:=by rw[<-gO];exact b0h hV hN hex h7 kV
 have a7W:aA l 1 one:=by
  first
   |assumption
   |(rw[<-gO]
     exact aA.unG hV.fin kV hV.oB.pred)
 simp;refine qI Q0 p0 uP ((a7V j0 (by omega) p0.2)) (a7W) λe j1 x1 Q1 p1=>?_;simp;refine SW.vB (ι:={x:eM×Nat×Nat//j1<=x.2.1/\x.2.1<l.length/\l.length<x.2.2+x.2.1/\dY l [([42],12),([100,105,118],13),([109,111,100],14)] one x.2.2 x.1 x.2.1=dY l [([42],12),([100,105,118],13),([109,111,100],14)] one (l.length+2) e j1}) (λ_=>[]) (λx=>[(2,.cells [.d (.int .i64 0),.d (.str []),.d (.int .i64 0),.d .aJ,.d .aJ,.d .aJ,.d .aJ]),(3,.cells ((xS x.1.1).map .d)),(100000,rdO l x.1.2.1)]) (λ_=>[]) (λx=>l.length-x.1.2.1) ⟨(e,j1,l.length+2),f3d _,p1.2,by simp only;omega,rfl⟩ (by simp) ?_;rintro⟨⟨e2,j2,g⟩,hb,tI,hg,hp⟩;simp only at hb tI hg hp;obtain⟨g,rfl⟩:∃k,g=k+1:=⟨g-1,by omega⟩;have p2:j1<=j2/\j2<l.length:=⟨hb,tI⟩;simp;cases s1:aQ l j2 [42]with
 |true=>
  have hf:([([42],12),([100,105,118],13),([109,111,100],14)].find? λp:Nm×Int=>aQ l j2 p.1)=some ([42],12):=by simp[s1]
  have hn:=aF hV.fin tI s1;refine mA (ds:=[.str [42]]) (d:=.d (.bool true)) gH (qA l j2 [42] p2.2 (by omega) s1) ?_;simp;refine mK 2 [1] (.op 0 (.call [3,4,5] .none) (.call [0,3,4,5] .none)) (gL (one (j2+1))) (by kernel_rfl) (by kernel_rfl) ?_;simp;refine⟨?_,?_⟩
  all_goals
   refine rdZ (i:=j2+1) (ds:=[]) uP (a7V (j2+1) (by omega) hn) (λx j3 x3=>?_) (λn e hx=>?_)
   .have p3:=a7W (j2+1) x j3 hn x3;rw[tE hf x3]at hp;refine cT.mk ?_;simp;refine aE.mk cC (jZ 12 e2 x) ?_;simp;exact bJ.mk ⟨(dG 12 [e2,x],j3,g),by simp only;omega,p3.2,by simp only;omega,hp⟩ (by simp) (by simp;omega)
   .rw[rJ hf hx]at hp;simp
    first|exact Q1.bad _ _ _ hp.symm|exact λs=>Q1.bad _ _ s hp.symm
 |false=>
 refine vX s1 p2 ?_;simp;cases s2:aQ l j2 [100,105,118]with
 |true=>
  have hf:([([42],12),([100,105,118],13),([109,111,100],14)].find? λp:Nm×Int=>aQ l j2 p.1)=some ([100,105,118],13):=by simp[s1,s2]
  have hn:=aF hV.fin tI s2;refine mA (ds:=[.str [100,105,118]]) (d:=.d (.bool true)) gH (qA l j2 [100,105,118] p2.2 (by omega) s2) ?_;simp;refine mK 2 [1] (.op 0 (.call [3,4,5] .none) (.call [0,3,4,5] .none)) (gL (one (j2+1))) (by kernel_rfl) (by kernel_rfl) ?_;simp;refine⟨?_,?_⟩
  all_goals
   refine rdZ (i:=j2+1) (ds:=[]) uP (a7V (j2+1) (by omega) hn) (λx j3 x3=>?_) (λn e hx=>?_)
   .have p3:=a7W (j2+1) x j3 hn x3;rw[tE hf x3]at hp;refine cT.mk ?_;simp;refine aE.mk cC (jZ 13 e2 x) ?_;simp;exact bJ.mk ⟨(dG 13 [e2,x],j3,g),by simp only;omega,p3.2,by simp only;omega,hp⟩ (by simp) (by simp;omega)
   .rw[rJ hf hx]at hp;simp
    first|exact Q1.bad _ _ _ hp.symm|exact λs=>Q1.bad _ _ s hp.symm
 |false=>
 refine vX s2 p2 ?_;simp;cases s3:aQ l j2 [109,111,100]with
 |true=>
  have hf:([([42],12),([100,105,118],13),([109,111,100],14)].find? λp:Nm×Int=>aQ l j2 p.1)=some ([109,111,100],14):=by simp[s1,s2,s3]
  have hn:=aF hV.fin tI s3;refine mA (ds:=[.str [109,111,100]]) (d:=.d (.bool true)) gH (qA l j2 [109,111,100] p2.2 (by omega) s3) ?_;simp;refine mK 2 [1] (.op 0 (.call [3,4,5] .none) (.call [0,3,4,5] .none)) (gL (one (j2+1))) (by kernel_rfl) (by kernel_rfl) ?_;simp;refine⟨?_,?_⟩
  all_goals
   refine rdZ (i:=j2+1) (ds:=[]) uP (a7V (j2+1) (by omega) hn) (λx j3 x3=>?_) (λn e hx=>?_)
   .have p3:=a7W (j2+1) x j3 hn x3;rw[tE hf x3]at hp;refine cT.mk ?_;simp;refine aE.mk cC (jZ 14 e2 x) ?_;simp;exact bJ.mk ⟨(dG 14 [e2,x],j3,g),by simp only;omega,p3.2,by simp only;omega,hp⟩ (by simp) (by simp;omega)
   .rw[rJ hf hx]at hp;simp
    first|exact Q1.bad _ _ _ hp.symm|exact λs=>Q1.bad _ _ s hp.symm
 |false=>
 refine vX s3 p2 ?_;have hf:([([42],12),([100,105,118],13),([109,111,100],14)].find? λp:Nm×Int=>aQ l j2 p.1)=none:=by simp[s1,s2,s3]
 have Q2:=hp.symm.trans (yL hf);simp;exact Q1.ok _ j2 _ _ Q2 (.inr rfl) (by simp)
omit h3 in
theorem qD(i:Nat)(oE:low<=i+1)(hi:i<l.length):pW G 207 [] l i (jO aX bI aG l ex i) sO:=by
 refine kZ.cP func207 rfl ntmps207 rfl (by simp) ?_;intro Q Q0;unfold jO wV at Q0;have hl:=hV.len;obtain⟨j0,rfl⟩:∃j0,j0=i:=⟨_,rfl⟩;have p0:j0<=j0/\j0<l.length:=⟨f3d _,hi⟩;generalize gO:a7v aX bI aG l ex=one at *;have a7V:∀i,low<=i+1->i<l.length->pW G 229 [] l i (one i) sO:=by rw[<-gO];exact b4u hV hN hex h7 kV
 have a7W:aA l 1 one:=by
  first
   |assumption
   |(rw[<-gO]
     exact aA.c3T hV.fin kV hV.oB.pred)
 simp;refine qI Q0 p0 zY ((a7V j0 (by omega) p0.2)) (a7W) λe j1 x1 Q1 p1=>?_;simp;refine SW.vB (ι:={x:eM×Nat×Nat//j1<=x.2.1/\x.2.1<l.length/\l.length<x.2.2+x.2.1/\dY l [([43],10),([45],11)] one x.2.2 x.1 x.2.1=dY l [([43],10),([45],11)] one (l.length+2) e j1}) (λ_=>[]) (λx=>[(2,.cells [.d (.int .i64 0),.d (.str []),.d (.int .i64 0),.d .aJ,.d .aJ,.d .aJ,.d .aJ]),(3,.cells ((xS x.1.1).map .d)),(100000,rdO l x.1.2.1)]) (λ_=>[]) (λx=>l.length-x.1.2.1) ⟨(e,j1,l.length+2),f3d _,p1.2,by simp only;omega,rfl⟩ (by simp) ?_;rintro⟨⟨e2,j2,g⟩,hb,tI,hg,hp⟩;simp only at hb tI hg hp;obtain⟨g,rfl⟩:∃k,g=k+1:=⟨g-1,by omega⟩;have p2:j1<=j2/\j2<l.length:=⟨hb,tI⟩;simp;cases s1:aQ l j2 [43]with
 |true=>
  have hf:([([43],10),([45],11)].find? λp:Nm×Int=>aQ l j2 p.1)=some ([43],10):=by simp[s1]
  have hn:=aF hV.fin tI s1;refine mA (ds:=[.str [43]]) (d:=.d (.bool true)) gH (qA l j2 [43] p2.2 (by omega) s1) ?_;simp;refine mK 2 [1] (.op 0 (.call [3,4,5] .none) (.call [0,3,4,5] .none)) (gL (one (j2+1))) (by kernel_rfl) (by kernel_rfl) ?_;simp;refine⟨?_,?_⟩
  all_goals
   refine rdZ (i:=j2+1) (ds:=[]) zY (a7V (j2+1) (by omega) hn) (λx j3 x3=>?_) (λn e hx=>?_)
   .have p3:=a7W (j2+1) x j3 hn x3;rw[tE hf x3]at hp;refine cT.mk ?_;simp;refine aE.mk cC (jZ 10 e2 x) ?_;simp;exact bJ.mk ⟨(dG 10 [e2,x],j3,g),by simp only;omega,p3.2,by simp only;omega,hp⟩ (by simp) (by simp;omega)
   .rw[rJ hf hx]at hp;simp
    first|exact Q1.bad _ _ _ hp.symm|exact λs=>Q1.bad _ _ s hp.symm
 |false=>
 refine vX s1 p2 ?_;simp;cases s2:aQ l j2 [45]with
 |true=>
  have hf:([([43],10),([45],11)].find? λp:Nm×Int=>aQ l j2 p.1)=some ([45],11):=by simp[s1,s2]
  have hn:=aF hV.fin tI s2;refine mA (ds:=[.str [45]]) (d:=.d (.bool true)) gH (qA l j2 [45] p2.2 (by omega) s2) ?_;simp;refine mK 2 [1] (.op 0 (.call [3,4,5] .none) (.call [0,3,4,5] .none)) (gL (one (j2+1))) (by kernel_rfl) (by kernel_rfl) ?_;simp;refine⟨?_,?_⟩
  all_goals
   refine rdZ (i:=j2+1) (ds:=[]) zY (a7V (j2+1) (by omega) hn) (λx j3 x3=>?_) (λn e hx=>?_)
   .have p3:=a7W (j2+1) x j3 hn x3;rw[tE hf x3]at hp;refine cT.mk ?_;simp;refine aE.mk cC (jZ 11 e2 x) ?_;simp;exact bJ.mk ⟨(dG 11 [e2,x],j3,g),by simp only;omega,p3.2,by simp only;omega,hp⟩ (by simp) (by simp;omega)
   .rw[rJ hf hx]at hp;simp
    first|exact Q1.bad _ _ _ hp.symm|exact λs=>Q1.bad _ _ s hp.symm
 |false=>
 refine vX s2 p2 ?_;have hf:([([43],10),([45],11)].find? λp:Nm×Int=>aQ l j2 p.1)=none:=by simp[s1,s2]
 have Q2:=hp.symm.trans (yL hf);simp;exact Q1.ok _ j2 _ _ Q2 (.inr rfl) (by simp)
omit h3 in
theorem b4v(i:Nat)(oE:low<=i+1)(hi:i<l.length):pW G 191 [] l i (xM aX bI aG l ex i) sO:=by
 have hl:=hV.len;obtain⟨j0,rfl⟩:∃j0,j0=i:=⟨_,rfl⟩;have p0:j0<=j0/\j0<l.length:=⟨f3d _,hi⟩;refine kZ.cP func191 rfl ntmps191 rfl (by simp) ?_;intro Q Q0;unfold xM at Q0;simp;refine qI Q0 p0 tD ((qD hV hN hex h7 kV j0 (by omega) p0.2)) (aA.a5e hV.fin kV hV.oB.pred) λe j1 x1 Q1 p1=>?_;simp;have hc:=qD hV hN hex h7 kV;cases hs1:aQ l j1 [61,61]with
 |true=>
  have Q2:=Q1.ifp hs1;refine yT hs1 p1 hV.fin λp2=>?_;obtain⟨j2,tI⟩:∃j,j1+1=j:=⟨_,rfl⟩;rw[tI]at Q2 p2|-;simp;refine mK 2 [1] (.op 0 (.call [3,4,5] .none) (.call [0,3,4,5] .none)) (gL (jO aX bI aG l ex j2)) (by kernel_rfl) (by kernel_rfl) ?_;simp;refine⟨?_,?_⟩
  all_goals
   refine oF Q2 p2 tD ((qD hV hN hex h7 kV j2 (by omega) p2.2)) (aA.a5e hV.fin kV hV.oB.pred) λx j3 x3 Q3 p3=>cT.mk ?_;simp;refine aE.mk cC (jZ 16 e x) ?_;simp;exact Q3.ok _ j3 _ _ rfl (.inr rfl) (by simp)
 |false=>
 have Q1:=Q1.ifn (by rw[hs1];decide);refine vX hs1 p1 ?_;simp;cases hs2:aQ l j1 [33,61]with
 |true=>
  have Q2:=Q1.ifp hs2;refine yT hs2 p1 hV.fin λp2=>?_;obtain⟨j2,tI⟩:∃j,j1+1=j:=⟨_,rfl⟩;rw[tI]at Q2 p2|-;simp;refine mK 2 [1] (.op 0 (.call [3,4,5,6,7] .none) (.call [0,3,4,5,6,7] .none)) (gL (jO aX bI aG l ex j2)) (by kernel_rfl) (by kernel_rfl) ?_;simp;refine⟨?_,?_⟩
  all_goals
   refine oF Q2 p2 tD ((qD hV hN hex h7 kV j2 (by omega) p2.2)) (aA.a5e hV.fin kV hV.oB.pred) λx j3 x3 Q3 p3=>cT.mk ?_;simp;refine aE.mk cC (jZ 16 e x) ?_;simp;refine aE.mk cC (a4U 21 (dG 16 [e,x])) ?_;simp;exact Q3.ok _ j3 _ _ rfl (.inr rfl) (by simp)
 |false=>
 have Q1:=Q1.ifn (by rw[hs2];decide);refine vX hs2 p1 ?_;simp;have hc:=qD hV hN hex h7 kV;cases hs3:aQ l j1 [60]with
 |true=>
  have Q2:=Q1.ifp hs3;refine yT hs3 p1 hV.fin λp2=>?_;obtain⟨j2,tI⟩:∃j,j1+1=j:=⟨_,rfl⟩;rw[tI]at Q2 p2|-;simp;refine mK 2 [1] (.op 0 (.call [3,4,5] .none) (.call [0,3,4,5] .none)) (gL (jO aX bI aG l ex j2)) (by kernel_rfl) (by kernel_rfl) ?_;simp;refine⟨?_,?_⟩
  all_goals
   refine oF Q2 p2 tD ((qD hV hN hex h7 kV j2 (by omega) p2.2)) (aA.a5e hV.fin kV hV.oB.pred) λx j3 x3 Q3 p3=>cT.mk ?_;simp;refine aE.mk cC (jZ 17 e x) ?_;simp;exact Q3.ok _ j3 _ _ rfl (.inr rfl) (by simp)
 |false=>
 have Q1:=Q1.ifn (by rw[hs3];decide);refine vX hs3 p1 ?_;simp;have hc:=qD hV hN hex h7 kV;cases hs4:aQ l j1 [60,61]with
 |true=>
  have Q2:=Q1.ifp hs4;refine yT hs4 p1 hV.fin λp2=>?_;obtain⟨j2,tI⟩:∃j,j1+1=j:=⟨_,rfl⟩;rw[tI]at Q2 p2|-;simp;refine mK 2 [1] (.op 0 (.call [3,4,5] .none) (.call [0,3,4,5] .none)) (gL (jO aX bI aG l ex j2)) (by kernel_rfl) (by kernel_rfl) ?_;simp;refine⟨?_,?_⟩
  all_goals
   refine oF Q2 p2 tD ((qD hV hN hex h7 kV j2 (by omega) p2.2)) (aA.a5e hV.fin kV hV.oB.pred) λx j3 x3 Q3 p3=>cT.mk ?_;simp;refine aE.mk cC (jZ 18 e x) ?_;simp;exact Q3.ok _ j3 _ _ rfl (.inr rfl) (by simp)
 |false=>
 have Q1:=Q1.ifn (by rw[hs4];decide);refine vX hs4 p1 ?_;simp;cases hs5:aQ l j1 [62]with
 |true=>
  have Q2:=Q1.ifp hs5;refine yT hs5 p1 hV.fin λp2=>?_;obtain⟨j2,tI⟩:∃j,j1+1=j:=⟨_,rfl⟩;rw[tI]at Q2 p2|-;simp;refine mK 1 [0] (.op 2 (.call [3,4,5] .none) (.call [2,3,4,5] .none)) (gL (jO aX bI aG l ex j2)) (by kernel_rfl) (by kernel_rfl) ?_;simp;refine⟨?_,?_⟩
  all_goals
   refine oF Q2 p2 tD ((qD hV hN hex h7 kV j2 (by omega) p2.2)) (aA.a5e hV.fin kV hV.oB.pred) λx j3 x3 Q3 p3=>cT.mk ?_;simp;refine aE.mk cC (jZ 17 x e) ?_;simp;exact Q3.ok _ j3 _ _ rfl (.inr rfl) (by simp)
 |false=>
 have Q1:=Q1.ifn (by rw[hs5];decide);refine vX hs5 p1 ?_;simp;cases hs6:aQ l j1 [62,61]with
 |true=>
  have Q2:=Q1.ifp hs6;refine yT hs6 p1 hV.fin λp2=>?_;obtain⟨j2,tI⟩:∃j,j1+1=j:=⟨_,rfl⟩;rw[tI]at Q2 p2|-;simp;refine mK 1 [0] (.op 2 (.call [3,4,5] .none) (.call [2,3,4,5] .none)) (gL (jO aX bI aG l ex j2)) (by kernel_rfl) (by kernel_rfl) ?_;simp;refine⟨?_,?_⟩
  all_goals
   refine oF Q2 p2 tD ((qD hV hN hex h7 kV j2 (by omega) p2.2)) (aA.a5e hV.fin kV hV.oB.pred) λx j3 x3 Q3 p3=>cT.mk ?_;simp;refine aE.mk cC (jZ 18 x e) ?_;simp;exact Q3.ok _ j3 _ _ rfl (.inr rfl) (by simp)
 |false=>
 have Q1:=Q1.ifn (by rw[hs6];decide);refine vX hs6 p1 ?_;simp;exact Q1.ok _ j1 _ _ rfl (.inr rfl) (by simp)
theorem b5F(i:Nat)(oE:low<=i+1)(hi:i<l.length):pW G 168 [] l i (uH aX bI aG l ex i) sO:=by
 have hl:=hV.len;obtain⟨j0,rfl⟩:∃j0,j0=i:=⟨_,rfl⟩;have p0:j0<=j0/\j0<l.length:=⟨f3d _,hi⟩;refine kZ.cP func168 rfl ntmps168 rfl (by simp) ?_;intro Q Q0;unfold uH at Q0;simp;cases hs:aQ l j0 [33]with
 |true=>have Q1:=Q0.ifp hs;refine yT hs p0 hV.fin λp1=>?_;obtain⟨j1,sR⟩:∃j,j0+1=j:=⟨_,rfl⟩;rw[sR]at Q1 p1|-;simp;refine qI Q1 p1 a6A ((h3 j1 (by omega) p1.2)) (kV 3) λe j2 x2 Q2 p2=>?_;simp;refine jC.mk cC (a4U 21 e) ?_;simp;exact Q2.ok _ j2 _ _ rfl (.inr rfl) (by simp)
 |false=>have Q0:=Q0.ifn (by rw[hs];decide);refine vX hs p0 ?_;simp;refine rdR Q0 b2W (b4v hV hN hex h7 kV j0 (by omega) p0.2) λt j h=>?_;simp;exact Q0.ok t j _ _ h (.inr rfl) (by simp)
theorem c6w(i:Nat)(oE:low<=i+1)(hi:i<l.length):pW G 122 [] l i (b1S aX bI aG l ex i) sO:=by
 refine kZ.cP func122 rfl ntmps122 rfl (by simp) ?_;intro Q Q0;unfold b1S wV at Q0;have hl:=hV.len;obtain⟨j0,rfl⟩:∃j0,j0=i:=⟨_,rfl⟩;have p0:j0<=j0/\j0<l.length:=⟨f3d _,hi⟩;generalize gO:uH aX bI aG l ex=one at *;have a7V:∀i,low<=i+1->i<l.length->pW G 168 [] l i (one i) sO:=by rw[<-gO];exact b5F hV hN hex h3 h7 kV
 have a7W:aA l 1 one:=by
  first
   |assumption
   |(rw[<-gO]
     exact aA.a7x hV.fin kV hV.oB.pred)
 simp;refine qI Q0 p0 a6A ((a7V j0 (by omega) p0.2)) (a7W) λe j1 x1 Q1 p1=>?_;simp;refine SW.vB (ι:={x:eM×Nat×Nat//j1<=x.2.1/\x.2.1<l.length/\l.length<x.2.2+x.2.1/\dY l [([38,38],19)] one x.2.2 x.1 x.2.1=dY l [([38,38],19)] one (l.length+2) e j1}) (λ_=>[]) (λx=>[(2,.cells [.d (.int .i64 0),.d (.str []),.d (.int .i64 0),.d .aJ,.d .aJ,.d .aJ,.d .aJ]),(3,.cells ((xS x.1.1).map .d)),(100000,rdO l x.1.2.1)]) (λ_=>[]) (λx=>l.length-x.1.2.1) ⟨(e,j1,l.length+2),f3d _,p1.2,by simp only;omega,rfl⟩ (by simp) ?_;rintro⟨⟨e2,j2,g⟩,hb,tI,hg,hp⟩;simp only at hb tI hg hp;obtain⟨g,rfl⟩:∃k,g=k+1:=⟨g-1,by omega⟩;have p2:j1<=j2/\j2<l.length:=⟨hb,tI⟩;simp;cases s1:aQ l j2 [38,38]with
 |true=>
  have hf:([([38,38],19)].find? λp:Nm×Int=>aQ l j2 p.1)=some ([38,38],19):=by simp[s1]
  have hn:=aF hV.fin tI s1;refine mA (ds:=[.str [38,38]]) (d:=.d (.bool true)) gH (qA l j2 [38,38] p2.2 (by omega) s1) ?_;simp;refine mK 2 [1] (.op 0 (.call [3,4,5] .none) (.call [0,3,4,5] .none)) (gL (one (j2+1))) (by kernel_rfl) (by kernel_rfl) ?_;simp;refine⟨?_,?_⟩
  all_goals
   refine rdZ (i:=j2+1) (ds:=[]) a6A (a7V (j2+1) (by omega) hn) (λx j3 x3=>?_) (λn e hx=>?_)
   .have p3:=a7W (j2+1) x j3 hn x3;rw[tE hf x3]at hp;refine cT.mk ?_;simp;refine aE.mk cC (jZ 19 e2 x) ?_;simp;exact bJ.mk ⟨(dG 19 [e2,x],j3,g),by simp only;omega,p3.2,by simp only;omega,hp⟩ (by simp) (by simp;omega)
   .rw[rJ hf hx]at hp;simp
    first|exact Q1.bad _ _ _ hp.symm|exact λs=>Q1.bad _ _ s hp.symm
 |false=>
 refine vX s1 p2 ?_;have hf:([([38,38],19)].find? λp:Nm×Int=>aQ l j2 p.1)=none:=by simp[s1]
 have Q2:=hp.symm.trans (yL hf);simp;exact Q1.ok _ j2 _ _ Q2 (.inr rfl) (by simp)
theorem c2P:aA l 1 (b1S aX bI aG l ex):=aA.lvl hV.fin (aA.a7x hV.fin kV hV.oB.pred)
theorem c9O(i:Nat)(oE:low<=i+1)(hi:i<l.length):pW G 73 [] l i (b5g aX bI aG l ex i) sO:=by
 refine kZ.cP func73 rfl ntmps73 rfl (by simp) ?_;intro Q Q0;unfold b5g wV at Q0;have aor:=c2P hV hN hex h3 h7 kV;have hl:=hV.len;obtain⟨j0,rfl⟩:∃j0,j0=i:=⟨_,rfl⟩;have p0:j0<=j0/\j0<l.length:=⟨f3d _,hi⟩;generalize gO:b1S aX bI aG l ex=one at *;have a7V:∀i,low<=i+1->i<l.length->pW G 122 [] l i (one i) sO:=by rw[<-gO];exact c6w hV hN hex h3 h7 kV
 have a7W:aA l 1 one:=by
  first
   |assumption
   |(rw[<-gO]
     exact(λ_ _ _=>aor) hV.fin kV hV.oB.pred)
 simp;refine qI Q0 p0 b2X ((a7V j0 (by omega) p0.2)) (a7W) λe j1 x1 Q1 p1=>?_;simp;refine SW.vB (ι:={x:eM×Nat×Nat//j1<=x.2.1/\x.2.1<l.length/\l.length<x.2.2+x.2.1/\dY l [([124,124],20)] one x.2.2 x.1 x.2.1=dY l [([124,124],20)] one (l.length+2) e j1}) (λ_=>[]) (λx=>[(2,.cells [.d (.int .i64 0),.d (.str []),.d (.int .i64 0),.d .aJ,.d .aJ,.d .aJ,.d .aJ]),(3,.cells ((xS x.1.1).map .d)),(100000,rdO l x.1.2.1)]) (λ_=>[]) (λx=>l.length-x.1.2.1) ⟨(e,j1,l.length+2),f3d _,p1.2,by simp only;omega,rfl⟩ (by simp) ?_;rintro⟨⟨e2,j2,g⟩,hb,tI,hg,hp⟩;simp only at hb tI hg hp;obtain⟨g,rfl⟩:∃k,g=k+1:=⟨g-1,by omega⟩;have p2:j1<=j2/\j2<l.length:=⟨hb,tI⟩;simp;cases s1:aQ l j2 [124,124]with
 |true=>
  have hf:([([124,124],20)].find? λp:Nm×Int=>aQ l j2 p.1)=some ([124,124],20):=by simp[s1]
  have hn:=aF hV.fin tI s1;refine mA (ds:=[.str [124,124]]) (d:=.d (.bool true)) gH (qA l j2 [124,124] p2.2 (by omega) s1) ?_;simp;refine mK 2 [1] (.op 0 (.call [3,4,5] .none) (.call [0,3,4,5] .none)) (gL (one (j2+1))) (by kernel_rfl) (by kernel_rfl) ?_;simp;refine⟨?_,?_⟩
  all_goals
   refine rdZ (i:=j2+1) (ds:=[]) b2X (a7V (j2+1) (by omega) hn) (λx j3 x3=>?_) (λn e hx=>?_)
   .have p3:=a7W (j2+1) x j3 hn x3;rw[tE hf x3]at hp;refine cT.mk ?_;simp;refine aE.mk cC (jZ 20 e2 x) ?_;simp;exact bJ.mk ⟨(dG 20 [e2,x],j3,g),by simp only;omega,p3.2,by simp only;omega,hp⟩ (by simp) (by simp;omega)
   .rw[rJ hf hx]at hp;simp
    first|exact Q1.bad _ _ _ hp.symm|exact λs=>Q1.bad _ _ s hp.symm
 |false=>
 refine vX s1 p2 ?_;have hf:([([124,124],20)].find? λp:Nm×Int=>aQ l j2 p.1)=none:=by simp[s1]
 have Q2:=hp.symm.trans (yL hf);simp;exact Q1.ok _ j2 _ _ Q2 (.inr rfl) (by simp)
end
end
end
end Go.Proofs.YtjpodcmhcenjjaaGreatDoor
section
namespace Go.VM
open Go Go.RowKit
section
variable {P:Program} {G:GT} {st:St}
theorem pQ{all:Array Oper}{QQ:Exit->Act->World->Prop}{a a':Act}{w w':World}{o:Oper}{rest:List Oper}(hg:o.guard=none){v:Value}(cD:(execOp a.eval o).run P w=.ok (.value v) w'\/((execOp a.eval o).run P w=.ok .skip w'/\v=Go.undef))(ha:a.put o.dst v=a')(h:wpList P all QQ rest a' w'):wpList P all QQ (o::rest) a w:=by
 have hw:∀y,Region.wanted o y=true:=λy=>by unfold Region.wanted;rw[hg]
 unfold wpList;rw[if_pos (hw _)];left;unfold Oper.wp;rcases cD with h1|⟨h1,rfl⟩
 .rw[h1]
  show wpList P all QQ rest (a.put o.dst v) w'
  rw[ha];exact h
 .rw[h1]
  show wpList P all QQ rest (a.put o.dst Go.undef) w'
  rw[ha];exact h
def e4j(P:Program)(G:GT)(t:TypeId)(x d s:Tmp)(j:Nat)(parts:Array (Nat×Operand))(Q:St->Prop)(st:St):Prop:=
 ∃(c9P a7X c6x:Out) (k off:Nat),(s<st.tmps.length/\x<st.tmps.length/\d<st.tmps.length)/\a5Q P G t parts st=some c9P/\a8s P (some d) t (finish c9P.st (some x) c9P.v c9P.act)=some a7X/\qE P G t (.tmp d) (.tmp x) (finish a7X.st (some d) a7X.v a7X.act)=some c6x/\(finish a7X.st (some d) a7X.v a7X.act).eval G (.tmp d)=.ptr k off/\c6x.st.eval G (.tmp d)=.ptr k off/\(∃cs,getKey k (finish a7X.st (some d) a7X.v a7X.act).H=some (.cells cs))/\
  (∀(o:Oper),o.op=.build t parts->∀base R μ a w,Rel P G base R μ st a w->∃cs:Array Value,(execOp a.eval o).run P w=.ok (.value (.agg cs)) w/\cs[j]? =some (a.eval (.tmp s))/\cs.size=P.cellsOf t)/\(getKey k c6x.st.H).isSome=true/\Q {c6x.st with own:=addAlias (.t s) (.c k (off+j)) c6x.st.own}
theorem LW.e0B{all:Array Oper}{t:TypeId}{x d s:Tmp}{j:Nat}{parts:Array (Nat×Operand)}{y0 y1 y2:TypeId}{p0 p1 p2:String}{f0 f1 f2:Array Edge}{Q:Exit->St->Prop}(dX:x≠s/\x≠d/\d≠s)(hct:P.cellsOf t≠0)(h:e4j P G t x d s j parts (λs'=>Q .normal s') st):
  LW P G all [⟨some x,.build t parts,y0,p0,f0,none⟩,⟨some d,.alloc t,y1,p1,f1,none⟩,⟨none,.store t (.tmp d) (.tmp x),y2,p2,f2,none⟩] st Q:=by
 unfold LW;intro base R μ a w hr QQ hk;obtain⟨c9P,a7X,c6x,k,off,k0,k1,kA,k2,k3,k4,⟨cs0,k5⟩,e7K,k6,k7⟩:=h;obtain⟨cs,e0,e1,e2⟩:=e7K ⟨some x,.build t parts,y0,p0,f0,none⟩ rfl base R μ a w hr;obtain⟨v,w0,R0,μ0,cD,hr1,hv1,ha1,hs1⟩:=b4J (o:=⟨some x,.build t parts,y0,p0,f0,none⟩) rfl k1 base R μ a w hr;rw[e0]at cD;have hv:v=.agg cs/\w0=w:=by
  rcases cD with cD|⟨cD,_⟩
  .cases cD;exact⟨rfl,rfl⟩
  .cases cD
 obtain⟨rfl,rfl⟩:=hv;have hr2:=hr1.put (dst:=some x) hv1 ha1;generalize ha:a.put (some x) (.agg cs)=a0 at hr2;have hsa:s<a.tmps.size:=by rw[hr.size];exact k0.1
 have hxa:x<a.tmps.size:=by rw[hr.size];exact k0.2.1
 have hda:d<a.tmps.size:=by rw[hr.size];exact k0.2.2
 have e7L:a0.eval (.tmp x)=.agg cs:=by rw[<-ha];exact dB _ _ hxa
 have es0:a0.eval (.tmp s)=a.eval (.tmp s):=by rw[<-ha];exact bQ _ _ (Ne.symm dX.1)
 obtain⟨vA,w1,R1,μ1,e4k,hrA,hvA,haA,hsA⟩:=b4L (o:=⟨some d,.alloc t,y1,p1,f1,none⟩) rfl kA base R0 μ0 a0 w0 hr2;have hr2:=hrA.put (dst:=some d) hvA haA;generalize hb:a0.put (some d) vA=a1 at hr2;have e7M:s<a1.tmps.size:=by rw[<-hb,size_put, <- ha,size_put];exact hsa
 have es:a1.eval (.tmp s)=a.eval (.tmp s):=by rw[<-hb,bQ _ _ (Ne.symm dX.2.2)];exact es0
 have hxv:a1.eval (.tmp x)=.agg cs:=by rw[<-hb,bQ _ _ dX.2.1];exact e7L
 obtain⟨v2,w2,R2,μ2,a5C,hr3,_,_,hs2⟩:=a4C (o:=⟨none,.store t (.tmp d) (.tmp x),y2,p2,f2,none⟩) rfl k2 base R1 μ1 a1 w1 hr2;obtain⟨_,_,cur,T0,hh,hcz,_⟩:=hr2.gM k _ k5;have had:=hr2.dA k3;have hcc:(Value.agg cs).cells=cs:=rfl;have k2':=k2;unfold qE at k2;rw[k3]at k2;split at k2;rotate_left
 .cases k2
 rename_i k' a3t ys hk' hys;cases hk';rw[k5]at k2;simp only at k2;split at k2;rotate_left
 .cases k2
 rename_i hcd;have hvx:sT ((finish a7X.st (some d) a7X.v a7X.act).eval G (.tmp x))=some ys:=hys;obtain⟨pF,hvc⟩:=a1v (hr2.eval (.tmp x)) hvx;rw[hxv,hcc]at pF hvc;have gO:∀u∈cs.toList,u.oneCell'=true:=λu hu=>by
  obtain⟨i,hi⟩:=f3e hu;have tT:i<ys.length:=by rw[<-pF];simpa using (f2O.1 hi).1
  obtain⟨_,_,h2⟩:=hvc i ys[i] (by simp[tT]);have:cs.getD i undef=u:=by
   have:cs[i]? =some u:=by simpa using hi
   simp[f2P,this]
  rw[this]at h2;exact h2
 have jB:off+cs.size<=cur.size:=by rw[hcz,pF];omega
 have mM:=rV (P:=P) (a:=a1) (w:=w1) (o:=⟨none,.store t (.tmp d) (.tmp x),y2,p2,f2,none⟩) rfl had hh (by rw[hxv,hcc];exact e2) hct (by rw[hxv,hcc];exact gO) (by rw[hxv,hcc];exact jB);rw[hxv,hcc]at mM;have hw2:w2=w1.setRow (μ1 k) (spl cur off cs.toList):=by
  rw[mM]at a5C;rcases a5C with a5C|⟨a5C,_⟩
  .cases a5C
  .cases a5C;rfl
 have hμ:μ2 k=μ1 k:=by have h1:=hr3.dA k4;rw[had]at h1;have h2:=(Addr.mk.inj (Option.some.inj (Value.pointer.inj h1))).1;exact h2.symm
 have mY:∀u,w2.cell? ⟨μ2 k,off+j,none⟩=some u->u=a1.eval (.tmp s):=λu hu=>by
  have xU:j<cs.size:=(f2W.1 e1).1;rw[hμ,hw2,cell_of_row _ _ _ _ T0 (0,0) (setRow_heap w1 (μ1 k) cur _ T0 _ hh),a7A (by simpa using jB),if_neg (by omega),if_pos (by simp;omega),Nat.add_sub_cancel_left]at hu;have:cs.toList[j]? =some (a.eval (.tmp s)):=by simpa using e1
  rw[this]at hu;cases hu;exact es.symm
 have hr4:=hr3.alias (t:=s) (k:=k) (off:=off+j) (Option.isSome_iff_exists.1 k6) e7M mY;refine pQ rfl (.inl e0) ha ?_;refine pQ rfl e4k hb ?_;refine pQ (w':=w2) rfl (.inr ⟨by rw[hw2];exact mM,rfl⟩) rfl ?_;unfold wpList;exact hk _ _ _ _ R2 μ2 k7 hr4 ((hs1.trans hsA).trans hs2)
end
end Go.VM
end
namespace Go.Proofs.YtjpodcmhcenjjaaGreatDoor
section
open Go Go.VM
variable {G:GT}
theorem c9Q{R:Nat->Nat->Prop}{w:World}{v:Value}{es:List (List D)}(h:V R w v (.sl es)):∃ao n c,v=.slice ao n c:=by
 cases h with
 |emp ao cap=>exact⟨_,_,_,rfl⟩
 |sl b o n cap size es f h1 h2 h3 h4 h5 h6 h7=>exact⟨_,_,_,rfl⟩
theorem c6y{a:Act}{w:World}{o:Oper}(ho:o.op=.build 30 #[(0,.const (.int .i64 25)),(1,.tmp 44),(3,.tmp 46)]){s:ByteArray}{a1:Option Addr}{n1 c1:Nat}(h2:a.eval (.tmp 44)=.string s)(h1:a.eval (.tmp 46)=.slice a1 n1 c1):
  (execOp a.eval o).run prog w=.ok (.value (.agg #[.int .i64 25,.string s,.int .i64 0,.slice a1 n1 c1,.slice none 0 0,.slice none 0 0,.slice none 0 0])) w:=by
 have hz:(prog.info? 30).bind (·.zero)=some (.agg #[.int .i64 0,.string ⟨#[]⟩,.int .i64 0,.slice none 0 0,.slice none 0 0,.slice none 0 0,.slice none 0 0]):=by kernel_rfl
 obtain⟨i,hi,hz⟩:=f3b.1 hz;simp[execOp,ho,Instr.build,zeroValue,typeInfo,hi,hz];rw[h1,h2]
 rfl
section
variable {α:Type} {Q:Exit->St->Prop} {l:List Tok} {i:Nat} {enc:α->DV} {e:TypeId} {r:kX α}
theorem e7N{f:FuncId}{ds:List D}{av:List DV}{st:St}{ls:List (Option VM.Loc)}{dst:Option Tmp}{KK:St->Prop}(he:VM.Enters prog f)(hc:RdO G f ds l i e r enc)(rK:∀a j,r=.ok a j->KK (bE K1 dst st st.own (enc a) (rH l j) [(e,[.t 0])]))(a1D:∀n e,r=.bad n e->Q (.panic (yI (oA n e))) (a0F st))(hk:∀a,aP K1 (enc a)=true/\bD K1 (enc a)=enc a:=by intro a;exact⟨rfl,rfl⟩)(hw:WkT av (.ptr 100000 0::ds.map .d):=by simp)(hH:getKey 100000 st.H=some (rdO l i):=by simp):uN prog G f av ls dst st KK Q (gL r):=by
 rw[<-c0a (l:=l) (enc:=enc) (Y:=λ_=>[]) (own:=[(e,[.t 0])]) r];refine uN.mk he hc K1 (λd H1 dZ hx=>?_) (λv hx=>?_) ?_ ?_ rfl rfl (λd H1 dZ hx=>?_) (λv hx=>?_)
 .cases r with
  |bad n e=>cases hx
  |ok a j=>cases hx;simp[aK,aP,aM,aL,eW,bA,getKey,(hk a).1]
 .simp[aK,aP,aM,aL,eW,bA,getKey]
 .simpa[aO,bD,rk,kD]using hw
 .simp only[cI,rdO,List.append_nil,List.map_cons,List.map_nil,rk,if_true,cQ,aO,bD,WkH,and_true];exact⟨_,hH,by simp[WkO]⟩
 .cases r with
  |bad n e=>cases hx
  |ok a j=>cases hx;exact rK a j rfl
 .cases r with
  |bad n e=>cases hx;exact a1D n e rfl
  |ok a j=>cases hx
end
section
variable {aG:List Tok->Nat->Nat->kX Pr} {l:List Tok} (hV:kU G aG l) (hN:∀i, -9223372036854775807<=(aR l i).n/\(aR l i).n<=9223372036854775807)
include hV hN
section
variable {ex:Nat->bB eM} {low:Nat} (hex:∀i,low<=i->i<l.length->pW G 34 [] l i (ex 0 i) sO) (h3:∀i,low<=i->i<l.length->pW G 168 [] l i (ex 3 i) sO) (h7:∀i,low<=i->i<l.length->pW G 247 [] l i (ex 7 i) sO) (kV:∀k,aA l 1 (ex k))
include hex h3 h7 kV
omit hN hex h3 h7 in
theorem c6z(i:Nat)(ks:List eM)(j:Nat)(hi:i<l.length)(h:jJ l ex i=.ok ks j):ks.length<=j:=by unfold jJ at h;obtain⟨_,k1,h1,h⟩:=bG h;obtain⟨es,k2,h2,h⟩:=bG h;obtain⟨_,k3,h3,h⟩:=bG h;have a1:=aA.exp hV.fin _ _ i _ k1 hi h1;have a2:=rI hV (one:=c0m ex) (λa p=>a.length<=p) (λa p b q hp ha hab=>⟨b2G hV kV a p b q hp ha hab,(a8S hV kV a p b q hp hab).2⟩) (λa p h=>by omega) _ _ _ _ _ a1.2 (by simp) h2;have a3:=aA.exp hV.fin _ _ k2 _ k3 a2.2 h3;cases h;omega
theorem c2Q(i:Nat)(oE:low<=i+1)(hi:i<l.length):pW G 34 [] l i (a2O aX bI aG l ex i) sO:=by
 have hl:=hV.len;obtain⟨j0,rfl⟩:∃j0,j0=i:=⟨_,rfl⟩;have p0:j0<=j0/\j0<l.length:=⟨f3d _,hi⟩;refine kZ.a5w func34 rfl ntmps34 rfl (by simp) ?_;intro Q Q0;unfold a2O at Q0;refine SW.qH (SW.xk ?_);simp;refine SW.qH (SW.d9W ?_);refine SW.qH (SW.xk ?_);simp;cases s1:aQ l j0 [108,101,116]with
 |true=>have Q1:=Q0.ifp s1;refine yT s1 p0 hV.fin λp1=>?_;obtain⟨j1,sR⟩:∃j,j0+1=j:=⟨_,rfl⟩;rw[sR]at Q1 p1|-;simp;refine SW.a5D rfl ?_;refine SW.xk ?_;simp;refine rdR Q1 c2I (c6m hV hex kV j1 (by omega) p1.2) λt j h=>?_;simp;exact Q1.ok t j _ _ h (.inr rfl) (by simp)
 |false=>
 have Q0:=Q0.ifn (by rw[s1];decide);refine vX s1 p0 ?_;simp;refine SW.a9U rfl ?_;refine SW.qH (SW.xk ?_);simp;cases s2:aQ l j0 [105,102]with
 |true=>
  have Q1:=Q0.ifp s2;refine yT s2 p0 hV.fin λp1=>?_;obtain⟨j1,sR⟩:∃j,j0+1=j:=⟨_,rfl⟩;rw[sR]at Q1 p1|-;simp;refine SW.a5D rfl ?_;refine SW.xk ?_;simp;refine qI Q1 p1 bX ((hex j1 (by omega) p1.2)) (kV 0) λa j2 x2 Q2 p2=>?_;simp;refine dD Q2 p2 hV.fin λu3 j3 x3 Q3 p3=>?_;simp;refine qI Q3 p3 bX ((hex j3 (by omega) p3.2)) (kV 0) λb j4 x4 Q4 p4=>?_;simp;refine dD Q4 p4 hV.fin λu5 j5 x5 Q5 p5=>?_;simp;refine mK 3 [2] (.op 0 (.op 1 (.call [4,5,6] .none) (.call [1,4,5,6] .none)) (.op 1 (.op 0 (.call [4,5,6] .none) (.call [0,4,5,6] .none)) (.call [0,1,4,5,6] .none))) (gL (ex 0 j5)) (by kernel_rfl) (by kernel_rfl) ?_;simp
  repeat' apply And.intro
  all_goals
   refine oF Q5 p5 bX ((hex j5 (by omega) p5.2)) (kV 0) λc j6 x6 Q6 p6=>cT.mk ?_;simp;refine aE.mk cC (c6k 8 a b c) ?_;simp;exact Q6.ok _ j6 _ _ rfl (.inr rfl) (by simp)
 |false=>
 have Q0:=Q0.ifn (by rw[s2];decide);refine vX s2 p0 ?_;simp;refine SW.a9U rfl ?_;refine SW.qH (SW.xk ?_);simp;cases s3:aQ l j0 [99,97,115,101]with
 |true=>have Q1:=Q0.ifp s3;refine yT s3 p0 hV.fin λp1=>?_;obtain⟨j1,sR⟩:∃j,j0+1=j:=⟨_,rfl⟩;rw[sR]at Q1 p1|-;simp;refine SW.a5D rfl ?_;refine SW.xk ?_;simp;refine rdR Q1 b7s (c0s hV hex kV j1 (by omega) p1.2) λt j h=>?_;simp;exact Q1.ok t j _ _ h (.inr rfl) (by simp)
 |false=>
 have Q0:=Q0.ifn (by rw[s3];decide);refine vX s3 p0 ?_;simp;refine SW.a9U rfl ?_;refine SW.qH (SW.xk ?_);simp;cases s4:aQ l j0 [102,117,110]with
 |true=>have Q1:=Q0.ifp s4;refine yT s4 p0 hV.fin λp1=>?_;obtain⟨j1,sR⟩:∃j,j0+1=j:=⟨_,rfl⟩;rw[sR]at Q1 p1|-;simp;refine SW.a5D rfl ?_;refine SW.xk ?_;simp;refine rdR Q1 b4r (b7u hV hex kV j1 (by omega) p1.2) λt j h=>?_;simp;exact Q1.ok t j _ _ h (.inr rfl) (by simp)
 |false=>
 have Q0:=Q0.ifn (by rw[s4];decide);refine vX s4 p0 ?_;simp;refine SW.a9U rfl ?_;refine SW.qH (SW.xk ?_);simp;cases s5:aQ l j0 [117,115,101]with
 |true=>
  have Q1:=Q0.ifp s5;refine yT s5 p0 hV.fin λp1=>?_;obtain⟨j1,sR⟩:∃j,j0+1=j:=⟨_,rfl⟩;rw[sR]at Q1 p1|-;simp;refine SW.a5D rfl ?_;refine SW.qH (SW.lw ?_);refine LW.at 1 1 (gL (bS aX l j1)) rfl ⟨_,rfl⟩ ?_;simp;refine rdZ (ds:=[]) cL (cZ hV.kw l j1 p1.2 (by omega)) (λnm j2 x2=>?_) (λn e hx=>Q1.fail hx _);have Q2:=Q1.step x2;have p2:=aA.word hV.fin j1 nm j2 p1.2 x2;simp;refine LW.at 1 3 (gL (jJ l ex j2)) rfl ⟨_,rfl⟩ ?_;simp;refine e7N a0N (b2H hV hex kV j2 (by omega) p2.2) (λks j3 x3=>?_) (λn e hx=>Q2.fail hx _);have Q3:=Q2.step x3;have p3:=aA.jX hV.fin kV j2 ks j3 p2.2 x3;have hks:=c6z hV kV j2 ks j3 p2.2 x3;simp[bE,aO,bD,rk,cI,cQ,bO,gP,eS,dQ];refine LW.e0B (s:=46) (j:=3) (by decide) (by decide+kernel) ?_;refine⟨_,_,_,_,_,by simp,rfl,rfl,rfl,rfl,rfl,⟨_,rfl⟩,?_,rfl,?_⟩
  .intro o ho base R μ a w hr;obtain⟨ao,n1,c1,hs1⟩:=c9Q (hr.jI (x:=.tmp 46) rfl);have hs2:=(hr.jI (x:=.tmp 44) rfl).mT;exact⟨_,c6y ho hs2 hs1,by rw[hs1];rfl,by kernel_rfl⟩
  refine SW.xk ?_;simp[addAlias];refine dD Q3 p3 hV.fin λu4 j4 x4 Q4 p4=>?_;simp;refine kN [0,2] 3 [] (.op 1 (.call [4,5,6,7] .none) (.call [1,4,5,6,7] .none)) (gL (ex 0 j4)) (by kernel_rfl) (by kernel_rfl) ?_;simp;refine⟨?_,?_⟩
  all_goals
   refine oF Q4 p4 bX ((hex j4 (by omega) p4.2)) (kV 0) λb j5 x5 Q5 p5=>cT.mk ?_;simp;refine eE ⟨λx _=>by rw[dL];rfl,by omega⟩ ?_;simp;exact Q5.ok _ j5 _ _ rfl (.inr rfl) (by simp[dL])
 |false=>
 have Q0:=Q0.ifn (by rw[s5];decide);refine vX s5 p0 ?_;simp;refine SW.a9U rfl ?_;refine SW.xk ?_;simp;refine SW.xk ?_;simp;refine rdR Q0 c6v (c9O hV hN hex h3 h7 kV j0 (by omega) p0.2) λt j h=>?_;simp;exact Q0.ok t j _ _ h (.inr rfl) (by simp)
end
theorem b5G:∀n,(∀i,i<l.length->l.length<n+i->pW G 34 [] l i (sC aX bI aG l n 0 i) sO)/\(∀i,i<l.length->l.length<n+i->pW G 168 [] l i (sC aX bI aG l n 3 i) sO)/\(∀i,i<l.length->l.length<n+i->pW G 247 [] l i (sC aX bI aG l n 7 i) sO)
 |0=>⟨λi hi h=>by omega,λi hi h=>by omega,λi hi h=>by omega⟩
 |n+1=>by
  obtain⟨k0,k3,k7⟩:=b5G n;have kV:=aA.exF (kw:=aX) (andP:=bI) hV.fin hV.oB.pred n;refine⟨λi hi h=>?_,λi hi h=>?_,λi hi h=>?_⟩
  .exact c2Q hV hN (ex:=sC aX bI aG l n) (low:=i+1) (λi' h1 h2=>k0 i' h2 (by omega)) (λi' h1 h2=>k3 i' h2 (by omega)) (λi' h1 h2=>k7 i' h2 (by omega)) kV i (f3d _) hi
  .exact b5F hV hN (ex:=sC aX bI aG l n) (low:=i+1) (λi' h1 h2=>k0 i' h2 (by omega)) (λi' h1 h2=>k3 i' h2 (by omega)) (λi' h1 h2=>k7 i' h2 (by omega)) kV i (f3d _) hi
  .exact b0h hV hN (ex:=sC aX bI aG l n) (low:=i+1) (λi' h1 h2=>k0 i' h2 (by omega)) (λi' h1 h2=>k7 i' h2 (by omega)) kV i (f3d _) hi
theorem a0Q(i:Nat)(hi:i<l.length):pW G 34 [] l i (zP aX bI aG l i) sO:=(b5G hV hN _).1 i hi (by omega)
omit hN in
theorem a6E:aA l 1 (zP aX bI aG l):=aA.expr hV.fin hV.oB.pred
end
end
section
open Go Go.VM
variable {G:GT}
theorem a4p:VM.Enters prog 107:=.mk func107 rfl
theorem a2w:VM.Enters prog 58:=.mk func58 rfl
abbrev a7Y(d:eX):List D:=.str d.name::.sl (strs d.params)::(xS d.body++ .int .i64 d.mode::.bool d.typed::b2L d.sig)
theorem a4V(d:eX):a1c d=a7Y d:=by
 rw[a1c,dL,d4Z]
 rfl
abbrev b0A:eX:=⟨[],[],zO,0,false,uV⟩
abbrev e7O:Option eX->DV:=λo=>.cJ [.agg (a7Y (o.getD b0A)),.bool o.isSome]
section
variable {aG:List Tok->Nat->Nat->kX Pr} {l:List Tok} (hV:kU G aG l) (hN:∀i, -9223372036854775807<=(aR l i).n/\(aR l i).n<=9223372036854775807)
include hV
theorem a6F(mode:Int)(i:Nat)(hi:i<l.length):pW G 107 [.int .i64 mode] l i (uI aX l mode i) (λd=>.d (.agg (a7Y d))):=by
 have hl:=hV.len;obtain⟨j0,rfl⟩:∃j0,j0=i:=⟨_,rfl⟩;have p0:j0<=j0/\j0<l.length:=⟨f3d _,hi⟩;refine kZ.cP func107 rfl ntmps107 rfl (by simp) ?_;intro Q Q0;unfold uI at Q0;simp;refine qI Q0 p0 cL (cZ hV.kw l j0 p0.2 (by omega)) (aA.word hV.fin) λnm j1 x1 Q1 p1=>?_;simp;have hb:=jD (G:=G) l j1 [40] p1.2 (by omega);refine mA (ds:=[.str [40]]) eO hb ?_;cases hs:aQ l j1 [40]with
 |false=>have Q2:=Q1.step (a:=[]) (j:=j1) (by simp[hs]);simp;exact Q2.ok _ j1 _ _ rfl (.inr rfl) (by simp[zO,uV,sF,mL])
 |true=>
  simp;have ht1:=cF (G:=G) l j1 (j1+1) 1 (by omega) (by omega) (by intro e;subst e;simp at hi) (by omega);refine mA (ds:=[.int .i64 1]) bP ht1 ?_;simp;refine jC.mk kE (mI (aR l (j1+1)) [41]) ?_;cases hf:gF (aR l (j1+1)) [41]with
  |true=>
   have Q2:=Q1.step (a:=[]) (j:=j1+2) (by simp[hs,hf]);have hw2:IntKind.i64.wrap ((j1:Int)+2)=((j1+2:Nat):Int):=by rw[wrap64 (by omega)];omega
   simp[hw2];exact Q2.ok _ (j1+2) _ _ rfl (.inr rfl) (by simp[zO,uV,sF,mL])
  |false=>
   have e1:(λi=>if aQ l i [40] then(if gF (aR l (i+1)) [41] then .ok [] (i+2) else dH aX l i) else .ok [] i:bB (List Nm)) j1=dH aX l j1:=by simp[hs,hf]
   simp;refine rdX a2q (a4f hV j1 p1.2) (λns j3 x3=>?_) (λn e hx=>by first|exact Q1.fail (e1.trans hx) _|(simp;exact Q1.fail (e1.trans hx) _)|(simp;exact λs=>Q1.fail (e1.trans hx) s));have Q3:=Q1.step (e1.trans x3);have p3:=aA.words hV.fin j1 ns j3 p1.2 x3;simp;exact Q3.ok _ j3 _ _ rfl (.inr rfl) (by simp[zO,uV,sF,mL])
theorem a8U:aA l 1 (wW aX bI aG l):=aA.sig hV.fin hV.oB
include hN
theorem a4W(i:Nat)(hi:i<l.length):pW G 58 [] l i (tJ aX bI aG l i) e7O:=by
 have hl:=hV.len;obtain⟨j0,rfl⟩:∃j0,j0=i:=⟨_,rfl⟩;have p0:j0<=j0/\j0<l.length:=⟨f3d _,hi⟩;refine kZ.cP func58 rfl ntmps58 rfl (by simp) ?_;intro Q Q0;unfold tJ at Q0;simp;cases s1:aQ l j0 [100,101,102]with
 |true=>
  have Q1:=Q0.ifp s1;refine yT s1 p0 hV.fin λp1=>?_;obtain⟨j1,sR⟩:∃j,j0+1=j:=⟨_,rfl⟩;rw[sR]at Q1 p1|-;simp;refine qI Q1 p1 a4p ((a6F hV 0 j1 p1.2)) ((aA.head hV.fin 0)) λd j2 x2 Q2 p2=>?_;simp;cases s2:aQ l j2 [58]with
  |false=>have Q3:=Q2.step (jF s2);rw[if_neg (by decide)]at Q3;refine vX s2 p2 ?_;simp;have Q2:=Q3.step (gR _ _);unfold uJ at Q2;refine dD Q2 p2 hV.fin λu8 j8 x8 Q8 p8=>?_;simp;refine qI Q8 p8 bX ((a0Q hV hN j8 p8.2)) (a6E hV) λe j9 x9 Q9 p9=>?_;simp;exact Q9.ok _ j9 _ _ rfl (.inr rfl) (by simp)
  |true=>have Q3:=Q2.step (jE s2);rw[if_pos rfl]at Q3;refine yT s2 p2 hV.fin λp3=>?_;obtain⟨j3,hj3⟩:∃j,j2+1=j:=⟨_,rfl⟩;rw[hj3]at Q3 p3|-;simp;have Q3:=Q3.assoc;refine qI Q3 p3 a6C ((a8T hV j3 p3.2)) (a8U hV) λs j4 x4 Q4 p4=>?_;simp;have Q4:=Q4.step (gR _ _);unfold uJ at Q4;refine dD Q4 p4 hV.fin λu8 j8 x8 Q8 p8=>?_;simp;refine qI Q8 p8 bX ((a0Q hV hN j8 p8.2)) (a6E hV) λe j9 x9 Q9 p9=>?_;simp;exact Q9.ok _ j9 _ _ rfl (.inr rfl) (by simp)
 |false=>
 have Q0:=Q0.ifn (by rw[s1];decide);refine vX s1 p0 ?_;simp;cases s2:aQ l j0 [97,115,115,117,109,101]with
 |true=>have Q1:=Q0.ifp s2;refine yT s2 p0 hV.fin λp1=>?_;obtain⟨j1,sR⟩:∃j,j0+1=j:=⟨_,rfl⟩;rw[sR]at Q1 p1|-;simp;refine qI Q1 p1 a4p ((a6F hV 1 j1 p1.2)) ((aA.head hV.fin 1)) λd j2 x2 Q2 p2=>?_;simp;refine dD Q2 p2 hV.fin λu3 j3 x3 Q3 p3=>?_;simp;refine qI Q3 p3 a6C ((a8T hV j3 p3.2)) (a8U hV) λs j4 x4 Q4 p4=>?_;simp;exact Q4.ok _ j4 _ _ rfl (.inr rfl) (by simp)
 |false=>
 have Q0:=Q0.ifn (by rw[s2];decide);refine vX s2 p0 ?_;simp;cases s3:aQ l j0 [114,101,102,108,101,99,116]with
 |true=>have Q1:=Q0.ifp s3;refine yT s3 p0 hV.fin λp1=>?_;obtain⟨j1,sR⟩:∃j,j0+1=j:=⟨_,rfl⟩;rw[sR]at Q1 p1|-;simp;refine qI Q1 p1 a4p ((a6F hV 2 j1 p1.2)) ((aA.head hV.fin 2)) λd j2 x2 Q2 p2=>?_;simp;refine dD Q2 p2 hV.fin λu3 j3 x3 Q3 p3=>?_;simp;refine qI Q3 p3 a6C ((a8T hV j3 p3.2)) (a8U hV) λs j4 x4 Q4 p4=>?_;simp;unfold uJ at Q4;refine dD Q4 p4 hV.fin λu8 j8 x8 Q8 p8=>?_;simp;refine qI Q8 p8 bX ((a0Q hV hN j8 p8.2)) (a6E hV) λe j9 x9 Q9 p9=>?_;simp;exact Q9.ok _ j9 _ _ rfl (.inr rfl) (by simp)
 |false=>
 have Q0:=Q0.ifn (by rw[s3];decide);refine vX s3 p0 ?_;simp;exact Q0.ok _ j0 _ _ rfl (.inr rfl) (by simp[zO,uV,sF,mL])
end
end
end Go.Proofs.YtjpodcmhcenjjaaGreatDoor
section
namespace Go.VM
open Go Go.RowKit
section
variable {P:Program} {G:GT} {st:St} {base:cN} {R:Nat->Nat->Prop} {μ:Nat->Nat} {a:Act} {w:World}
def a7Z(P:Program)(G:GT)(f:FuncId)(f2L:List DV)(ls:List (Option Loc))(dst:Option Tmp)(st:St)(K:St->Prop)(Q:Exit->St->Prop):Prop:=∃x0,uN P G f f2L ls dst st K Q x0
theorem a7Z.mk{f:FuncId}{f2L:List DV}{ls:List (Option Loc)}{dst:Option Tmp}{K:St->Prop}{Q:Exit->St->Prop}{x0:Bool}(h:uN P G f f2L ls dst st K Q x0):a7Z P G f f2L ls dst st K Q:=⟨x0,h⟩
def a4q(P:Program)(G:GT)(all:Array Oper)(o:Oper)(st:St)(K:St->Prop)(Q:Exit->St->Prop):Prop:=
 match dJ o all st.tmps with
 |some true=>
  match gJ G o st with
  |some (f,ds)=>(∃r own,(Enters P f/\CS P G f ds r own)/\K (finish st o.dst r (a3z own)))\/∃s',(Enters P f/\mP P G f (ds.map .d) (jL o) st o.dst s')/\K s'
  |none=>
   match cR G o st with
   |some (f,f2L)=>a7Z P G f f2L (jL o) o.dst st K Q
   |none=>
    match jT P G o st with
    |some out=>K (finish out.st o.dst out.v (a7d false all o out.v out.act))
    |none=>False
 |some false=>K (finish st o.dst (.cJ []) .no)
 |none=>False
theorem c0v{all:Array Oper}{o:Oper}{K:St->Prop}{Q:Exit->St->Prop}(h:a4q P G all o st K Q)(hr:Rel P G base R μ st a w){KK:Act->World->Prop}{QQ:Exit->Act->World->Prop}(hk:∀s v w' R' μ',K s->Rel P G base R' μ' s (a.put o.dst v) w'->Step base R w R' w'->KK (a.put o.dst v) w')(hq:∀c s w' R' μ',Q (.panic c) s->Rel P G base R' μ' s a w'->Step base R w R' w'->QQ (.panic c) a w'):if Region.wanted o (yielded all a.tmps) then o.wp P a w KK QQ\/(o.asks P a w/\LetsOut QQ) else KK (a.put o.dst Go.undef) w:=by
 have go:mE P G false all o K st->if Region.wanted o (yielded all a.tmps) then o.wp P a w KK QQ\/(o.asks P a w/\LetsOut QQ) else KK (a.put o.dst Go.undef) w:=λh1=>qO h1 hr hk;unfold a4q at h;split at h
 .rename_i hw;split at h
  .rename_i f ds hc;refine go ?_;unfold mE;rw[hw,hc];rcases h with⟨r,own,h1,h2⟩|⟨s',h1,h2⟩
   .exact .inl ⟨r,own,h1,λe=>Bool.noConfusion e,by simpa using h2⟩
   .exact .inr ⟨by simp[qN],s',h1,h2⟩
  .rename_i hc;split at h
   .rename_i f f2L hH;obtain⟨x0,h0⟩:=h;unfold uN at h0;obtain⟨he,h1,h2⟩:=h0;cases x0 with
    |true=>obtain⟨s',h3,h4⟩:=h1 rfl;refine go ?_;unfold mE;rw[hw,hc,hH];simp only[qN,Bool.false_and,a0p,Bool.false_eq_true,if_false];exact⟨s',⟨he,h3⟩,h4⟩
    |false=>obtain⟨v,h3,h4⟩:=h2 rfl;rw[a1x hr hw,if_pos rfl];exact .inl (a6t hH ⟨he,h3⟩ hr λR' w' hs hb=>hq _ _ w' R' μ h4 (hr.a7F hs hb) hs)
   .rename_i hH;split at h
    .rename_i out hv;refine go ?_;unfold mE;rw[hw,hc,hH,hv];exact h
    .exact h.elim
 .rename_i hw;refine go ?_;unfold mE;rw[hw];exact h
 .exact h.elim
inductive OT where
 |stop
 |none
 |op (i:Nat) (next more:OT)
def a8a(j:Nat):OT->Bool
 | .op i _ more=>i==j||a8a j more
 |_=>false
def okT(ops:Array Oper)(T:OT)(listed:Array Bool):Bool:=match T with
 | .stop=>Region.ready .any ops listed==[]
 |T=> !(Region.ready .any ops listed).isEmpty&&(Region.ready .any ops listed).all λj=>a8a j T
def a0R(ops:Array Oper):OT->Nat->Array Bool->Bool
 | .stop,_,_=>true
 | .none,_,_=>true
 | .op _ _ _,0,_=>false
 | .op i next more,n+1,listed=>okT ops next (listed.setIfInBounds i true)&&a0R ops next n (listed.setIfInBounds i true)&&a0R ops more (n+1) listed
def VT(P:Program)(G:GT)(ops:Array Oper)(Q:Exit->St->Prop):OT->St->Prop
 | .stop,st=>Q .normal st
 | .none,_=>True
 | .op i next more,st=>(match ops[i]? with
  |some o=>a4q P G ops o st (VT P G ops Q next) Q
  |none=>False)/\VT P G ops Q more st
theorem c9R{ops:Array Oper}{Q:Exit->St->Prop}{i n:Nat}{listed:Array Bool}:∀(T:OT),a0R ops T (n+1) listed=true->a8a i T=true->VT P G ops Q T st->∃next,okT ops next (listed.setIfInBounds i true)=true/\a0R ops next n (listed.setIfInBounds i true)=true/\∃o,ops[i]? =some o/\a4q P G ops o st (VT P G ops Q next) Q
 | .stop,_,h,_=>by simp[a8a]at h
 | .none,_,h,_=>by simp[a8a]at h
 | .op j next more,ht,ha,hv=>by
  simp only[a0R,f2N]at ht;simp only[a8a,f2Z,beq_iff_eq]at ha;simp only[VT]at hv;rcases ha with rfl|ha
  .refine⟨next,ht.1.1,ht.1.2,?_⟩;have:=hv.1;split at this
   .rename_i o ho;exact⟨o,ho,this⟩
   .exact this.elim
  .exact c9R more ht.2 ha hv.2
theorem d7F{ops:Array Oper}{Q:Exit->St->Prop}:∀(n:Nat) (T:OT) (listed:Array Bool) (st:St),okT ops T listed=true->a0R ops T n listed=true->VT P G ops Q T st->∀(base:cN) (R:Nat->Nat->Prop) (μ:Nat->Nat) (a:Act) (w:World),Rel P G base R μ st a w->
  ∀QQ:Exit->Act->World->Prop,(∀e s a' w' R' μ',Q e s->Rel P G base R' μ' s a' w'->Step base R w R' w'->QQ e a' w')->wpAny P .any ops QQ n listed a w
 |0,T,listed,st,ho,ht,hv,base,R,μ,a,w,hr,QQ,hk=>by
  cases T with
  |stop=>exact⟨by simpa[okT]using ho,hk _ st a w R μ hv hr (.refl _ _ _)⟩
  |none=>simp only[okT,f2N,Bool.not_eq_true',List.isEmpty_eq_false_iff,f2Q]at ho;obtain⟨h1,h2⟩:=ho;obtain⟨x,hx⟩:=List.exists_mem_of_ne_nil _ h1;have:=h2 x hx;simp[a8a]at this
  |op i next more=>simp[a0R]at ht
 |n+1,T,listed,st,ho,ht,hv,base,R,μ,a,w,hr,QQ,hk=>by
  cases T with
  |stop=>
   have hrd:Region.ready .any ops listed=[]:=by simpa[okT]using ho
   refine⟨λ_=>hk _ st a w R μ hv hr (.refl _ _ _),λi hi=>?_⟩;rw[hrd]at hi;cases hi
  |none=>simp only[okT,f2N,Bool.not_eq_true',List.isEmpty_eq_false_iff,f2Q]at ho;obtain⟨h1,h2⟩:=ho;obtain⟨x,hx⟩:=List.exists_mem_of_ne_nil _ h1;have:=h2 x hx;simp[a8a]at this
  |op i0 e4l e4m=>simp only[okT,f2N,Bool.not_eq_true',List.isEmpty_eq_false_iff,f2Q]at ho;refine⟨λh=>(ho.1 h).elim,λi hi=>?_⟩;obtain⟨next,q1,q2,o,q3,q4⟩:=c9R _ ht (ho.2 i hi) hv;unfold wpOp;rw[q3];exact c0v q4 hr (λs v w' R' μ' p1 p2 p3=>d7F n next _ s q1 q2 p1 base R' μ' _ w' p2 QQ λe s a' w2 R2 μ2 k1 k2 k3=>hk e s a' w2 R2 μ2 k1 k2 (p3.trans k3)) λc s w' R' μ' p1 p2 p3=>hk _ s a w' R' μ' p1 p2 p3
theorem b5H{id:Nat}{ops:Array Oper}{Q:Exit->St->Prop}(T:OT)(hm:P.follows .mixedOrders=true)(hB:(okT ops T (Array.replicate ops.size false)&&a0R ops T ops.size (Array.replicate ops.size false))=true)(h:VT P G ops Q T st):SW P G (.region id ops true) st Q:=by rw[f2N]at hB;intro base R μ a w hr;obtain⟨eK,oY⟩:=hr.drew;exact wp_region_any hm (d7F ops.size T _ st hB.1 hB.2 h base R μ a w.drew eK _ λe s a' w' R' μ' q1 q2 q3=>⟨s,R',μ',q1,q2,oY.trans q3⟩)
attribute [simp] VT a4q
end
attribute [irreducible] a7Z
end Go.VM
end
namespace Go.Proofs.YtjpodcmhcenjjaaGreatDoor
section
open Go Go.VM
variable {G:GT}
theorem b7w:VM.Enters prog 80:=.mk func80 rfl
theorem b2Y:VM.Enters prog 135:=.mk func135 rfl
theorem b0B:VM.Enters prog 81:=.mk func81 rfl
abbrev c4m(x:a6n):List D:=.str x.cls::(tyD x.type++[.sl (x.oP.map gG),.sl (x.defs.map a1c)])
theorem c0x(x:a6n):a0C x=c4m x:=by
 rw[a0C,cM]
 rfl
section
variable {aG:List Tok->Nat->Nat->kX Pr} {l:List Tok} (hV:kU G aG l) (hN:∀i, -9223372036854775807<=(aR l i).n/\(aR l i).n<=9223372036854775807)
include hV
def clX(nm v:Nm)(out:List (Nm×Ty)):List (Nat×aW):=[(100001,.cells [.ptr 100000 0]),(100002,.cells [.d (.str nm),.d (.str v),.d (.sl (out.map a2j))])]
abbrev clO:List (TypeId×List VM.Loc):=[(148,[.c 100002 2])]
abbrev clM(aG:List Tok->Nat->Nat->kX Pr)(l:List Tok)(out:List (Nm×Ty)):bB (List (Nm×Ty)):=do
 let w <- bS aX l
 aV l [[58]]
 let t <- dW aX bI aG l
 pure (out++[(w,t)])
theorem d5f(nm v:Nm):zU l K3 [.ptr 100001 0,.ptr 100002 0] (clX nm v) clO:=by
 constructor
 all_goals intros
 all_goals first
  |rfl
  |simp[clX,aK,aP,aM,aL,bA,getKey,aO,bD,cI,rk,cQ,bO, *]
theorem c4n(out:List (Nm×Ty)):aA l 1 (clM aG l out):=(aA.word hV.fin).bl λ_=>((aA.exp hV.fin _ _).le (by omega)).bl λ_=>((gY hV).le (by omega)).bl λ_=>aA.aT _
theorem c9S(a:List (Nm×Ty))(i:Nat)(b:List (Nm×Ty))(j:Nat)(hi:i<l.length)(h:a.length<=i)(hx:clM aG l a i=.ok b j):b.length<=j:=by have h1:=c4n hV a i b j hi hx;obtain⟨_,_,_,hx⟩:=bG hx;obtain⟨_,_,_,hx⟩:=bG hx;obtain⟨_,_,_,hx⟩:=bG hx;cases hx;simp;omega
theorem c6A(nm v:Nm)(out:List (Nm×Ty))(i:Nat)(hi:i<l.length)(rN:out.length<=i):kZ G 135 [.ptr 100001 0,.ptr 100002 0] (clX nm v out) clO l i (clM aG l out i) (λ_=>.cJ []) (clX nm v):=by
 have hl:=hV.len;obtain⟨j0,rfl⟩:∃j0,j0=i:=⟨_,rfl⟩;have p0:j0<=j0/\j0<l.length:=⟨f3d _,hi⟩;refine kZ.cP func135 rfl ntmps135 rfl (by simp) ?_;intro Q Q0;simp[clX];refine qI Q0 p0 cL (cZ hV.kw l j0 p0.2 (by omega)) (aA.word hV.fin) λw j1 x1 Q1 p1=>?_;simp;refine dD Q1 p1 hV.fin λu2 j2 x2 Q2 p2=>?_;simp;refine kN [0,2] 4 [3] (.op 1 (.call [5,6,7,8,9] .none) (.call [1,5,6,7,8,9] .none)) (gL (dW aX bI aG l j2)) (by kernel_rfl) (by kernel_rfl) ?_;simp;refine⟨?_,?_⟩
 all_goals
  refine oF Q2 p2 cK ((mJ hV j2 p2.2)) (gY hV) λt j3 x3 Q3 p3=>cT.mk ?_;simp;refine eE ⟨rfl,f2Q.2 λc hc=>?_,?_⟩ ?_
  .obtain⟨y,_,rfl⟩:=List.mem_map.1 hc;rw[a0O]
   rfl
  .have hb:prog.bytesOf 148<=1000:=by decide
   rw[List.length_map]
   calc (out.length+1)*(prog.bytesOf 148+1)<=50001*1001:=Nat.mul_le_mul (by omega) (by omega)
    _<=140737488355328:=by decide
  simp;exact Q3.ok _ j3 .normal _ rfl (.inl rfl) (by simp[clX,a0O])
def clT:OT:=(.op 0 (.op 1 (.op 2 (.op 3 (.op 4 (.op 5 (.op 6 .stop .none) .none) (.op 5 (.op 4 (.op 6 .stop .none) .none) .none)) (.op 5 (.op 3 (.op 4 (.op 6 .stop .none) .none) .none) .none)) (.op 5 (.op 2 (.op 3 (.op 4 (.op 6 .stop .none) .none) .none) .none) .none)) (.op 2 (.op 1 (.op 3 (.op 4 (.op 5 (.op 6 .stop .none) .none) (.op 5 (.op 4 (.op 6 .stop .none) .none) .none)) (.op 5 (.op 3 (.op 4 (.op 6 .stop .none) .none) .none) .none)) (.op 5 (.op 1 (.op 3 (.op 4 (.op 6 .stop .none) .none) .none) .none) .none)) (.op 5 (.op 1 (.op 2 (.op 3 (.op 4 (.op 6 .stop .none) .none) .none) .none) (.op 2 (.op 1 (.op 3 (.op 4 (.op 6 .stop .none) .none) .none) .none) .none)) .none))) (.op 2 (.op 0 (.op 1 (.op 3 (.op 4 (.op 5 (.op 6 .stop .none) .none) (.op 5 (.op 4 (.op 6 .stop .none) .none) .none)) (.op 5 (.op 3 (.op 4 (.op 6 .stop .none) .none) .none) .none)) (.op 5 (.op 1 (.op 3 (.op 4 (.op 6 .stop .none) .none) .none) .none) .none)) (.op 5 (.op 0 (.op 1 (.op 3 (.op 4 (.op 6 .stop .none) .none) .none) .none) .none) .none)) (.op 5 (.op 0 (.op 1 (.op 2 (.op 3 (.op 4 (.op 6 .stop .none) .none) .none) .none) (.op 2 (.op 1 (.op 3 (.op 4 (.op 6 .stop .none) .none) .none) .none) .none)) (.op 2 (.op 0 (.op 1 (.op 3 (.op 4 (.op 6 .stop .none) .none) .none) .none) .none) .none)) .none)))
abbrev e4n(l:List Tok):bB (Nm×Nm):=do
 let nm <- gI l
 let v <- bS aX l
 pure (nm,v)
theorem c0y(i:Nat)(hi:i<l.length):pW G 80 [] l i (qR aX bI aG l i) (λx=>.d (.agg (xW x))):=by
 have hl:=hV.len;obtain⟨j0,rfl⟩:∃j0,j0=i:=⟨_,rfl⟩;have p0:j0<=j0/\j0<l.length:=⟨f3d _,hi⟩;refine kZ.a5w func80 rfl ntmps80 rfl (by simp) ?_;intro Q Q0;unfold qR at Q0;refine SW.qH (SW.xk ?_);simp;refine SW.c0q (e4n l j0) (λx j=>⟨.ptr 100000 0::.ptr 1 0::.ptr 2 0::.ptr 3 0::List.replicate 12 .undef,[(1,.cells [.ptr 100000 0]),(2,.cells [.d (.str []),.d (.str []),.d .aJ]),(3,.cells [.d (.str x.1),.d (.str x.2),.d .aJ]),(100000,rdO l j)],[]⟩) ?_ λx j2 hx=>?_
 .refine b5H clT (by kernel_rfl) (by kernel_rfl) ?_;simp[clT]
  repeat' apply And.intro
  all_goals
   refine a7Z.mk (rdZ (ds:=[]) gU (jQ l j0 p0.2 (by omega)) (λnm j1 x1=>?_) (λn e hx=>Q0.fail hx _));have Q1:=Q0.step x1;have p1:=aA.title hV.fin j0 nm j1 p0.2 x1;simp
   repeat' apply And.intro
   all_goals
    refine a7Z.mk (rdZ (ds:=[]) cL (cZ hV.kw l j1 p1.2 (by omega)) (λv j2 x2=>?_) (λn e hx=>Q1.fail hx _));have hr:e4n l j0=.ok (nm,v) j2:=(cU x1).trans ((cU x2).trans rfl);simp
    repeat' apply And.intro
    all_goals exact⟨nm,v,j2,hr,by simp⟩
 obtain⟨nm,v⟩:=x;obtain⟨nm',j1,x1,hx⟩:=bG hx;obtain⟨v',j2',x2,hx⟩:=bG hx;cases hx;have Q2:=(Q0.step x1).step x2;have p1:=aA.title hV.fin j0 nm j1 p0.2 x1;have p2:=aA.word (kw:=aX) hV.fin j1 v j2 p1.2 x2;refine SW.xk ?_;simp[List.replicate];refine dD Q2 p2 hV.fin λu3 j3 x3 Q3 p3=>?_;simp;have gO:=eI hV [44] (clM aG l) (λout i=>out.length<=i) 0 b2Y (d5f hV nm v) (λa=>(c4n hV a).le (by omega)) (λa i tQ hi h=>c6A hV nm v a i hi h) (c9S hV) (λa i h=>by omega) [] j3 (by omega) p3.2 (by simp);refine eF.mk (yJ dE gO [(100000,100000),(100001,1),(100002,3)] (λa j hx=>?_) ?_ ?_ ?_ rfl rfl (λms j4 x4=>?_) (λn e wE=>Q3.fail wE _))
 .simp[clX,aK,aP,aM,aL,bA,getKey]
 .simp[clX,aK,aP,aM,aL,bA,getKey]
 .simp[aO,bD,rk]
 .simp[clX,aO,bD,rk,cI,cQ]
 .have Q4:=Q3.step x4;simp[bE,clX,aO,bD,rk,cI,cQ,bO,gP,eS,dQ];exact Q4.ok _ j4 _ _ rfl (.inr rfl) (by simp[xW])
include hN
abbrev b4w(aG:List Tok->Nat->Nat->kX Pr)(l:List Tok)(out:List eX):bB (List eX):=do
 let d <- tJ aX bI aG l
 aV l [[59]]
 pure (out++[d.getD b0A])
omit hN in
theorem a4X:aA l 0 (tJ aX bI aG l):=aA.b3W hV.fin hV.oB
theorem b2Z(i:Nat)(hi:i<l.length):pW G 81 [] l i (vQ aX bI aG l i) (λx=>.d (.agg (c4m x))):=by
 have hl:=hV.len;obtain⟨j0,rfl⟩:∃j0,j0=i:=⟨_,rfl⟩;have p0:j0<=j0/\j0<l.length:=⟨f3d _,hi⟩;refine kZ.cP func81 rfl ntmps81 rfl (by simp) ?_;intro Q Q0;unfold vQ at Q0;simp;refine qI Q0 p0 gU (jQ l j0 p0.2 (by omega)) (aA.title hV.fin) λc j1 x1 Q1 p1=>?_;simp;refine qI Q1 p1 a7R ((b7l hV j1 p1.2)) ((aA.uL hV.fin ((gY hV).le (by omega)) hV.oB.pred)) λt j2 x2 Q2 p2=>?_;simp;cases hs:aQ l j2 [119,104,101,114,101]with
 |false=>
  have Q3:=Q2.step (jF hs);rw[if_neg (by decide)]at Q3;have Q2:=Q3.step (gR _ _);refine vX hs p2 ?_;simp;refine dD Q2 p2 hV.fin λu5 j5 x5 Q5 p5=>?_;simp;refine SW.vB (ι:={x:List eX×Nat×Nat//j5<=x.2.1/\x.2.1<l.length/\l.length<x.2.2+x.2.1/\x.1.length<=x.2.1/\cV (λi=>aQ l i [100,101,102]) (b4w aG l) x.2.2 x.1 x.2.1=mX l (λi=>aQ l i [100,101,102]) (b4w aG l) [] j5}) (λ_=>[]) (λx=>[(2,.cells (.d (.str [])::((tyD sF).map .d++[.d .aJ,.d .aJ]))),(3,.cells (.d (.str c)::((tyD t).map .d++[.d (.sl (List.map gG [])),.d (.sl (x.1.1.map a1c))]))),(100000,rdO l x.1.2.1)]) (λ_=>[(70,[.c 3 11])]) (λx=>l.length-x.1.2.1) ⟨([],j5,l.length+2),f3d _,p5.2,by simp only;omega,by simp,rfl⟩ (by simp[sF,mL]) ?_;rintro⟨⟨out,j6,g⟩,hb,hj6,hg,ho,hp⟩;simp only at hb hj6 hg ho hp;obtain⟨g,rfl⟩:∃k,g=k+1:=⟨g-1,by omega⟩;have p6:j5<=j6/\j6<l.length:=⟨hb,hj6⟩;have hbb:=jD (G:=G) l j6 [100,101,102] p6.2 (by omega);simp;refine mA (i:=j6) (ds:=[.str [100,101,102]]) eO hbb ?_;cases hc:aQ l j6 [100,101,102]with
  |true=>have E0:zW Q (cV (λi=>aQ l i [100,101,102]) (b4w aG l) (g+1) out j6) (cV (λi=>aQ l i [100,101,102]) (b4w aG l) (g+1) out j6):=⟨rfl,λn e s h=>Q5.fail (hp.symm.trans h) s⟩;simp;refine rdX (i:=j6) (ds:=[]) a2w (a4W hV hN j6 hj6) (λd j7 x7=>?_) (λn e hx=>by simp;exact Q5.fail (hp.symm.trans (qC hV hc (hM hx))) _);have p7:=a4X hV j6 d j7 hj6 x7;simp;refine rdX (hw:=by simp[strs]) (ds:=[.sl (strs [[59]])]) jK (kO l [[59]] j7 p7.2 (by omega) hV.fin (by simp)) (λu j8 x8=>?_) (λn e hx=>by simp;exact Q5.fail (hp.symm.trans (qC hV hc ((cU x7).trans (hM hx)))) _);have p8:=aA.exp hV.fin _ _ j7 u j8 p7.2 x8;have h1:b4w aG l out j6=.ok (out++[d.getD b0A]) j8:=(cU x7).trans ((cU x8).trans rfl);rw[vY hV hc h1]at hp;generalize d.getD b0A=D0 at hp|-;simp;refine rX (by first|omega|exact⟨λx _=>by rw[a4V];rfl,by omega⟩) ?_;simp;exact bJ.mk ⟨(out++[D0],j8,g),by simp only;omega,p8.2,by simp only;omega,by simp;omega,hp⟩ (by simp[a4V]) (by simp;omega)
  |false=>rw[vZ hV hc]at hp;have Q6:=Q5.step hp.symm;simp;refine dD Q6 p6 hV.fin λu7 j7 x7 Q7 p7=>?_;simp;exact Q7.ok _ j7 _ _ rfl (.inr rfl) (by simp)
 |true=>
  have Q3:=Q2.step (jE hs);rw[if_pos rfl]at Q3;refine yT hs p2 hV.fin λp3=>?_;obtain⟨j3,hj3⟩:∃j,j2+1=j:=⟨_,rfl⟩;rw[hj3]at Q3 p3|-;simp;refine qI Q3 p3 a7T ((b0f hV j3 p3.2)) ((a4o hV)) λns j4 x4 Q4 p4=>?_;simp;refine dD Q4 p4 hV.fin λu5 j5 x5 Q5 p5=>?_;simp;refine SW.vB (ι:={x:List eX×Nat×Nat//j5<=x.2.1/\x.2.1<l.length/\l.length<x.2.2+x.2.1/\x.1.length<=x.2.1/\cV (λi=>aQ l i [100,101,102]) (b4w aG l) x.2.2 x.1 x.2.1=mX l (λi=>aQ l i [100,101,102]) (b4w aG l) [] j5}) (λ_=>[]) (λx=>[(2,.cells (.d (.str [])::((tyD sF).map .d++[.d .aJ,.d .aJ]))),(3,.cells (.d (.str c)::((tyD t).map .d++[.d (.sl (List.map gG ns)),.d (.sl (x.1.1.map a1c))]))),(100000,rdO l x.1.2.1)]) (λ_=>[(70,[.c 3 11])]) (λx=>l.length-x.1.2.1) ⟨([],j5,l.length+2),f3d _,p5.2,by simp only;omega,by simp,rfl⟩ (by simp[sF,mL]) ?_;rintro⟨⟨out,j6,g⟩,hb,hj6,hg,ho,hp⟩;simp only at hb hj6 hg ho hp;obtain⟨g,rfl⟩:∃k,g=k+1:=⟨g-1,by omega⟩;have p6:j5<=j6/\j6<l.length:=⟨hb,hj6⟩;have hbb:=jD (G:=G) l j6 [100,101,102] p6.2 (by omega);simp;refine mA (i:=j6) (ds:=[.str [100,101,102]]) eO hbb ?_;cases hc:aQ l j6 [100,101,102]with
  |true=>have E0:zW Q (cV (λi=>aQ l i [100,101,102]) (b4w aG l) (g+1) out j6) (cV (λi=>aQ l i [100,101,102]) (b4w aG l) (g+1) out j6):=⟨rfl,λn e s h=>Q5.fail (hp.symm.trans h) s⟩;simp;refine rdX (i:=j6) (ds:=[]) a2w (a4W hV hN j6 hj6) (λd j7 x7=>?_) (λn e hx=>by simp;exact Q5.fail (hp.symm.trans (qC hV hc (hM hx))) _);have p7:=a4X hV j6 d j7 hj6 x7;simp;refine rdX (hw:=by simp[strs]) (ds:=[.sl (strs [[59]])]) jK (kO l [[59]] j7 p7.2 (by omega) hV.fin (by simp)) (λu j8 x8=>?_) (λn e hx=>by simp;exact Q5.fail (hp.symm.trans (qC hV hc ((cU x7).trans (hM hx)))) _);have p8:=aA.exp hV.fin _ _ j7 u j8 p7.2 x8;have h1:b4w aG l out j6=.ok (out++[d.getD b0A]) j8:=(cU x7).trans ((cU x8).trans rfl);rw[vY hV hc h1]at hp;generalize d.getD b0A=D0 at hp|-;simp;refine rX (by first|omega|exact⟨λx _=>by rw[a4V];rfl,by omega⟩) ?_;simp;exact bJ.mk ⟨(out++[D0],j8,g),by simp only;omega,p8.2,by simp only;omega,by simp;omega,hp⟩ (by simp[a4V]) (by simp;omega)
  |false=>rw[vZ hV hc]at hp;have Q6:=Q5.step hp.symm;simp;refine dD Q6 p6 hV.fin λu7 j7 x7 Q7 p7=>?_;simp;exact Q7.ok _ j7 _ _ rfl (.inr rfl) (by simp)
end
end
section
open Go Go.VM
variable {G:GT}
theorem b3a:VM.Enters prog 82:=.mk func82 rfl
theorem a8V:VM.Enters prog 138:=.mk func138 rfl
theorem c0z:VM.Enters prog 83:=.mk func83 rfl
theorem b3b:VM.Enters prog 66:=.mk func66 rfl
abbrev a2x:=Nm×List Nm×Pr
abbrev b5I(c:a2x):List D:=.str c.1::.sl (strs c.2.1)::oO c.2.2
theorem c9T(c:a2x):b5I c=.str c.1::.sl (strs c.2.1)::prD c.2.2:=by rw[b5I,eH]
abbrev c4o(x:a6o):List D:=.str x.name::.str x.data::.str x.result::.sl (x.cases.map b5I)::prD x.inv
theorem c0A(x:a6o):zS x=c4o x:=by
 rw[zS,eH]
 rfl
abbrev c4p(q:a6p):List D:=.str q.name::.sl (q.vars.map gG)::prD q.body
theorem c0B(q:a6p):a0D q=c4p q:=by
 rw[a0D,eH]
 rfl
section
variable {aG:List Tok->Nat->Nat->kX Pr} {l:List Tok} (hV:kU G aG l)
include hV
def b3c(nm dn sn:Nm)(out:List a2x):List (Nat×aW):=[(100001,.cells [.ptr 100000 0]),(100002,.cells [.d (.str nm),.d (.str dn),.d (.str sn),.d (.sl (out.map b5I)),.d (.int .i64 0),.d (.str []),.d (.int .i64 0),.d (.sl [])])]
abbrev e4o:List (TypeId×List VM.Loc):=[(151,[.c 100002 3])]
abbrev d5h(aG:List Tok->Nat->Nat->kX Pr)(l:List Tok)(out:List a2x):bB (List a2x):=do
 let c <- gI l
 let ns <- (λi=>if aQ l i [40] then dH aX l i else .ok [] i:bB (List Nm))
 aV l [[61]]
 let p <- gB aG l
 pure (out++[(c,ns,p)])
theorem c9U(nm dn sn:Nm):zU l K3 [.ptr 100001 0,.ptr 100002 0] (b3c nm dn sn) e4o:=by
 constructor
 all_goals intros
 all_goals first
  |rfl
  |simp[b3c,aK,aP,aM,aL,bA,getKey,aO,bD,cI,rk,cQ,bO, *]
theorem b3d(out:List a2x):aA l 1 (d5h aG l out):=by
 refine(aA.title hV.fin).bl λ_=>aA.bl (λi b j hi h=>?_) λ_=>((aA.exp hV.fin _ _).le (by omega)).bl λ_=>hV.oB.pred.bl λ_=>aA.aT _;split at h
 .exact((aA.words hV.fin).le (by omega)) _ _ _ hi h
 .cases h;omega
theorem c6B(a:List a2x)(i:Nat)(b:List a2x)(j:Nat)(hi:i<l.length)(h:a.length<=i)(hx:d5h aG l a i=.ok b j):b.length<=j:=by have h1:=b3d hV a i b j hi hx;obtain⟨_,_,_,hx⟩:=bG hx;obtain⟨_,_,_,hx⟩:=bG hx;obtain⟨_,_,_,hx⟩:=bG hx;obtain⟨_,_,_,hx⟩:=bG hx;cases hx;simp;omega
theorem c2R(nm dn sn:Nm)(out:List a2x)(i:Nat)(hi:i<l.length)(rN:out.length<=i):kZ G 138 [.ptr 100001 0,.ptr 100002 0] (b3c nm dn sn out) e4o l i (d5h aG l out i) (λ_=>.cJ []) (b3c nm dn sn):=by
 have hl:=hV.len;obtain⟨j0,rfl⟩:∃j0,j0=i:=⟨_,rfl⟩;have p0:j0<=j0/\j0<l.length:=⟨f3d _,hi⟩;refine kZ.cP func138 rfl ntmps138 rfl (by simp) ?_;intro Q Q0;simp[b3c];refine qI Q0 p0 gU (jQ l j0 p0.2 (by omega)) (aA.title hV.fin) λc j1 x1 Q1 p1=>?_;simp;have hb:=jD (G:=G) l j1 [40] p1.2 (by omega);refine mA (ds:=[.str [40]]) eO hb ?_;cases hs:aQ l j1 [40]with
 |false=>have Q1:=Q1.step (a:=[]) (j:=j1) (by simp[hs]);simp;refine dD Q1 p1 hV.fin λu4 j4 x4 Q4 p4=>?_;simp;refine qI Q4 p4 pB (rF hV j4 p4.2) (hV.oB.pred) λp j5 x5 Q5 p5=>?_;simp;refine rX (by first|omega|exact⟨λx _=>by rw[eH];rfl,by omega⟩) ?_;simp;exact Q5.ok _ j5 .normal _ rfl (.inl rfl) (by simp[b3c,eH,vV])
 |true=>
  have e1:(λi=>if aQ l i [40] then dH aX l i else .ok [] i:bB (List Nm)) j1=dH aX l j1:=by simp[hs]
  simp;refine rdX a2q (a4f hV j1 p1.2) (λns j3 x3=>?_) (λn e hx=>by first|exact Q1.fail (e1.trans hx) _|(simp;exact Q1.fail (e1.trans hx) _)|(simp;exact λs=>Q1.fail (e1.trans hx) s));have Q3:=Q1.step (e1.trans x3);have p3:=aA.words hV.fin j1 ns j3 p1.2 x3;simp;refine dD Q3 p3 hV.fin λu4 j4 x4 Q4 p4=>?_;simp;refine qI Q4 p4 pB (rF hV j4 p4.2) (hV.oB.pred) λp j5 x5 Q5 p5=>?_;simp;refine rX (by first|omega|exact⟨λx _=>by rw[eH];rfl,by omega⟩) ?_;simp;exact Q5.ok _ j5 .normal _ rfl (.inl rfl) (by simp[b3c,eH,vV])
theorem b4x(i:Nat)(hi:i<l.length):pW G 82 [] l i (vR aX aG l i) (λx=>.d (.agg (c4o x))):=by
 have hl:=hV.len;obtain⟨j0,rfl⟩:∃j0,j0=i:=⟨_,rfl⟩;have p0:j0<=j0/\j0<l.length:=⟨f3d _,hi⟩;refine kZ.cP func82 rfl ntmps82 rfl (by simp) ?_;intro Q Q0;unfold vR at Q0;simp;refine qI Q0 p0 cL (cZ hV.kw l j0 p0.2 (by omega)) (aA.word hV.fin) λnm j1 x1 Q1 p1=>?_;simp;refine dD Q1 p1 hV.fin λu2 j2 x2 Q2 p2=>?_;simp;refine qI Q2 p2 gU (jQ l j2 p2.2 (by omega)) (aA.title hV.fin) λdn j3 x3 Q3 p3=>?_;simp;refine dD Q3 p3 hV.fin λu4 j4 x4 Q4 p4=>?_;simp;refine qI Q4 p4 a0K (a2p hV.kw l j4 p4.2 (by omega)) (aA.sort hV.fin) λsn j5 x5 Q5 p5=>?_;simp;refine dD Q5 p5 hV.fin λu6 j6 x6 Q6 p6=>?_;simp;have gO:=eI hV [59] (d5h aG l) (λout i=>out.length<=i) 0 a8V (c9U hV nm dn sn) (λa=>(b3d hV a).le (by omega)) (λa i tQ hi h=>c2R hV nm dn sn a i hi h) (c6B hV) (λa i h=>by omega) [] j6 (by omega) p6.2 (by simp);refine eF.mk (yJ dE gO [(100000,100000),(100001,1),(100002,3)] (λa j hx=>?_) ?_ ?_ ?_ rfl rfl (λcs j7 x7=>?_) (λn e wE=>Q6.fail wE _))
 .simp[b3c,aK,aP,aM,aL,bA,getKey]
 .simp[b3c,aK,aP,aM,aL,bA,getKey]
 .simp[aO,bD,rk]
 .simp[b3c,aO,bD,rk,cI,cQ]
 .have Q7:=Q6.step x7;have p7:=aA.list hV.fin (λa=>b3d hV a) [] j6 cs j7 p6.2 x7;simp[bE,b3c,aO,bD,rk,cI,cQ,bO,gP,eS,dQ];refine dD Q7 p7 hV.fin λu8 j8 x8 Q8 p8=>?_;simp;cases hs:aQ l j8 [105,110,118,97,114,105,97,110,116]with
  |false=>have Q9:=Q8.step (jF hs);rw[if_neg (by decide)]at Q9;have Q9:=Q9.step (gR _ _);refine vX hs p8 ?_;simp;exact Q9.ok _ j8 _ _ rfl (.inr rfl) (by simp[mL])
  |true=>have Q9:=Q8.step (jE hs);rw[if_pos rfl]at Q9;refine yT hs p8 hV.fin λp9=>?_;obtain⟨j9,hj9⟩:∃j,j8+1=j:=⟨_,rfl⟩;rw[hj9]at Q9 p9|-;simp;refine qI Q9 p9 pB (rF hV j9 p9.2) (hV.oB.pred) λp j10 x10 Q10 p10=>?_;simp;exact Q10.ok _ j10 _ _ rfl (.inr rfl) (by simp)
theorem c2S(i:Nat)(hi:i<l.length):pW G 83 [] l i (vT aX aG l i) (λx=>.d (.agg (c4p x))):=by have hl:=hV.len;obtain⟨j0,rfl⟩:∃j0,j0=i:=⟨_,rfl⟩;have p0:j0<=j0/\j0<l.length:=⟨f3d _,hi⟩;refine kZ.cP func83 rfl ntmps83 rfl (by simp) ?_;intro Q Q0;unfold vT at Q0;simp;refine qI Q0 p0 cL (cZ hV.kw l j0 p0.2 (by omega)) (aA.word hV.fin) λnm j1 x1 Q1 p1=>?_;simp;refine dD Q1 p1 hV.fin λu2 j2 x2 Q2 p2=>?_;simp;refine qI Q2 p2 a0L ((a2s hV true j2 p2.2)) ((aA.vars hV.fin true)) λvs j3 x3 Q3 p3=>?_;simp;refine dD Q3 p3 hV.fin λu4 j4 x4 Q4 p4=>?_;simp;refine qI Q4 p4 pB (rF hV j4 p4.2) (hV.oB.pred) λp j5 x5 Q5 p5=>?_;simp;exact Q5.ok _ j5 _ _ rfl (.inr rfl) (by simp)
theorem b5J(i:Nat)(hi:i<l.length):pW G 66 [] l i (uY l i) (λ_=>.cJ []):=by
 have hl:=hV.len;obtain⟨j0,rfl⟩:∃j0,j0=i:=⟨_,rfl⟩;have p0:j0<=j0/\j0<l.length:=⟨f3d _,hi⟩;have ht:=cF (G:=G) l j0 j0 0 (by omega) (by omega) (by intro e;subst e;simp at hi) (by omega);refine kZ.cP func66 rfl ntmps66 rfl (by simp) ?_;intro Q Q0;unfold uY at Q0;simp;refine mA (ds:=[.int .i64 0]) bP ht ?_;by_cases hk:(aR l j0).kind=0
 .have Q0:=Q0.ifp hk;simp[cH,hk];exact Q0.ok _ j0 _ _ rfl (.inl rfl) (by simp)
 .have Q0:=Q0.ifn hk;simp[cH,hk];refine rdX (ds:=[]) tM (vW (α:=Unit) l j0 p0.2 (by omega) λ_=>.cJ []) (λa j hx=>by unfold dU at hx;cases hx) (λn e hx=>Q0.bad n e _ hx)
end
end
section
open Go Go.VM
variable {G:GT}
theorem a6G:VM.Enters prog 42:=.mk func42 rfl
section
variable {aG:List Tok->Nat->Nat->kX Pr} {l:List Tok} (hV:kU G aG l) (hN:∀i, -9223372036854775807<=(aR l i).n/\(aR l i).n<=9223372036854775807)
include hV hN
def wY(m:gZ):List (Nat×aW):=[(100001,.cells [.d (.sl (m.uW.map uZ)),.d (.sl (m.oJ.map xW)),.d (.sl (m.insts.map a0C)),.d (.sl (m.uX.map zS)),.d (.sl (m.xV.map a0D)),.d (.sl (m.defs.map a1c))])]
abbrev e0C:List (TypeId×List VM.Loc):=[(78,[.c 100001 0]),(111,[.c 100001 1]),(114,[.c 100001 2]),(82,[.c 100001 3]),(118,[.c 100001 4]),(70,[.c 100001 5])]
abbrev c4q(d:a3Q):List D:=[.str d.name,.sl (strs d.vars),.sl (d.a7t.map gG),.sl (d.cons.map a5A)]
abbrev c4r(d:a0A):List D:=[.str d.name,.str d.var,.sl (d.methods.map a2j)]
omit hN in
theorem b0C(i:Nat)(hi:i<l.length):pW G 79 [] l i (uK aX bI aG l i) (λd=>.d (.agg (c4q d))):=b2V hV i hi
omit hN in
theorem b7x(i:Nat)(hi:i<l.length):pW G 80 [] l i (qR aX bI aG l i) (λd=>.d (.agg (c4r d))):=c0y hV i hi
structure c9V (m:gZ) (i:Nat):Prop where
 a:m.uW.length<=i
 b:m.oJ.length<=i
 c:m.insts.length<=i
 d:m.uX.length<=i
 e:m.xV.length<=i
 f:m.defs.length<=i
theorem c2T(m:gZ)(i:Nat)(hi:i<l.length)(hm:c9V m i):kZ G 42 [.ptr 100000 0,.ptr 100001 0] (wY m) e0C l i (pP aX bI aG l m i) (λ_=>.cJ []) wY:=by
 have hl:=hV.len;obtain⟨j0,rfl⟩:∃j0,j0=i:=⟨_,rfl⟩;have p0:j0<=j0/\j0<l.length:=⟨f3d _,hi⟩;obtain⟨m1,m2,m3,m4,m5,m6⟩:=hm;obtain⟨da,cl,ins,me,qu,de⟩:=m;simp only at m1 m2 m3 m4 m5 m6;have eq1:∀d:a3Q,uZ d=[.str d.name,.sl (strs d.vars),.sl (d.a7t.map gG),.sl (d.cons.map a5A)]:=λd=>rfl;have eq2:∀d:a0A,xW d=[.str d.name,.str d.var,.sl (d.methods.map a2j)]:=λd=>rfl;have eq3:=c0x;have eq4:=c0A;have eq5:=c0B;have eq6:=a4V;refine kZ.cP func42 rfl ntmps42 rfl (by simp) ?_;intro Q Q0;unfold pP at Q0;simp[wY];cases s1:aQ l j0 [100,97,116,97]with
 |true=>
  have Q1:=Q0.ifp s1;refine yT s1 p0 hV.fin λp1=>?_;obtain⟨j1,sR⟩:∃j,j0+1=j:=⟨_,rfl⟩;rw[sR]at Q1 p1|-;simp;refine kN [0,1,2,3,5] 6 [] (.op 4 (.call [7,8,9,10,11] .none) (.call [4,7,8,9,10,11] .none)) (gL (uK aX bI aG l j1)) (by kernel_rfl) (by kernel_rfl) ?_;simp;refine⟨?_,?_⟩
  all_goals
   refine oF Q1 p1 b0z ((b0C hV j1 p1.2)) ((aA.data hV.fin hV.oB.pred)) λx j2 x2 Q2 p2=>cT.mk ?_;simp;refine eE (by first|omega|exact⟨λx _=>by rw[eq1];rfl,by omega⟩|exact⟨λx _=>rfl,by omega⟩) ?_;simp;exact Q2.ok _ j2 .normal _ rfl (.inl rfl) (by simp[wY,eq1])
 |false=>
 have Q0:=Q0.ifn (by rw[s1];decide);refine vX s1 p0 ?_;simp;cases s2:aQ l j0 [99,108,97,115,115]with
 |true=>
  have Q1:=Q0.ifp s2;refine yT s2 p0 hV.fin λp1=>?_;obtain⟨j1,sR⟩:∃j,j0+1=j:=⟨_,rfl⟩;rw[sR]at Q1 p1|-;simp;refine kN [0,1,2,3,5] 6 [] (.op 4 (.call [7,8,9,10,11] .none) (.call [4,7,8,9,10,11] .none)) (gL (qR aX bI aG l j1)) (by kernel_rfl) (by kernel_rfl) ?_;simp;refine⟨?_,?_⟩
  all_goals
   refine oF Q1 p1 b7w ((b7x hV j1 p1.2)) ((aA.cls hV.fin hV.oB.pred)) λx j2 x2 Q2 p2=>cT.mk ?_;simp;refine eE (by first|omega|exact⟨λx _=>by rw[eq2];rfl,by omega⟩|exact⟨λx _=>rfl,by omega⟩) ?_;simp;exact Q2.ok _ j2 .normal _ rfl (.inl rfl) (by simp[wY,eq2])
 |false=>
 have Q0:=Q0.ifn (by rw[s2];decide);refine vX s2 p0 ?_;simp;cases s3:aQ l j0 [105,110,115,116]with
 |true=>
  have Q1:=Q0.ifp s3;refine yT s3 p0 hV.fin λp1=>?_;obtain⟨j1,sR⟩:∃j,j0+1=j:=⟨_,rfl⟩;rw[sR]at Q1 p1|-;simp;refine kN [0,1,2,3,5] 6 [] (.op 4 (.call [7,8,9,10,11] .none) (.call [4,7,8,9,10,11] .none)) (gL (vQ aX bI aG l j1)) (by kernel_rfl) (by kernel_rfl) ?_;simp;refine⟨?_,?_⟩
  all_goals
   refine oF Q1 p1 b0B ((b2Z hV hN j1 p1.2)) ((aA.inst hV.fin hV.oB)) λx j2 x2 Q2 p2=>cT.mk ?_;simp;refine eE (by first|omega|exact⟨λx _=>by rw[eq3];rfl,by omega⟩|exact⟨λx _=>rfl,by omega⟩) ?_;simp;exact Q2.ok _ j2 .normal _ rfl (.inl rfl) (by simp[wY,eq3])
 |false=>
 have Q0:=Q0.ifn (by rw[s3];decide);refine vX s3 p0 ?_;simp;cases s4:aQ l j0 [109,101,97,115,117,114,101]with
 |true=>
  have Q1:=Q0.ifp s4;refine yT s4 p0 hV.fin λp1=>?_;obtain⟨j1,sR⟩:∃j,j0+1=j:=⟨_,rfl⟩;rw[sR]at Q1 p1|-;simp;refine kN [0,1,2,3,5] 6 [] (.op 4 (.call [7,8,9,10,11] .none) (.call [4,7,8,9,10,11] .none)) (gL (vR aX aG l j1)) (by kernel_rfl) (by kernel_rfl) ?_;simp;refine⟨?_,?_⟩
  all_goals
   refine oF Q1 p1 b3a ((b4x hV j1 p1.2)) ((aA.c2m hV.fin hV.oB.pred)) λx j2 x2 Q2 p2=>cT.mk ?_;simp;refine eE (by first|omega|exact⟨λx _=>by rw[eq4];rfl,by omega⟩|exact⟨λx _=>rfl,by omega⟩) ?_;simp;exact Q2.ok _ j2 .normal _ rfl (.inl rfl) (by simp[wY,eq4])
 |false=>
 have Q0:=Q0.ifn (by rw[s4];decide);refine vX s4 p0 ?_;simp;cases s5:aQ l j0 [113,117,97,108]with
 |true=>
  have Q1:=Q0.ifp s5;refine yT s5 p0 hV.fin λp1=>?_;obtain⟨j1,sR⟩:∃j,j0+1=j:=⟨_,rfl⟩;rw[sR]at Q1 p1|-;simp;refine kN [0,1,2,3,5] 6 [] (.op 4 (.call [7,8,9,10,11] .none) (.call [4,7,8,9,10,11] .none)) (gL (vT aX aG l j1)) (by kernel_rfl) (by kernel_rfl) ?_;simp;refine⟨?_,?_⟩
  all_goals
   refine oF Q1 p1 c0z ((c2S hV j1 p1.2)) ((aA.c2n hV.fin hV.oB.pred)) λx j2 x2 Q2 p2=>cT.mk ?_;simp;refine eE (by first|omega|exact⟨λx _=>by rw[eq5];rfl,by omega⟩|exact⟨λx _=>rfl,by omega⟩) ?_;simp;exact Q2.ok _ j2 .normal _ rfl (.inl rfl) (by simp[wY,eq5])
 |false=>
 have Q0:=Q0.ifn (by rw[s5];decide);refine vX s5 p0 ?_;simp;refine qI Q0 p0 a2w ((a4W hV hN j0 p0.2)) (a4X hV) λd j1 x1 Q1 p1=>?_;cases d with
 |none=>
  simp;refine rdX (ds:=[]) tM (vW (α:=gZ) l j1 p1.2 (by omega) λ_=>.cJ []) (λa j hx=>by unfold dU at hx;cases hx) (λn e hx=>?_)
  first|exact Q1.bad n e _ hx|(simp;exact Q1.bad n e _ hx)
 |some d=>simp;refine SW.vk ?_;simp;refine⟨gE.mk (by kernel_rfl),?_⟩;refine eE (by first|omega|exact⟨λx _=>by rw[eq6];rfl,by omega⟩) ?_;simp;exact Q1.ok _ j1 .normal _ rfl (.inl rfl) (by simp[wY,eq6,a7Y,b2L])
end
end
section
open Go Go.VM
variable {G:GT}
theorem a8W:VM.Enters prog 33:=.mk func33 rfl
theorem a8X:VM.Enters prog 38:=.mk func38 rfl
theorem a6H:VM.Enters prog 40:=.mk func40 rfl
theorem b0D:VM.Enters prog 57:=.mk func57 rfl
section
variable {aG:List Tok->Nat->Nat->kX Pr} {l:List Tok} (hV:kU G aG l) (hN:∀i, -9223372036854775807<=(aR l i).n/\(aR l i).n<=9223372036854775807)
include hV
def exX(e:eM):List (Nat×aW):=[(100001,.cells ((xS e).map .d))]
def tyX(t:Ty):List (Nat×aW):=[(100001,.cells ((tyD t).map .d))]
def deX(d:eX):List (Nat×aW):=[(100001,.cells ((a7Y d).map .d))]
theorem c0C(t0:Ty)(i:Nat)(hi:i<l.length):kZ G 38 [.ptr 100000 0,.ptr 100001 0] (tyX t0) [] l i (dW aX bI aG l i) (λ_=>.cJ []) tyX:=by have hl:=hV.len;refine kZ.cP func38 rfl ntmps38 rfl (by simp) ?_;intro Q Q0;simp[tyX];refine rdX (ds:=[]) cK (mJ hV i hi) (λt j h=>?_) (λn e h=>Q0.bad n e _ h);simp;exact Q0.ok t j _ _ h (.inl rfl) (by simp[tyX])
include hN
theorem c0D(e0:eM)(i:Nat)(hi:i<l.length):kZ G 33 [.ptr 100000 0,.ptr 100001 0] (exX e0) [] l i (zP aX bI aG l i) (λ_=>.cJ []) exX:=by have hl:=hV.len;refine kZ.cP func33 rfl ntmps33 rfl (by simp) ?_;intro Q Q0;simp[exX];refine rdX (ds:=[]) bX (a0Q hV hN i hi) (λt j h=>?_) (λn e h=>Q0.bad n e _ h);simp;exact Q0.ok t j _ _ h (.inl rfl) (by simp[exX])
abbrev a1j(aG:List Tok->Nat->Nat->kX Pr)(l:List Tok):bB eX:=do
 let d <- tJ aX bI aG l
 match d with
 |none=>dU l
 |some d=>do
  let _ <- dR l [59]
  pure d
theorem c2U(d0:eX)(i:Nat)(hi:i<l.length):kZ G 57 [.ptr 100000 0,.ptr 100001 0] (deX d0) [] l i (a1j aG l i) (λ_=>.cJ []) deX:=by
 have hl:=hV.len;obtain⟨j0,rfl⟩:∃j0,j0=i:=⟨_,rfl⟩;have p0:j0<=j0/\j0<l.length:=⟨f3d _,hi⟩;refine kZ.cP func57 rfl ntmps57 rfl (by simp) ?_;intro Q Q0;simp[deX];refine qI Q0 p0 a2w ((a4W hV hN j0 p0.2)) (a4X hV) λd j1 x1 Q1 p1=>?_;cases d with
 |none=>
  simp;refine rdX (ds:=[]) tM (vW (α:=eX) l j1 p1.2 (by omega) λ_=>.cJ []) (λa j hx=>by unfold dU at hx;cases hx) (λn e hx=>?_)
  first|exact Q1.bad n e _ hx|(simp;exact Q1.bad n e _ hx)
 |some d=>
  simp;cases hs:aQ l j1 [59]with
  |true=>have Q2:=Q1.step (jE hs);refine yT hs p1 hV.fin λp2=>?_;simp;exact Q2.ok _ (j1+1) _ _ rfl (.inl rfl) (by simp[deX,a7Y,b2L])
  |false=>have Q2:=Q1.step (jF hs);refine vX hs p1 ?_;simp;exact Q2.ok _ j1 _ _ rfl (.inl rfl) (by simp[deX,a7Y,b2L])
abbrev moM(aG:List Tok->Nat->Nat->kX Pr)(l:List Tok)(m:gZ):bB gZ:=do
 let m <- pP aX bI aG l m
 aV l [[59]]
 pure m
omit hN in
theorem b3e(m:gZ):aA l 1 (pP aX bI aG l m):=aA.decl hV.fin hV.oB m
omit hN in
theorem c0E(m:gZ)(i:Nat)(m2:gZ)(j:Nat)(hi:i<l.length)(hm:c9V m i)(h:pP aX bI aG l m i=.ok m2 j):c9V m2 j:=by
 have ha:=b3e hV m i m2 j hi h;obtain⟨m1,m2,m3,m4,m5,m6⟩:=hm;unfold pP at h;split at h
 .obtain⟨x,k,_,h⟩:=bG h;cases h;constructor<;>simp<;>omega
 split at h
 .obtain⟨x,k,_,h⟩:=bG h;cases h;constructor<;>simp<;>omega
 split at h
 .obtain⟨x,k,_,h⟩:=bG h;cases h;constructor<;>simp<;>omega
 split at h
 .obtain⟨x,k,_,h⟩:=bG h;cases h;constructor<;>simp<;>omega
 split at h
 .obtain⟨x,k,_,h⟩:=bG h;cases h;constructor<;>simp<;>omega
 .obtain⟨x,k,_,h⟩:=bG h;cases x with
  |none=>unfold dU at h;cases h
  |some d=>cases h;constructor<;>simp<;>omega
theorem b4y(i:Nat)(hi:i<l.length):kZ G 40 [.ptr 100000 0,.ptr 100001 0] (wY ⟨[],[],[],[],[],[]⟩) e0C l i (a3R aX bI aG l i) (λ_=>.cJ []) wY:=by
 have hl:=hV.len;obtain⟨j0,rfl⟩:∃j0,j0=i:=⟨_,rfl⟩;have p0:j0<=j0/\j0<l.length:=⟨f3d _,hi⟩;refine kZ.cP func40 rfl ntmps40 rfl (by simp) ?_;intro Q Q0;simp[wY];refine SW.vB (ι:={x:gZ×Nat×Nat//j0<=x.2.1/\x.2.1<l.length/\l.length<x.2.2+x.2.1/\c9V x.1 x.2.1/\cV (λi=> !decide ((aR l i).kind=0)) (moM aG l) x.2.2 x.1 x.2.1=a3R aX bI aG l j0}) (λ_=>[]) (λx=>rH l x.1.2.1++wY x.1.1) (λ_=>e0C) (λx=>l.length-x.1.2.1) ⟨(⟨[],[],[],[],[],[]⟩,j0,l.length+2),f3d _,p0.2,by simp only;omega,⟨Nat.zero_le _,Nat.zero_le _,Nat.zero_le _,Nat.zero_le _,Nat.zero_le _,Nat.zero_le _⟩,rfl⟩ (by simp[wY]) ?_;rintro⟨⟨m,j1,g⟩,hb,sR,hg,hm,hp⟩;simp only at hb sR hg hm hp;obtain⟨g,rfl⟩:∃k,g=k+1:=⟨g-1,by omega⟩;have p1:j0<=j1/\j1<l.length:=⟨hb,sR⟩;have ht:=cF (G:=G) l j1 j1 0 (by omega) (by omega) (by intro e;subst e;simp at hi) (by omega);simp[wY];refine mA (i:=j1) (ds:=[.int .i64 0]) bP ht ?_;by_cases hk:(aR l j1).kind=0
 .have hc:(λi=> !decide ((aR l i).kind=0)) j1=false:=by simp[hk]
  rw[vZ hV hc]at hp;simp[cH,hk];exact Q0.ok m j1 _ _ hp.symm (.inl rfl) (by simp[wY])
 .have hc:(λi=> !decide ((aR l i).kind=0)) j1=true:=by simp[hk]
  simp[cH,hk];refine eF.mk (yJ a6G (c2T hV hN m j1 sR hm) [(100000,100000),(100001,100001)] (λa j hx=>?_) ?_ ?_ ?_ rfl rfl (λm2 j2 x2=>?_) (λn e hx=>by simp;exact Q0.bad _ _ _ (hp.symm.trans (qC hV hc (hM hx)))))
  .simp[wY,aK,aP,aM,aL,bA,getKey]
  .simp[wY,aK,aP,aM,aL,bA,getKey]
  .simp[aO,bD,rk]
  .simp[wY,aO,bD,rk,cI,cQ]
  .have p2:=b3e hV m j1 m2 j2 sR x2;have hm2:=c0E hV m j1 m2 j2 sR hm x2;simp[bE,wY,aO,bD,rk,cI,cQ,bO,gP,eS,dQ];refine rdX (hw:=by simp[strs]) (ds:=[.sl (strs [[59]])]) jK (kO l [[59]] j2 p2.2 (by omega) hV.fin (by simp)) (λu j3 x3=>?_) (λn e hx=>by simp;exact Q0.bad _ _ _ (hp.symm.trans (qC hV hc ((cU x2).trans (hM hx)))));have p3:=aA.exp hV.fin _ _ j2 u j3 p2.2 x3;have hm3:c9V m2 j3:=⟨by have:=hm2.a;omega,by have:=hm2.b;omega,by have:=hm2.c;omega,by have:=hm2.d;omega,by have:=hm2.e;omega,by have:=hm2.f;omega⟩;have h1:moM aG l m j1=.ok m2 j3:=(cU x2).trans ((cU x3).trans rfl);rw[vY hV hc h1]at hp;simp;exact bJ.mk ⟨(m2,j3,g),by simp only;omega,p3.2,by simp only;omega,hm3,hp⟩ (by simp[wY]) (by simp;omega)
end
end
end Go.Proofs.YtjpodcmhcenjjaaGreatDoor
section
section
namespace Go.Proofs.YtjpodcmhcenjjaaGreatDoor
def tU(l:List Tok)(i:Nat)(s:List UInt8):Bool:=match l[i]? with
 |some t=>decide (t.kind=4)&&decide (t.text=s)
 |none=>false
def kdB(l:List Tok)(i:Nat)(k:Int):Bool:=match l[i]? with
 |some t=>decide (t.kind=k)
 |none=>false
def wtB(l:List Tok)(i:Nat):Bool:=kdB l i 1||kdB l i 2
def txA(l:List Tok)(i:Nat):List UInt8:=((l[i]?).map (·.text)).getD []
def nmA(l:List Tok)(i:Nat):Int:=((l[i]?).map (·.n)).getD 0
def tw(op:Int)(a b:Pr):Pr:=⟨op,[],0,[a,b]⟩
def qJ(l:List Tok):Nat->Nat->List UInt8->List UInt8×Nat
 |0,i,s=>(s,i)
 |f+1,i,s=>
  if tU l i [46]=true then
   if wtB l (i+1)=true then qJ l f (i+2) (s++[46]++txA l (i+1))
   else if kdB l (i+1) 3=true then
    if wtB l (i+2)=true then qJ l f (i+3) (s++[46]++txA l (i+1)++txA l (i+2)) else qJ l f (i+2) (s++[46]++txA l (i+1))
   else(s,i)
  else(s,i)
def opL:Nat->List (Int×List UInt8)
 |1=>[(18,[60,61,62])]
 |3=>[(16,[124,124])]
 |4=>[(15,[38,38])]
 |7=>[(6,[43]),(7,[45])]
 |8=>[(8,[42])]
 |_=>[]
def b7y(l:List Tok)(n k:Nat):Option Int:=((opL k).find? λp=>tU l n p.2).map (·.1)
def cmpL:List (List UInt8×Int×Bool):=[([61],10,false),([33,61],11,false),([60],12,false),([62],12,true),([60,61],13,false),([62,61],13,true)]
def b0i(l:List Tok)(n:Nat):Option (Int×Bool):=(cmpL.find? λp=>tU l n p.1).map (·.2)
section
variable (kw:List UInt8->Bool) (rd:Nat->Nat->Option (Pr×Nat)) (l:List Tok)
def c6C(i:Nat):Bool:=wtB l i&&(!kw (txA l i)||decide (txA l i=[118])||decide (txA l i=[116,97,103])||decide (txA l i=[118,97,108]))
def xX(i:Nat):Option (List UInt8×Nat):=if c6C kw l i=true then some (qJ l l.length (i+1) (txA l i)) else none
def eU(k:Nat):Nat->Pr->Nat->Pr×Nat
 |0,a,n=>(a,n)
 |g+1,a,n=>match b7y l n k with
  |none=>(a,n)
  |some op=>match rd (n+1) (k+1)with
   |none=>(a,n)
   |some (b,m)=>eU k g (tw op a b) m
def jX:Nat->Nat->List Pr->Option (List Pr×Nat)
 |0,_,_=>none
 |g+1,i,acc=>match rd (i+1) 1 with
  |none=>none
  |some (p,n)=>if tU l n [41]=true then some (acc++[p],n+1) else if tU l n [44]=true then jX g n (acc++[p]) else none
def wZ(i:Nat):Option (List Pr×Nat):=if tU l i [40]=true then jX rd l l.length i [] else none
def a2T(i:Nat):Option (Pr×Nat):=match l[i]? with
 |none=>none
 |some t=>
  if t.kind=3 then some (⟨1,[],t.n,[]⟩,i+1)
  else if t.kind=1/\t.text=[116,114,117,101] then some (⟨2,[],1,[]⟩,i+1)
  else if t.kind=1/\t.text=[102,97,108,115,101] then some (⟨2,[],0,[]⟩,i+1)
  else if tU l i [63]=true then(match xX kw l (i+1)with
   |none=>none
   |some (s,n)=>(wZ rd l n).map λq=>(⟨5,s,0,q.1⟩,q.2))
  else if tU l i [40]=true then
   if tU l (i+1) [45]=true/\kdB l (i+2) 3=true/\tU l (i+3) [41]=true then some (⟨1,[],IntKind.i64.wrap (-nmA l (i+2)),[]⟩,i+4)
   else(match rd (i+1) 1 with
    |none=>none
    |some (p,n)=>if tU l n [41]=true then some (p,n+1) else none)
  else(match xX kw l i with
   |none=>none
   |some (s,n)=>(match wZ rd l n with
    |some (ks,m)=>some (⟨4,s,0,ks⟩,m)
    |none=>some (⟨3,s,0,[]⟩,n)))
def a5f(i:Nat):Option (Pr×Nat):=match rd i 7 with
 |none=>none
 |some (a,n)=>(match b0i l n with
  |none=>some (a,n)
  |some (op,ex)=>(match rd (n+1) 7 with
   |none=>some (a,n)
   |some (b,m)=>some (if ex=true then tw op b a else tw op a b,m)))
def b7z(i:Nat):Option (Pr×Nat):=match rd i 3 with
 |none=>none
 |some (a,n)=>if tU l n [61,62]=true then(match rd (n+1) 2 with
  |some (b,m)=>some (tw 17 a b,m)
  |none=>some (a,n)) else some (a,n)
def atG(i k:Nat):Option (Pr×Nat):=
 match k with
 |2=>b7z rd l i
 |5=>if tU l i [33]=true then(rd (i+1) 5).map λq=>(⟨14,[],0,[q.1]⟩,q.2) else rd i 6
 |6=>a5f rd l i
 |9=>if tU l i [45]=true then(rd (i+1) 9).map λq=>(⟨9,[],0,[q.1]⟩,q.2) else rd i 10
 |10=>a2T kw rd l i
 |k=>(rd i (k+1)).map λq=>eU rd l k l.length q.1 q.2
end
def oG(kw:List UInt8->Bool)(l:List Tok):Nat->Nat->Nat->Option (Pr×Nat)
 |0,_,_=>none
 |f+1,i,k=>atG kw (oG kw l f) l i k
theorem zZ{l:List Tok}{i:Nat}{s:List UInt8}(h:tU l i s=true):i<l.length:=by
 unfold tU at h;split at h
 .rename_i t ht;exact(f2O.1 ht).1
 .cases h
theorem c2V{l:List Tok}{i:Nat}{k:Int}(h:kdB l i k=true):i<l.length:=by
 unfold kdB at h;split at h
 .rename_i t ht;exact(f2O.1 ht).1
 .cases h
theorem c2W{l:List Tok}{i:Nat}(h:wtB l i=true):i<l.length:=by unfold wtB at h;rw[f2Z]at h;rcases h with h|h<;>exact c2V h
theorem a4Y{l:List Tok}:∀(f i:Nat) (s:List UInt8),i<=l.length->i<=(qJ l f i s).2/\(qJ l f i s).2<=l.length
 |0,i,s,h=>⟨f3d _,h⟩
 |f+1,i,s,h=>by
  rw[qJ];split
  .rename_i h1;have:=zZ h1;split
   .rename_i h2;have:=c2W h2;have:=a4Y (l:=l) f (i+2) (s++[46]++txA l (i+1)) (by omega);omega
   .split
    .rename_i h3;have:=c2V h3;split
     .rename_i h4;have:=c2W h4;have:=a4Y (l:=l) f (i+3) (s++[46]++txA l (i+1)++txA l (i+2)) (by omega);omega
     .have:=a4Y (l:=l) f (i+2) (s++[46]++txA l (i+1)) (by omega);omega
    .exact⟨f3d _,h⟩
  .exact⟨f3d _,h⟩
theorem a1M{kw:List UInt8->Bool}{l:List Tok}{i n:Nat}{s:List UInt8}(h:xX kw l i=some (s,n)):i<n/\n<=l.length:=by
 unfold xX at h;split at h
 .rename_i hb;unfold c6C at hb;rw[f2N]at hb;have h1:=c2W hb.1;have h2:=a4Y (l:=l) l.length (i+1) (txA l i) (by omega);rw[f2T]at h;rw[h]at h2;simp only at h2;omega
 .cases h
def Adv(l:List Tok)(rd:Nat->Nat->Option (Pr×Nat)):Prop:=∀i k p n,rd i k=some (p,n)->i<n/\n<=l.length
section
variable {kw:List UInt8->Bool} {rd rd':Nat->Nat->Option (Pr×Nat)} {l:List Tok}
theorem b5K(h:Adv l rd)(k:Nat):∀(g:Nat) (a:Pr) (n:Nat),n<=l.length->n<=(eU rd l k g a n).2/\(eU rd l k g a n).2<=l.length
 |0,a,n,hn=>⟨f3d _,hn⟩
 |g+1,a,n,hn=>by
  rw[eU];split
  .exact⟨f3d _,hn⟩
  .split
   .exact⟨f3d _,hn⟩
   .rename_i op _ _ b m hr;have h1:=h _ _ _ _ hr;have h2:=b5K h k g (tw op a b) m h1.2;omega
theorem c0F(h:Adv l rd):∀(g i:Nat) (acc ks:List Pr) (m:Nat),jX rd l g i acc=some (ks,m)->i<m/\m<=l.length
 |0,_,_,_,_,hr=>by cases hr
 |g+1,i,acc,ks,m,hr=>by
  rw[jX]at hr;split at hr
  .cases hr
  .rename_i p n hp;have h1:=h _ _ _ _ hp;split at hr
   .rename_i hs;have:=zZ hs;cases hr;omega
   .split at hr
    .have:=c0F h g n _ ks m hr;omega
    .cases hr
theorem c0G(h:Adv l rd){i m:Nat}{ks:List Pr}(hr:wZ rd l i=some (ks,m)):i<m/\m<=l.length:=by
 unfold wZ at hr;split at hr
 .exact c0F h _ _ _ _ _ hr
 .cases hr
theorem c9W(h:Adv l rd){i n:Nat}{p:Pr}(hr:a2T kw rd l i=some (p,n)):i<n/\n<=l.length:=by
 unfold a2T at hr;split at hr
 .cases hr
 .rename_i t ht;have tT:=(f2O.1 ht).1;split at hr
  .cases hr;omega
  split at hr
  .cases hr;omega
  split at hr
  .cases hr;omega
  split at hr
  .split at hr
   .cases hr
   .rename_i s m hn;have h1:=a1M hn;rw[f2M]at hr;obtain⟨⟨ks,q⟩,hq,he⟩:=hr;have h2:=c0G h hq;cases he;simp only at *;omega
  split at hr
  .split at hr
   .rename_i hc;have:=zZ hc.2.2;cases hr;omega
   .split at hr
    .cases hr
    .rename_i q m hq;have h1:=h _ _ _ _ hq;split at hr
     .rename_i hs;have:=zZ hs;cases hr;omega
     .cases hr
  .split at hr
   .cases hr
   .rename_i s m hn;have h1:=a1M hn;split at hr
    .rename_i ks q hq;have h2:=c0G h hq;cases hr;omega
    .cases hr;omega
theorem e0D(h:Adv l rd){i k n:Nat}{p:Pr}(hr:atG kw rd l i k=some (p,n)):i<n/\n<=l.length:=by
 unfold atG at hr;split at hr
 .unfold b7z at hr;split at hr
  .cases hr
  .rename_i a m ha;have h1:=h _ _ _ _ ha;split at hr
   .split at hr
    .rename_i b q hb;have h2:=h _ _ _ _ hb;cases hr;omega
    .cases hr;exact h1
   .cases hr;exact h1
 .split at hr
  .rw[f2M]at hr;obtain⟨⟨a,m⟩,ha,he⟩:=hr;have h1:=h _ _ _ _ ha;cases he;simp only;omega
  .exact h _ _ _ _ hr
 .unfold a5f at hr;split at hr
  .cases hr
  .rename_i a m ha;have h1:=h _ _ _ _ ha;split at hr
   .cases hr;exact h1
   .split at hr
    .cases hr;exact h1
    .rename_i b q hb;have h2:=h _ _ _ _ hb;cases hr;omega
 .split at hr
  .rw[f2M]at hr;obtain⟨⟨a,m⟩,ha,he⟩:=hr;have h1:=h _ _ _ _ ha;cases he;simp only;omega
  .exact h _ _ _ _ hr
 .exact c9W h hr
 .rw[f2M]at hr;obtain⟨⟨a,m⟩,ha,he⟩:=hr;have h1:=h _ _ _ _ ha;have h2:=b5K (k:=k) h l.length a m h1.2;have h3:(eU rd l k l.length a m).2=n:=by rw[he]
  omega
end
theorem uQ(kw:List UInt8->Bool)(l:List Tok):∀f,Adv l (oG kw l f)
 |0=>λ_ _ _ _ h=>by cases h
 |f+1=>λ_ _ _ _ h=>e0D (uQ kw l f) h
end Go.Proofs.YtjpodcmhcenjjaaGreatDoor
end
section
namespace Go.Proofs.YtjpodcmhcenjjaaGreatDoor
theorem c6D{l:List Tok}{n k:Nat}{op:Int}(h:b7y l n k=some op):n<l.length/\1<=k/\k<=8:=by unfold b7y at h;rw[f2M]at h;obtain⟨p,hp,_⟩:=h;have hs:tU l n p.2=true:=List.find?_some (p:=λp:Int×List UInt8=>tU l n p.2) hp;refine⟨zZ hs,?_⟩;have hm:=List.mem_of_find?_eq_some hp;unfold opL at hm;split at hm<;>first|omega|cases hm
def mu(L i k:Nat):Nat:=(L+1-i)*12+(11-k)
theorem a4Z{L i i' k k':Nat}(hi:i<i')(hl:i'<=L)(hk:1<=k')(xF:k<=10):mu L i' k'<mu L i k:=by unfold mu;omega
theorem c9X{L i k k':Nat}(h:k<k')(hk:k'<=10):mu L i k'<mu L i k:=by unfold mu;omega
end Go.Proofs.YtjpodcmhcenjjaaGreatDoor
end
section
namespace Go.Proofs.YtjpodcmhcenjjaaGreatDoor
def frN(op:Int):Option (Nat×Nat×Nat×List UInt8):=
 if op=18 then some (1,1,2,[60,61,62]) else if op=17 then some (2,3,2,[61,62]) else if op=16 then some (3,3,4,[124,124]) else if op=15 then some (4,4,5,[38,38])
 else if op=10 then some (6,7,7,[61]) else if op=11 then some (6,7,7,[33,61]) else if op=12 then some (6,7,7,[60]) else if op=13 then some (6,7,7,[60,61])
 else if op=6 then some (7,7,8,[43]) else if op=7 then some (7,7,8,[45]) else if op=8 then some (8,8,9,[42]) else none
structure Out (α:Type) where
 sg:List UInt8->List α
 nm:List UInt8->List α
 nu:Nat->List α
 bo:Bool->List α
 sp:List α
def e4q(ln:Int)(s:List UInt8):Tok:=⟨4,s,0,ln⟩
end Go.Proofs.YtjpodcmhcenjjaaGreatDoor
end
section
namespace Go.Proofs.YtjpodcmhcenjjaaGreatDoor
def RR(kw:List UInt8->Bool)(l:List Tok)(i k:Nat):Option (Pr×Nat):=oG kw l (mu l.length i k) i k
end Go.Proofs.YtjpodcmhcenjjaaGreatDoor
end
section
namespace Go.Proofs.YtjpodcmhcenjjaaGreatDoor
inductive WfP (N:List UInt8->Prop):Pr->Prop
 |int (n:Int): -1000000000000<=n->n<=1000000000000->WfP N ⟨1,[],n,[]⟩
 |boo (n:Int):n=0\/n=1->WfP N ⟨2,[],n,[]⟩
 |var (s:List UInt8):N s->WfP N ⟨3,s,0,[]⟩
 |app (s:List UInt8) (ks:List Pr):N s->ks≠[]->(∀k∈ks,WfP N k)->WfP N ⟨4,s,0,ks⟩
 |hole (s:List UInt8) (ks:List Pr):N s->ks≠[]->(∀k∈ks,WfP N k)->WfP N ⟨5,s,0,ks⟩
 |neg (a:Pr):WfP N a->WfP N ⟨9,[],0,[a]⟩
 |not (a:Pr):WfP N a->WfP N ⟨14,[],0,[a]⟩
 |two (op:Int) (lv l r:Nat) (s:List UInt8) (a b:Pr):frN op=some (lv,l,r,s)->WfP N a->WfP N b->WfP N ⟨op,[],0,[a,b]⟩
end Go.Proofs.YtjpodcmhcenjjaaGreatDoor
end
section
namespace Go.Proofs.YtjpodcmhcenjjaaGreatDoor
section
variable {num:List UInt8->Int×Bool} {ln:Int}
end
end Go.Proofs.YtjpodcmhcenjjaaGreatDoor
end
end
