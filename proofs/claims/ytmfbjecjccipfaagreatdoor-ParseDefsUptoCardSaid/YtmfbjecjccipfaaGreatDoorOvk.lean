/- Lemmas. No condition. -/
import Derived.Test.YtmfbjecjccipfaaGreatDoorOvj
set_option linter.unusedVariables false
set_option linter.unusedSimpArgs false
set_option linter.unusedSectionVars false
set_option maxRecDepth 100000
set_option maxHeartbeats 64000000
open Go.Proofs.Tryz
namespace Go.Proofs.YtmfbjecjccipfaaGreatDoor
section
open Go Go.VM
variable {G:GT}
theorem xN:VM.Enters prog 209:=.mk func209 rfl
section
variable {l:List Tok} {ops:List (Nm×Int)} {one:bE cP} {g:Nat} {e x:cP} {i j:Nat} {p:Nm×Int}
theorem a1K(h:(ops.find? λp=>aJ l i p.1)=none):eU l ops one (g+1) e i=.ok e i:=by rw[eU];simp only[h]
theorem xO(h:(ops.find? λp=>aJ l i p.1)=some p)(h1:one (i+1)=.ok x j):eU l ops one (g+1) e i=eU l ops one g (eA p.2 [e,x]) j:=by rw[eU];simp only[h,h1]
theorem vN{n m:Int}(h:(ops.find? λp=>aJ l i p.1)=some p)(h1:one (i+1)=.bad n m):eU l ops one (g+1) e i=.bad n m:=by rw[eU];simp only[h,h1]
end
section
variable {aD:List Tok->Nat->Nat->jA Pr} {l:List Tok} (hV:rP G aD l) (hN:∀i, -9223372036854775807<=(aH l i).n/\(aH l i).n<=9223372036854775807)
include hV hN
section
variable {ex:Nat->bE cP} {low:Nat} (hex:∀i,low<=i->i<l.length->tL G 41 [] l i (ex 0 i) jL) (h3:∀i,low<=i->i<l.length->tL G 164 [] l i (ex 3 i) jL) (h7:∀i,low<=i->i<l.length->tL G 245 [] l i (ex 7 i) jL) (kC:∀k,aB l 1 (ex k))
include hex h3 h7 kC
omit h3 in
theorem b4S(j0:Nat)(cN:low<=j0+1)(hi:j0<l.length):tL G 245 [] l j0 (a2t aL bF aD l ex j0) jL:=by
 have hl:=hV.len;have p0:=gQ hi;refine pX.bP func245 rfl ntmps245 rfl (by simp) ?_;intro Q Q0;unfold a2t at Q0;simp;cases hs:aJ l j0 [45]with
 |true=>have Q1:=Q0.uK hs;refine rdT hs p0 hV.fin λp1=>?_;obtain⟨j1,tM⟩:∃j,j0+1=j:=⟨_,rfl⟩;rw[tM]at Q1 p1|-;simp;refine uA Q1 p1 zE ((h7 j1 (by omega) p1.2)) (kC 7) λe j2 x2 Q2 p2=>?_;simp;refine jT.mk cZ (a8L 15 e) ?_;simp;exact Q2.ok _ j2 _ _ rfl (.inr rfl) (by simp)
 |false=>have Q0:=Q0.sK (by rw[hs];decide);refine rdF hs p0 ?_;simp;refine rdR Q0 (.mk func255 rfl) (d0j hV hN hex kC j0 (by omega) p0.2) λt j h=>?_;simp;exact Q0.ok t j _ _ h (.inr rfl) (by simp)
omit h3 in
theorem b9Z(i:Nat)(cN:low<=i+1)(hi:i<l.length):tL G 230 [] l i (a8p aL bF aD l ex i) jL:=by
 refine pX.bP func230 rfl ntmps230 rfl (by simp) ?_;intro Q Q0;unfold a8p yX at Q0;have hl:=hV.len;obtain⟨j0,rfl⟩:∃j0,j0=i:=⟨_,rfl⟩;have p0:=gQ hi;generalize kK:a2t aL bF aD l ex=one at *;have b2v:∀i,low<=i+1->i<l.length->tL G 245 [] l i (one i) jL:=by rw[<-kK];exact b4S hV hN hex h7 kC
 have b2w:aB l 1 one:=by
  first
   |assumption
   |(rw[<-kK]
     exact aB.unG hV.fin kC hV.oY.pred)
 simp;refine uA Q0 p0 zE ((b2v j0 (by omega) p0.2)) (b2w) λe j1 x1 Q1 p1=>?_;simp;refine SW.tK (ι:={x:cP×Nat×Nat//j1<=x.2.1/\x.2.1<l.length/\l.length<x.2.2+x.2.1/\eU l [([42],12),([100,105,118],13),([109,111,100],14)] one x.2.2 x.1 x.2.1=eU l [([42],12),([100,105,118],13),([109,111,100],14)] one (l.length+2) e j1}) (λ_=>[]) (λx=>[(2,.cells [.d (.int .i64 0),.d (.str []),.d (.int .i64 0),.d .aE,.d .aE,.d .aE,.d .aE]),(3,.cells ((zP x.1.1).map .d)),(100000,rdO l x.1.2.1)]) (λ_=>[]) (λx=>l.length-x.1.2.1) ⟨(e,j1,l.length+2),g3p _,p1.2,by simp only;omega,rfl⟩ (by simp) ?_;rintro⟨⟨e2,j2,g⟩,hb,vB,hg,hp⟩;simp only at hb vB hg hp;obtain⟨g,rfl⟩:∃k,g=k+1:=⟨g-1,by omega⟩;have p2:j1<=j2/\j2<l.length:=⟨hb,vB⟩;simp;cases s1:aJ l j2 [42]with
 |true=>
  have hf:([([42],12),([100,105,118],13),([109,111,100],14)].find? λp:Nm×Int=>aJ l j2 p.1)=some ([42],12):=by simp[s1]
  have hn:=aV hV.fin vB s1;refine pY (ds:=[.str [42]]) (d:=.d (.bool true)) kP (tQ l j2 [42] p2.2 (by omega) s1) ?_;simp;refine mK 2 [1] (.op 0 (.call [3,4,5] .none) (.call [0,3,4,5] .none)) (kV (one (j2+1))) (by kernel_rfl) (by kernel_rfl) ?_;simp;refine⟨?_,?_⟩
  all_goals
   refine rdZ (i:=j2+1) (ds:=[]) zE (b2v (j2+1) (by omega) hn) (λx j3 x3=>?_) (λn e hx=>?_)
   .have p3:=b2w (j2+1) x j3 hn x3;rw[xO hf x3]at hp;refine cS.mk ?_;simp;refine aC.mk cZ (oP 12 e2 x) ?_;simp;exact bD.mk ⟨(eA 12 [e2,x],j3,g),by simp only;omega,p3.2,by simp only;omega,hp⟩ (by simp) (by simp;omega)
   .rw[vN hf hx]at hp;simp
    first|exact Q1.bad _ _ _ hp.symm|exact λs=>Q1.bad _ _ s hp.symm
 |false=>
 refine rdF s1 p2 ?_;simp;cases s2:aJ l j2 [100,105,118]with
 |true=>
  have hf:([([42],12),([100,105,118],13),([109,111,100],14)].find? λp:Nm×Int=>aJ l j2 p.1)=some ([100,105,118],13):=by simp[s1,s2]
  have hn:=aV hV.fin vB s2;refine pY (ds:=[.str [100,105,118]]) (d:=.d (.bool true)) kP (tQ l j2 [100,105,118] p2.2 (by omega) s2) ?_;simp;refine mK 2 [1] (.op 0 (.call [3,4,5] .none) (.call [0,3,4,5] .none)) (kV (one (j2+1))) (by kernel_rfl) (by kernel_rfl) ?_;simp;refine⟨?_,?_⟩
  all_goals
   refine rdZ (i:=j2+1) (ds:=[]) zE (b2v (j2+1) (by omega) hn) (λx j3 x3=>?_) (λn e hx=>?_)
   .have p3:=b2w (j2+1) x j3 hn x3;rw[xO hf x3]at hp;refine cS.mk ?_;simp;refine aC.mk cZ (oP 13 e2 x) ?_;simp;exact bD.mk ⟨(eA 13 [e2,x],j3,g),by simp only;omega,p3.2,by simp only;omega,hp⟩ (by simp) (by simp;omega)
   .rw[vN hf hx]at hp;simp
    first|exact Q1.bad _ _ _ hp.symm|exact λs=>Q1.bad _ _ s hp.symm
 |false=>
 refine rdF s2 p2 ?_;simp;cases s3:aJ l j2 [109,111,100]with
 |true=>
  have hf:([([42],12),([100,105,118],13),([109,111,100],14)].find? λp:Nm×Int=>aJ l j2 p.1)=some ([109,111,100],14):=by simp[s1,s2,s3]
  have hn:=aV hV.fin vB s3;refine pY (ds:=[.str [109,111,100]]) (d:=.d (.bool true)) kP (tQ l j2 [109,111,100] p2.2 (by omega) s3) ?_;simp;refine mK 2 [1] (.op 0 (.call [3,4,5] .none) (.call [0,3,4,5] .none)) (kV (one (j2+1))) (by kernel_rfl) (by kernel_rfl) ?_;simp;refine⟨?_,?_⟩
  all_goals
   refine rdZ (i:=j2+1) (ds:=[]) zE (b2v (j2+1) (by omega) hn) (λx j3 x3=>?_) (λn e hx=>?_)
   .have p3:=b2w (j2+1) x j3 hn x3;rw[xO hf x3]at hp;refine cS.mk ?_;simp;refine aC.mk cZ (oP 14 e2 x) ?_;simp;exact bD.mk ⟨(eA 14 [e2,x],j3,g),by simp only;omega,p3.2,by simp only;omega,hp⟩ (by simp) (by simp;omega)
   .rw[vN hf hx]at hp;simp
    first|exact Q1.bad _ _ _ hp.symm|exact λs=>Q1.bad _ _ s hp.symm
 |false=>
 refine rdF s3 p2 ?_;have hf:([([42],12),([100,105,118],13),([109,111,100],14)].find? λp:Nm×Int=>aJ l j2 p.1)=none:=by simp[s1,s2,s3]
 have Q2:=hp.symm.trans (a1K hf);simp;exact Q1.ok _ j2 _ _ Q2 (.inr rfl) (by simp)
omit h3 in
theorem tV(i:Nat)(cN:low<=i+1)(hi:i<l.length):tL G 209 [] l i (pL aL bF aD l ex i) jL:=by
 refine pX.bP func209 rfl ntmps209 rfl (by simp) ?_;intro Q Q0;unfold pL yX at Q0;have hl:=hV.len;obtain⟨j0,rfl⟩:∃j0,j0=i:=⟨_,rfl⟩;have p0:=gQ hi;generalize kK:a8p aL bF aD l ex=one at *;have b2v:∀i,low<=i+1->i<l.length->tL G 230 [] l i (one i) jL:=by rw[<-kK];exact b9Z hV hN hex h7 kC
 have b2w:aB l 1 one:=by
  first
   |assumption
   |(rw[<-kK]
     exact aB.d6W hV.fin kC hV.oY.pred)
 simp;refine uA Q0 p0 (.mk func230 rfl) ((b2v j0 (by omega) p0.2)) (b2w) λe j1 x1 Q1 p1=>?_;simp;refine SW.tK (ι:={x:cP×Nat×Nat//j1<=x.2.1/\x.2.1<l.length/\l.length<x.2.2+x.2.1/\eU l [([43],10),([45],11)] one x.2.2 x.1 x.2.1=eU l [([43],10),([45],11)] one (l.length+2) e j1}) (λ_=>[]) (λx=>[(2,.cells [.d (.int .i64 0),.d (.str []),.d (.int .i64 0),.d .aE,.d .aE,.d .aE,.d .aE]),(3,.cells ((zP x.1.1).map .d)),(100000,rdO l x.1.2.1)]) (λ_=>[]) (λx=>l.length-x.1.2.1) ⟨(e,j1,l.length+2),g3p _,p1.2,by simp only;omega,rfl⟩ (by simp) ?_;rintro⟨⟨e2,j2,g⟩,hb,vB,hg,hp⟩;simp only at hb vB hg hp;obtain⟨g,rfl⟩:∃k,g=k+1:=⟨g-1,by omega⟩;have p2:j1<=j2/\j2<l.length:=⟨hb,vB⟩;simp;cases s1:aJ l j2 [43]with
 |true=>
  have hf:([([43],10),([45],11)].find? λp:Nm×Int=>aJ l j2 p.1)=some ([43],10):=by simp[s1]
  have hn:=aV hV.fin vB s1;refine pY (ds:=[.str [43]]) (d:=.d (.bool true)) kP (tQ l j2 [43] p2.2 (by omega) s1) ?_;simp;refine mK 2 [1] (.op 0 (.call [3,4,5] .none) (.call [0,3,4,5] .none)) (kV (one (j2+1))) (by kernel_rfl) (by kernel_rfl) ?_;simp;refine⟨?_,?_⟩
  all_goals
   refine rdZ (i:=j2+1) (ds:=[]) (.mk func230 rfl) (b2v (j2+1) (by omega) hn) (λx j3 x3=>?_) (λn e hx=>?_)
   .have p3:=b2w (j2+1) x j3 hn x3;rw[xO hf x3]at hp;refine cS.mk ?_;simp;refine aC.mk cZ (oP 10 e2 x) ?_;simp;exact bD.mk ⟨(eA 10 [e2,x],j3,g),by simp only;omega,p3.2,by simp only;omega,hp⟩ (by simp) (by simp;omega)
   .rw[vN hf hx]at hp;simp
    first|exact Q1.bad _ _ _ hp.symm|exact λs=>Q1.bad _ _ s hp.symm
 |false=>
 refine rdF s1 p2 ?_;simp;cases s2:aJ l j2 [45]with
 |true=>
  have hf:([([43],10),([45],11)].find? λp:Nm×Int=>aJ l j2 p.1)=some ([45],11):=by simp[s1,s2]
  have hn:=aV hV.fin vB s2;refine pY (ds:=[.str [45]]) (d:=.d (.bool true)) kP (tQ l j2 [45] p2.2 (by omega) s2) ?_;simp;refine mK 2 [1] (.op 0 (.call [3,4,5] .none) (.call [0,3,4,5] .none)) (kV (one (j2+1))) (by kernel_rfl) (by kernel_rfl) ?_;simp;refine⟨?_,?_⟩
  all_goals
   refine rdZ (i:=j2+1) (ds:=[]) (.mk func230 rfl) (b2v (j2+1) (by omega) hn) (λx j3 x3=>?_) (λn e hx=>?_)
   .have p3:=b2w (j2+1) x j3 hn x3;rw[xO hf x3]at hp;refine cS.mk ?_;simp;refine aC.mk cZ (oP 11 e2 x) ?_;simp;exact bD.mk ⟨(eA 11 [e2,x],j3,g),by simp only;omega,p3.2,by simp only;omega,hp⟩ (by simp) (by simp;omega)
   .rw[vN hf hx]at hp;simp
    first|exact Q1.bad _ _ _ hp.symm|exact λs=>Q1.bad _ _ s hp.symm
 |false=>
 refine rdF s2 p2 ?_;have hf:([([43],10),([45],11)].find? λp:Nm×Int=>aJ l j2 p.1)=none:=by simp[s1,s2]
 have Q2:=hp.symm.trans (a1K hf);simp;exact Q1.ok _ j2 _ _ Q2 (.inr rfl) (by simp)
omit h3 in
theorem c0a(j0:Nat)(cN:low<=j0+1)(hi:j0<l.length):tL G 181 [] l j0 (a0f aL bF aD l ex j0) jL:=by
 have hl:=hV.len;have p0:=gQ hi;refine pX.bP func181 rfl ntmps181 rfl (by simp) ?_;intro Q Q0;unfold a0f at Q0;simp;refine uA Q0 p0 xN ((tV hV hN hex h7 kC j0 (by omega) p0.2)) (aB.a6w hV.fin kC hV.oY.pred) λe j1 x1 Q1 p1=>?_;simp;have hc:=tV hV hN hex h7 kC;cases hs1:aJ l j1 [61,61]with
 |true=>
  have Q2:=Q1.uK hs1;refine rdT hs1 p1 hV.fin λp2=>?_;obtain⟨j2,vB⟩:∃j,j1+1=j:=⟨_,rfl⟩;rw[vB]at Q2 p2|-;simp;refine mK 2 [1] (.op 0 (.call [3,4,5] .none) (.call [0,3,4,5] .none)) (kV (pL aL bF aD l ex j2)) (by kernel_rfl) (by kernel_rfl) ?_;simp;refine⟨?_,?_⟩
  all_goals
   refine rT Q2 p2 xN ((tV hV hN hex h7 kC j2 (by omega) p2.2)) (aB.a6w hV.fin kC hV.oY.pred) λx j3 x3 Q3 p3=>cS.mk ?_;simp;refine aC.mk cZ (oP 16 e x) ?_;simp;exact Q3.ok _ j3 _ _ rfl (.inr rfl) (by simp)
 |false=>
 have Q1:=Q1.sK (by rw[hs1];decide);refine rdF hs1 p1 ?_;simp;cases hs2:aJ l j1 [33,61]with
 |true=>
  have Q2:=Q1.uK hs2;refine rdT hs2 p1 hV.fin λp2=>?_;obtain⟨j2,vB⟩:∃j,j1+1=j:=⟨_,rfl⟩;rw[vB]at Q2 p2|-;simp;refine mK 2 [1] (.op 0 (.call [3,4,5,6,7] .none) (.call [0,3,4,5,6,7] .none)) (kV (pL aL bF aD l ex j2)) (by kernel_rfl) (by kernel_rfl) ?_;simp;refine⟨?_,?_⟩
  all_goals
   refine rT Q2 p2 xN ((tV hV hN hex h7 kC j2 (by omega) p2.2)) (aB.a6w hV.fin kC hV.oY.pred) λx j3 x3 Q3 p3=>cS.mk ?_;simp;refine aC.mk cZ (oP 16 e x) ?_;simp;refine aC.mk cZ (a8L 21 (eA 16 [e,x])) ?_;simp;exact Q3.ok _ j3 _ _ rfl (.inr rfl) (by simp)
 |false=>
 have Q1:=Q1.sK (by rw[hs2];decide);refine rdF hs2 p1 ?_;simp;have hc:=tV hV hN hex h7 kC;cases hs3:aJ l j1 [60]with
 |true=>
  have Q2:=Q1.uK hs3;refine rdT hs3 p1 hV.fin λp2=>?_;obtain⟨j2,vB⟩:∃j,j1+1=j:=⟨_,rfl⟩;rw[vB]at Q2 p2|-;simp;refine mK 2 [1] (.op 0 (.call [3,4,5] .none) (.call [0,3,4,5] .none)) (kV (pL aL bF aD l ex j2)) (by kernel_rfl) (by kernel_rfl) ?_;simp;refine⟨?_,?_⟩
  all_goals
   refine rT Q2 p2 xN ((tV hV hN hex h7 kC j2 (by omega) p2.2)) (aB.a6w hV.fin kC hV.oY.pred) λx j3 x3 Q3 p3=>cS.mk ?_;simp;refine aC.mk cZ (oP 17 e x) ?_;simp;exact Q3.ok _ j3 _ _ rfl (.inr rfl) (by simp)
 |false=>
 have Q1:=Q1.sK (by rw[hs3];decide);refine rdF hs3 p1 ?_;simp;have hc:=tV hV hN hex h7 kC;cases hs4:aJ l j1 [60,61]with
 |true=>
  have Q2:=Q1.uK hs4;refine rdT hs4 p1 hV.fin λp2=>?_;obtain⟨j2,vB⟩:∃j,j1+1=j:=⟨_,rfl⟩;rw[vB]at Q2 p2|-;simp;refine mK 2 [1] (.op 0 (.call [3,4,5] .none) (.call [0,3,4,5] .none)) (kV (pL aL bF aD l ex j2)) (by kernel_rfl) (by kernel_rfl) ?_;simp;refine⟨?_,?_⟩
  all_goals
   refine rT Q2 p2 xN ((tV hV hN hex h7 kC j2 (by omega) p2.2)) (aB.a6w hV.fin kC hV.oY.pred) λx j3 x3 Q3 p3=>cS.mk ?_;simp;refine aC.mk cZ (oP 18 e x) ?_;simp;exact Q3.ok _ j3 _ _ rfl (.inr rfl) (by simp)
 |false=>
 have Q1:=Q1.sK (by rw[hs4];decide);refine rdF hs4 p1 ?_;simp;cases hs5:aJ l j1 [62]with
 |true=>
  have Q2:=Q1.uK hs5;refine rdT hs5 p1 hV.fin λp2=>?_;obtain⟨j2,vB⟩:∃j,j1+1=j:=⟨_,rfl⟩;rw[vB]at Q2 p2|-;simp;refine mK 1 [0] (.op 2 (.call [3,4,5] .none) (.call [2,3,4,5] .none)) (kV (pL aL bF aD l ex j2)) (by kernel_rfl) (by kernel_rfl) ?_;simp;refine⟨?_,?_⟩
  all_goals
   refine rT Q2 p2 xN ((tV hV hN hex h7 kC j2 (by omega) p2.2)) (aB.a6w hV.fin kC hV.oY.pred) λx j3 x3 Q3 p3=>cS.mk ?_;simp;refine aC.mk cZ (oP 17 x e) ?_;simp;exact Q3.ok _ j3 _ _ rfl (.inr rfl) (by simp)
 |false=>
 have Q1:=Q1.sK (by rw[hs5];decide);refine rdF hs5 p1 ?_;simp;cases hs6:aJ l j1 [62,61]with
 |true=>
  have Q2:=Q1.uK hs6;refine rdT hs6 p1 hV.fin λp2=>?_;obtain⟨j2,vB⟩:∃j,j1+1=j:=⟨_,rfl⟩;rw[vB]at Q2 p2|-;simp;refine mK 1 [0] (.op 2 (.call [3,4,5] .none) (.call [2,3,4,5] .none)) (kV (pL aL bF aD l ex j2)) (by kernel_rfl) (by kernel_rfl) ?_;simp;refine⟨?_,?_⟩
  all_goals
   refine rT Q2 p2 xN ((tV hV hN hex h7 kC j2 (by omega) p2.2)) (aB.a6w hV.fin kC hV.oY.pred) λx j3 x3 Q3 p3=>cS.mk ?_;simp;refine aC.mk cZ (oP 18 x e) ?_;simp;exact Q3.ok _ j3 _ _ rfl (.inr rfl) (by simp)
 |false=>
 have Q1:=Q1.sK (by rw[hs6];decide);refine rdF hs6 p1 ?_;simp;exact Q1.ok _ j1 _ _ rfl (.inr rfl) (by simp)
theorem c1B(j0:Nat)(cN:low<=j0+1)(hi:j0<l.length):tL G 164 [] l j0 (xK aL bF aD l ex j0) jL:=by
 have hl:=hV.len;have p0:=gQ hi;refine pX.bP func164 rfl ntmps164 rfl (by simp) ?_;intro Q Q0;unfold xK at Q0;simp;cases hs:aJ l j0 [33]with
 |true=>have Q1:=Q0.uK hs;refine rdT hs p0 hV.fin λp1=>?_;obtain⟨j1,tM⟩:∃j,j0+1=j:=⟨_,rfl⟩;rw[tM]at Q1 p1|-;simp;refine uA Q1 p1 (.mk func164 rfl) ((h3 j1 (by omega) p1.2)) (kC 3) λe j2 x2 Q2 p2=>?_;simp;refine jT.mk cZ (a8L 21 e) ?_;simp;exact Q2.ok _ j2 _ _ rfl (.inr rfl) (by simp)
 |false=>have Q0:=Q0.sK (by rw[hs];decide);refine rdF hs p0 ?_;simp;refine rdR Q0 (.mk func181 rfl) (c0a hV hN hex h7 kC j0 (by omega) p0.2) λt j h=>?_;simp;exact Q0.ok t j _ _ h (.inr rfl) (by simp)
theorem d4h(i:Nat)(cN:low<=i+1)(hi:i<l.length):tL G 130 [] l i (b3p aL bF aD l ex i) jL:=by
 refine pX.bP func130 rfl ntmps130 rfl (by simp) ?_;intro Q Q0;unfold b3p yX at Q0;have hl:=hV.len;obtain⟨j0,rfl⟩:∃j0,j0=i:=⟨_,rfl⟩;have p0:=gQ hi;generalize kK:xK aL bF aD l ex=one at *;have b2v:∀i,low<=i+1->i<l.length->tL G 164 [] l i (one i) jL:=by rw[<-kK];exact c1B hV hN hex h3 h7 kC
 have b2w:aB l 1 one:=by
  first
   |assumption
   |(rw[<-kK]
     exact aB.a8X hV.fin kC hV.oY.pred)
 simp;refine uA Q0 p0 (.mk func164 rfl) ((b2v j0 (by omega) p0.2)) (b2w) λe j1 x1 Q1 p1=>?_;simp;refine SW.tK (ι:={x:cP×Nat×Nat//j1<=x.2.1/\x.2.1<l.length/\l.length<x.2.2+x.2.1/\eU l [([38,38],19)] one x.2.2 x.1 x.2.1=eU l [([38,38],19)] one (l.length+2) e j1}) (λ_=>[]) (λx=>[(2,.cells [.d (.int .i64 0),.d (.str []),.d (.int .i64 0),.d .aE,.d .aE,.d .aE,.d .aE]),(3,.cells ((zP x.1.1).map .d)),(100000,rdO l x.1.2.1)]) (λ_=>[]) (λx=>l.length-x.1.2.1) ⟨(e,j1,l.length+2),g3p _,p1.2,by simp only;omega,rfl⟩ (by simp) ?_;rintro⟨⟨e2,j2,g⟩,hb,vB,hg,hp⟩;simp only at hb vB hg hp;obtain⟨g,rfl⟩:∃k,g=k+1:=⟨g-1,by omega⟩;have p2:j1<=j2/\j2<l.length:=⟨hb,vB⟩;simp;cases s1:aJ l j2 [38,38]with
 |true=>
  have hf:([([38,38],19)].find? λp:Nm×Int=>aJ l j2 p.1)=some ([38,38],19):=by simp[s1]
  have hn:=aV hV.fin vB s1;refine pY (ds:=[.str [38,38]]) (d:=.d (.bool true)) kP (tQ l j2 [38,38] p2.2 (by omega) s1) ?_;simp;refine mK 2 [1] (.op 0 (.call [3,4,5] .none) (.call [0,3,4,5] .none)) (kV (one (j2+1))) (by kernel_rfl) (by kernel_rfl) ?_;simp;refine⟨?_,?_⟩
  all_goals
   refine rdZ (i:=j2+1) (ds:=[]) (.mk func164 rfl) (b2v (j2+1) (by omega) hn) (λx j3 x3=>?_) (λn e hx=>?_)
   .have p3:=b2w (j2+1) x j3 hn x3;rw[xO hf x3]at hp;refine cS.mk ?_;simp;refine aC.mk cZ (oP 19 e2 x) ?_;simp;exact bD.mk ⟨(eA 19 [e2,x],j3,g),by simp only;omega,p3.2,by simp only;omega,hp⟩ (by simp) (by simp;omega)
   .rw[vN hf hx]at hp;simp
    first|exact Q1.bad _ _ _ hp.symm|exact λs=>Q1.bad _ _ s hp.symm
 |false=>
 refine rdF s1 p2 ?_;have hf:([([38,38],19)].find? λp:Nm×Int=>aJ l j2 p.1)=none:=by simp[s1]
 have Q2:=hp.symm.trans (a1K hf);simp;exact Q1.ok _ j2 _ _ Q2 (.inr rfl) (by simp)
theorem d0k:aB l 1 (b3p aL bF aD l ex):=aB.lvl hV.fin (aB.a8X hV.fin kC hV.oY.pred)
theorem d7U(i:Nat)(cN:low<=i+1)(hi:i<l.length):tL G 83 [] l i (c0V aL bF aD l ex i) jL:=by
 refine pX.bP func83 rfl ntmps83 rfl (by simp) ?_;intro Q Q0;unfold c0V yX at Q0;have aor:=d0k hV hN hex h3 h7 kC;have hl:=hV.len;obtain⟨j0,rfl⟩:∃j0,j0=i:=⟨_,rfl⟩;have p0:=gQ hi;generalize kK:b3p aL bF aD l ex=one at *;have b2v:∀i,low<=i+1->i<l.length->tL G 130 [] l i (one i) jL:=by rw[<-kK];exact d4h hV hN hex h3 h7 kC
 have b2w:aB l 1 one:=by
  first
   |assumption
   |(rw[<-kK]
     exact(λ_ _ _=>aor) hV.fin kC hV.oY.pred)
 simp;refine uA Q0 p0 (.mk func130 rfl) ((b2v j0 (by omega) p0.2)) (b2w) λe j1 x1 Q1 p1=>?_;simp;refine SW.tK (ι:={x:cP×Nat×Nat//j1<=x.2.1/\x.2.1<l.length/\l.length<x.2.2+x.2.1/\eU l [([124,124],20)] one x.2.2 x.1 x.2.1=eU l [([124,124],20)] one (l.length+2) e j1}) (λ_=>[]) (λx=>[(2,.cells [.d (.int .i64 0),.d (.str []),.d (.int .i64 0),.d .aE,.d .aE,.d .aE,.d .aE]),(3,.cells ((zP x.1.1).map .d)),(100000,rdO l x.1.2.1)]) (λ_=>[]) (λx=>l.length-x.1.2.1) ⟨(e,j1,l.length+2),g3p _,p1.2,by simp only;omega,rfl⟩ (by simp) ?_;rintro⟨⟨e2,j2,g⟩,hb,vB,hg,hp⟩;simp only at hb vB hg hp;obtain⟨g,rfl⟩:∃k,g=k+1:=⟨g-1,by omega⟩;have p2:j1<=j2/\j2<l.length:=⟨hb,vB⟩;simp;cases s1:aJ l j2 [124,124]with
 |true=>
  have hf:([([124,124],20)].find? λp:Nm×Int=>aJ l j2 p.1)=some ([124,124],20):=by simp[s1]
  have hn:=aV hV.fin vB s1;refine pY (ds:=[.str [124,124]]) (d:=.d (.bool true)) kP (tQ l j2 [124,124] p2.2 (by omega) s1) ?_;simp;refine mK 2 [1] (.op 0 (.call [3,4,5] .none) (.call [0,3,4,5] .none)) (kV (one (j2+1))) (by kernel_rfl) (by kernel_rfl) ?_;simp;refine⟨?_,?_⟩
  all_goals
   refine rdZ (i:=j2+1) (ds:=[]) (.mk func130 rfl) (b2v (j2+1) (by omega) hn) (λx j3 x3=>?_) (λn e hx=>?_)
   .have p3:=b2w (j2+1) x j3 hn x3;rw[xO hf x3]at hp;refine cS.mk ?_;simp;refine aC.mk cZ (oP 20 e2 x) ?_;simp;exact bD.mk ⟨(eA 20 [e2,x],j3,g),by simp only;omega,p3.2,by simp only;omega,hp⟩ (by simp) (by simp;omega)
   .rw[vN hf hx]at hp;simp
    first|exact Q1.bad _ _ _ hp.symm|exact λs=>Q1.bad _ _ s hp.symm
 |false=>
 refine rdF s1 p2 ?_;have hf:([([124,124],20)].find? λp:Nm×Int=>aJ l j2 p.1)=none:=by simp[s1]
 have Q2:=hp.symm.trans (a1K hf);simp;exact Q1.ok _ j2 _ _ Q2 (.inr rfl) (by simp)
end
end
end
end Go.Proofs.YtmfbjecjccipfaaGreatDoor
section
namespace Go.VM
open Go Go.RowKit
section
variable {P:Program} {G:GT} {st:St}
variable{all:Array Oper}
theorem tE{QQ:Exit->Act->World->Prop}{a a':Act}{w w':World}{o:Oper}{rest:List Oper}(hg:o.guard=none){v:Value}(dD:(execOp a.eval o).run P w=.ok (.value v) w'\/((execOp a.eval o).run P w=.ok .skip w'/\v=Go.undef))(ha:a.put o.dst v=a')(h:wpList P all QQ rest a' w'):wpList P all QQ (o::rest) a w:=by
 have hw:∀y,Region.wanted o y=true:=λy=>by unfold Region.wanted;rw[hg]
 unfold wpList;rw[if_pos (hw _)];left;unfold Oper.wp;rcases dD with h1|⟨h1,rfl⟩
 .rw[h1]
  show wpList P all QQ rest (a.put o.dst v) w'
  rw[ha];exact h
 .rw[h1]
  show wpList P all QQ rest (a.put o.dst Go.undef) w'
  rw[ha];exact h
def f3G(P:Program)(G:GT)(t:TypeId)(x d s:Tmp)(j:Nat)(parts:Array (Nat×Operand))(Q:St->Prop)(st:St):Prop:=
 ∃(d7V b2x d4i:Out)(k off:Nat),(s<st.tmps.length/\x<st.tmps.length/\d<st.tmps.length)/\a9V P G t parts st=some d7V/\b2Z P (some d) t (finish d7V.st (some x) d7V.v d7V.act)=some b2x/\tY P G t (.tmp d) (.tmp x) (finish b2x.st (some d) b2x.v b2x.act)=some d4i/\(finish b2x.st (some d) b2x.v b2x.act).eval G (.tmp d)=.ptr k off/\d4i.st.eval G (.tmp d)=.ptr k off/\(∃cs,getKey k (finish b2x.st (some d) b2x.v b2x.act).H=some (.cells cs))/\
  (∀(o:Oper),o.op=.build t parts->∀base R μ a w,Rel P G base R μ st a w->∃cs:Array Value,(execOp a.eval o).run P w=.ok (.value (.agg cs)) w/\cs[j]? =some (a.eval (.tmp s))/\cs.size=P.cellsOf t)/\(getKey k d4i.st.H).isSome=true/\Q {d4i.st with own:=addAlias (.t s) (.c k (off+j)) d4i.st.own}
theorem LW.e9F{t:TypeId}{x d s:Tmp}{j:Nat}{parts:Array (Nat×Operand)}{y0 y1 y2:TypeId}{p0 p1 p2:String}{f0 f1 f2:Array Edge}{Q:Exit->St->Prop}(gK:x≠s/\x≠d/\d≠s)(hct:P.cellsOf t≠0)(h:f3G P G t x d s j parts (λs'=>Q .normal s') st):
  LW P G all [⟨some x,.build t parts,y0,p0,f0,none⟩,⟨some d,.alloc t,y1,p1,f1,none⟩,⟨none,.store t (.tmp d) (.tmp x),y2,p2,f2,none⟩] st Q:=by
 unfold LW;intro base R μ a w hr QQ hk;obtain⟨d7V,b2x,d4i,k,off,k0,k1,kA,k2,k3,k4,⟨cs0,k5⟩,f7t,k6,k7⟩:=h;obtain⟨cs,e0,e1,e2⟩:=f7t ⟨some x,.build t parts,y0,p0,f0,none⟩ rfl base R μ a w hr;obtain⟨v,w0,R0,μ0,dD,hr1,hv1,ha1,hs1⟩:=c0t (o:=⟨some x,.build t parts,y0,p0,f0,none⟩) rfl k1 base R μ a w hr;rw[e0]at dD;have hv:v=.agg cs/\w0=w:=by
  rcases dD with dD|⟨dD,_⟩
  .cases dD;exact⟨rfl,rfl⟩
  .cases dD
 obtain⟨rfl,rfl⟩:=hv;have hr2:=hr1.put (dst:=some x) hv1 ha1;generalize ha:a.put (some x) (.agg cs)=a0 at hr2;have hsa:s<a.tmps.size:=by rw[hr.size];exact k0.1
 have hxa:x<a.tmps.size:=by rw[hr.size];exact k0.2.1
 have hda:d<a.tmps.size:=by rw[hr.size];exact k0.2.2
 have f7u:a0.eval (.tmp x)=.agg cs:=by rw[<-ha];exact eM hxa
 have es0:a0.eval (.tmp s)=a.eval (.tmp s):=by rw[<-ha];exact cK (Ne.symm gK.1)
 obtain⟨vA,w1,R1,μ1,f3H,hrA,hvA,haA,hsA⟩:=c0v (o:=⟨some d,.alloc t,y1,p1,f1,none⟩) rfl kA base R0 μ0 a0 w0 hr2;have hr2:=hrA.put (dst:=some d) hvA haA;generalize hb:a0.put (some d) vA=a1 at hr2;have f7v:s<a1.tmps.size:=by rw[<-hb,size_put, <- ha,size_put];exact hsa
 have es:a1.eval (.tmp s)=a.eval (.tmp s):=by rw[<-hb,cK (Ne.symm gK.2.2)];exact es0
 have hxv:a1.eval (.tmp x)=.agg cs:=by rw[<-hb,cK gK.2.1];exact f7u
 obtain⟨v2,w2,R2,μ2,a9x,hr3,_,_,hs2⟩:=a8m (o:=⟨none,.store t (.tmp d) (.tmp x),y2,p2,f2,none⟩) rfl k2 base R1 μ1 a1 w1 hr2;obtain⟨_,_,cur,T0,hh,hcz,_⟩:=hr2.mE k _ k5;have had:=hr2.eJ k3;have hcc:(Value.agg cs).cells=cs:=rfl;have k2':=k2;unfold tY at k2;rw[k3]at k2;split at k2;rotate_left
 .cases k2
 rename_i k' a6K ys hk' hys;cases hk';rw[k5]at k2;simp only at k2;split at k2;rotate_left
 .cases k2
 rename_i hcd;have hvx:xD ((finish b2x.st (some d) b2x.v b2x.act).eval G (.tmp x))=some ys:=hys;obtain⟨sU,hvc⟩:=a4s (hr2.eval (.tmp x)) hvx;rw[hxv,hcc]at sU hvc;have kK:∀u∈cs.toList,u.oneCell'=true:=λu hu=>by
  obtain⟨i,hi⟩:=g3q hu;have yJ:i<ys.length:=by rw[<-sU];simpa using (g3a.1 hi).1
  obtain⟨_,_,h2⟩:=hvc i ys[i] (by simp[yJ]);have:cs.getD i undef=u:=by
   have:cs[i]? =some u:=by simpa using hi
   simp[g3b,this]
  rw[this]at h2;exact h2
 have mO:off+cs.size<=cur.size:=by rw[hcz,sU];omega
 have pZ:=vX (P:=P) (a:=a1) (w:=w1) (o:=⟨none,.store t (.tmp d) (.tmp x),y2,p2,f2,none⟩) rfl had hh (by rw[hxv,hcc];exact e2) hct (by rw[hxv,hcc];exact kK) (by rw[hxv,hcc];exact mO);rw[hxv,hcc]at pZ;have hw2:w2=w1.setRow (μ1 k) (spl cur off cs.toList):=by
  rw[pZ]at a9x;rcases a9x with a9x|⟨a9x,_⟩
  .cases a9x
  .cases a9x;rfl
 have hμ:μ2 k=μ1 k:=by have h1:=hr3.eJ k4;rw[had]at h1;have h2:=(Addr.mk.inj (Option.some.inj (Value.pointer.inj h1))).1;exact h2.symm
 have rL:∀u,w2.cell? ⟨μ2 k,off+j,none⟩=some u->u=a1.eval (.tmp s):=λu hu=>by
  have hjl:j<cs.size:=(g3i.1 e1).1;rw[hμ,hw2,cell_of_row _ _ _ _ T0 (0,0) (setRow_heap w1 (μ1 k) cur _ T0 _ hh),b1M (by simpa using mO),if_neg (by omega),if_pos (by simp;omega),Nat.add_sub_cancel_left]at hu;have:cs.toList[j]? =some (a.eval (.tmp s)):=by simpa using e1
  rw[this]at hu;cases hu;exact es.symm
 have hr4:=hr3.alias (t:=s) (k:=k) (off:=off+j) (g3B.1 k6) f7v rL;refine tE rfl (.inl e0) ha ?_;refine tE rfl f3H hb ?_;refine tE (w':=w2) rfl (.inr ⟨by rw[hw2];exact pZ,rfl⟩) rfl ?_;unfold wpList;exact hk _ _ _ _ R2 μ2 k7 hr4 ((hs1.trans hsA).trans hs2)
end
end Go.VM
end
namespace Go.Proofs.YtmfbjecjccipfaaGreatDoor
section
open Go Go.VM
variable {G:GT}
variable{w:World}
theorem d7W{R:Nat->Nat->Prop}{v:Value}{es:List (List D)}(h:V R w v (.sl es)):∃ao n c,v=.slice ao n c:=by
 cases h with
 |emp ao cap=>exact⟨_,_,_,rfl⟩
 |sl b o n cap size es f h1 h2 h3 h4 h5 h6 h7=>exact⟨_,_,_,rfl⟩
theorem d4j{a:Act}{o:Oper}(ho:o.op=.build 43 #[(0,.const (.int .i64 25)),(1,.tmp 44),(3,.tmp 46)]){s:ByteArray}{a1:Option Addr}{n1 c1:Nat}(h2:a.eval (.tmp 44)=.string s)(h1:a.eval (.tmp 46)=.slice a1 n1 c1):
  (execOp a.eval o).run prog w=.ok (.value (.agg #[.int .i64 25,.string s,.int .i64 0,.slice a1 n1 c1,.slice none 0 0,.slice none 0 0,.slice none 0 0])) w:=by
 have hz:(prog.info? 43).bind (·.zero)=some (.agg #[.int .i64 0,.string ⟨#[]⟩,.int .i64 0,.slice none 0 0,.slice none 0 0,.slice none 0 0,.slice none 0 0]):=by kernel_rfl
 obtain⟨i,hi,hz⟩:=g3n.1 hz;simp[execOp,ho,Instr.build,zeroValue,typeInfo,hi,hz];rw[h1,h2]
 rfl
section
variable {α:Type} {Q:Exit->St->Prop} {l:List Tok} {i:Nat} {enc:α->DV} {e:TypeId} {r:jA α}
theorem f7w{f:FuncId}{ds:List D}{av:List DV}{st:St}{ls:List (Option VM.Loc)}{dst:Option Tmp}{KK:St->Prop}(he:VM.Enters prog f)(hc:RdO G f ds l i e r enc)(oB:∀a j,r=.ok a j->KK (bJ K1 dst st st.own (enc a) (rH l j) [(e,[.t 0])]))(a4y:∀n e,r=.bad n e->Q (.panic (a1C (rO n e))) (a3o st))(hk:∀a,aY K1 (enc a)=true/\bI K1 (enc a)=enc a:=by intro a;exact⟨rfl,rfl⟩)(hw:WkT av (.ptr 100000 0::ds.map .d):=by simp)(hH:getKey 100000 st.H=some (rdO l i):=by simp):uI prog G f av ls dst st KK Q (kV r):=by
 rw[<-c6N (l:=l) (enc:=enc) (Y:=λ_=>[]) (own:=[(e,[.t 0])]) r];refine uI.mk he hc K1 (λd H1 own1 hx=>?_) (λv hx=>?_) ?_ ?_ rfl rfl (λd H1 own1 hx=>?_) (λv hx=>?_)
 .cases r with
  |bad n e=>cases hx
  |ok a j=>cases hx;simp[aR,aY,bB,bA,eX,bM,getKey,(hk a).1]
 .simp[aR,aY,bB,bA,eX,bM,getKey]
 .simpa[aZ,bI,rk,kI]using hw
 .simp only[dE,rdO,List.append_nil,List.map_cons,List.map_nil,rk,if_true,dM,aZ,bI,WkH,and_true];exact⟨_,hH,by simp[WkO]⟩
 .cases r with
  |bad n e=>cases hx
  |ok a j=>cases hx;exact oB a j rfl
 .cases r with
  |bad n e=>cases hx;exact a4y n e rfl
  |ok a j=>cases hx
end
section
variable {aD:List Tok->Nat->Nat->jA Pr} {l:List Tok} (hV:rP G aD l) (hN:∀i, -9223372036854775807<=(aH l i).n/\(aH l i).n<=9223372036854775807)
include hV hN
section
variable {ex:Nat->bE cP} {low:Nat} (hex:∀i,low<=i->i<l.length->tL G 41 [] l i (ex 0 i) jL) (h3:∀i,low<=i->i<l.length->tL G 164 [] l i (ex 3 i) jL) (h7:∀i,low<=i->i<l.length->tL G 245 [] l i (ex 7 i) jL) (kC:∀k,aB l 1 (ex k))
include hex h3 h7 kC
omit hN hex h3 h7 in
theorem d4k(i:Nat)(ks:List cP)(j:Nat)(hi:i<l.length)(h:jB l ex i=.ok ks j):ks.length<=j:=by unfold jB at h;obtain⟨_,k1,h1,h⟩:=dC h;obtain⟨es,k2,h2,h⟩:=dC h;obtain⟨_,k3,h3,h⟩:=dC h;have a1:=aB.exp hV.fin _ _ i _ k1 hi h1;have a2:=vJ hV (one:=c7j ex) (λa p=>a.length<=p) (λa p b q hp ha hab=>⟨b8c hV kC a p b q hp ha hab,(b3y hV kC a p b q hp hab).2⟩) (λa p h=>by omega) _ _ _ _ _ a1.2 (by simp) h2;have a3:=aB.exp hV.fin _ _ k2 _ k3 a2.2 h3;cases h;omega
theorem d0l(j0:Nat)(cN:low<=j0+1)(hi:j0<l.length):tL G 41 [] l j0 (a3n aL bF aD l ex j0) jL:=by
 have hl:=hV.len;have p0:=gQ hi;refine pX.xV func41 rfl ntmps41 rfl (by simp) ?_;intro Q Q0;unfold a3n at Q0;refine SW.jC (SW.xk ?_);simp;refine SW.jC (SW.c9E ?_);refine SW.jC (SW.xk ?_);simp;cases s1:aJ l j0 [108,101,116]with
 |true=>have Q1:=Q0.uK s1;refine rdT s1 p0 hV.fin λp1=>?_;obtain⟨j1,tM⟩:∃j,j0+1=j:=⟨_,rfl⟩;rw[tM]at Q1 p1|-;simp;refine SW.a9y rfl ?_;refine SW.xk ?_;simp;refine rdR Q1 (.mk func77 rfl) (d4d hV hex kC j1 (by omega) p1.2) λt j h=>?_;simp;exact Q1.ok t j _ _ h (.inr rfl) (by simp)
 |false=>
 have Q0:=Q0.sK (by rw[s1];decide);refine rdF s1 p0 ?_;simp;refine SW.b4B rfl ?_;refine SW.jC (SW.xk ?_);simp;cases s2:aJ l j0 [105,102]with
 |true=>
  have Q1:=Q0.uK s2;refine rdT s2 p0 hV.fin λp1=>?_;obtain⟨j1,tM⟩:∃j,j0+1=j:=⟨_,rfl⟩;rw[tM]at Q1 p1|-;simp;refine SW.a9y rfl ?_;refine SW.xk ?_;simp;refine uA Q1 p1 cV ((hex j1 (by omega) p1.2)) (kC 0) λa j2 x2 Q2 p2=>?_;simp;refine eP Q2 p2 hV.fin λu3 j3 x3 Q3 p3=>?_;simp;refine uA Q3 p3 cV ((hex j3 (by omega) p3.2)) (kC 0) λb j4 x4 Q4 p4=>?_;simp;refine eP Q4 p4 hV.fin λu5 j5 x5 Q5 p5=>?_;simp;refine mK 3 [2] (.op 0 (.op 1 (.call [4,5,6] .none) (.call [1,4,5,6] .none)) (.op 1 (.op 0 (.call [4,5,6] .none) (.call [0,4,5,6] .none)) (.call [0,1,4,5,6] .none))) (kV (ex 0 j5)) (by kernel_rfl) (by kernel_rfl) ?_;simp
  repeat' apply And.intro
  all_goals
   refine rT Q5 p5 cV ((hex j5 (by omega) p5.2)) (kC 0) λc j6 x6 Q6 p6=>cS.mk ?_;simp;refine aC.mk cZ (d4b 8 a b c) ?_;simp;exact Q6.ok _ j6 _ _ rfl (.inr rfl) (by simp)
 |false=>
 have Q0:=Q0.sK (by rw[s2];decide);refine rdF s2 p0 ?_;simp;refine SW.b4B rfl ?_;refine SW.jC (SW.xk ?_);simp;cases s3:aJ l j0 [99,97,115,101]with
 |true=>have Q1:=Q0.uK s3;refine rdT s3 p0 hV.fin λp1=>?_;obtain⟨j1,tM⟩:∃j,j0+1=j:=⟨_,rfl⟩;rw[tM]at Q1 p1|-;simp;refine SW.a9y rfl ?_;refine SW.xk ?_;simp;refine rdR Q1 (.mk func79 rfl) (c7l hV hex kC j1 (by omega) p1.2) λt j h=>?_;simp;exact Q1.ok t j _ _ h (.inr rfl) (by simp)
 |false=>
 have Q0:=Q0.sK (by rw[s3];decide);refine rdF s3 p0 ?_;simp;refine SW.b4B rfl ?_;refine SW.jC (SW.xk ?_);simp;cases s4:aJ l j0 [102,117,110]with
 |true=>have Q1:=Q0.uK s4;refine rdT s4 p0 hV.fin λp1=>?_;obtain⟨j1,tM⟩:∃j,j0+1=j:=⟨_,rfl⟩;rw[tM]at Q1 p1|-;simp;refine SW.a9y rfl ?_;refine SW.xk ?_;simp;refine rdR Q1 (.mk func80 rfl) (c3E hV hex kC j1 (by omega) p1.2) λt j h=>?_;simp;exact Q1.ok t j _ _ h (.inr rfl) (by simp)
 |false=>
 have Q0:=Q0.sK (by rw[s4];decide);refine rdF s4 p0 ?_;simp;refine SW.b4B rfl ?_;refine SW.jC (SW.xk ?_);simp;cases s5:aJ l j0 [117,115,101]with
 |true=>
  have Q1:=Q0.uK s5;refine rdT s5 p0 hV.fin λp1=>?_;obtain⟨j1,tM⟩:∃j,j0+1=j:=⟨_,rfl⟩;rw[tM]at Q1 p1|-;simp;refine SW.a9y rfl ?_;refine SW.jC (SW.lw ?_);refine LW.at 1 1 (kV (bU aL l j1)) rfl ⟨_,rfl⟩ ?_;simp;refine rdZ (ds:=[]) dS (eH hV.kw l j1 p1.2 (by omega)) (λnm j2 x2=>?_) (λn e hx=>Q1.fail hx _);have Q2:=Q1.step x2;have p2:=aB.word hV.fin j1 nm j2 p1.2 x2;simp;refine LW.at 1 3 (kV (jB l ex j2)) rfl ⟨_,rfl⟩ ?_;simp;refine f7w a3A (b8d hV hex kC j2 (by omega) p2.2) (λks j3 x3=>?_) (λn e hx=>Q2.fail hx _);have Q3:=Q2.step x3;have p3:=aB.kZ hV.fin kC j2 ks j3 p2.2 x3;have hks:=d4k hV kC j2 ks j3 p2.2 x3;simp[bJ,aZ,bI,rk,dE,dM,bW,kU,jF,eN];refine LW.e9F (s:=46) (j:=3) (by decide) (by decide+kernel) ?_;refine⟨_,_,_,_,_,by simp,rfl,rfl,rfl,rfl,rfl,⟨_,rfl⟩,?_,rfl,?_⟩
  .intro o ho base R μ a w hr;obtain⟨ao,n1,c1,hs1⟩:=d7W (hr.pQ (x:=.tmp 46) rfl);have hs2:=(hr.pQ (x:=.tmp 44) rfl).vR;exact⟨_,d4j ho hs2 hs1,by rw[hs1];rfl,by kernel_rfl⟩
  refine SW.xk ?_;simp[addAlias];refine eP Q3 p3 hV.fin λu4 j4 x4 Q4 p4=>?_;simp;refine eV [0,2] 3 [] (.op 1 (.call [4,5,6,7] .none) (.call [1,4,5,6,7] .none)) (kV (ex 0 j4)) (by kernel_rfl) (by kernel_rfl) ?_;simp;refine⟨?_,?_⟩
  all_goals
   refine rT Q4 p4 cV ((hex j4 (by omega) p4.2)) (kC 0) λb j5 x5 Q5 p5=>cS.mk ?_;simp;refine cJ ⟨λx _=>by rw[bY];rfl,by omega⟩ ?_;simp;exact Q5.ok _ j5 _ _ rfl (.inr rfl) (by simp[bY])
 |false=>
 have Q0:=Q0.sK (by rw[s5];decide);refine rdF s5 p0 ?_;simp;refine SW.b4B rfl ?_;refine SW.xk ?_;simp;refine SW.xk ?_;simp;refine rdR Q0 (.mk func83 rfl) (d7U hV hN hex h3 h7 kC j0 (by omega) p0.2) λt j h=>?_;simp;exact Q0.ok t j _ _ h (.inr rfl) (by simp)
end
theorem c1C:∀n,(∀i,i<l.length->l.length<n+i->tL G 41 [] l i (uG aL bF aD l n 0 i) jL)/\(∀i,i<l.length->l.length<n+i->tL G 164 [] l i (uG aL bF aD l n 3 i) jL)/\(∀i,i<l.length->l.length<n+i->tL G 245 [] l i (uG aL bF aD l n 7 i) jL)
 |0=>⟨λi hi h=>by omega,λi hi h=>by omega,λi hi h=>by omega⟩
 |n+1=>by
  obtain⟨k0,k3,k7⟩:=c1C n;have kC:=aB.exF (kw:=aL) (andP:=bF) hV.fin hV.oY.pred n;refine⟨λi hi h=>?_,λi hi h=>?_,λi hi h=>?_⟩
  .exact d0l hV hN (ex:=uG aL bF aD l n) (low:=i+1) (λi' h1 h2=>k0 i' h2 (by omega)) (λi' h1 h2=>k3 i' h2 (by omega)) (λi' h1 h2=>k7 i' h2 (by omega)) kC i (g3p _) hi
  .exact c1B hV hN (ex:=uG aL bF aD l n) (low:=i+1) (λi' h1 h2=>k0 i' h2 (by omega)) (λi' h1 h2=>k3 i' h2 (by omega)) (λi' h1 h2=>k7 i' h2 (by omega)) kC i (g3p _) hi
  .exact b4S hV hN (ex:=uG aL bF aD l n) (low:=i+1) (λi' h1 h2=>k0 i' h2 (by omega)) (λi' h1 h2=>k7 i' h2 (by omega)) kC i (g3p _) hi
theorem a3C(i:Nat)(hi:i<l.length):tL G 41 [] l i (qD aL bF aD l i) jL:=(c1C hV hN _).1 i hi (by omega)
omit hN in
theorem b0F:aB l 1 (qD aL bF aD l):=aB.expr hV.fin hV.oY.pred
end
theorem gS:VM.Enters prog 74:=.mk func74 rfl
theorem mC:VM.Enters prog 125:=.mk func125 rfl
section
variable {aD:List Tok->Nat->Nat->jA Pr} {l:List Tok} (hV:vK G aD l)
include hV
omit hV in
theorem RfG.drop{α:Type}{f:FuncId}{ds:List D}{s:dR}{y:α×dR}{enc:α->DV}{own:List (TypeId×List VM.Loc)}(h:RfG G f ds l s y enc own):eG G f ds l s y enc:=CH.drop (own1:=own) h
section
variable {ex:Nat->bE cP} {ex':Nat->RM cP} {low:Nat} (hM:∀k,aK l (low+1) (ex k) (ex' k)) (ax:∀k,aB l 1 (ex k)) (h0:∀s,cO l s->(s.er=0->low+1<=s.pl)->eG G 74 [] l s (ex' 0 s) jL)
include hM ax h0
abbrev e6z(ex':Nat->RM cP)(out:List cP):RM (List cP):=do let e <- ex' 0;pure (out++[e])
theorem b4T(s0:dR)(hv:cO l s0)(cN:s0.er=0->low<=s0.pl):RfG G 124 [] l s0 (tC l ex' s0) (λes=>.d (.sl (es.map a1B))) [(43,[.t 0])]:=by
 have hl:=hV.len;have v0:=hv;refine eG.bP func124 rfl ntmps124 rfl ?_;intro Q Q0;unfold tC at Q0;simp;refine rfM Q0 v0 hV.fin λu1 s1 h1 Q1 p1 v1=>?_;have l1:s1.er=0->low+1<=s1.pl:=λh=>by have:=p1 h;have:=cN this.1;omega
 simp;refine a5G hV.fin [44] (e6z ex') (λa=>a.length) (λ_=>True) 4 (λa=>[(3,.d (.sl (a.map a1B)))]) (λ_ s=>rfH l s) (λ_=>[(43,[.t 3])]) (l.length+2) [] s1 (by omega) v1 rfl trivial (by simp) ?_ ?_
 .intro a s0 e0 i0 bs la _ R hR;have v0:cO l s0:=λ_=>i0;have l0:s0.er=0->low+1<=s0.pl:=λ_=>Nat.le_trans (l1 bs.1) bs.2;simp[e0];refine cT gS (h0 s0 v0 l0) (λe s1 h1=>?_);have p1:yH l 1 s0 s1:=(hM 0).oY (ax 0) v0 l0 h1;have v1:=cO.next p1;simp;refine jN (by first|omega|(simp[bY];omega)|exact⟨λx hx=>by obtain⟨y,_,rfl⟩:=g3u.1 hx;first|rfl|(rw[bY];rfl),by omega⟩|exact⟨rfl,by omega⟩) ?_;simp;refine cT cG (dO (by omega) [44] s1 v1) (λbh sh hh=>?_);simp;refine hR _ (a++[e]) s1 (by simp only[bK,h1];rfl) (by rw[hh];simp[bY]) (λh=>?_) (by simp) trivial;have:=(p1) h;omega
 ·
  intro a s2 m hm rZ la hJ v2 hy R;have hm':m=false\/(m=true/\ ¬s2.er=0):=by
   cases m
   .exact .inl rfl
   .rcases hm with h|h
    .cases h
    .exact .inr ⟨rfl,h⟩
  have Q2:=Q1.step (x:=oU l [44] (e6z ex') []) hy;rcases hm' with rfl|⟨rfl,h⟩
  all_goals
   first
    |simp[h]
    |simp
   refine rfM Q2 v2 hV.fin λu3 s3 h3 Q3 p3 v3=>?_;simp;exact Q3.ok _ _ (.inr rfl) (by simp)
theorem d0m(s:dR)(hv:cO l s)(cN:s.er=0->low<=s.pl):eG G 124 [] l s (tC l ex' s) (λes=>.d (.sl (es.map a1B))):=RfG.drop (b4T hV hM ax h0 s hv cN)
theorem c3G(s0:dR)(hn:∀i, -9223372036854775807<=(aH l i).n/\(aH l i).n<=9223372036854775807)(he:s0.er=0)(hv:s0.pl<l.length)(cN:low<=s0.pl):eG G 207 [] l s0 (c6O aL bF aD l ex' s0) jL:=by
 have hl:=hV.len;have v0:cO l s0:=λ_=>hv;have hs1:eG G 60 [.int .i64 1,.str [45]] l s0 _ _:=qF (by omega) 1 [45] s0 v0 (by omega);have hs3:eG G 60 [.int .i64 3,.str [41]] l s0 _ _:=qF (by omega) 3 [41] s0 v0 (by omega);have hp2:eG G 21 [.int .i64 2] l s0 _ _:=oW (by omega) 2 s0 v0 (by omega);have hnn: -9223372036854775807<=(gN l 2 s0).n/\(gN l 2 s0).n<=9223372036854775807:=by
  unfold gN;split
  .exact hn _
  .simp
 refine eG.xV func207 rfl ntmps207 rfl ?_;intro Q Q0;unfold c6O at Q0;refine SW.jC (SW.xk ?_);simp;obtain⟨c,hc⟩:∃c,(cF l 1 [45] s0&&(decide ((gN l 2 s0).kind=3)&&cF l 3 [41] s0))=c:=⟨_,rfl⟩;refine SW.jC (SW.b1Q [(16,.d (.bool c))] ([(2,.cells [.d (.int .i64 0),.d (.str []),.d (.int .i64 0),.d .aE,.d .aE,.d .aE,.d .aE])]++rfH l s0) [] (SW.xk ?_) (SW.xk ?_))
 .simp;refine cT bT hs1 (λb x hx=>?_);cases hx;rcases g3x (cF l 1 [45] s0)with w1|w1
  .rw[w1];simp;refine cT jJ hp2 (λT x hx=>?_);cases hx;generalize gN l 2 s0=T at hc|-;obtain⟨a,b,n,d⟩:=T;by_cases k3:a=3
   .simp[bL,k3];refine cT bT hs3 (λb x hx=>?_);cases hx;simp[<-hc,w1,k3]
   .simp[bL,k3];simp[<-hc,w1,k3]
  .rw[w1];simp[<-hc,w1]
 rw[hc]at Q0;cases c with
 |true=>
  have Q0:=Q0.uK rfl;have aG:s0.pl+2<l.length:=by
   simp only[g2Z,g3N]at hc;have h:=hc.2.1;unfold gN at h;split at h
   .rename_i h2;exact h2.2
   .cases h
  have hw:IntKind.i64.wrap ((s0.pl:Int)+4)=((s0.pl+4:Nat):Int):=by rw[wrap64 (by omega)];omega
  simp;refine cT jJ hp2 (λT x hx=>?_);cases hx;generalize gN l 2 s0=T at hnn Q0|-;obtain⟨a,b,n,d⟩:=T;simp only at hnn;have hwn:IntKind.i64.wrap (-n)= -n:=wrap64 (by omega);simp[bL,hw,hwn];exact Q0.ok _ _ (.inr rfl) (by simp)
 |false=>
  have Q0:=Q0.sK (by decide);simp;refine SW.xk ?_;simp;refine rfM Q0 v0 hV.fin λu1 s1 h1 Q1 p1 v1=>?_;have l1:s1.er=0->low+1<=s1.pl:=λh=>by have:=p1 h;omega
  simp;refine cT gS (h0 s1 v1 l1) (λe s2 h2=>?_);have Q2:=Q1.step h2;have p2:yH l 1 s1 s2:=(hM 0).oY (ax 0) v1 l1 h2;have v2:=cO.next p2;simp;refine cT cG (dO (by omega) [58] s2 v2) (λb3 s3 h3=>?_);have Q3:=Q2.step h3;have p3:=a2B hV.fin v2 h3;have v3:=cO.next p3;rcases oD hV.fin h3 with⟨_,rfl,_,_,_,_⟩|⟨_,rfl,_⟩
  .simp;refine mK 3 [2] (.op 0 (.op 1 (.call [4,5,6] .none) (.call [1,4,5,6] .none)) (.call [0,1,4,5,6] .none)) true (by kernel_rfl) (by kernel_rfl) ?_;simp;refine⟨⟨?_,?_⟩,?_⟩
   all_goals
    refine rfZ rK (a4K hV s3 v3) (λt s4 h4=>?_);have p4:=a4L hV v3 h4;have v4:=cO.next p4;rw[if_pos rfl]at Q3;have Q4:=Q3.step (show(wW aL bF aD l >>=λt=>pure {eA 26 [e]with types:=[t]}:RM cP) s3=(_,s4) by rw[bK,h4];rfl);refine cS.mk ?_;simp;refine rfM Q4 v4 hV.fin λu5 s5 h5 Q5 p5 v5=>?_;simp;exact Q5.ok _ _ (.inr rfl) (by simp[bY,cB])
  .simp;rw[if_neg (by decide)]at Q3;have Q3:=Q3.step (show(pure e:RM cP) s3=(e,s3) from rfl);refine rfM Q3 v3 hV.fin λu4 s4 h4 Q4 p4 v4=>?_;simp;exact Q4.ok _ _ (.inr rfl) (by simp)
end
end
def b3z(l:List Tok)(ex:RM cP):Nat->Nat->List cP->RM (List cP)
 |0,_,ks=>pure ks
 |g+1,i,ks=>do
  (if 0<i then aX l [44] else pure ())
  let e <- ex
  b3z l ex g (i+1) (ks++[e])
section
variable {aD:List Tok->Nat->Nat->jA Pr} {l:List Tok} (hV:vK G aD l)
include hV
section
variable {ex:Nat->bE cP} {ex':Nat->RM cP} {low:Nat} (hM:∀k,aK l (low+1) (ex k) (ex' k)) (ax:∀k,aB l 1 (ex k)) (h0:∀s,cO l s->(s.er=0->low+1<=s.pl)->eG G 74 [] l s (ex' 0 s) jL)
include hM ax h0
theorem a9K(op:Int)(n:Nat)(hn:n<=2)(i:Nat)(s0:dR)(hi:s0.pl=i+1)(v0:cO l s0)(hs:i<l.length)(cN:s0.er=0->low<=s0.pl):eG G 206 [.int .i64 op,.int .i64 n] l ⟨i,s0.er,s0.ln⟩ ((do
  aX l [40]
  let ks <- b3z l (ex' 0) n 0 []
  aX l [41]
  pure (eA op ks):RM cP) s0) jL:=by
 have hl:=hV.len;have hw:IntKind.i64.wrap ((i:Int)+1)=(s0.pl:Int):=by rw[wrap64 (by omega)];omega
 refine eG.bP func206 rfl ntmps206 rfl ?_;intro Q Q0;simp[hw];refine rfM Q0 v0 hV.fin λu1 s1 h1 Q1 p1 v1=>?_;have l1:s1.er=0->low+1<=s1.pl:=λh=>by have:=p1 h;have:=cN this.1;omega
 simp;obtain⟨Y,hY⟩:∃Y,b3z l (ex' 0) n 0 [] s1=Y:=⟨_,rfl⟩;have Q1:=Q1.step hY;refine SW.tK (ι:={x:Nat×List cP×dR//x.1<=n/\x.2.1.length=x.1/\cO l x.2.2/\(x.2.2.er=0->low+1<=x.2.2.pl)/\b3z l (ex' 0) (n-x.1) x.1 x.2.1 x.2.2=Y}) (λx=>[(8,.d (.int .i64 (x.1.1:Nat)))]) (λx=>(7,.cells [.d (.int .i64 op),.d (.str []),.d (.int .i64 0),.d (.sl (x.1.2.1.map a1B)),.d .aE,.d .aE,.d .aE])::(6,.cells [.d (.int .i64 0),.d (.str []),.d (.int .i64 0),.d .aE,.d .aE,.d .aE,.d .aE])::rfH l x.1.2.2) (λ_=>[(43,[.c 7 3])]) (λx=>n-x.1.1) ⟨(0,[],s1),by simp,rfl,v1,l1,hY⟩ (by simp) ?_;rintro⟨⟨k,ks,s⟩,hk,hks,v,lo,hy⟩;simp only at hk hks v lo hy;by_cases hkn:k<n
 .obtain⟨g,hg⟩:∃g,n-k=g+1:=⟨n-k-1,by omega⟩;rw[hg]at hy;unfold b3z at hy;have hwk:=bC (show k<9223372036854775807 by omega);have hgk:n-(k+1)=g:=by omega
  simp[hkn];by_cases hk0:0<k
  case' pos=>
   rw[if_pos hk0]at hy;simp[hk0];obtain⟨s1,rfl⟩:∃s1,s1=s:=⟨_,rfl⟩;have v1:=v;refine rfN [44] v1 hV.fin λu2 s2 h2 p2 v2=>?_;rw[bK,h2]at hy;have lo2:s2.er=0->low+1<=s2.pl:=λh=>by have:=p2 h;have:=lo this.1;omega
   simp
  case' neg=>
   rw[if_neg hk0]at hy;simp[hk0];obtain⟨s2,rfl⟩:∃s2,s2=s:=⟨_,rfl⟩;have v2:=v;have lo2:=lo
   replace hy:(ex' 0 >>=λe=>b3z l (ex' 0) g (k+1) (ks++[e])) s2=Y:=hy
  all_goals
   refine eV [0] 3 [2] (.op 1 (.call [4,5,6,7] .none) (.call [1,4,5,6,7] .none)) true (by kernel_rfl) (by kernel_rfl) ?_;simp;refine⟨?_,?_⟩
   all_goals
    refine rfZ gS (h0 s2 v2 lo2) (λe s3 h3=>?_);have p3:yH l _ s2 s3:=(hM 0).oY (ax 0) v2 lo2 h3;have v3:=cO.next p3;refine cS.mk ?_;simp
   all_goals
    refine cJ (by first|omega|(simp[bY];omega)|exact⟨λx hx=>by obtain⟨y,_,rfl⟩:=g3u.1 hx;first|rfl|(rw[bY];rfl),by omega⟩|exact⟨rfl,by omega⟩) ?_;simp[hwk];rw[bK,h3]at hy;exact bD.mk ⟨(k+1,ks++[e],s3),by simp only;omega,by simp[hks],v3,λh=>by have:=p3 h;have:=lo2 this.1;simp only;omega,by simp only;rw[hgk];exact hy⟩ (by simp[bY]) (by simp only;omega)
 .have f7x:k=n:=by omega
  subst f7x
  replace hy:(ks,s)=Y:=by
   rw[<-hy,Nat.sub_self]
   rfl
  subst hy;simp;obtain⟨s1,rfl⟩:∃s1,s1=s:=⟨_,rfl⟩;have v1:=v;refine rfM Q1 v1 hV.fin λu2 s2 h2 Q2 p2 v2=>?_;simp;exact Q2.ok _ _ (.inr rfl) (by simp[eA])
theorem c1D(op:Int)(i:Nat)(s0:dR)(hi:s0.pl=i+1)(v0:cO l s0)(hs:i<l.length)(cN:s0.er=0->low<=s0.pl):eG G 206 [.int .i64 op,.int .i64 1] l ⟨i,s0.er,s0.ln⟩ (b7t l ex' op s0) jL:=a9K hV hM ax h0 op 1 (by omega) i s0 hi v0 hs cN
theorem d4l(op:Int)(i:Nat)(s0:dR)(hi:s0.pl=i+1)(v0:cO l s0)(hs:i<l.length)(cN:s0.er=0->low<=s0.pl):eG G 206 [.int .i64 op,.int .i64 2] l ⟨i,s0.er,s0.ln⟩ (c3j l ex' op s0) jL:=a9K hV hM ax h0 op 2 (by omega) i s0 hi v0 hs cN
theorem c0c(s0:dR)(he:s0.er=0)(hv:s0.pl<l.length)(cN:low<=s0.pl)(hwt:(mR aL l 0 s0||uB l s0)=true):eG G 208 [] l s0 (b3t aL bF aD l ex' s0) jL:=by
 have hl:=hV.len;have v0:cO l s0:=λ_=>hv;have g1:eG G 60 [.int .i64 1,.str [91]] l s0 _ _:=qF (by omega) 1 [91] s0 v0 (by omega);have g2:eG G 60 [.int .i64 1,.str [40]] l s0 _ _:=qF (by omega) 1 [40] s0 v0 (by omega);refine eG.xV func208 rfl ntmps208 rfl ?_;intro Q Q0;refine SW.jC (SW.xk ?_);simp;refine SW.jC (SW.xk ?_);simp;obtain⟨op,qA⟩:∃op:Int,(if uB l s0 then 4 else 3)=op:=⟨_,rfl⟩;obtain⟨c,hc⟩:∃c,(!uB l s0&&(cF l 1 [91] s0||cF l 1 [40] s0))=c:=⟨_,rfl⟩;refine SW.b1Q [] ([(3,.cells [.d (.int .i64 op),.d (.str []),.d (.int .i64 0),.d .aE,.d .aE,.d .aE,.d .aE])]++[(2,.cells [.d (.int .i64 0),.d (.str []),.d (.int .i64 0),.d .aE,.d .aE,.d .aE,.d .aE])]++rfH l s0) [] (SW.xk ?_) ?_
 .simp;refine cT rC (sS (by omega) s0 v0) (λb x hx=>?_);cases hx;rcases g3x (uB l s0)with w|w
  all_goals
   rw[w]at qA|-;subst qA;simp
 simp;refine SW.b1Q [(4,.d (.bool c))] ([(3,.cells [.d (.int .i64 op),.d (.str []),.d (.int .i64 0),.d .aE,.d .aE,.d .aE,.d .aE])]++[(2,.cells [.d (.int .i64 0),.d (.str []),.d (.int .i64 0),.d .aE,.d .aE,.d .aE,.d .aE])]++rfH l s0) [] (SW.xk ?_) ?_
 .rcases g3x (uB l s0)with w|w
  .rw[w]at qA hc;subst qA;subst hc;simp
  .rw[w]at qA hc;subst qA;simp;refine cT bT g1 (λb x hx=>?_);cases hx;rcases g3x (cF l 1 [91] s0)with w1|w1
   .rw[w1]at hc|-;subst hc;simp
   .rw[w1]at hc|-;simp;refine cT bT g2 (λb x hx=>?_);cases hx;simp[<-hc]
 simp;refine SW.jC (SW.xk ?_);simp;refine cT dT (kJ (by omega) true s0 v0) (λnm s1 h1=>?_);have Q1:=Q0.eq (show b3t aL bF aD l ex' s0=b0v aL bF aD l ex' (uB l s0) c nm s1 by unfold b3t;rw[hc,h1])
 have p1:yH l 1 s0 s1:=tD hV.fin (λ_=>by unfold mR uB at hwt;simp only[g3l,g2Z,g3N]at hwt;omega) v0 h1
 have v1:=cO.next p1;unfold b0v at Q1;simp;obtain⟨ts,s2,h2⟩:∃ts s2,(zA (cF l 0 [91]) >>=λc=>if c then a5D aL bF aD l else pure []:RM (List Ty)) s1=(ts,s2):=⟨_,_,rfl⟩;have Q2:=Q1.step h2;have p2:yH l 0 s1 s2:=(aK.types hV.toRfH).d3G v1 h2;have v2:=cO.next p2;have l2:s2.er=0->low<=s2.pl:=λh=>by have:=(yH.tr p1 p2) h;omega
 refine SW.b1Q [] ([(3,.cells [.d (.int .i64 op),.d (.str nm),.d (.int .i64 0),.d .aE,.d .aE,.d .aE,.d (.sl (ts.map tyC))])]++[(2,.cells [.d (.int .i64 0),.d (.str []),.d (.int .i64 0),.d .aE,.d .aE,.d .aE,.d .aE])]++rfH l s2) [] (SW.xk ?_) (SW.xk ?_)
 .replace h2:(if cF l 0 [91] s1=true then a5D aL bF aD l else pure []:RM (List Ty)) s1=(ts,s2):=h2
  simp;refine cT bT (eC hV [91] s1 v1) (λb x hx=>?_);cases hx;rcases g3x (cF l 0 [91] s1)with w|w
  .rw[w,if_pos rfl]at h2;rw[w];simp;refine cT (.mk func229 rfl) (c7g hV s1 v1) (λb x hx=>?_);cases hx.symm.trans h2;simp
  .rw[w,if_neg (by decide)]at h2;cases h2;rw[w];simp
 have hA:=d0m hV hM ax h0 s2 v2 l2;cases c with
 |true=>simp;refine cT (.mk func124 rfl) hA (λks s3 h3=>?_);have Q3:=Q2.step (show(zA (λs=>true||cF l 0 [40] s) >>=λc=>if c then tC l ex' else pure []:RM (List cP)) s2=(ks,s3) from h3);simp;exact Q3.ok _ _ (.inr rfl) (by simp)
 |false=>
  simp;refine cT bT (eC hV [40] s2 v2) (λb x hx=>?_);cases hx;rcases g3x (cF l 0 [40] s2)with w|w
  .rw[w];simp;refine cT (.mk func124 rfl) hA (λks s3 h3=>?_);have Q3:=Q2.step (show(zA (λs=>false||cF l 0 [40] s) >>=λc=>if c then tC l ex' else pure []:RM (List cP)) s2=(ks,s3) by
    show(if (false||cF l 0 [40] s2)=true then _ else _:RM _) s2=_
    rw[w];exact h3)
   simp;exact Q3.ok _ _ (.inr rfl) (by simp[<-qA])
  .rw[w];simp;have Q3:=Q2.step (show(zA (λs=>false||cF l 0 [40] s) >>=λc=>if c then tC l ex' else pure []:RM (List cP)) s2=([],s2) by
    show(if (false||cF l 0 [40] s2)=true then _ else _:RM _) s2=_
    rw[w]
    rfl)
   exact Q3.ok _ _ (.inr rfl) (by simp[<-qA])
end
end
section
variable {aD:List Tok->Nat->Nat->jA Pr} {l:List Tok} (hV:vK G aD l)
include hV
variable{t:Nm}{s:dR}
theorem gT{s1:dR}{b:Bool}(h:wV l t s=(b,s1)):(jU l t s=true/\b=true/\s1=⟨s.pl+1,s.er,s.ln⟩/\cO l s1)\/(jU l t s=false/\b=false/\s1=s):=by
 have hx:=λhv=>a4J hV.fin (t:=t) (s:=s) (s1:=s1) (b:=b) hv h;unfold wV at h;split at h
 .rename_i hs;cases h;refine .inl ⟨hs,rfl,rfl,λh1=>?_⟩;exact(a4J hV.fin (t:=t) (s:=s) (s1:=⟨s.pl+1,s.er,s.ln⟩) (b:=true) (λ_=>by
   unfold jU gN at hs;by_cases h2:s.er=0/\s.pl+0<l.length
   .exact h2.2
   .rw[if_neg h2]at hs;simp at hs) (by unfold wV;rw[if_pos hs]) h1).2.2
 .rename_i hs;cases h;exact .inr ⟨Bool.eq_false_iff.2 hs,rfl,rfl⟩
theorem a0p(h:jU l t s=true):s.er=0/\s.pl+1<l.length:=by
 rcases gT hV (t:=t) (s:=s) (s1:=⟨s.pl+1,s.er,s.ln⟩) (b:=true) (by unfold wV;rw[if_pos h])with⟨_,_,_,h2⟩|⟨h2,_⟩
 .have he:s.er=0:=by
   by_cases he:s.er=0
   .exact he
   .rw[a3w he]at h;cases h
  exact⟨he,h2 he⟩
 .rw[h2]at h;cases h
section
variable {ex:Nat->bE cP} {ex':Nat->RM cP} {low:Nat} (hM:∀k,aK l (low+1) (ex k) (ex' k)) (ax:∀k,aB l 1 (ex k)) (h0:∀s,cO l s->(s.er=0->low+1<=s.pl)->eG G 74 [] l s (ex' 0 s) jL)
include hM ax h0
theorem d0n(hn:∀i, -9223372036854775807<=(aH l i).n/\(aH l i).n<=9223372036854775807)(s0:dR)(hv:cO l s0)(cN:s0.er=0->low<=s0.pl):eG G 180 [] l s0 (a8D aL bF aD l ex' s0) jL:=by
 have hl:=hV.len;have v0:=hv;have hp:eG G 21 [.int .i64 0] l s0 _ _:=oW (by omega) 0 s0 v0 (by omega);refine eG.bP func180 rfl ntmps180 rfl ?_;intro Q Q0;unfold a8D at Q0;simp;refine cT jJ hp (λT x hx=>?_);cases hx;obtain⟨T,hT⟩:∃T,gN l 0 s0=T:=⟨_,rfl⟩;rw[hT];rw[hT]at Q0;obtain⟨a,b,n,d⟩:=T;by_cases he:s0.er=0;rotate_left
 .have Q0:=Q0.sK he;simp[he,bL];exact Q0.ok _ _ (.inr rfl) (by simp[pW])
 have he':(s0.er=0)=True:=eq_true he;have Q0:=Q0.uK he;have h1:=hv he;have hw:=bC (show s0.pl<9223372036854775807 by omega);have lo:=cN he;simp[he',bL];by_cases k3:a=3
 .have Q0:=Q0.uK k3;simp[k3,hw];exact Q0.ok _ _ (.inr rfl) (by simp)
 have Q0:=Q0.sK k3;simp[k3];refine cT cQ (dJ (by omega) [116,114,117,101] s0 v0) (λb x hx=>?_);rcases gT hV hx with⟨w,rfl,rfl,_⟩|⟨w,rfl,rfl⟩
 .have Q0:=Q0.uK w;simp;exact Q0.ok _ _ (.inr rfl) (by simp)
 have Q0:=Q0.sK (by rw[w];decide);simp;refine cT cQ (dJ (by omega) [102,97,108,115,101] x v0) (λb x1 hx=>?_);rcases gT hV hx with⟨w,rfl,rfl,_⟩|⟨w,rfl,rfl⟩
 .have Q0:=Q0.uK w;simp;exact Q0.ok _ _ (.inr rfl) (by simp)
 have Q0:=Q0.sK (by rw[w];decide);simp;obtain⟨x,rfl⟩:∃x,x=x1:=⟨_,rfl⟩;have key:∀t,eG G 53 [.str t] l x (jU l t x,x) (λb=>.d (.bool b)):=λt=>tR (by omega) t x v0;refine cT oV (key [110,101,119]) (λb x1 hx=>?_);cases hx;rcases g3x (jU l [110,101,119] x)with w|w
 .have Q0:=Q0.uK w;rw[w];simp;refine cT (.mk func206 rfl) (c1D hV hM ax h0 22 x.pl ⟨x.pl+1,x.er,x.ln⟩ rfl (λ_=>(a0p hV w).2) h1 (λ_=>by simp only;omega)) (λe s2 h2=>?_);have Q0:=Q0.eq h2;simp;exact Q0.ok _ _ (.inr rfl) (by simp)
 have Q0:=Q0.sK (by rw[w];decide);rw[w];simp;refine cT oV (key [103,101,116]) (λb x1 hx=>?_);cases hx;rcases g3x (jU l [103,101,116] x)with w|w
 .have Q0:=Q0.uK w;rw[w];simp;refine cT (.mk func206 rfl) (c1D hV hM ax h0 23 x.pl ⟨x.pl+1,x.er,x.ln⟩ rfl (λ_=>(a0p hV w).2) h1 (λ_=>by simp only;omega)) (λe s2 h2=>?_);have Q0:=Q0.eq h2;simp;exact Q0.ok _ _ (.inr rfl) (by simp)
 have Q0:=Q0.sK (by rw[w];decide);rw[w];simp;refine cT oV (key [115,101,116]) (λb x1 hx=>?_);cases hx;rcases g3x (jU l [115,101,116] x)with w|w
 .have Q0:=Q0.uK w;rw[w];simp;refine cT (.mk func206 rfl) (d4l hV hM ax h0 24 x.pl ⟨x.pl+1,x.er,x.ln⟩ rfl (λ_=>(a0p hV w).2) h1 (λ_=>by simp only;omega)) (λe s2 h2=>?_);have Q0:=Q0.eq h2;simp;exact Q0.ok _ _ (.inr rfl) (by simp)
 have Q0:=Q0.sK (by rw[w];decide);rw[w];simp;refine cT bT (eC hV [40] x v0) (λb x1 hx=>?_);cases hx;rcases g3x (cF l 0 [40] x)with w|w
 .have Q0:=Q0.uK w;rw[w];simp;refine cT (.mk func207 rfl) (c3G hV hM ax h0 x hn he h1 lo) (λe s2 h2=>?_);have Q0:=Q0.eq h2;simp;exact Q0.ok _ _ (.inr rfl) (by simp)
 have Q0:=Q0.sK (by rw[w];decide);rw[w];simp;have hA:=λhw=>c0c hV hM ax h0 x he h1 lo hw;have hF:=xM (G:=G) (l:=l) (by omega) x v0;refine cT pT (vL hV x v0) (λb x1 hx=>?_);cases hx;rcases g3x (mR aL l 0 x)with w1|w1
 .have w2:(mR aL l 0 x||uB l x)=true:=by rw[w1];rfl
  have Q0:=Q0.uK w2;rw[w1];simp;refine cT (.mk func208 rfl) (hA w2) (λe s2 h2=>?_);have Q0:=Q0.eq h2;simp;exact Q0.ok _ _ (.inr rfl) (by simp)
 rw[w1];simp;refine cT rC (sS (by omega) x v0) (λb x1 hx=>?_);cases hx;rcases g3x (uB l x)with w|w
 .have w2:(mR aL l 0 x||uB l x)=true:=by rw[w,Bool.or_true]
  have Q0:=Q0.uK w2;rw[w];simp;refine cT (.mk func208 rfl) (hA w2) (λe s2 h2=>?_);have Q0:=Q0.eq h2;simp;exact Q0.ok _ _ (.inr rfl) (by simp)
 have Q0:=Q0.sK (by rw[w1,w];decide);rw[w];simp;refine cT sR hF (λu s2 h2=>?_);cases h2;simp;exact Q0.ok _ _ (.inr rfl) (by simp[pW])
end
end
section
variable {aD:List Tok->Nat->Nat->jA Pr} {l:List Tok} (hV:vK G aD l)
include hV
theorem c7o(n:Nat)(hn:n=1\/n=2\/n=4\/n=5)(s:dR)(hv:cO l s):eG G 163 [.int .i64 n] l s (wA l (vG n) s) (λo=>.d (.int .i64 o)):=by
 have hl:=hV.len;have hh:∀t,eG G 35 [.str t] l s (gJ l t s) (λb=>.d (.bool b)):=λt=>dO (by omega) t s hv;have hb:∀t,eG G 69 [.str t] l s (wV l t s) (λb=>.d (.bool b)):=λt=>dJ (by omega) t s hv;rcases hn with rfl|rfl|rfl|rfl
 .refine eG.bP func163 rfl ntmps163 rfl ?_;intro Q Q0;simp;refine cT cG (hh [124,124]) (λb s1 h1=>?_);rcases oD hV.fin h1 with⟨w,rfl,rfl,_,_,_⟩|⟨w,rfl,rfl⟩
  .have Q0:=Q0.eq (show _=((20:Int),_) by simp[wA,wX,vG,w,List.find?];rfl);simp;exact Q0.ok _ _ (.inr rfl) (by simp)
  .have Q0:=Q0.eq (show _=((0:Int),_) by simp[wA,wX,vG,w,List.find?];rfl);simp;exact Q0.ok _ _ (.inr rfl) (by simp)
 .refine eG.bP func163 rfl ntmps163 rfl ?_;intro Q Q0;simp;refine cT cG (hh [38,38]) (λb s1 h1=>?_);rcases oD hV.fin h1 with⟨w,rfl,rfl,_,_,_⟩|⟨w,rfl,rfl⟩
  .have Q0:=Q0.eq (show _=((19:Int),_) by simp[wA,wX,vG,w,List.find?];rfl);simp;exact Q0.ok _ _ (.inr rfl) (by simp)
  .have Q0:=Q0.eq (show _=((0:Int),_) by simp[wA,wX,vG,w,List.find?];rfl);simp;exact Q0.ok _ _ (.inr rfl) (by simp)
 .refine eG.bP func163 rfl ntmps163 rfl ?_;intro Q Q0;simp;refine cT cG (hh [43]) (λb s1 h1=>?_);rcases oD hV.fin h1 with⟨w,rfl,rfl,_,_,_⟩|⟨w,rfl,e⟩
  .have Q0:=Q0.eq (show _=((10:Int),_) by simp[wA,wX,vG,w,List.find?];rfl);simp;exact Q0.ok _ _ (.inr rfl) (by simp)
  .cases e;simp;refine cT cG (hh [45]) (λb s1 h1=>?_);rcases oD hV.fin h1 with⟨w2,rfl,rfl,_,_,_⟩|⟨w2,rfl,rfl⟩
   .have Q0:=Q0.eq (show _=((11:Int),_) by simp[wA,wX,vG,w,w2,List.find?];rfl);simp;exact Q0.ok _ _ (.inr rfl) (by simp)
   .have Q0:=Q0.eq (show _=((0:Int),_) by simp[wA,wX,vG,w,w2,List.find?];rfl);simp;exact Q0.ok _ _ (.inr rfl) (by simp)
 .refine eG.bP func163 rfl ntmps163 rfl ?_;intro Q Q0;simp;refine cT cG (hh [42]) (λb s1 h1=>?_);rcases oD hV.fin h1 with⟨w,rfl,rfl,_,_,_⟩|⟨w,rfl,e⟩
  .have Q0:=Q0.eq (show _=((12:Int),_) by simp[wA,wX,vG,w,List.find?];rfl);simp;exact Q0.ok _ _ (.inr rfl) (by simp)
  .cases e;simp;refine cT cQ (hb [100,105,118]) (λb s1 h1=>?_);rcases gT hV h1 with⟨w2,rfl,rfl,_⟩|⟨w2,rfl,e⟩
   .have Q0:=Q0.eq (show _=((13:Int),_) by simp[wA,wX,vG,w,w2,List.find?];rfl);simp;exact Q0.ok _ _ (.inr rfl) (by simp)
   .cases e;simp;refine cT cQ (hb [109,111,100]) (λb s1 h1=>?_);rcases gT hV h1 with⟨w3,rfl,rfl,_⟩|⟨w3,rfl,rfl⟩
    .have Q0:=Q0.eq (show _=((14:Int),_) by simp[wA,wX,vG,w,w2,w3,List.find?];rfl);simp;exact Q0.ok _ _ (.inr rfl) (by simp)
    .have Q0:=Q0.eq (show _=((0:Int),_) by simp[wA,wX,vG,w,w2,w3,List.find?];rfl);simp;exact Q0.ok _ _ (.inr rfl) (by simp)
section
variable {ex:Nat->bE cP} {ex':Nat->RM cP} {low:Nat} (hM:∀k,aK l (low+1) (ex k) (ex' k)) (ax:∀k,aB l 1 (ex k)) (h0:∀s,cO l s->(s.er=0->low+1<=s.pl)->eG G 74 [] l s (ex' 0 s) jL) (h7:∀s,cO l s->s.er=0->low+1<=s.pl->eG G 162 [] l s (ex' 7 s) jL)
include hM ax h0 h7
theorem b4U(hn:∀i, -9223372036854775807<=(aH l i).n/\(aH l i).n<=9223372036854775807)(s0:dR)(hv:cO l s0)(cN:s0.er=0->low<=s0.pl):eG G 162 [] l s0 (b4H aL bF aD l ex' s0) jL:=by
 have hl:=hV.len;have v0:=hv;have hA:=d0n hV hM ax h0 hn s0 v0 cN;refine eG.bP func162 rfl ntmps162 rfl ?_;intro Q Q0;unfold b4H at Q0;simp;refine cT cG (dO (by omega) [45] s0 v0) (λb s1 h1=>?_);rcases oD hV.fin h1 with⟨w,rfl,e1,e2,e3,v1⟩|⟨w,rfl,rfl⟩
 .have Q0:=Q0.uK w;rw[<-e1]at Q0;have f1:s1.er=0:=by rw[e1];exact e2
  have f2:=cN e2;simp;refine cT (.mk func162 rfl) (h7 s1 v1 f1 (by omega)) (λe s2 h2=>?_);have Q0:=Q0.step h2;simp;exact Q0.ok _ _ (.inr rfl) (by simp[bY])
 .have Q0:=Q0.sK (by rw[w];decide);simp;refine cT (.mk func180 rfl) hA (λe s2 h2=>?_);have Q0:=Q0.eq h2;simp;exact Q0.ok _ _ (.inr rfl) (by simp)
end
theorem d0o{ops:List (Nm×Bool×Int)}{s:dR}(h:wX l ops s≠0):s.er=0/\s.pl+1<l.length:=by
 unfold wX at h;split at h
 .exact absurd rfl h
 .rename_i p hp;have h2:(if p.2.1 then jU l p.1 s else cF l 0 p.1 s)=true:=List.find?_some (p:=λp:Nm×Bool×Int=>if p.2.1 then jU l p.1 s else cF l 0 p.1 s) hp;split at h2
  .exact a0p hV h2
  .exact a1V hV.fin h2
theorem a3D(n:Nat)(hn:n=1\/n=2\/n=4\/n=5){low:Nat}{one:bE cP}{one':RM cP}(h1:aK l low one one')(a1:aB l 1 one)(kK:∀s0,cO l s0->(s0.er=0->low<=s0.pl)->eG G 125 [.int .i64 (n+1:Nat)] l s0 (one' s0) jL)(s0:dR)(hv:cO l s0)(cN:s0.er=0->low<=s0.pl):eG G 125 [.int .i64 n] l s0 (b4I l (vG n) one' s0) jL:=by
 have hl:=hV.len;have hw:IntKind.i64.wrap ((n:Int)+1)=((n+1:Nat):Int):=by rcases hn with rfl|rfl|rfl|rfl<;>rfl
 have hn3:¬n=3:=by omega
 have hn6:¬n=6:=by omega
 have f7y:¬(n:Int)=3:=by omega
 have f7z:¬(n:Int)=6:=by omega
 have hI:=λs0 hv=>c7o hV n hn s0 hv;have v0:=hv;refine eG.bP func125 rfl ntmps125 rfl ?_;intro Q Q0;unfold b4I at Q0;simp[hn3,hn6,f7y,f7z,hw];refine cT mC (kK s0 v0 cN) (λe s1 h2=>?_);have Q0:=Q0.step h2;have p1:=h1.oY a1 v0 cN h2;have v1:=cO.next p1;obtain⟨Y,hY⟩:∃Y,zC l (vG n) one' (l.length+2) e s1=Y:=⟨_,rfl⟩;have Q0:=Q0.eq hY;simp;refine SW.tK (ι:={x:cP×dR×Nat//cO l x.2.1/\(x.2.1.er=0->low<=x.2.1.pl)/\(x.2.1.er=0->l.length<x.2.2+x.2.1.pl)/\zC l (vG n) one' x.2.2 x.1 x.2.1=Y}) (λ_=>[]) (λx=>[(4,.cells [.d (.int .i64 0),.d (.str []),.d (.int .i64 0),.d .aE,.d .aE,.d .aE,.d .aE]),(5,.cells ((zP x.1.1).map .d))]++rfH l x.1.2.1) (λ_=>[]) (λx=>if x.1.2.1.er=0 then l.length-x.1.2.1.pl+1 else 0) ⟨(e,s1,l.length+2),v1,λh=>by have:=p1 h;have:=cN this.1;simp only;omega,λh=>by simp only;omega,hY⟩ (by simp) ?_;rintro⟨⟨e2,s2,g⟩,v2,l2,g2,hy⟩;simp only at v2 l2 g2 hy;by_cases he:s2.er=0
 .have he':(s2.er=0)=True:=eq_true he;have hi2:=v2 he;have lo2:=l2 he;have hg2:=g2 he;obtain⟨g,rfl⟩:∃k,g=k+1:=⟨g-1,by omega⟩;unfold zC at hy;simp[he'];refine cT (.mk func163 rfl) (hI s2 v2) (λo s3 h3=>?_);unfold wA at h3;by_cases ho:wX l (vG n) s2=0
  .rw[if_pos ho]at h3;cases h3;rw[if_neg (λh=>h.2 ho)]at hy;cases hy;simp;exact Q0.ok _ _ (.inr rfl) (by simp)
  .rw[if_neg ho]at h3;obtain⟨rfl,e3⟩:=Prod.mk.inj h3;rw[if_pos ⟨he,ho⟩]at hy;have hnx:=d0o hV ho;generalize wX l (vG n) s2=o at ho hy|-;rw[e3]at hy;have v3:cO l s3:=λ_=>by rw[<-e3];exact hnx.2
   have q3:s3.pl=s2.pl+1:=by rw[<-e3]
   simp[ho];refine eV [0] 5 [2,3,4] (.op 1 (.call [6,7,8] .none) (.call [1,6,7,8] .none)) true (by kernel_rfl) (by kernel_rfl) ?_;simp[hw];refine⟨?_,?_⟩
   all_goals
    refine rfZ mC (kK s3 v3 (λ_=>by omega)) (λx s4 h4=>?_);have p4:=h1.oY a1 v3 (λ_=>by omega) h4;have v4:=cO.next p4;rw[h4]at hy;refine cS.mk ?_;simp;refine bD.mk ⟨(eA o [e2,x],s4,g),v4,λh=>?_,λh=>?_,hy⟩ (by simp[bY]) ?_
    .have:=p4 h;simp only;omega
    .have:=p4 h;simp only;omega
    .simp only[he,if_true];split
     .rename_i h;have:=p4 h;omega
     .omega
 .have hy:(e2,s2)=Y:=by
   rw[<-hy];cases g with
   |zero=>rfl
   |succ g=>unfold zC;rw[if_neg (λh=>he h.1)]
  subst hy;simp[he];exact Q0.ok _ _ (.inr rfl) (by simp)
end
section
variable {aD:List Tok->Nat->Nat->jA Pr} {l:List Tok} (hV:vK G aD l)
include hV
section
variable {ex:Nat->bE cP} {ex':Nat->RM cP} {low:Nat} (hM:∀k,aK l (low+1) (ex k) (ex' k)) (ax:∀k,aB l 1 (ex k))
include hM ax
theorem b8k(b5n:∀s0,cO l s0->(s0.er=0->low<=s0.pl)->eG G 125 [.int .i64 4] l s0 (a1g aL bF aD l ex' s0) jL)(s0:dR)(hv:cO l s0)(cN:s0.er=0->low<=s0.pl):eG G 161 [] l s0 (b7u aL bF aD l ex' s0) jL:=by
 have hl:=hV.len;have hS:=aK.a6w (kw:=aL) (andP:=bF) hV.toRfH hM ax;have aS:=aB.a6w (kw:=aL) (andP:=bF) hV.fin ax hV.oY.pred;have v0:=hv;refine eG.bP func161 rfl ntmps161 rfl ?_;intro Q Q0;unfold b7u at Q0;generalize a1g aL bF aD l ex'=S at b5n hS Q0;simp;refine cT mC (b5n s0 v0 cN) (λe s1 h1=>?_);have Q1:=Q0.step h1;have p1:=hS.oY aS v0 cN h1;have v1:=cO.next p1;simp;have hp:eG G 21 [.int .i64 0] l s1 _ _:=oW (by omega) 0 s1 v1 (by omega);refine cT jJ hp (λT x hx=>?_);cases hx;obtain⟨T,hT⟩:∃T,gN l 0 s1=T:=⟨_,rfl⟩;rw[hT];rw[hT]at Q1;by_cases k4:T.kind=4;rotate_left
 .have Q2:=Q1.sK k4
  clear Q1
  obtain⟨a,b,n,d⟩:=T;simp only at k4;simp[bL,k4];exact Q2.ok _ _ (.inr rfl) (by simp)
 have hnx:s1.er=0/\s1.pl+1<l.length:=by
  unfold gN at hT;by_cases h:s1.er=0/\s1.pl+0<l.length
  .rw[if_pos h]at hT;refine⟨h.1,qZ hV.fin (i:=s1.pl) h.2 ?_⟩;simp only[Nat.add_zero]at hT;rw[hT,k4];decide
  .rw[if_neg h]at hT;rw[<-hT]at k4;cases k4
 have Q1:=Q1.uK k4;obtain⟨a,b,n,d⟩:=T;simp only at k4;have lo1:=p1 hnx.1;have lo0:=cN lo1.1;obtain⟨s2,hs2⟩:∃s2:dR,(⟨s1.pl+1,s1.er,s1.ln⟩:dR)=s2:=⟨_,rfl⟩;have hw:IntKind.i64.wrap ((s1.pl:Int)+1)=(s2.pl:Int):=by rw[<-hs2,wrap64 (by omega)];simp
 have v2:cO l s2:=λ_=>by rw[<-hs2];exact hnx.2
 have q2:s2.pl=s1.pl+1:=by rw[<-hs2]
 have q3:s1.er=s2.er/\s1.ln=s2.ln:=by rw[<-hs2];exact⟨rfl,rfl⟩
 rw[hs2]at Q1;simp only at Q1;by_cases x1:b=[61,61]
 .have Q1:=Q1.uK x1;simp[bL,k4,x1,hw];refine cT (hH:=by simp[q3]) mC (b5n s2 v2 (λ_=>by omega)) (λx s3 h3=>?_);have Q3:=Q1.step h3;simp;exact Q3.ok _ _ (.inr rfl) (by simp[bY])
 have Q1:=Q1.sK x1;by_cases x2:b=[33,61]
 .have Q1:=Q1.uK x2;simp[bL,k4,x2,hw];refine cT (hH:=by simp[q3]) mC (b5n s2 v2 (λ_=>by omega)) (λx s3 h3=>?_);have Q3:=Q1.step h3;simp;exact Q3.ok _ _ (.inr rfl) (by simp[bY])
 have Q1:=Q1.sK x2;by_cases x3:b=[60]
 .have Q1:=Q1.uK x3;simp[bL,k4,x3,hw];refine cT (hH:=by simp[q3]) mC (b5n s2 v2 (λ_=>by omega)) (λx s3 h3=>?_);have Q3:=Q1.step h3;simp;exact Q3.ok _ _ (.inr rfl) (by simp[bY])
 have Q1:=Q1.sK x3;by_cases x4:b=[60,61]
 .have Q1:=Q1.uK x4;simp[bL,k4,x4,hw];refine cT (hH:=by simp[q3]) mC (b5n s2 v2 (λ_=>by omega)) (λx s3 h3=>?_);have Q3:=Q1.step h3;simp;exact Q3.ok _ _ (.inr rfl) (by simp[bY])
 have Q1:=Q1.sK x4;by_cases x5:b=[62]
 .have Q1:=Q1.uK x5;simp[bL,k4,x5,hw];refine cT (hH:=by simp[q3]) mC (b5n s2 v2 (λ_=>by omega)) (λx s3 h3=>?_);have Q3:=Q1.step h3;simp;exact Q3.ok _ _ (.inr rfl) (by simp[bY])
 have Q1:=Q1.sK x5;by_cases x6:b=[62,61]
 .have Q1:=Q1.uK x6;simp[bL,k4,x6,hw];refine cT (hH:=by simp[q3]) mC (b5n s2 v2 (λ_=>by omega)) (λx s3 h3=>?_);have Q3:=Q1.step h3;simp;exact Q3.ok _ _ (.inr rfl) (by simp[bY])
 have Q1:=Q1.sK x6;simp[bL,k4,x1,x2,x3,x4,x5,x6];exact Q1.ok _ _ (.inr rfl) (by simp)
section
variable (h0:∀s,cO l s->(s.er=0->low+1<=s.pl)->eG G 74 [] l s (ex' 0 s) jL) (h7:∀s,cO l s->s.er=0->low+1<=s.pl->eG G 162 [] l s (ex' 7 s) jL) (hn:∀i, -9223372036854775807<=(aH l i).n/\(aH l i).n<=9223372036854775807)
include h0 h7 hn
theorem c3I(s0:dR)(hv:cO l s0)(cN:s0.er=0->low<=s0.pl):eG G 125 [.int .i64 (6:Nat)] l s0 (b4H aL bF aD l ex' s0) jL:=by have hu:=b4U hV hM ax h0 h7 hn s0 hv cN;refine eG.bP func125 rfl ntmps125 rfl ?_;intro Q Q0;simp;refine cT (.mk func162 rfl) hu (λe s2 h2=>?_);have Q0:=Q0.eq h2;simp;exact Q0.ok _ _ (.inr rfl) (by simp)
theorem d4m(s:dR)(hv:cO l s)(cN:s.er=0->low<=s.pl):eG G 125 [.int .i64 4] l s (a1g aL bF aD l ex' s) jL:=by have hU:=aK.unG (kw:=aL) (andP:=bF) hV.toRfH hM ax;have aU:=aB.unG (kw:=aL) (andP:=bF) hV.fin ax hV.oY.pred;have aP:=aB.d6W (kw:=aL) (andP:=bF) hV.fin ax hV.oY.pred;exact a3D hV 4 (by decide) (aK.lvl (ops:=_) (ops':=vG 5) hU (by decide) hV.toRfH) aP (λs hv cN=>a3D hV 5 (by decide) hU aU (λs hv cN=>c3I hV hM ax h0 h7 hn s hv cN) s hv cN) s hv cN
section
variable (h3:∀s,cO l s->s.er=0->low+1<=s.pl->eG G 125 [.int .i64 3] l s (ex' 3 s) jL)
include h3
theorem c1E(s0:dR)(hv:cO l s0)(cN:s0.er=0->low<=s0.pl):eG G 125 [.int .i64 3] l s0 (b0w aL bF aD l ex' s0) jL:=by
 have hl:=hV.len;have hc:=b8k hV hM ax (d4m hV hM ax h0 h7 hn) s0 hv cN;have v0:=hv;refine eG.bP func125 rfl ntmps125 rfl ?_;intro Q Q0;unfold b0w at Q0;simp;refine cT cG (dO (by omega) [33] s0 v0) (λb s1 h1=>?_);rcases oD hV.fin h1 with⟨w,rfl,e1,e2,e4,v1⟩|⟨w,rfl,rfl⟩
 .have Q0:=Q0.uK w;rw[<-e1]at Q0;have f1:s1.er=0:=by rw[e1];exact e2
  have f2:=cN e2;simp;refine cT mC (h3 s1 v1 f1 (by omega)) (λe s2 h2=>?_);have Q0:=Q0.step h2;simp;exact Q0.ok _ _ (.inr rfl) (by simp[bY])
 .have Q0:=Q0.sK (by rw[w];decide);simp;refine cT (.mk func161 rfl) hc (λe s2 h2=>?_);have Q0:=Q0.eq h2;simp;exact Q0.ok _ _ (.inr rfl) (by simp)
theorem d7X(s:dR)(hv:cO l s)(cN:s.er=0->low<=s.pl):eG G 125 [.int .i64 1] l s (d7u aL bF aD l ex' s) jL:=by have hN:=aK.a8X (kw:=aL) (andP:=bF) hV.toRfH hM ax;have aN:=aB.a8X (kw:=aL) (andP:=bF) hV.fin ax hV.oY.pred;exact a3D hV 1 (by decide) (aK.lvl (ops:=[([38,38],19)]) (ops':=vG 2) hN (by decide) hV.toRfH) (aB.lvl hV.fin aN) (λs hv cN=>a3D hV 2 (by decide) hN aN (λs hv cN=>c1E hV hM ax h0 h7 hn h3 s hv cN) s hv cN) s hv cN
end
end
end
end
theorem b0G{α β:Type}(f:β->α){l:List Tok}{sep:Nm}{one:α->RM α}{one':β->RM β}(h:∀b s,one (f b) s=(f (one' b s).1,(one' b s).2)):∀g b s,pM l sep one g (f b) s=(f (pM l sep one' g b s).1,(pM l sep one' g b s).2)
 |0,b,s=>rfl
 |g+1,b,s=>by
  unfold pM;rw[h];split
  .split
   .exact b0G f h g _ _
   .rfl
  .rfl
theorem c7q{α:Type}{f g:α->List D}(h:∀a,WkL (f a) (g a))(l:List α):c2B (l.map f) (l.map g):=by
 refine⟨by simp,λi d d' h1 h2=>?_⟩;rw[g3j]at h1 h2;cases hx:l[i]? with
 |none=>rw[hx]at h1;cases h1
 |some a=>rw[hx]at h1 h2;cases h1;cases h2;exact h a
section
variable {aD:List Tok->Nat->Nat->jA Pr} {l:List Tok} (hV:vK G aD l)
include hV
abbrev f3J(aD:List Tok->Nat->Nat->jA Pr)(l:List Tok)(out:List (Nm×Ty)):RM (List (Nm×Ty)):=do
 let w <- eY aL l
 let b <- gJ l [58]
 let t <- (if b then wW aL bF aD l else pure jK)
 pure (out++[(w,t)])
abbrev d7Y(aD:List Tok->Nat->Nat->jA Pr)(l:List Tok)(out:List (Nm×Option Ty)):RM (List (Nm×Option Ty)):=do
 let w <- eY aL l
 let b <- gJ l [58]
 let t <- (if b then wW aL bF aD l >>=λt=>pure (some t) else pure none:RM (Option Ty))
 pure (out++[(w,t)])
def c7r(p:Nm×Option Ty):Nm×Ty:=(p.1,p.2.getD jK)
def c7s(p:Nm×Option Ty):List D:=match p.2 with
 |some t=>.str p.1::tyD t
 |none=>[.str p.1,.int .i64 0,.str [],.aE,.aE,.int .i64 0,.str [],.int .i64 0,.aE,.aE]
omit hV in
theorem e3L(a:List (Nm×Option Ty))(s:dR):f3J aD l (a.map c7r) s=((d7Y aD l a s).1.map c7r,(d7Y aD l a s).2):=by
 show(eY aL l >>=λw=>gJ l [58] >>=λb=>(if b then wW aL bF aD l else pure jK) >>=λt=>pure (a.map c7r++[(w,t)])) s=(((eY aL l >>=λw=>gJ l [58] >>=λb=>(if b then wW aL bF aD l >>=λt=>pure (some t) else pure none:RM (Option Ty)) >>=λt=>pure (a++[(w,t)])) s).1.map c7r,_)
 simp only[bK,a8C];cases (gJ l [58] (eY aL l s).2).1<;>simp[c7r,bK,a8C]
omit hV in
theorem e9G(a:List (Nm×Option Ty)):c2B (a.map c7s) ((a.map c7r).map a5t):=by rw[List.map_map];refine c7q (λp=>?_) a;obtain⟨w,t⟩:=p;cases t<;>simp[c7s,c7r,a3B,jK,eI,strs]
variable{a:List (Nm×Option Ty)}
omit hV in
theorem c1F{c:List D}(hc:c∈a.map c7s):(c.length==prog.cellsOf 176)=true:=by obtain⟨y,_,rfl⟩:=g3u.1 hc;unfold c7s;split<;>rfl
omit hV in
theorem c7t(h:a.length<=50000):((a.map c7s).length+1)*(prog.bytesOf 176+1)<=140737488355328:=by
 have hb:prog.bytesOf 176<=1000:=by decide
 rw[List.length_map]
 calc (a.length+1)*(prog.bytesOf 176+1)<=50001*1001:=Nat.mul_le_mul (by omega) (by omega)
  _<=140737488355328:=by decide
theorem c3J(s0:dR)(hv:cO l s0):eG G 123 [] l s0 (a2x aL bF aD l s0) (λps=>.d (.sl (ps.map a5t))):=by
 have hl:=hV.len;have v0:=hv;refine eG.bP func123 rfl ntmps123 rfl ?_;intro Q Q0;unfold a2x at Q0;simp;refine rfM Q0 v0 hV.fin λu1 s1 h1 Q1 p1 v1=>?_;simp;refine a5G hV.fin [44] (d7Y aD l) (λa=>a.length) (λ_=>True) 4 (λa=>[(3,.d (.sl (a.map c7s)))]) (λ_ s=>rfH l s) (λ_=>[(176,[.t 3])]) (l.length+2) [] s1 (by omega) v1 rfl trivial (by simp) ?_ ?_
 .intro a s0 e0 i0 bs la _ R hR;have v0:cO l s0:=λ_=>i0;simp[e0];refine rfL v0 mG (oX (by omega) s0 v0) (oZ hV.fin) λw s1 h1 p1 v1=>?_;simp;refine cT cG (dO (by omega) [58] s1 v1) (λb s2 h2=>?_);have p2:yH l 0 s1 s2:=a2B hV.fin v1 h2;have v2:=cO.next p2;cases b with
  |true=>
   simp;refine rfL v2 rK (a4K hV s2 v2) (a4L hV) λt s3 h3 p3 v3=>?_;simp;refine jN ⟨rfl,g3c.2 λc hc=>c1F hc,c7t (by omega)⟩ ?_;simp;have ho:d7Y aD l a s0=(a++[(w,some t)],s3):=by
    show(eY aL l >>=λw=>gJ l [58] >>=λb=>(if b then wW aL bF aD l >>=λt=>pure (some t) else pure none:RM (Option Ty)) >>=λt=>pure (a++[(w,t)])) s0=_
    rw[bK,h1,bK,h2,if_pos rfl,bK,bK,h3]
    rfl
   refine cT cG (dO (by omega) [44] s3 v3) (λbh sh hh=>?_);simp;refine hR _ (a++[(w,some t)]) s3 ho (by rw[hh];simp[c7s]) (λh=>?_) (by simp) trivial;have:=((p1.tr p2).tr p3) h;omega
  |false=>
   simp;refine jN ⟨rfl,g3c.2 λc hc=>c1F hc,c7t (by omega)⟩ ?_;simp;have ho:d7Y aD l a s0=(a++[(w,none)],s2):=by
    show(eY aL l >>=λw=>gJ l [58] >>=λb=>(if b then wW aL bF aD l >>=λt=>pure (some t) else pure none:RM (Option Ty)) >>=λt=>pure (a++[(w,t)])) s0=_
    rw[bK,h1,bK,h2]
    rfl
   refine cT cG (dO (by omega) [44] s2 v2) (λbh sh hh=>?_);simp;refine hR _ (a++[(w,none)]) s2 ho (by rw[hh];simp[c7s]) (λh=>?_) (by simp) trivial;have:=(p1.tr p2) h;omega
 ·
  intro a s2 m hm rZ la hJ v2 hy R;have hm':m=false\/(m=true/\ ¬s2.er=0):=by
   cases m
   .exact .inl rfl
   .rcases hm with h|h
    .cases h
    .exact .inr ⟨rfl,h⟩
  have Q2:=Q1.step (x:=oU l [44] (f3J aD l) []) ((b0G (List.map c7r) e3L _ [] s1).trans (by rw[hy]));have hwk:=e9G a;rcases hm' with rfl|⟨rfl,h⟩
  all_goals
   first
    |simp[h]
    |simp
   refine rfM Q2 v2 hV.fin λu3 s3 h3 Q3 p3 v3=>?_;simp;exact Q3.ok _ _ (.inr rfl) (by simpa using hwk)
section
variable {ex:Nat->bE cP} {ex':Nat->RM cP} {low:Nat} (hM:∀k,aK l (low+1) (ex k) (ex' k)) (ax:∀k,aB l 1 (ex k)) (h0:∀s,cO l s->(s.er=0->low+1<=s.pl)->eG G 74 [] l s (ex' 0 s) jL)
include hM ax h0
abbrev f3K(l:List Tok)(ex':Nat->RM cP)(out:List a9J):RM (List a9J):=do
 let c <- vZ l
 let b <- zA (cF l 0 [40])
 let ns <- (if b then rV aL l else pure []:RM (List Nm))
 aX l [45,62]
 let b <- ex' 0
 pure (out++[(c,ns,b)])
abbrev b3A:=Nm×Option (List Nm)×cP
omit hV hM ax h0 in
abbrev d7Z(l:List Tok)(ex':Nat->RM cP)(out:List b3A):RM (List b3A):=do
 let c <- vZ l
 let b <- zA (cF l 0 [40])
 let ns <- (if b then rV aL l >>=λns=>pure (some ns) else pure none:RM (Option (List Nm)))
 aX l [45,62]
 let b <- ex' 0
 pure (out++[(c,ns,b)])
def c7u(p:b3A):a9J:=(p.1,p.2.1.getD [],p.2.2)
def d0q(p:b3A):List D:=.str p.1::(match p.2.1 with
 |some ns=>.sl (strs ns)
 |none=>.aE)::zP p.2.2
omit hV hM ax h0 in
theorem e3M(a:List b3A)(s:dR):f3K l ex' (a.map c7u) s=((d7Z l ex' a s).1.map c7u,(d7Z l ex' a s).2):=by
 show(vZ l >>=λc=>zA (cF l 0 [40]) >>=λb=>(if b then rV aL l else pure []:RM (List Nm)) >>=λns=>aX l [45,62] >>=λ_=>ex' 0 >>=λb=>pure (a.map c7u++[(c,ns,b)])) s=(((vZ l >>=λc=>zA (cF l 0 [40]) >>=λb=>(if b then rV aL l >>=λns=>pure (some ns) else pure none:RM (Option (List Nm))) >>=λns=>aX l [45,62] >>=λ_=>ex' 0 >>=λb=>pure (a++[(c,ns,b)])) s).1.map c7u,_)
 simp only[bK,a8C];cases (zA (cF l 0 [40]) (vZ l s).2).1<;>simp[c7u,bK,a8C]
omit hV hM ax h0 in
theorem e9H(a:List b3A):c2B (a.map d0q) ((a.map c7u).map b1K):=by rw[List.map_map];refine c7q (λp=>?_) a;obtain⟨w,t,e⟩:=p;cases t<;>simp[d0q,c7u,a8M,strs]
theorem d0r(s0:dR)(hv:cO l s0)(cN:s0.er=0->low<=s0.pl):eG G 122 [] l s0 (b2c aL l ex' s0) (λps=>.d (.sl (ps.map b1K))):=by
 have hl:=hV.len;have v0:=hv;refine eG.bP func122 rfl ntmps122 rfl ?_;intro Q Q0;unfold b2c at Q0;simp;refine rfM Q0 v0 hV.fin λu1 s1 h1 Q1 p1 v1=>?_;have l1:s1.er=0->low+1<=s1.pl:=λh=>by have:=p1 h;have:=cN this.1;omega
 simp;refine a5G hV.fin [59] (d7Z l ex') (λa=>a.length) (λ_=>True) 4 (λa=>[(3,.d (.sl (a.map d0q)))]) (λ_ s=>rfH l s) (λ_=>[(143,[.t 3])]) (l.length+2) [] s1 (by omega) v1 rfl trivial (by simp) ?_ ?_
 .intro a s0 e0 i0 bs la _ R hR;have v0:cO l s0:=λ_=>i0;have l0:s0.er=0->low+1<=s0.pl:=λ_=>Nat.le_trans (l1 bs.1) bs.2;simp[e0];refine cT rC (sS (by omega) s0 v0) (λb x hx=>?_);cases hx;simp;refine cT dT (kJ (by omega) (uB l s0) s0 v0) (λc s1 h1=>?_);have h1:vZ l s0=(c,s1):=h1;have p1:yH l 1 s0 s1:=tD hV.fin (λhb=>by unfold uB at hb;simp only[g3N]at hb;omega) v0 h1
  have v1:=cO.next p1;simp;refine cT bT (eC hV [40] s1 v1) (λb x hx=>?_);cases hx;rcases g3x (cF l 0 [40] s1)with w|w
  .rw[w];simp;refine cT (.mk func72 rfl) (b4R hV s1 v1) (λns s2 h2=>?_);have p2:yH l 1 s1 s2:=(aK.words hV.toRfH).e3x (aB.words hV.fin) v1 h2;have v2:=cO.next p2;simp;refine rfN [45,62] v2 hV.fin λu3 s3 h3 p3 v3=>?_;have l3:s3.er=0->low+1<=s3.pl:=λh=>by have:=(yH.tr (yH.tr p1 p2) p3) h;have:=l0 this.1;omega
   simp;refine cT gS (h0 s3 v3 l3) (λe s4 h4=>?_);have p4:yH l 1 s3 s4:=(hM 0).oY (ax 0) v3 l3 h4;have v4:=cO.next p4;simp;refine jN (by first|omega|(simp[d0q];omega)|exact⟨λx hx=>by obtain⟨y,_,rfl⟩:=g3u.1 hx;rfl,by omega⟩) ?_;simp;have ho:d7Z l ex' a s0=(a++[(c,some ns,e)],s4):=by
    show(vZ l >>=λc=>zA (cF l 0 [40]) >>=λb=>(if b then rV aL l >>=λns=>pure (some ns) else pure none:RM (Option (List Nm))) >>=λns=>aX l [45,62] >>=λ_=>ex' 0 >>=λb=>pure (a++[(c,ns,b)])) s0=_
    rw[bK,h1]
    show((if cF l 0 [40] s1 then rV aL l >>=λns=>pure (some ns) else pure none:RM (Option (List Nm))) >>=λns=>aX l [45,62] >>=λ_=>ex' 0 >>=λb=>pure (a++[(c,ns,b)])) s1=_
    have hN:(rV aL l >>=λns=>pure (some ns):RM (Option (List Nm))) s1=(some ns,s2):=by
     rw[bK,h2]
     rfl
    rw[w,if_pos rfl,bK,hN]
    show(aX l [45,62] >>=λ_=>ex' 0 >>=λb=>pure (a++[(c,some ns,b)])) s2=_
    rw[bK,h3,bK,h4]
    rfl
   refine cT cG (dO (by omega) [59] s4 v4) (λbh sh hh=>?_);simp;refine hR _ (a++[(c,some ns,e)]) s4 ho (by rw[hh];simp[d0q]) (λh=>?_) (by simp) trivial;have:=(((p1.tr p2).tr p3).tr p4) h;omega
  .rw[w];simp;refine rfN [45,62] v1 hV.fin λu3 s3 h3 p3 v3=>?_;have l3:s3.er=0->low+1<=s3.pl:=λh=>by have:=(yH.tr p1 p3) h;have:=l0 this.1;omega
   simp;refine cT gS (h0 s3 v3 l3) (λe s4 h4=>?_);have p4:yH l 1 s3 s4:=(hM 0).oY (ax 0) v3 l3 h4;have v4:=cO.next p4;simp;refine jN (by first|omega|(simp[d0q];omega)|exact⟨λx hx=>by obtain⟨y,_,rfl⟩:=g3u.1 hx;rfl,by omega⟩) ?_;simp;have ho:d7Z l ex' a s0=(a++[(c,none,e)],s4):=by
    show(vZ l >>=λc=>zA (cF l 0 [40]) >>=λb=>(if b then rV aL l >>=λns=>pure (some ns) else pure none:RM (Option (List Nm))) >>=λns=>aX l [45,62] >>=λ_=>ex' 0 >>=λb=>pure (a++[(c,ns,b)])) s0=_
    rw[bK,h1]
    show((if cF l 0 [40] s1 then rV aL l >>=λns=>pure (some ns) else pure none:RM (Option (List Nm))) >>=λns=>aX l [45,62] >>=λ_=>ex' 0 >>=λb=>pure (a++[(c,ns,b)])) s1=_
    rw[w,if_neg (by decide)]
    show(aX l [45,62] >>=λ_=>ex' 0 >>=λb=>pure (a++[(c,none,b)])) s1=_
    rw[bK,h3,bK,h4]
    rfl
   refine cT cG (dO (by omega) [59] s4 v4) (λbh sh hh=>?_);simp;refine hR _ (a++[(c,none,e)]) s4 ho (by rw[hh];simp[d0q]) (λh=>?_) (by simp) trivial;have:=((p1.tr p3).tr p4) h;omega
 ·
  intro a s2 m hm rZ la hJ v2 hy R;have hm':m=false\/(m=true/\ ¬s2.er=0):=by
   cases m
   .exact .inl rfl
   .rcases hm with h|h
    .cases h
    .exact .inr ⟨rfl,h⟩
  have Q2:=Q1.step (x:=oU l [59] (f3K l ex') []) ((b0G (List.map c7u) e3M _ [] s1).trans (by rw[hy]));have hwk:=e9H a;rcases hm' with rfl|⟨rfl,h⟩
  all_goals
   first
    |simp[h]
    |simp
   refine rfM Q2 v2 hV.fin λu3 s3 h3 Q3 p3 v3=>?_;simp;exact Q3.ok _ _ (.inr rfl) (by simpa using hwk)
theorem d4n(s0:dR)(hv:cO l s0)(cN:s0.er=0->low+1<=s0.pl):eG G 121 [] l s0 (b7v aL bF aD l ex' s0) jL:=by
 have hl:=hV.len;have v0:=hv;refine eG.xV func121 rfl ntmps121 rfl ?_;intro Q Q0;unfold b7v at Q0;refine SW.jC (SW.xk ?_);simp;refine SW.jC (SW.xk ?_);simp;refine rfG Q0 v0 mG (oX (by omega) s0 v0) (oZ hV.fin) λnm s1 h1 Q1 p1 v1=>?_;simp;obtain⟨b,s2,h2⟩:∃b s2,gJ l [58] s1=(b,s2):=⟨_,_,rfl⟩;have Q2:=Q1.step h2;have p2:yH l 0 s1 s2:=a2B hV.fin v1 h2;have v2:=cO.next p2;obtain⟨ts,s3,h3⟩:∃ts s3,(if b=true then wW aL bF aD l >>=λt=>pure [t] else pure []:RM (List Ty)) s2=(ts,s3):=⟨_,_,rfl⟩;have Q3:=Q2.step h3;have p3:yH l 0 s2 s3:=by
  intro h;cases b with
  |true=>
   obtain⟨t,s',ht⟩:∃t s',wW aL bF aD l s2=(t,s'):=⟨_,_,rfl⟩;rw[if_pos rfl,bK,ht]at h3;cases h3;have:=a4L hV v2 ht h;refine⟨this.1,?_,this.2.2⟩
   show s2.pl+0<=s'.pl
   omega
  |false=>rw[if_neg (by decide)]at h3;cases h3;exact⟨h,g3p _,v2 h⟩
 have v3:=cO.next p3;refine SW.b1Q [] ([(3,.cells [.d (.int .i64 7),.d (.str nm),.d (.int .i64 0),.d .aE,.d .aE,.d .aE,.d (.sl (ts.map tyC))]),(2,.cells [.d (.int .i64 0),.d (.str []),.d (.int .i64 0),.d .aE,.d .aE,.d .aE,.d .aE])]++rfH l s3) [] (SW.xk ?_) (SW.xk ?_)
 .simp;refine cT cG (dO (by omega) [58] s1 v1) (λb2 x hx=>?_);cases hx.symm.trans h2;cases b with
  |true=>rw[if_pos rfl]at h3;simp;refine cT rK (a4K hV s2 v2) (λt x hx=>?_);rw[bK,hx]at h3;cases h3;simp[cB]
  |false=>rw[if_neg (by decide)]at h3;cases h3;simp
 simp;refine rfM Q3 v3 hV.fin λu4 s4 h4 Q4 p4 v4=>?_;have l4:s4.er=0->low+1<=s4.pl:=λh=>by have:=(yH.tr (yH.tr (yH.tr p1 p2) p3) p4) h;have:=cN this.1;omega
 simp;refine cT gS (h0 s4 v4 l4) (λa s5 h5=>?_);have Q5:=Q4.step h5;have p5:yH l 1 s4 s5:=(hM 0).oY (ax 0) v4 l4 h5;have v5:=cO.next p5;simp;refine cT oV (tR (by omega) [105,110] s5 v5) (λc x hx=>?_);cases hx;simp;refine cT dT (kJ (by omega) (jU l [105,110] s5) s5 v5) (λu6 s6 h6=>?_);have Q6:=Q5.step (x:=yA l [105,110]) h6;have p6:=a0o hV.fin v5 h6;have v6:=cO.next p6;have l6:s6.er=0->low+1<=s6.pl:=λh=>by have:=(yH.tr p5 p6) h;have:=l4 this.1;omega
 simp;refine mK 2 [1] (.op 0 (.call [3,4,5] .none) (.call [0,3,4,5] .none)) true (by kernel_rfl) (by kernel_rfl) ?_;simp;refine⟨?_,?_⟩
 all_goals
  refine rfZ gS (h0 s6 v6 l6) (λc s7 h7=>?_);have Q7:=Q6.step h7;refine cS.mk ?_;simp;exact Q7.ok _ _ (.inr rfl) (by simp[bY])
end
end
section
variable {β:Type} {Q:Exit->St->Prop} {l:List Tok} {s:dR} {enc:β->DV} {o:TypeId}
theorem f7A{f:FuncId}{ds:List D}{av:List DV}{y:β×dR}{st:St}{ls:List (Option VM.Loc)}{dst:Option Tmp}{all:Array Oper}{ops:List Oper}{k:List XI}(he:VM.Enters prog f)(hc:RfG G f ds l s y enc [(o,[.t 0])])(oB:∀a s1,y=(a,s1)->XK prog G (.ops all ops::k) .normal (bJ K1 dst st st.own (enc a) (rfH l s1) [(o,[.t 0])]) Q)(hk:∀a,aY K1 (enc a)=true/\bI K1 (enc a)=enc a:=by intro a;exact⟨rfl,rfl⟩)(hw:WkT av (.ptr 100000 0::ds.map .d):=by simp)(hH:getKey 100000 st.H=some (rfO l s):=by simp):eB prog G f av ls dst all ops k st Q:=by
 refine eB.mk (uI.mk (x:=.inl (enc y.1,rfH l y.2,[(o,[.t 0])])) he hc K1 (λd H1 own1 hx=>?_) (λv hx=>by cases hx) ?_ ?_ rfl rfl (λd H1 own1 hx=>?_) (λv hx=>by cases hx) (rest:=st.own))
 .cases hx;simp[aR,aY,bB,bA,eX,bM,getKey,(hk y.1).1]
 .simpa[aZ,bI,rk,kI]using hw
 .simp only[dE,rfO,List.map_cons,List.map_nil,rk,if_true,dM,aZ,bI,WkH,and_true];exact⟨_,hH,by simp[WkO]⟩
 .cases hx;exact oB y.1 y.2 rfl
end
theorem b0H{β:Type}{l:List Tok}{sep:Nm}{one:List β->RM (List β)}(h:∀a s,(one a s).1.length<=a.length+1):∀g a s,(pM l sep one g a s).1.length<=a.length+g
 |0,a,s=>g3p _
 |g+1,a,s=>by
  unfold pM;have h1:=h a s;split
  .split
   .have:=b0H (l:=l) (sep:=sep) h g (one a s).1 ⟨(one a s).2.pl+1,(one a s).2.er,(one a s).2.ln⟩;omega
   .omega
  .simp
theorem d0s{l:List Tok}{ex':Nat->RM cP}(s:dR):(tC l ex' s).1.length<=l.length+2:=by
 have h:∀s,(oU l [44] (λout:List cP=>do let e <- ex' 0;pure (out++[e])) [] s).1.length<=0+(l.length+2):=λs=>b0H (λa s=>by simp[bK]) _ _ _;have h2:=h (aX l [40] s).2
 show(oU l [44] (λout:List cP=>do let e <- ex' 0;pure (out++[e])) [] (aX l [40] s).2).1.length<=_
 omega
section
variable {aD:List Tok->Nat->Nat->jA Pr} {l:List Tok} (hV:vK G aD l)
include hV
omit hV in
theorem b0I(s:dR)(hs:s.er≠0):eG G 74 [] l s (pW,s) jL:=by obtain⟨i,e,ln⟩:=s;refine eG.bP func74 rfl ntmps74 rfl ?_;intro Q Q0;simp[hs];exact Q0.ok _ _ (.inr rfl) (by simp[pW])
theorem c3K{s s1:dR}{ps:List (Nm×Ty)}(hv:cO l s)(h:a2x aL bF aD l s=(ps,s1)):yH l 0 s s1:=by have H:=hV.toRfH;have hM:aK l 0 (aQ l [[40]] >>=λ_=>dI l [44] (λout=>bU aL l >>=λw=>cD l [58] >>=λb=>(if b then mP aL bF aD l else pure jK) >>=λt=>pure (out++[(w,t)])) [] >>=λps=>aQ l [[41]] >>=λ_=>pure ps) (a2x aL bF aD l):=aK.mus (aK.b0 (aK.list (λout=>aK.b0 aK.word λw=>aK.b0 aK.b2h λb=>aK.b0 (aK.ite (aK.typ H) (aK.bZ _)) λt=>aK.bZ _) _) λps=>aK.mus (aK.bZ _));exact hM.d3G hv h
section
variable {ex:Nat->bE cP} {ex':Nat->RM cP} {low:Nat} (hM:∀k,aK l (low+1) (ex k) (ex' k)) (ax:∀k,aB l 1 (ex k)) (h0:∀s,cO l s->(s.er=0->low+1<=s.pl)->eG G 74 [] l s (ex' 0 s) jL) (h7:∀s,cO l s->s.er=0->low+1<=s.pl->eG G 162 [] l s (ex' 7 s) jL) (hn:∀i, -9223372036854775807<=(aH l i).n/\(aH l i).n<=9223372036854775807) (h3:∀s,cO l s->s.er=0->low+1<=s.pl->eG G 125 [.int .i64 3] l s (ex' 3 s) jL)
include hM ax h0 h7 hn h3
theorem c7v(s0:dR)(hv:cO l s0)(cN:s0.er=0->low<=s0.pl):eG G 74 [] l s0 (b7w aL bF aD l ex' s0) jL:=by
 have hl:=hV.len;by_cases he:s0.er=0;rotate_left
 .have:=b0I (G:=G) (l:=l) s0 he;unfold b7w
  rwa[if_neg he]
 have he':(s0.er=0)=True:=eq_true he;have lo:=cN he;have v0:=hv;refine eG.bP func74 rfl ntmps74 rfl ?_;intro Q Q0;unfold b7w at Q0;have Q0:=Q0.uK he;simp[he'];refine cT cQ (dJ (by omega) [108,101,116] s0 v0) (λb s1 hx=>?_);have hx:=gT hV hx;have a2P:jU l [108,101,116] s0=true->s1=⟨s0.pl+1,s0.er,s0.ln⟩->s1.er=0->low+1<=s1.pl:=λ_ h _=>by rw[h];exact Nat.succ_le_succ lo
 rcases hx with⟨w,rfl,e1,v1⟩|⟨w,rfl,e1⟩
 .have l1:=a2P w e1;have Q1:=Q0.uK w;rw[<-e1]at Q1;simp;refine cT (.mk func121 rfl) (d4n hV hM ax h0 s1 v1 l1) (λe s2 h2=>?_);have Q2:=Q1.eq h2;simp;exact Q2.ok _ _ (.inr rfl) (by simp)
 have Q0:=Q0.sK (by rw[w];decide);rw[e1];simp
 clear a2P e1
 refine cT cQ (dJ (by omega) [105,102] s0 v0) (λb s1 hx=>?_);have hx:=gT hV hx;have a2P:jU l [105,102] s0=true->s1=⟨s0.pl+1,s0.er,s0.ln⟩->s1.er=0->low+1<=s1.pl:=λ_ h _=>by rw[h];exact Nat.succ_le_succ lo
 rcases hx with⟨w,rfl,e1,v1⟩|⟨w,rfl,e1⟩
 .have l1:=a2P w e1;have Q1:=Q0.uK w;rw[<-e1]at Q1;simp;refine cT gS (h0 s1 v1 l1) (λa s2 h2=>?_);have Q2:=Q1.step h2;have p2:yH l 1 s1 s2:=(hM 0).oY (ax 0) v1 l1 h2;have v2:=cO.next p2;have l2:s2.er=0->low+1<=s2.pl:=λh=>by have:=p2 h;have:=l1 this.1;omega
  simp;refine cT oV (tR (by omega) [116,104,101,110] s2 v2) (λc x hx=>?_);cases hx;simp;refine cT dT (kJ (by omega) (jU l [116,104,101,110] s2) s2 v2) (λu3 s3 h3=>?_);have Q3:=Q2.step (x:=yA l [116,104,101,110]) h3;have p3:=a0o hV.fin v2 h3;have v3:=cO.next p3;have l3:s3.er=0->low+1<=s3.pl:=λh=>by have:=p3 h;have:=l2 this.1;omega
  simp;refine cT gS (h0 s3 v3 l3) (λb s4 h4=>?_);have Q4:=Q3.step h4;have p4:yH l 1 s3 s4:=(hM 0).oY (ax 0) v3 l3 h4;have v4:=cO.next p4;have l4:s4.er=0->low+1<=s4.pl:=λh=>by have:=p4 h;have:=l3 this.1;omega
  simp;refine cT oV (tR (by omega) [101,108,115,101] s4 v4) (λc x hx=>?_);cases hx;simp;refine cT dT (kJ (by omega) (jU l [101,108,115,101] s4) s4 v4) (λu5 s5 h5=>?_);have Q5:=Q4.step (x:=yA l [101,108,115,101]) h5;have p5:=a0o hV.fin v4 h5;have v5:=cO.next p5;have l5:s5.er=0->low+1<=s5.pl:=λh=>by have:=p5 h;have:=l4 this.1;omega
  simp;refine mK 3 [2] (.op 0 (.op 1 (.call [4,5,6] .none) (.call [1,4,5,6] .none)) (.op 1 (.op 0 (.call [4,5,6] .none) (.call [0,4,5,6] .none)) (.call [0,1,4,5,6] .none))) true (by kernel_rfl) (by kernel_rfl) ?_;simp;refine⟨⟨?_,?_⟩,⟨?_,?_⟩,?_⟩
  all_goals
   refine rfZ gS (h0 s5 v5 l5) (λc s6 h6=>?_);have Q6:=Q5.step h6;refine cS.mk ?_;simp;exact Q6.ok _ _ (.inr rfl) (by simp[bY])
 have Q0:=Q0.sK (by rw[w];decide);rw[e1];simp
 clear a2P e1
 refine cT cQ (dJ (by omega) [99,97,115,101] s0 v0) (λb s1 hx=>?_);have hx:=gT hV hx;have a2P:jU l [99,97,115,101] s0=true->s1=⟨s0.pl+1,s0.er,s0.ln⟩->s1.er=0->low+1<=s1.pl:=λ_ h _=>by rw[h];exact Nat.succ_le_succ lo
 rcases hx with⟨w,rfl,e1,v1⟩|⟨w,rfl,e1⟩
 .have l1:=a2P w e1;have Q1:=Q0.uK w;rw[<-e1]at Q1;simp;refine cT gS (h0 s1 v1 l1) (λa s2 h2=>?_);have Q2:=Q1.step h2;have p2:yH l 1 s1 s2:=(hM 0).oY (ax 0) v1 l1 h2;have v2:=cO.next p2;have l2:s2.er=0->low+1<=s2.pl:=λh=>by have:=p2 h;have:=l1 this.1;omega
  simp;refine cT oV (tR (by omega) [111,102] s2 v2) (λc x hx=>?_);cases hx;simp;refine cT dT (kJ (by omega) (jU l [111,102] s2) s2 v2) (λu3 s3 h3=>?_);have Q3:=Q2.step (x:=yA l [111,102]) h3;have p3:=a0o hV.fin v2 h3;have v3:=cO.next p3;have l3:s3.er=0->low+1<=s3.pl:=λh=>by have:=p3 h;have:=l2 this.1;omega
  simp;refine mK 3 [2] (.op 0 (.op 1 (.call [4,5] .none) (.call [1,4,5] .none)) (.call [0,1,4,5] .none)) true (by kernel_rfl) (by kernel_rfl) ?_;simp;refine⟨⟨?_,?_⟩,?_⟩
  all_goals
   refine rfZ (.mk func122 rfl) (d0r hV hM ax h0 s3 v3 (λh=>by have:=l3 h;omega)) (λc s4 h4=>?_);have Q4:=Q3.step h4;refine cS.mk ?_;simp;exact Q4.ok _ _ (.inr rfl) (by simp[bY])
 have Q0:=Q0.sK (by rw[w];decide);rw[e1];simp
 clear a2P e1
 refine cT cQ (dJ (by omega) [102,117,110] s0 v0) (λb s1 hx=>?_);have hx:=gT hV hx;have a2P:jU l [102,117,110] s0=true->s1=⟨s0.pl+1,s0.er,s0.ln⟩->s1.er=0->low+1<=s1.pl:=λ_ h _=>by rw[h];exact Nat.succ_le_succ lo
 rcases hx with⟨w,rfl,e1,v1⟩|⟨w,rfl,e1⟩
 .have l1:=a2P w e1;have Q1:=Q0.uK w;rw[<-e1]at Q1;simp;refine cT (.mk func123 rfl) (c3J hV s1 v1) (λps s2 h2=>?_);have Q2:=Q1.step h2;have p2:yH l 0 s1 s2:=c3K hV v1 h2;have v2:=cO.next p2;have l2:s2.er=0->low+1<=s2.pl:=λh=>by have:=p2 h;have:=l1 this.1;omega
  simp;refine rfM Q2 v2 hV.fin λu3 s3 h3 Q3 p3 v3=>?_;have l3:s3.er=0->low+1<=s3.pl:=λh=>by have:=p3 h;have:=l2 this.1;omega
  simp;refine cT gS (h0 s3 v3 l3) (λa s4 h4=>?_);have Q4:=Q3.step h4;have p4:yH l 1 s3 s4:=(hM 0).oY (ax 0) v3 l3 h4;have v4:=cO.next p4;have l4:s4.er=0->low+1<=s4.pl:=λh=>by have:=p4 h;have:=l3 this.1;omega
  simp;exact Q4.ok _ _ (.inr rfl) (by simp[bY])
 have Q0:=Q0.sK (by rw[w];decide);rw[e1];simp
 clear a2P e1
 refine cT cQ (dJ (by omega) [117,115,101] s0 v0) (λb s1 hx=>?_);have hx:=gT hV hx;have a2P:jU l [117,115,101] s0=true->s1=⟨s0.pl+1,s0.er,s0.ln⟩->s1.er=0->low+1<=s1.pl:=λ_ h _=>by rw[h];exact Nat.succ_le_succ lo
 rcases hx with⟨w,rfl,e1,v1⟩|⟨w,rfl,e1⟩
 .have l1:=a2P w e1;have Q1:=Q0.uK w;rw[<-e1]at Q1;simp;refine rfG Q1 v1 mG (oX (by omega) s1 v1) (oZ hV.fin) λnm s2 h2 Q2 p2 v2=>?_;have l2:s2.er=0->low+1<=s2.pl:=λh=>by have:=p2 h;have:=l1 this.1;omega
  simp;refine f7A (.mk func124 rfl) (b4T hV hM ax h0 s2 v2 (λh=>by have:=l2 h;omega)) (λks s3 h3=>?_);have Q3:=Q2.step h3;have hA:=aK.kZ (l:=l) hV.toRfH hM ax;have p3:yH l 1 s2 s3:=hA.oY (aB.kZ hV.fin ax) v2 (λh=>by have:=l2 h;omega) h3;have v3:=cO.next p3;have l3:s3.er=0->low+1<=s3.pl:=λh=>by have:=p3 h;have:=l2 this.1;omega
  simp[bJ,bW,dE,dM,aZ,bI,rk,kU,jF,eN];refine cT oV (tR (by omega) [105,110] s3 v3) (λc x hx=>?_);cases hx;simp;refine cT dT (kJ (by omega) (jU l [105,110] s3) s3 v3) (λu4 s4 h4=>?_);have Q4:=Q3.step (x:=yA l [105,110]) h4;have p4:=a0o hV.fin v3 h4;have v4:=cO.next p4;have l4:s4.er=0->low+1<=s4.pl:=λh=>by have:=p4 h;have:=l3 this.1;omega
  simp;have kl:ks.length<=20002:=by have:=d0s (l:=l) (ex':=ex') s2;rw[h3]at this;simp only at this;omega
  refine eV [0] 3 [2] (.op 1 (.call [4,5,6,7] .none) (.call [1,4,5,6,7] .none)) true (by kernel_rfl) (by kernel_rfl) ?_;simp;refine⟨?_,?_⟩
  all_goals
   refine rfZ gS (h0 s4 v4 l4) (λe s5 h5=>?_);have p5:yH l _ s4 s5:=(hM 0).oY (ax 0) v4 l4 h5;have v5:=cO.next p5;refine cS.mk ?_;simp
  all_goals
   have Q5:=Q4.step h5;refine cJ (by first|omega|(simp[bY];omega)|exact⟨λx hx=>by obtain⟨y,_,rfl⟩:=g3u.1 hx;first|rfl|(rw[bY];rfl),by omega⟩|exact⟨rfl,by omega⟩) ?_;simp;exact Q5.ok _ _ (.inr rfl) (by simp[bY])
 have Q0:=Q0.sK (by rw[w];decide);rw[e1];simp;refine cT mC (d7X hV hM ax h0 h7 hn h3 s0 v0 (λ_=>lo)) (λe s2 h2=>?_);have Q0:=Q0.eq h2;simp;exact Q0.ok _ _ (.inr rfl) (by simp)
end
theorem c1G(hn:∀i, -9223372036854775807<=(aH l i).n/\(aH l i).n<=9223372036854775807):∀(n low:Nat),l.length<n+low->(∀s,cO l s->(s.er=0->low<=s.pl)->eG G 74 [] l s (b2d aL bF aD l n 0 s) jL)/\(∀s,cO l s->s.er=0->low<=s.pl->eG G 125 [.int .i64 3] l s (b2d aL bF aD l n 3 s) jL)/\(∀s,cO l s->s.er=0->low<=s.pl->eG G 162 [] l s (b2d aL bF aD l n 7 s) jL)
 |0,low,h=>⟨λs hv cN=>by
   have he:s.er≠0:=λh0=>by have:=hv h0;have:=cN h0;omega
   exact b0I s he,λs hv he cN=>by
   have:=hv he;omega,λs hv he cN=>by
   have:=hv he;omega⟩
 |n+1,low,h=>by obtain⟨i0,i3,i7⟩:=c1G hn n (low+1) (by omega);have hM:=aK.exF (kw:=aL) (andP:=bF) hV.toRfH n (low+1) (by omega);have ax:=λk=>aB.exF (kw:=aL) (andP:=bF) hV.fin hV.oY.pred n k;exact⟨λs hv cN=>c7v hV hM ax i0 i7 hn i3 s hv cN,λs hv he cN=>c1E hV hM ax i0 i7 hn i3 s hv (λ_=>cN),λs hv he cN=>b4U hV hM ax i0 i7 hn s hv (λ_=>cN)⟩
theorem d0t(hn:∀i, -9223372036854775807<=(aH l i).n/\(aH l i).n<=9223372036854775807)(s:dR)(hv:cO l s):eG G 74 [] l s (a3Z aL bF aD l s) jL:=(c1G hV hn (l.length+2) 0 (by omega)).1 s hv (λ_=>Nat.zero_le _)
end
abbrev e9I(b:pI):List D:=.str b.name::.sl (b.vars.map eD)::(prD b.hyp++prD b.goal)
theorem a8N(b:pI):b0p b=e9I b:=by
 rw[b0p,dH,dH]
 rfl
section
variable {aD:List Tok->Nat->Nat->jA Pr} {l:List Tok} (hV:rP G aD l)
include hV
def a4c(out:List psV):List (Nat×bH):=[(100001,.cells [.ptr 100000 0]),(100002,.cells [.d (.sl (out.map eD))])]
abbrev d8a:List (TypeId×List VM.Loc):=[(168,[.c 100002 0])]
abbrev c3M(l:List Tok)(out:List psV):bE (List psV):=do
 let c <- jI l
 let w <- bU aL l
 pure (out++[(c,w)])
theorem d0u:a2A l K3 [.ptr 100001 0,.ptr 100002 0] a4c d8a:=by
 constructor
 all_goals intros
 all_goals first
  |rfl
  |simp[a4c,aR,aY,bB,bA,bM,getKey,aZ,bI,dE,rk,dM,bW, *]
theorem b8m(out:List psV):aB l 1 (c3M l out):=(aB.title hV.fin).bl λ_=>(aB.word hV.fin).bz λ_=>aB.bZ _
theorem c7w(a:List psV)(i:Nat)(b:List psV)(j:Nat)(hi:i<l.length)(h:a.length<=i)(hx:c3M l a i=.ok b j):b.length<=j:=by have h1:=b8m hV a i b j hi hx;obtain⟨_,_,_,hx⟩:=dC hx;obtain⟨_,_,_,hx⟩:=dC hx;cases hx;simp;omega
theorem c3N(out:List psV)(j0:Nat)(hi:j0<l.length)(vT:out.length<=j0):pX G 146 [.ptr 100001 0,.ptr 100002 0] (a4c out) d8a l j0 (c3M l out j0) (λ_=>.cY []) a4c:=by
 have hl:=hV.len;have p0:=gQ hi;refine pX.bP func146 rfl ntmps146 rfl (by simp) ?_;intro Q Q0;simp[a4c];refine uA Q0 p0 mA (oI l j0 p0.2) (aB.title hV.fin) λc j1 x1 Q1 p1=>?_;simp;refine eV [1] 3 [2] (.op 0 (.call [4,5,6,7] .none) (.call [0,4,5,6,7] .none)) (kV (bU aL l j1)) (by kernel_rfl) (by kernel_rfl) ?_;simp;refine⟨?_,?_⟩
 all_goals
  refine rT Q1 p1 dS (eH hV.kw l j1 p1.2 (by omega)) (aB.word hV.fin) λw j2 x2 Q2 p2=>cS.mk ?_;simp;refine cJ (by first|omega|(simp[eD];omega)) ?_;simp;exact Q2.ok _ j2 _ _ rfl (.inl rfl) (by simp[a4c,a8I hV])
theorem b4V(i:Nat)(hi:i<l.length):tL G 98 [] l i (qX aL l i) (λws=>.d (.sl (ws.map eD))):=by
 have hl:=hV.len;refine pX.bP func98 rfl ntmps98 rfl (by simp) ?_;intro Q Q0;unfold qX at Q0;simp;have kK:=jG hV [44] (c3M l) (λout i=>out.length<=i) 0 (.mk func146 rfl) (d0u hV) (λa=>(b8m hV a).le (by omega)) (λa i _ hi h=>c3N hV a i hi h) (c7w hV) (λa i h=>by omega) [] i (by omega) hi (by simp);refine eB.mk (a1D eQ kK [(100000,100000),(100001,1),(100002,3)] (λa j hx=>?_) ?_ ?_ ?_ rfl rfl (λws j2 hx2=>?_) (λn e hx2=>Q0.bad n e _ hx2))
 .simp[a4c,aR,aY,bB,bA,bM,getKey]
 .simp[a4c,aR,aY,bB,bA,bM,getKey]
 .simp[aZ,bI,rk]
 .simp[a4c,aZ,bI,rk,dE,dM]
 .simp[bJ,a4c,aZ,bI,rk,dE,dM,bW,kU,jF,eN];exact Q0.ok _ j2 _ _ hx2 (.inr rfl) (by simp)
theorem c7x(j0:Nat)(hi:j0<l.length):tL G 113 [] l j0 (qY aL aD l j0) (λb=>.d (.agg (e9I b))):=by have hl:=hV.len;have p0:=gQ hi;refine pX.bP func113 rfl ntmps113 rfl (by simp) ?_;intro Q Q0;unfold qY at Q0;simp;refine uA Q0 p0 dS (eH hV.kw l j0 p0.2 (by omega)) (aB.word hV.fin) λnm j1 x1 Q1 p1=>?_;simp;refine eP Q1 p1 hV.fin λu2 j2 x2 Q2 p2=>?_;simp;refine uA Q2 p2 a3x ((a5J hV false j2 p2.2)) ((aB.vars hV.fin false)) λvs j3 x3 Q3 p3=>?_;simp;refine eP Q3 p3 hV.fin λu4 j4 x4 Q4 p4=>?_;simp;refine uA Q4 p4 sT (vH hV j4 p4.2) (hV.oY.pred) λp j5 x5 Q5 p5=>?_;simp;refine eP Q5 p5 hV.fin λu6 j6 x6 Q6 p6=>?_;simp;refine uA Q6 p6 sT (vH hV j6 p6.2) (hV.oY.pred) λq j7 x7 Q7 p7=>?_;simp;refine eP Q7 p7 hV.fin λu8 j8 x8 Q8 p8=>?_;simp;exact Q8.ok _ j8 _ _ rfl (.inr rfl) (by simp)
omit hV in
theorem a2G(t:Tok):(bL t).length=4:=rfl
variable{d:Int}{g i:Nat}
theorem e9J(hi:i<l.length)(h:cI (aH l i) [40]=true):gM l (g+1) d i=gM l g (d+1) (i+1):=by rw[gM,if_pos hi,if_pos h]
theorem e9K(hi:i<l.length)(h0:cI (aH l i) [40]=false)(h:cI (aH l i) [41]=true):gM l (g+1) d i=gM l g (d-1) (i+1):=by rw[gM,if_pos hi,if_neg (by rw[h0];decide),if_pos h]
theorem e9L(hi:i<l.length)(h0:cI (aH l i) [40]=false)(h1:cI (aH l i) [41]=false):gM l (g+1) d i=if cI (aH l i) [61]&&decide (d<=0) then i else gM l g d (i+1):=by rw[gM,if_pos hi,if_neg (by rw[h0];decide),if_neg (by rw[h1];decide)]
theorem e9M(hi:¬i<l.length):gM l (g+1) d i=l.length:=by rw[gM,if_neg hi]
theorem b5R:∀(g:Nat)(d:Int)(i:Nat),gM l g d i<=l.length
 |0,d,i=>by unfold gM;omega
 |g+1,d,i=>by
  unfold gM;split
  .split
   .exact b5R g _ _
   .split
    .exact b5R g _ _
    .split
     .omega
     .exact b5R g _ _
  .omega
theorem b8n(i:Nat)(hi:i<l.length):CH prog G 114 ⟨[.ptr 100000 0],rH l i,[]⟩ ⟨[.d (.int .i64 (gM l (l.length+1) 0 i))],rH l i,[]⟩:=by
 have hl:=hV.len;generalize hR:gM l (l.length+1) 0 i=R;refine CH.aW func114 rfl ntmps114 rfl (by simp) ?_;simp;refine SW.gA (ι:={x:Int×Nat×Nat//i<=x.2.1/\x.2.1<=l.length/\l.length<x.2.2+x.2.1/\(-(x.2.1:Int)<=x.1/\x.1<=x.2.1)/\gM l x.2.2 x.1 x.2.1=R}) (λx=>[(3,.d (.int .i64 x.1.1)),(4,.d (.int .i64 x.1.2.1))]) (λ_=>rH l i) (λ_=>[]) (λx=>l.length-x.1.2.1) ⟨(0,i,l.length+1),g3p _,by simp only;omega,by simp only;omega,by simp only;omega,hR⟩ (by simp) ?_;rintro⟨⟨d,k,g⟩,h1,h2,h3,h4,hp⟩;simp only at h1 h2 h3 h4 hp;obtain⟨g,rfl⟩:∃k,g=k+1:=⟨g-1,by omega⟩;by_cases hk:k<l.length
 .have hT:aH l k=l[k]:=by simp[aH,hk]
  have hw:=bC (show k<9223372036854775807 by omega);have hd1:IntKind.i64.wrap (d+1)=d+1:=wrap64 (by omega);have hd2:IntKind.i64.wrap (d-1)=d-1:=wrap64 (by omega);simp[hk,a2G];refine aC.mk oS (qE l[k] [40]) ?_;cases e1:cI l[k] [40]with
  |true=>rw[e9J hV hk (by rw[hT];exact e1)]at hp;simp[hd1,hw];exact bD.mk ⟨(d+1,k+1,g),by simp only;omega,by simp only;omega,by simp only;omega,by simp only;omega,hp⟩ (by simp) (by simp;omega)
  |false=>
   simp[hk,a2G];refine aC.mk oS (qE l[k] [41]) ?_;cases e2:cI l[k] [41]with
   |true=>rw[e9K hV hk (by rw[hT];exact e1) (by rw[hT];exact e2)]at hp;simp[hd2,hw];exact bD.mk ⟨(d-1,k+1,g),by simp only;omega,by simp only;omega,by simp only;omega,by simp only;omega,hp⟩ (by simp) (by simp;omega)
   |false=>
    rw[e9L hV hk (by rw[hT];exact e1) (by rw[hT];exact e2),hT]at hp;simp[hk,a2G];refine aC.mk oS (qE l[k] [61]) ?_;cases e3:cI l[k] [61]with
    |true=>
     by_cases hd:d<=0
     .rw[e3,if_pos (by simp[hd])]at hp;subst hp;simp[hd]
     .rw[e3,if_neg (by simp[hd])]at hp;simp[hd,hw];exact bD.mk ⟨(d,k+1,g),by simp only;omega,by simp only;omega,by simp only;omega,by simp only;omega,hp⟩ (by simp) (by simp;omega)
    |false=>rw[e3,if_neg (by simp)]at hp;simp[hw];exact bD.mk ⟨(d,k+1,g),by simp only;omega,by simp only;omega,by simp only;omega,by simp only;omega,hp⟩ (by simp) (by simp;omega)
 .rw[e9M hV hk]at hp;subst hp;simp[hk,a2G]
end
section
variable {aD:List Tok->Nat->Nat->jA Pr} {l:List Tok} (hV:vK G aD l)
include hV
theorem c3P(s:dR)(hv:s.pl<l.length):eG G 120 [] l s (gM l (l.length+1) 0 s.pl,s) (λn:Nat=>.d (.int .i64 n)):=by
 have hl:=hV.len;obtain⟨i,er,ln⟩:=s;simp only at hv;generalize hR:gM l (l.length+1) 0 i=R;refine eG.bP func120 rfl ntmps120 rfl ?_;intro Q Q0;simp;refine SW.tK (ι:={x:Int×Nat×Nat//i<=x.2.1/\x.2.1<=l.length/\l.length<x.2.2+x.2.1/\(-(x.2.1:Int)<=x.1/\x.1<=x.2.1)/\gM l x.2.2 x.1 x.2.1=R}) (λx=>[(3,.d (.int .i64 x.1.1)),(4,.d (.int .i64 x.1.2.1))]) (λ_=>rfH l ⟨i,er,ln⟩) (λ_=>[]) (λx=>l.length-x.1.2.1) ⟨(0,i,l.length+1),g3p _,by simp only;omega,by simp only;omega,by simp only;omega,hR⟩ (by simp) ?_;rintro⟨⟨d,k,g⟩,h1,h2,h3,h4,hp⟩;simp only at h1 h2 h3 h4 hp;obtain⟨g,rfl⟩:∃k,g=k+1:=⟨g-1,by omega⟩;by_cases hk:k<l.length
 .have hT:aH l k=l[k]:=by simp[aH,hk]
  have hw:=bC (show k<9223372036854775807 by omega);have hd1:IntKind.i64.wrap (d+1)=d+1:=wrap64 (by omega);have hd2:IntKind.i64.wrap (d-1)=d-1:=wrap64 (by omega);have f1:cI (aH l k) [40]=_:=(hV.tkw k).sg (by decide);have f2:cI (aH l k) [41]=_:=(hV.tkw k).sg (by decide);have f3:cI (aH l k) [61]=_:=(hV.tkw k).sg (by decide);rw[gM,if_pos hk,f1,f2,f3]at hp;rw[hT]at hp;obtain⟨T,hTT⟩:∃T,l[k]=T:=⟨_,rfl⟩;rw[hTT]at hp;obtain⟨a,b,n,dd⟩:=T;simp only at hp;by_cases k4:a=4;rotate_left
  .simp[k4]at hp;simp[hk,hTT,bL,k4,hw];exact bD.mk ⟨(d,k+1,g),by simp only;omega,by simp only;omega,by simp only;omega,by simp only;omega,hp⟩ (by simp) (by simp;omega)
  by_cases x1:b=[40]
  .simp[k4,x1]at hp;simp[hk,hTT,bL,k4,x1,hw,hd1];exact bD.mk ⟨(d+1,k+1,g),by simp only;omega,by simp only;omega,by simp only;omega,by simp only;omega,hp⟩ (by simp) (by simp;omega)
  by_cases x2:b=[41]
  .simp[k4,x2]at hp;simp[hk,hTT,bL,k4,x2,hw,hd2];exact bD.mk ⟨(d-1,k+1,g),by simp only;omega,by simp only;omega,by simp only;omega,by simp only;omega,hp⟩ (by simp) (by simp;omega)
  by_cases x3:b=[61]
  .by_cases hd:d<=0
   .simp[k4,x3,hd]at hp;subst hp;simp[hk,hTT,bL,k4,x3,hd];exact Q0.ok _ _ (.inr rfl) (by simp)
   .simp[k4,x3,hd]at hp;simp[hk,hTT,bL,k4,x3,hd,hw];exact bD.mk ⟨(d,k+1,g),by simp only;omega,by simp only;omega,by simp only;omega,by simp only;omega,hp⟩ (by simp) (by simp;omega)
  .simp[k4,x1,x2,x3]at hp;simp[hk,hTT,bL,k4,x1,x2,x3,hw];exact bD.mk ⟨(d,k+1,g),by simp only;omega,by simp only;omega,by simp only;omega,by simp only;omega,hp⟩ (by simp) (by simp;omega)
 .rw[gM,if_neg hk]at hp;subst hp;simp[hk,a2G];exact Q0.ok _ _ (.inr rfl) (by simp)
theorem b0J{b:Bool}{s s1:dR}{vs:List psV}(hv:cO l s)(h:a1f aL l b s=(vs,s1)):yH l 0 s s1:=(aK.vars hV.toRfH _).d3G hv h
theorem c7y(s0:dR)(hv:cO l s0):eG G 117 [] l s0 (a8E aL aD l s0) (λb=>.d (.agg (e9I b))):=by have hl:=hV.len;have v0:=hv;refine eG.bP func117 rfl ntmps117 rfl ?_;intro Q Q0;unfold a8E at Q0;simp;refine rfG Q0 v0 mG (oX (by omega) s0 v0) (oZ hV.fin) λnm s1 h1 Q1 p1 v1=>?_;simp;refine rfM Q1 v1 hV.fin λu2 s2 h2 Q2 p2 v2=>?_;simp;refine rfG Q2 v2 (.mk func106 rfl) (b7Q hV false s2 v2) (b0J hV) λvs s3 h3 Q3 p3 v3=>?_;simp;refine rfM Q3 v3 hV.fin λu4 s4 h4 Q4 p4 v4=>?_;simp;refine rfG Q4 v4 a3z (a5M hV s4 v4) (a5N hV) λh s5 h5 Q5 p5 v5=>?_;simp;refine rfM Q5 v5 hV.fin λu6 s6 h6 Q6 p6 v6=>?_;simp;refine rfG Q6 v6 a3z (a5M hV s6 v6) (a5N hV) λg s7 h7 Q7 p7 v7=>?_;simp;refine rfM Q7 v7 hV.fin λu8 s8 h8 Q8 p8 v8=>?_;simp;exact Q8.ok _ _ (.inr rfl) (by simp)
end
end
end Go.Proofs.YtmfbjecjccipfaaGreatDoor
