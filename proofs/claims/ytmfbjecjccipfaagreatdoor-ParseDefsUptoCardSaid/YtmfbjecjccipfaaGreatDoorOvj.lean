/- Lemmas. No condition. -/
import Derived.Test.YtmfbjecjccipfaaGreatDoorOvi
set_option linter.unusedVariables false
set_option linter.unusedSimpArgs false
set_option linter.unusedSectionVars false
set_option maxRecDepth 100000
set_option maxHeartbeats 64000000
open Go.Proofs.Tryz
namespace Go.Proofs.YtmfbjecjccipfaaGreatDoor
section
open Go Go.VM
variable {G:GT}
section
variable {α β:Type} {l:List Tok}
theorem b7R{c:Nm}{one:α->RM α}{P:α->Prop}(h:∀a s,P a->P (one a s).1):∀(g:Nat)(a:α)(s:dR),P a->P (pM l c one g a s).1
 |0,a,s,hp=>hp
 |g+1,a,s,hp=>by
  unfold pM;split
  .split
   .exact b7R h g _ _ (h a s hp)
   .exact h a s hp
  .exact hp
end
def RmP{α:Type}(P:α->Prop)(x:RM α):Prop:=∀s,P (x s).1
section
variable {α β:Type} {P:β->Prop} {R:α->Prop} {x:RM α} {f:α->RM β}
theorem RmP.dB(hf:∀a,RmP P (f a)):RmP P (x >>=f):=λs=>hf _ _
theorem RmP.c9R(hx:RmP R x)(hf:∀a,R a->RmP P (f a)):RmP P (x >>=f):=λs=>hf _ (hx s) _
theorem RmP.bZ{b:β}(h:P b):RmP P (pure b):=λs=>h
theorem RmP.ite{c:Bool}{x y:RM β}(hx:RmP P x)(hy:RmP P y):RmP P (if c then x else y):=by
 cases c
 .exact hy
 .exact hx
end
theorem c1v(a b:Pr):bO (bF a b)<=bO a+bO b+1:=by
 have pos:∀p:Pr,1<=bO p:=λp=>by cases p;simp[bO]
 have ha:=pos a;have hb:=pos b;rw[<-d1T];have e1:bO a5K=1:=by simp[a5K,bO,eK]
 have e2:bO a1G=1:=by simp[a1G,bO,eK]
 have ht:zD a1G=true:=by decide
 simp only[b9T,ht,if_true]
 repeat' split
 all_goals try simp only[b7M,e1,e2]
 all_goals omega
theorem rK:VM.Enters prog 118:=.mk func118 rfl
section
variable {aD:List Tok->Nat->Nat->jA Pr} {l:List Tok} (hV:vK G aD l)
include hV
theorem b7S(e:Nat)(s:dR):bO (pF aD l e s).1<=20001:=by
 have h1:bO eI=1:=by simp[eI,bO,eK]
 unfold pF;split
 .cases h:aD l s.pl e with
  |ok p j=>exact hV.nod _ _ _ _ h
  |bad n x=>simp only[h1];omega
 .simp only[h1];omega
theorem c1w:∀(n:Nat)(s:dR),bO (b0u aL bF aD l n s).1.pred<=n*20003+1
 |0,s=>by
  show bO eI<=_
  have h1:bO eI=1:=by simp[eI,bO,eK]
  omega
 |n+1,s=>by
  have h1:bO eI=1:=by simp[eI,bO,eK]
  have ih:=c1w n
  show bO (a5C aL bF aD l (b0u aL bF aD l n) s).1.pred<=_
  generalize b0u aL bF aD l n=ty at ih;have z:bO eI<=(n+1)*20003+1:=by omega
  have hR:RmP (λt:Ty=>bO t.pred<=(n+1)*20003+1) (a7y bF aD l ty):=by
   unfold a7y;refine RmP.dB λ_=>RmP.dB λ_=>RmP.dB λ_=>RmP.c9R (R:=λt:Ty=>bO t.pred<=n*20003+1) ih λt ht=>RmP.dB λ_=>RmP.c9R (R:=λp:Pr=>bO p<=20001) (λs=>b7S hV _ s) λp hp=>RmP.dB λ_=>RmP.bZ ?_
   show bO (if _=0 then _ else _)<=_
   split
   .omega
   .exact Nat.le_trans (c1v _ _) (by omega)
  have hF:RmP (λt:Ty=>bO t.pred<=(n+1)*20003+1) (a0k aL l ty):=by
   unfold a0k;refine RmP.dB λ_=>RmP.dB λnamed=>RmP.c9R (R:=λp:List Nm×List Ty=>∀t∈p.2,bO t.pred<=(n+1)*20003+1) (λs=>b7R (P:=λp:List Nm×List Ty=>∀t∈p.2,bO t.pred<=(n+1)*20003+1) (λa s ha=>?_) _ _ _ (λt ht=>by cases ht)) λp hp=>?_
   .have h2:∀(ns:List Nm)(t:Ty),bO t.pred<=n*20003+1->∀u∈(ns,a.2++[t]).2,bO u.pred<=(n+1)*20003+1:=λns t ht u hu=>by
     simp only[g3z,g3g]at hu;rcases hu with hu|rfl
     .exact ha u hu
     .omega
    have h3:RmP (λp:List Nm×List Ty=>∀t∈p.2,bO t.pred<=(n+1)*20003+1) (if named then(eY aL l >>=λw=>aX l [58] >>=λ_=>ty >>=λt=>pure (a.1++[w],a.2++[t])) else ty >>=λt=>pure (a.1,a.2++[t])):=RmP.ite (RmP.dB λw=>RmP.dB λ_=>RmP.c9R (R:=λt:Ty=>bO t.pred<=n*20003+1) ih λt ht=>RmP.bZ (h2 _ t ht)) (RmP.c9R (R:=λt:Ty=>bO t.pred<=n*20003+1) ih λt ht=>RmP.bZ (h2 _ t ht));exact h3 s
   .obtain⟨ns,ts⟩:=p;refine RmP.dB λ_=>RmP.dB λc=>RmP.ite (RmP.bZ ?_) (RmP.dB λ_=>RmP.dB λt=>RmP.bZ z);cases ts with
    |nil=>exact z
    |cons t r=>exact hp t (List.mem_cons_self ..)
  have hD:∀nm,RmP (λt:Ty=>bO t.pred<=(n+1)*20003+1) (a5B aL bF aD l ty nm):=λnm=>by unfold a5B;exact RmP.dB λ_=>RmP.dB λ_=>RmP.ite (RmP.dB λ_=>RmP.dB λ_=>RmP.bZ z) (RmP.bZ z)
  have hP:bO (dL aL l s).1.1.pred<=(n+1)*20003+1:=by
   unfold dL;split
   .exact z
   .split
    .exact z
    .show bO (Ty.pred (if _ then _ else _))<=_
     repeat' split
     all_goals exact z
  unfold a5C
  repeat' split
  .exact hR s
  .exact hF s
  .exact hD _ _
  .exact hP
  .exact z
  .exact z
variable{s s1:dR}
theorem a5N{p:Pr}(hv:cO l s)(h:a5A aD l s=(p,s1)):yH l 0 s s1:=(aK.pred hV.toRfH).d3G hv h
variable{p:Ty×Bool}
omit hV in
theorem c1x(hE:pE l)(hv:cO l s)(h:dL aL l s=(p,s1)):cO l s1:=λh1=>by
 unfold dL at h;split at h
 .rename_i hw;cases h;simp only at h1;unfold mR gN at hw;rw[if_pos ⟨h1,hv h1⟩]at hw;simp only[g2Z,g3N]at hw;exact qZ hE (hv h1) (by have:=hw.1;simp only[Nat.add_zero]at this;omega)
 .split at h
  .cases h;exact hv h1
  .rename_i hw;cases h;simp only at h1;unfold uB gN at hw;rw[if_pos ⟨h1,hv h1⟩]at hw;simp only[Bool.not_eq_true,Bool.not_eq_false',g3N]at hw;exact qZ hE (hv h1) (by simp only[Nat.add_zero]at hw;omega)
omit hV in
theorem c7d(hv:cO l s)(h:dL aL l s=(p,s1))(h1:s1.er=0):s.er=0/\s.pl<=s1.pl:=by
 unfold dL at h
 repeat' split at h
 all_goals
  cases h;exact⟨h1,by simp⟩
section
variable {x:bE Ty} {ty:RM Ty} {low:Nat} (hM:aK l (low+1) x ty) (ax:aB l 1 x) (mU:∀s,cO l s->(s.er=0->low+1<=s.pl)->eG G 118 [] l s (ty s) a1I) (nty:∀s,bO (ty s).1.pred<=430000000)
include hM ax mU nty
theorem a9H(s0:dR)(hv:cO l s0)(cN:s0.er=0->low<=s0.pl):eG G 155 [] l s0 (a7y bF aD l ty s0) a1I:=by
 have hl:=hV.len;have v0:=hv;refine eG.bP func155 rfl ntmps155 rfl ?_;intro Q Q0;unfold a7y at Q0;simp;refine rfM Q0 v0 hV.fin λu1 s1 h1 Q1 p1 v1=>?_;simp;refine cT oV (tR (by omega) [118] s1 v1) (λc x hx=>?_);cases hx;simp;refine cT dT (kJ (by omega) (jU l [118] s1) s1 v1) (λu2 s2 h2=>?_);have Q2:=Q1.step (x:=yA l [118]) h2;have p2:=a0o hV.fin v1 h2;have v2:=cO.next p2;simp;refine rfM Q2 v2 hV.fin λu3 s3 h3 Q3 p3 v3=>?_;simp;have l3:s3.er=0->low+1<=s3.pl:=λh=>by have:=((yH.tr p1 p2).tr p3) h;have:=cN this.1;omega
 refine cT rK (mU s3 v3 l3) (λt s4 h4=>?_);have Q4:=Q3.step h4;have p4:=hM.oY ax v3 l3 h4;have v4:=cO.next p4;have n4:bO t.pred<=430000000:=by
  have:=nty s3
  rwa[h4]at this
 have htk:∀B,B=(cF l 0 [124] s4&& !decide (t.op=6))->eG G 59 [.bool B] l s4 (a3Y l (λs=>cF l 0 [124] s&& !decide (t.op=6)) s4) (λt=>.d (.str t)):=λB hB=>by subst hB;exact kJ (by omega) _ s4 v4
 have htp:∀{a s1},a3Y l (λs=>cF l 0 [124] s&& !decide (t.op=6)) s4=(a,s1)->yH l 1 s4 s1:=λ{a s1} h=>tD hV.fin (λhb=>by unfold cF at hb;simp only[g2Z,g3N]at hb;omega) v4 h
 have hT:=λ(h:cF l 0 [124] s4=true) (h2:¬t.op=6)=>htk true (by simp[h,h2]);have hF:=λ(h:cF l 0 [124] s4=false)=>htk false (by simp only[h];rfl);have hS:=λ(h:cF l 0 [124] s4=true) (h2:t.op=6)=>htk false (by simp[h,h2]);obtain⟨op,nm,args,ns,p,ps⟩:=t;simp only at htk htp hT hF hS Q4 n4;have h3:(cF l 0 [124] s4=true/\op=6)\/(cF l 0 [124] s4=true/\ ¬op=6)\/(cF l 0 [124] s4=false/\True):=by
  rcases g3x (cF l 0 [124] s4)with h|h
  .by_cases h6:op=6
   .exact .inl ⟨h,h6⟩
   .exact .inr (.inl ⟨h,h6⟩)
  .exact .inr (.inr ⟨h,trivial⟩)
 simp;refine cT bT (eC hV [124] s4 v4) (λb x hx=>?_);cases hx;rcases h3 with⟨hs,e6⟩|⟨hs,e6⟩|⟨hs,e6⟩
 all_goals
  rw[hs];simp[e6]
  first
   |refine cT dT (hS hs e6) (λu5 s5 h5=>?_)
   |refine cT dT (hT hs e6) (λu5 s5 h5=>?_)
   |refine cT dT (hF hs) (λu5 s5 h5=>?_)
  have Q5:=Q4.step h5;have p5:=htp h5;have v5:=cO.next p5;simp;refine rfG Q5 v5 a3z (a5M hV s5 v5) (a5N hV) λq s6 h6 Q6 p6 v6=>?_;have n6:bO q<=20001:=by
   have:=b7S hV l.length s5
   rwa[show pF aD l l.length s5=(q,s6) from h6]at this
  by_cases hz:p.op=0
  .simp only[if_pos hz]at Q6;simp[hz];refine rfM Q6 v6 hV.fin λu7 s7 h7 Q7 p7 v7=>?_;simp;exact Q7.ok _ _ (.inr rfl) (by simp[e6])
  .simp only[if_neg hz]at Q6;have ha:=d3W (G:=G) p q;rw[dH,dH]at ha;simp[hz];refine jT.mk (.mk func175 rfl) ha ?_;simp;refine rfM Q6 v6 hV.fin λu7 s7 h7 Q7 p7 v7=>?_;simp;exact Q7.ok _ _ (.inr rfl) (by simp[e6])
theorem b7T(s0:dR)(hv:cO l s0)(cN:s0.er=0->low<=s0.pl):eG G 108 [] l s0 (b0t aL bF aD l ty s0) a1I:=by
 have hl:=hV.len;have hr:=a9H hV hM ax mU nty s0 hv cN;have hp:=c7a hV s0 hv;have v0:=hv;refine eG.bP func108 rfl ntmps108 rfl ?_;intro Q Q0;unfold b0t at Q0;simp;refine cT bT (eC hV [123] s0 v0) (λb x hx=>?_);cases hx;cases h1:cF l 0 [123] s0 with
 |true=>have Q0:=Q0.uK h1;simp;refine cT (.mk func155 rfl) hr (λt s1 h1=>?_);have Q0:=Q0.eq h1;simp;exact Q0.ok _ _ (.inr rfl) (by simp)
 |false=>
 have Q0:=Q0.sK (by rw[h1];decide);simp;refine cT cG (dO (by omega) [40] s0 v0) (λb s1 hh=>?_);rcases oD hV.fin hh with⟨h2,rfl,e2,e3,e4,v1⟩|⟨h2,rfl,rfl⟩
 .have Q0:=Q0.uK h2;have l1:s1.er=0->low+1<=s1.pl:=λ_=>by rw[e4];exact Nat.succ_le_succ (cN e3)
  rw[<-e2]at Q0;simp;refine cT rK (mU s1 v1 l1) (λt s2 h2=>?_);have Q2:=Q0.step h2;have v2:=cO.next (hM.oY ax v1 l1 h2);obtain⟨op,nm,args,ns,p,ps⟩:=t;simp;refine rfM Q2 v2 hV.fin λu3 s3 h3 Q3 p3 v3=>?_;simp;exact Q3.ok _ _ (.inr rfl) (by simp)
 .have Q0:=Q0.sK (by rw[h2];decide);simp;refine cT (.mk func156 rfl) hp (λp s2 h3=>?_);rw[h3]at Q0;obtain⟨⟨op,nm,args,ns,q,ps⟩,ok⟩:=p;simp only at Q0;have v2:=c1x hV.fin v0 h3;cases ok with
  |true=>rw[if_pos rfl]at Q0;simp;exact Q0.ok _ _ (.inr rfl) (by simp)
  |false=>rw[if_neg (by decide)]at Q0;simp;refine cT sR (xM (by omega) s2 v2) (λu s3 h4=>?_);cases h4;simp;exact Q0.ok _ _ (.inr rfl) (by simp)
end
end
section
variable {aD:List Tok->Nat->Nat->jA Pr} {l:List Tok} (hV:vK G aD l)
include hV
section
variable {x:bE Ty} {ty:RM Ty} {low:Nat} (hM:aK l (low+1) x ty) (ax:aB l 1 x) (mU:∀s,cO l s->(s.er=0->low+1<=s.pl)->eG G 118 [] l s (ty s) a1I) (nty:∀s,bO (ty s).1.pred<=430000000)
include hM ax mU nty
abbrev f3B(aD:List Tok->Nat->Nat->jA Pr)(l:List Tok)(ty:RM Ty)(out:List Ty):RM (List Ty):=do let t <- b0t aL bF aD l ty;pure (out++[t])
abbrev f3C(aD:List Tok->Nat->Nat->jA Pr)(l:List Tok)(out:List Pr):RM (List Pr):=do
 let _ <- yA l [118]
 aX l [46]
 let p <- a5A aD l
 pure (out++[p])
abbrev d7L(l:List Tok)(s:dR):Bool:=mR aL l 0 s||(uB l s||(cF l 0 [123] s||cF l 0 [40] s))
omit hV hM ax mU nty in
theorem e3G(l:List Tok)(s:dR)(hs:s.er≠0):d7L l s=false:=by
 unfold d7L;rw[b2g hs,c3k hs,rD hs,rD hs]
 rfl
def b7U(nm:Nm)(args:List Ty)(ps:D):List (Nat×bH):=[(3,.cells [.d (.int .i64 4),.d (.str nm),.d (.sl (args.map tyC)),.d .aE,.d (.int .i64 0),.d (.str []),.d (.int .i64 0),.d .aE,.d ps]),(4,.cells [.d (.int .i64 0),.d (.str []),.d .aE,.d .aE,.d (.int .i64 0),.d (.str []),.d (.int .i64 0),.d .aE,.d .aE])]
theorem d0c(nm:Nm)(s:dR)(hv:cO l s)(cN:s.er=0->low<=s.pl):eG G 159 [.agg (e9B 4 nm)] l s (a5B aL bF aD l ty nm s) a1I:=by
 have hl:=hV.len;have hA:=aK.f3h (kw:=aL) (andP:=bF) hV.toRfH hM ax;have aA:=aB.a1e (kw:=aL) (andP:=bF) hV.fin (ax.le (by omega:0<=1)) hV.oY.pred;refine eG.bP func159 rfl ntmps159 rfl ?_;intro Q Q0;unfold a5B at Q0;simp;refine c3l (d7L l) (e3G l) (f3B aD l ty) (λa=>a.length) (λ_=>True) (λ_=>[]) (λa s=>b7U nm a .aE++rfH l s) (λ_=>[(54,[.c 3 2])]) (l.length+2) [] s (by omega) hv (by simp) trivial (by simp[b7U]) ?_ ?_
 .intro a s0 e0 i0 bs la _ hc R hR;have v0:cO l s0:=λ_=>i0;have l0:s0.er=0->low<=s0.pl:=λ_=>Nat.le_trans (cN bs.1) bs.2;simp[b7U];refine cT pT (vL hV s0 v0) (λb x hx=>?_);cases hx;rcases g3x (mR aL l 0 s0)with w1|w1
  all_goals
   rw[w1];simp
  case' inr=>
   refine cT rC (sS (by omega) s0 v0) (λb x hx=>?_);cases hx;rcases g3x (uB l s0)with w2|w2
   all_goals
    rw[w2];simp
  case' inr.refl.inr=>
   refine cT bT (eC hV [123] s0 v0) (λb x hx=>?_);cases hx;rcases g3x (cF l 0 [123] s0)with w3|w3
   all_goals
    rw[w3];simp
  case' inr.refl.inr.refl.inr=>
   have w4:cF l 0 [40] s0=true:=by simpa[w1,w2,w3]using hc
   refine cT bT (eC hV [40] s0 v0) (λb x hx=>?_);cases hx;rw[w4];simp
  all_goals
   refine eV [0] 3 [2] (.op 1 (.call [4,5,6,7] .none) (.call [1,4,5,6,7] .none)) true (by kernel_rfl) (by kernel_rfl) ?_;simp;refine⟨?_,?_⟩
   all_goals
    refine rfZ (.mk func108 rfl) (b7T hV hM ax mU nty s0 v0 l0) (λt s1 h1=>?_);have p1:yH l _ s0 s1:=hA.oY aA v0 l0 h1;have v1:=cO.next p1;refine cS.mk ?_;simp
   all_goals
    refine cJ (by first|omega|(simp[cB];omega)|exact⟨λx hx=>by obtain⟨y,_,rfl⟩:=g3u.1 hx;first|rfl|(rw[cB];rfl),by omega⟩|exact⟨rfl,by omega⟩) ?_;simp;refine hR _ (a++[t]) s1 (by simp only[bK,h1];rfl) (by simp[b7U,cB]) (λh=>?_) (by simp) trivial;have:=(p1) h;omega
 .intro a s1 hc rZ la _ v1 hy R;have Q1:=Q0.step (x:=xL l (d7L l) (f3B aD l ty) []) hy;simp only[d7L,Bool.or_eq_false_iff]at hc;obtain⟨w1,w2,w3,w4⟩:=hc;simp[b7U];refine cT pT (vL hV s1 v1) (λb x hx=>?_);cases hx;rw[w1];simp;refine cT rC (sS (by omega) s1 v1) (λb x hx=>?_);cases hx;rw[w2];simp;refine cT bT (eC hV [123] s1 v1) (λb x hx=>?_);cases hx;rw[w3];simp;refine cT bT (eC hV [40] s1 v1) (λb x hx=>?_);cases hx;rw[w4];simp;refine cT cG (dO (by omega) [60] s1 v1) (λb2 s2 h2=>?_);have Q2:=Q1.step h2;have p2:=a2B hV.fin v1 h2;have v2:=cO.next p2;rcases oD hV.fin h2 with⟨_,rfl,_,_,_,_⟩|⟨_,rfl,rfl⟩
  .rw[if_pos rfl]at Q2;simp;refine a5G hV.fin [44] (f3C aD l) (λa=>a.length) (λ_=>True) 5 (λ_=>[]) (λb s=>b7U nm a (.sl (b.map qO))++rfH l s) (λ_=>[(52,[.c 3 8])]) (l.length+2) [] s2 (by omega) v2 rfl trivial (by simp[b7U]) ?_ ?_
   .intro b s0 e0 i0 bs lb _ R hR;have v0:cO l s0:=λ_=>i0;simp[b7U,e0];refine cT oV (tR (by omega) [118] s0 v0) (λc x hx=>?_);cases hx;simp;refine cT dT (kJ (by omega) (jU l [118] s0) s0 v0) (λu1 s1 h1=>?_);have h1:yA l [118] s0=(u1,s1):=h1;have p1:yH l 1 s0 s1:=a0o hV.fin v0 h1;have v1:=cO.next p1;simp;refine rfN [46] v1 hV.fin λu2 s2 h2 p2 v2=>?_;simp;refine eV [0] 3 [2] (.op 1 (.call [4,5,6,7] .none) (.call [1,4,5,6,7] .none)) true (by kernel_rfl) (by kernel_rfl) ?_;simp;refine⟨?_,?_⟩
    all_goals
     refine rfZ a3z (a5M hV s2 v2) (λp s3 h3=>?_);have p3:yH l _ s2 s3:=a5N hV v2 h3;have v3:=cO.next p3;refine cS.mk ?_;simp
    all_goals
     refine cJ (by first|omega|(simp[dH];omega)|exact⟨λx hx=>by obtain⟨y,_,rfl⟩:=g3u.1 hx;first|rfl|(rw[dH];rfl),by omega⟩|exact⟨rfl,by omega⟩) ?_;simp;refine cT cG (dO (by omega) [44] s3 v3) (λbh sh hh=>?_);simp;refine hR _ (b++[p]) s3 (by simp only[bK,h1,h2,h3];rfl) (by rw[hh];simp[b7U,dH]) (λh=>?_) (by simp) trivial;have:=((p1.tr p2).tr p3) h;omega
   ·
    intro a s1 m hm rZ la hJ v1 hy R;have hm':m=false\/(m=true/\ ¬s1.er=0):=by
     cases m
     .exact .inl rfl
     .rcases hm with h|h
      .cases h
      .exact .inr ⟨rfl,h⟩
    have Q3:=Q2.step (x:=oU l [44] (f3C aD l) []) hy;rcases hm' with rfl|⟨rfl,h⟩
    all_goals
     first
      |simp[b7U,h]
      |simp[b7U]
     refine rfM Q3 v1 hV.fin λu4 s4 h4 Q4 p4 v4=>?_;simp;exact Q4.ok _ _ (.inr rfl) (by simp[wQ,eI])
  .rw[if_neg (by decide)]at Q2;simp;exact Q2.ok _ _ (.inr rfl) (by simp[wQ,eI])
end
end
section
variable {aD:List Tok->Nat->Nat->jA Pr} {l:List Tok} (hV:vK G aD l)
include hV
section
variable {x:bE Ty} {ty:RM Ty} {low:Nat} (hM:aK l (low+1) x ty) (ax:aB l 1 x) (mU:∀s,cO l s->(s.er=0->low+1<=s.pl)->eG G 118 [] l s (ty s) a1I) (nty:∀s,bO (ty s).1.pred<=430000000)
include hM ax mU
abbrev e6w(l:List Tok)(ty:RM Ty)(named:Bool)(out:List Nm×List Ty):RM (List Nm×List Ty):=if named then(do
 let w <- eY aL l
 aX l [58]
 let t <- ty
 pure (out.1++[w],out.2++[t])) else(do
 let t <- ty
 pure (out.1,out.2++[t]))
def c7f(ns:List Nm)(ts:List Ty):List (Nat×bH):=[(2,.cells [.d (.int .i64 0),.d (.str []),.d .aE,.d .aE,.d (.int .i64 0),.d (.str []),.d (.int .i64 0),.d .aE,.d .aE]),(3,.cells [.d (.int .i64 6),.d (.str []),.d (.sl (ts.map tyC)),.d (.sl (strs ns)),.d (.int .i64 0),.d (.str []),.d (.int .i64 0),.d .aE,.d .aE])]
theorem c3y(s0:dR)(hv:cO l s0)(cN:s0.er=0->low<=s0.pl):eG G 158 [] l s0 (a0k aL l ty s0) a1I:=by
 have hl:=hV.len;have v0:=hv;refine eG.xV func158 rfl ntmps158 rfl ?_;intro Q Q0;unfold a0k at Q0;refine SW.jC (SW.xk ?_);simp;refine SW.jC (SW.xk ?_);simp;refine rfM Q0 v0 hV.fin λu1 s1 h1 Q1 p1 v1=>?_;have l1:s1.er=0->low+1<=s1.pl:=λh=>by have:=p1 h;have:=cN this.1;omega
 simp;refine SW.jC (SW.xk ?_);simp;obtain⟨named,hnm⟩:∃b,(mR aL l 0 s1&&cF l 1 [58] s1)=b:=⟨_,rfl⟩;have Q1:=Q1.step (show zA (λs=>mR aL l 0 s&&cF l 1 [58] s) s1=(named,s1) by rw[<-hnm];rfl);refine SW.b1Q [(4,.d (.bool named))] ([(2,.cells [.d (.int .i64 0),.d (.str []),.d .aE,.d .aE,.d (.int .i64 0),.d (.str []),.d (.int .i64 0),.d .aE,.d .aE]),(3,.cells [.d (.int .i64 6),.d (.str []),.d .aE,.d .aE,.d (.int .i64 0),.d (.str []),.d (.int .i64 0),.d .aE,.d .aE])]++rfH l s1) [] (SW.xk ?_) (SW.xk ?_)
 .have hw:(mR aL l 0 s1=true/\cF l 1 [58] s1=named)\/(mR aL l 0 s1=false/\named=false):=by
   cases h:mR aL l 0 s1
   .exact .inr ⟨rfl,by rw[<-hnm,h];rfl⟩
   .exact .inl ⟨rfl,by rw[<-hnm,h];rfl⟩
  simp;refine cT pT (vL hV s1 v1) (λb x hx=>?_);cases hx;rcases hw with⟨w1,w2⟩|⟨w1,w2⟩
  .rw[w1];simp;have hsg:eG G 60 [.int .i64 1,.str [58]] l s1 (cF l 1 [58] s1,s1) (λb=>.d (.bool b)):=qF (by omega) 1 [58] s1 v1 (by omega);refine cT bT hsg (λb x hx=>?_);cases hx;simp[w2]
  .rw[w1];simp[w2]
 simp;refine a5G hV.fin [44] (e6w l ty named) (λa=>a.2.length) (λa=>a.1.length<=a.2.length) 5 (λ_=>[]) (λa s=>c7f a.1 a.2++rfH l s) (λ_=>[(54,[.c 3 2]),(9,[.c 3 3])]) (l.length+2) ([],[]) s1 (by omega) v1 rfl (by simp) (by simp[c7f,strs]) ?_ ?_
 .rintro⟨ns,ts⟩ s0 e0 i0 bs la hJ R hR;simp only at la hJ;have v0:cO l s0:=λ_=>i0;have l0:s0.er=0->low+1<=s0.pl:=λ_=>Nat.le_trans (l1 bs.1) bs.2;cases named with
  |false=>
   simp[c7f,e0];refine eV [0] 3 [2] (.op 1 (.call [4,5,6,7] .none) (.call [1,4,5,6,7] .none)) true (by kernel_rfl) (by kernel_rfl) ?_;simp;refine⟨?_,?_⟩
   all_goals
    refine rfZ rK (mU s0 v0 l0) (λt s1 h1=>?_);have p1:yH l _ s0 s1:=hM.oY ax v0 l0 h1;have v1:=cO.next p1;refine cS.mk ?_;simp
   all_goals
    refine cJ (by first|omega|(simp[cB];omega)|exact⟨λx hx=>by obtain⟨y,_,rfl⟩:=g3u.1 hx;first|rfl|(rw[cB];rfl),by omega⟩|exact⟨rfl,by omega⟩) ?_;simp;have ho:(ty >>=λt=>pure (ns,ts++[t]):RM (List Nm×List Ty)) s0=((ns,ts++[t]),s1):=by
     rw[bK,h1]
     rfl
    refine cT cG (dO (by omega) [44] s1 v1) (λbh sh hh=>?_);simp;refine hR _ (ns,ts++[t]) s1 ho (by rw[hh];simp[c7f,cB]) (λh=>?_) (by simp) (Nat.le_trans hJ (by simp));have:=(p1) h;omega
  |true=>
   simp[c7f,e0];refine eV [0] 3 [2] (.op 1 (.call [4,5,6,7] .none) (.call [1,4,5,6,7] .none)) true (by kernel_rfl) (by kernel_rfl) ?_;simp;refine⟨?_,?_⟩
   all_goals
    refine rfZ mG (oX (by omega) s0 v0) (λw s1 h1=>?_);have p1:yH l _ s0 s1:=oZ hV.fin v0 h1;have v1:=cO.next p1;refine cS.mk ?_;simp
   all_goals
    refine cJ (by first|omega|(simp[strs];omega)|exact⟨λx hx=>by obtain⟨y,_,rfl⟩:=g3u.1 hx;first|rfl|(rw[strs];rfl),by omega⟩|exact⟨rfl,by omega⟩) ?_;simp;refine rfN [58] v1 hV.fin λu2 s2 h2 p2 v2=>?_;have l2:s2.er=0->low+1<=s2.pl:=λh=>by have:=(yH.tr p1 p2) h;have:=l0 this.1;omega
    simp;refine eV [0] 3 [2] (.op 1 (.call [4,5,6,7] .none) (.call [1,4,5,6,7] .none)) true (by kernel_rfl) (by kernel_rfl) ?_;simp;refine⟨?_,?_⟩
    all_goals
     refine rfZ rK (mU s2 v2 l2) (λt s3 h3=>?_);have p3:yH l _ s2 s3:=hM.oY ax v2 l2 h3;have v3:=cO.next p3;refine cS.mk ?_;simp
    all_goals
     refine cJ (by first|omega|(simp[cB];omega)|exact⟨λx hx=>by obtain⟨y,_,rfl⟩:=g3u.1 hx;first|rfl|(rw[cB];rfl),by omega⟩|exact⟨rfl,by omega⟩) ?_;simp;have ho:(eY aL l >>=λw=>aX l [58] >>=λ_=>ty >>=λt=>pure (ns++[w],ts++[t]):RM (List Nm×List Ty)) s0=((ns++[w],ts++[t]),s3):=by
      rw[bK,h1,bK,h2,bK,h3]
      rfl
     refine cT cG (dO (by omega) [44] s3 v3) (λbh sh hh=>?_);simp;refine hR _ (ns++[w],ts++[t]) s3 ho (by rw[hh];simp[c7f,cB,strs]) (λh=>?_) (by simp) (by simpa using hJ);have:=((p1.tr p2).tr p3) h;omega
 .rintro⟨ns,ts⟩ s2 m hm rZ la hJ v2 hy R;have hm':m=false\/(m=true/\ ¬s2.er=0):=by
   cases m
   .exact .inl rfl
   .rcases hm with h|h
    .cases h
    .exact .inr ⟨rfl,h⟩
  have Q2:=Q1.step (x:=oU l [44] (e6w l ty named) ([],[])) hy;simp only at Q2 la hJ;have l2':s2.er=0->low+1<=s2.pl:=λh=>Nat.le_trans (l1 (rZ h).1) (rZ h).2;rcases hm' with rfl|⟨rfl,h⟩
  all_goals
   first
    |simp[c7f,h]
    |simp[c7f]
   refine rfM Q2 v2 hV.fin λu3 s3 h3 Q3 p3 v3=>?_;simp;obtain⟨c,hc⟩:∃c,(decide (ts.length=1)&&(!named&& !cF l 0 [45,62] s3))=c:=⟨_,rfl⟩;have Q3:=Q3.step (show zA (λs=>decide (ts.length=1)&&(!named&& !cF l 0 [45,62] s)) s3=(c,s3) by rw[<-hc];rfl);cases c with
   |true=>simp only[g2Z,g3N,g3v]at hc;obtain⟨e1,e2,e3⟩:=hc;rw[if_pos rfl]at Q3;obtain⟨t,rfl⟩:∃t,ts=[t]:=List.length_eq_one_iff.1 e1;simp[e2];refine cT bT (eC hV [45,62] s3 v3) (λb x hx=>?_);cases hx;rw[e3];simp[cB];exact Q3.ok _ _ (.inr rfl) (by simp)
   |false=>
    rw[if_neg (by decide)]at Q3;have h4:(ts.length=1/\named=false/\cF l 0 [45,62] s3=true)\/(ts.length=1/\named=true)\/ ¬ts.length=1:=by
     by_cases h1:ts.length=1
     .cases named
      .exact .inl ⟨h1,rfl,by simpa[h1]using hc⟩
      .exact .inr (.inl ⟨h1,rfl⟩)
     .exact .inr (.inr h1)
    rcases h4 with⟨e1,e2,e3⟩|⟨e1,e2⟩|e1
    case' inl=>simp[e1,e2];refine cT bT (eC hV [45,62] s3 v3) (λb x hx=>?_);cases hx;rw[e3];simp
    case' inr.inl=>simp[e1,e2]
    case' inr.inr=>simp[e1]
    all_goals
     refine rfM Q3 v3 hV.fin λu4 s4 h4 Q4 p4 v4=>?_;have l4:s4.er=0->low+1<=s4.pl:=λh=>by have:=p4 h;have:=p3 this.1;have:=l2' this.1;omega
     simp;refine eV [0] 3 [2] (.op 1 (.call [4,5,6,7] .none) (.call [1,4,5,6,7] .none)) true (by kernel_rfl) (by kernel_rfl) ?_;simp;refine⟨?_,?_⟩
     all_goals
      refine rfZ rK (mU s4 v4 l4) (λt s5 h5=>?_);have Q5:=Q4.step h5;refine cS.mk ?_;simp;refine cJ (by first|omega|(simp[cB];omega)|exact⟨λx hx=>by obtain⟨y,_,rfl⟩:=g3u.1 hx;first|rfl|(rw[cB];rfl),by omega⟩|exact⟨rfl,by omega⟩) ?_;simp;exact Q5.ok _ _ (.inr rfl) (by simp[cB,wQ,eI])
end
end
section
variable {aD:List Tok->Nat->Nat->jA Pr} {l:List Tok} (hV:vK G aD l)
include hV
omit hV in
theorem c1y{l:List Tok}(s:dR)(hs:s.er≠0):eG G 118 [] l s (jK,s) a1I:=by obtain⟨i,e,ln⟩:=s;refine eG.bP func118 rfl ntmps118 rfl ?_;intro Q Q0;simp[hs];exact Q0.ok _ _ (.inr rfl) (by simp[jK,eI])
variable{t:Ty}{s s1:dR}
omit hV in
theorem d0d(h:dL aL l s=((t,false),s1)):t=jK:=by
 unfold dL at h;split at h
 .cases h
 .split at h
  .cases h;rfl
  .cases h
section
variable {x:bE Ty} {ty:RM Ty} {low:Nat} (hM:aK l (low+1) x ty) (ax:aB l 1 x) (mU:∀s,cO l s->(s.er=0->low+1<=s.pl)->eG G 118 [] l s (ty s) a1I) (nty:∀s,bO (ty s).1.pred<=430000000)
include hM ax mU nty
theorem d0e(s0:dR)(hv:cO l s0)(cN:s0.er=0->low<=s0.pl):eG G 118 [] l s0 (a5C aL bF aD l ty s0) a1I:=by
 have hl:=hV.len;by_cases he:s0.er=0;rotate_left
 .have:=c1y (G:=G) (l:=l) s0 he;unfold a5C
  rwa[if_neg he]
 have hr:=a9H hV hM ax mU nty s0 hv cN;have hf:=c3y hV hM ax mU s0 hv cN;have hp:=b2s hV s0 hv;have v0:=hv;refine eG.bP func118 rfl ntmps118 rfl ?_;intro Q Q0;unfold a5C at Q0;have Q0:=Q0.uK he;simp[he];refine cT (hH:=by simp[he]) bT (eC hV [123] s0 v0) (λb x hx=>?_);cases hx;cases h1:cF l 0 [123] s0 with
 |true=>have Q0:=Q0.uK h1;simp;refine cT (.mk func155 rfl) hr (λt s1 h1=>?_);have Q0:=Q0.eq h1;simp;exact Q0.ok _ _ (.inr rfl) (by simp)
 |false=>
 have Q0:=Q0.sK (by rw[h1];decide);simp;refine cT bT (eC hV [40] s0 v0) (λb x hx=>?_);cases hx;cases h2:cF l 0 [40] s0 with
 |true=>have Q0:=Q0.uK h2;simp;refine cT (.mk func158 rfl) hf (λt s1 h1=>?_);have Q0:=Q0.eq h1;simp;exact Q0.ok _ _ (.inr rfl) (by simp)
 |false=>
 have Q0:=Q0.sK (by rw[h2];decide);simp;have a3m:=b2t (l:=l) s0;refine cT (.mk func156 rfl) hp (λp s2 h3=>?_);rw[h3]at Q0 a3m;obtain⟨t,ok⟩:=p;simp only at Q0 a3m;have v2:=c1x hV.fin v0 h3;cases ok with
 |false=>have ht:=d0d h3;subst ht;rw[if_neg (by decide)]at Q0;simp[jK];refine cT sR (xM (by omega) s2 v2) (λu s3 h4=>?_);cases h4;simp;exact Q0.ok _ _ (.inr rfl) (by simp[jK,eI])
 |true=>
  rw[if_pos rfl]at Q0;simp;by_cases h4:t.op=4
  .rw[if_pos h4]at Q0;have l2:s2.er=0->low<=s2.pl:=λh=>by have h5:=c7d v0 h3 h;have:=cN he;omega
   have hd:=d0c hV hM ax mU nty t.name s2 v2 l2;simp[h4];refine cT (.mk func159 rfl) hd (λu s3 h5=>?_);have Q0:=Q0.eq h5;simp;exact Q0.ok _ _ (.inr rfl) (by simp)
  .rw[if_neg h4]at Q0;simp[h4];exact Q0.ok _ _ (.inr rfl) (by rw[a3m];simp[wQ,eI])
end
theorem b7W:∀(n low:Nat),l.length<n+low->n<=l.length+2->∀s,cO l s->(s.er=0->low<=s.pl)->eG G 118 [] l s (b0u aL bF aD l n s) a1I
 |0,low,h,_,s,hv,cN=>by
  have he:s.er≠0:=λh0=>by have:=hv h0;have:=cN h0;omega
  exact c1y s he
 |n+1,low,h,hn,s,hv,cN=>d0e hV (aK.a7n hV.toRfH n (low+1) (by omega)) (aB.a7n hV.fin hV.oY.pred n) (λs=>b7W n (low+1) (by omega) (by omega) s) (λs=>by have:=c1w hV n s;have:=hV.len;omega) s hv cN
theorem a4K(s:dR)(hv:cO l s):eG G 118 [] l s (wW aL bF aD l s) a1I:=b7W hV (l.length+2) 0 (by omega) (by omega) s hv (λ_=>by omega)
theorem a4L(hv:cO l s)(h:wW aL bF aD l s=(t,s1)):yH l 1 s s1:=(aK.typ hV.toRfH).e3x (aB.typ hV.fin hV.oY.pred) hv h
abbrev f3D(aD:List Tok->Nat->Nat->jA Pr)(l:List Tok)(out:List Ty):RM (List Ty):=do let t <- wW aL bF aD l;pure (out++[t])
theorem c7g(s0:dR)(hv:cO l s0):eG G 229 [] l s0 (a5D aL bF aD l s0) (λts=>.d (.sl (ts.map tyC))):=by
 have hl:=hV.len;have v0:=hv;refine eG.bP func229 rfl ntmps229 rfl ?_;intro Q Q0;unfold a5D at Q0;simp;refine rfM Q0 v0 hV.fin λu1 s1 h1 Q1 p1 v1=>?_;simp;refine a5G hV.fin [44] (f3D aD l) (λa=>a.length) (λ_=>True) 4 (λa=>[(3,.d (.sl (a.map tyC)))]) (λ_ s=>rfH l s) (λ_=>[(54,[.t 3])]) (l.length+2) [] s1 (by omega) v1 rfl trivial (by simp) ?_ ?_
 .intro a s0 e0 i0 bs la _ R hR;have v0:cO l s0:=λ_=>i0;simp[e0];refine rfL v0 rK (a4K hV s0 v0) (a4L hV) λt s1 h1 p1 v1=>?_;simp;refine jN (by first|omega|(simp[cB];omega)|exact⟨λx hx=>by obtain⟨y,_,rfl⟩:=g3u.1 hx;first|rfl|(rw[cB];rfl),by omega⟩|exact⟨rfl,by omega⟩) ?_;simp;refine cT cG (dO (by omega) [44] s1 v1) (λbh sh hh=>?_);simp;refine hR _ (a++[t]) s1 (by simp only[bK,h1];rfl) (by rw[hh];simp[cB]) (λh=>?_) (by simp) trivial;have:=(p1) h;omega
 ·
  intro a s2 m hm rZ la hJ v2 hy R;have hm':m=false\/(m=true/\ ¬s2.er=0):=by
   cases m
   .exact .inl rfl
   .rcases hm with h|h
    .cases h
    .exact .inr ⟨rfl,h⟩
  have Q2:=Q1.step (x:=oU l [44] (f3D aD l) []) hy;rcases hm' with rfl|⟨rfl,h⟩
  all_goals
   first
    |simp[h]
    |simp
   refine rfM Q2 v2 hV.fin λu3 s3 h3 Q3 p3 v3=>?_;simp;exact Q3.ok _ _ (.inr rfl) (by simp)
end
end
section
section
variable {kw:Nm->Bool} {andP:Pr->Pr->Pr} {aD:List Tok->Nat->Nat->jA Pr} {l:List Tok} {low m:Nat} {α β γ:Type} {ln:Int}
variable (H:RfH aD l)
include H
section
variable {ex:Nat->bE cP} {ex':Nat->RM cP} (hex:∀k,aK l (low+1) (ex k) (ex' k)) (kC:∀k,aB l 1 (ex k))
include hex kC
theorem aK.kZ:aK l low (jB l ex) (tC l ex'):=by unfold jB tC;exact aK.mus (aK.b0 (aK.list (λa=>aK.b0 (hex 0) λt=>aK.bZ _) _) λout=>aK.mus (aK.bZ _))
theorem aK.c6l(op:Int):aK l low (yW l ex op) (b7t l ex' op):=by unfold yW b7t;exact aK.mus (aK.b0 (hex 0) λe=>aK.mus (aK.bZ _))
theorem aK.f7r(op:Int):aK l low (aQ l [[40]] >>=λ_=>ex 0 >>=λa=>aQ l [[44]] >>=λ_=>ex 0 >>=λb=>aQ l [[41]] >>=λ_=>pure (eA op [a,b])) (c3j l ex' op):=by unfold c3j;exact aK.mus (aK.b0 (hex 0) λe=>aK.mus (aK.b0 ((hex 0).up (by omega)) λe=>aK.mus (aK.bZ _)))
variable{i:Nat}
theorem tS.closed(h1:low<=i)(h2:i<l.length)(hs:aJ l i [40]=true):tS ln (oN kw andP aD l ex i) (c6O kw andP aD l ex' ⟨i,0,ln⟩):=by
 have hr:aK l low (aQ l [[40]] >>=λ_=>ex 0 >>=λe=>cD l [58] >>=λb=>(if b then mP kw andP aD l >>=λt=>pure {eA 26 [e]with types:=[t]} else pure e:bE cP) >>=λe=>aQ l [[41]] >>=λ_=>pure e) (aX l [40] >>=λ_=>ex' 0 >>=λe=>gJ l [58] >>=λb=>(if b then wW kw andP aD l >>=λt=>pure {eA 26 [e]with types:=[t]} else pure e:RM cP) >>=λe=>aX l [41] >>=λ_=>pure e):=
  aK.mus (aK.b0 (hex 0) λe=>aK.b0 aK.b2h λb=>aK.b0 (aK.ite (aK.b0 (aK.typ H) λt=>aK.bZ _) (aK.bZ _)) λe=>aK.mus (aK.bZ _))
 have hr:=hr.sim i ln h1 h2;rw[a7z hs]at hr;unfold oN c6O;refine tS.f3f hs ?_;have hk:decide ((gN l 2 ⟨i,0,ln⟩).kind=3)=decide ((aH l (i+1+1)).kind=3):=by rw[c1i H.fin]
 have h3:cF l 3 [41] ⟨i,0,ln⟩=cI (aH l (i+1+2)) [41]:=a5F H 3 i (by decide);rw[a5F H 1 i (t:=[45]) (by decide),hk,h3, <- Bool.and_assoc]
 show tS ln (if (aJ l (i+1) [45]&&decide ((aH l (i+1+1)).kind=3)&&cI (aH l (i+1+2)) [41])=true then _ else _) _
 cases hc:(aJ l (i+1) [45]&&decide ((aH l (i+1+1)).kind=3)&&cI (aH l (i+1+2)) [41])with
 |true=>
  rw[if_pos rfl,if_pos rfl];simp only[g2Z,g3N]at hc;have aG:i+2<l.length:=by
   rcases Nat.lt_or_ge (i+2) l.length with h|h
   .exact h
   .have:=b7x H.fin (i:=i+2) (by omega);rw[hc.1.2]at this;cases this
  rw[b5Q aG]
  rfl
 |false=>rw[if_neg (by decide),if_neg (by decide)];exact hr
theorem aK.f3E(ti call:Bool)(nm:Nm){Y:bE (List cP)}(hY:aK l low Y (zA (λs=>call||cF l 0 [40] s) >>=λc=>if c then tC l ex' else pure [])):aK l low (qW kw andP aD l >>=λts=>Y >>=λks=>pure ⟨if call then 5 else if ti then 4 else 3,nm,0,ks,[],[],ts⟩) (b0v kw andP aD l ex' ti call nm):=by unfold b0v;refine aK.b0 (aK.types H) λts=>?_;exact⟨λi ln h1 h2=>tS.dB (hY.sim i ln h1 h2) (λa=>sL.bZ _) λa j h=>rfl,sL.dB hY.rG λa=>sL.bZ _,hY.av.bl λ_=>aB.bZ _⟩
theorem tS.app(h1:low<=i)(h2:i<l.length)(hwt:(gU kw (aH l i)||pJ (aH l i))=true):
  tS ln (if gU kw (aH l i) then
  (if !aJ l (i+1) [91]&& !aJ l (i+1) [40] then .ok {eA 3 []with name:=(aH l i).text} (i+1)
  else(do
   let ts <- qW kw andP aD l
   let ks <- jB l ex
   pure {eA 5 ks with name:=(aH l i).text,types:=ts}:bE cP) (i+1))
 else(do
  let ts <- qW kw andP aD l
  let ks <- (λj=>if aJ l j [40] then jB l ex j else .ok [] j:bE (List cP))
  pure {eA 4 ks with name:=(aH l i).text,types:=ts}:bE cP) (i+1)) (b3t kw andP aD l ex' ⟨i,0,ln⟩):=by
 have hn:i+1<l.length:=by
  simp only[g3l]at hwt;rcases hwt with h|h
  .exact a8r H.fin h2 h
  .exact a8q H.fin h2 h
 have ht:oT l true ⟨i,0,ln⟩=((aH l i).text,⟨i+1,0,ln⟩):=by unfold oT;rw[if_pos ⟨rfl,rfl⟩,a1i (by omega)]
 unfold b3t;rw[ht,a8F h2,a5F H 1 i (t:=[91]) (by decide),a5F H 1 i (t:=[40]) (by decide)];have hA:=aK.kZ H hex kC;have hT:aK l low (jB l ex) (zA (λs=>true||cF l 0 [40] s) >>=λc=>if c then tC l ex' else pure []):=⟨λi ln h1 h2=>hA.sim i ln h1 h2,hA.rG,hA.av⟩;have hF:aK l low (λj=>if aJ l j [40] then jB l ex j else .ok [] j:bE (List cP)) (zA (λs=>false||cF l 0 [40] s) >>=λc=>if c then tC l ex' else pure []):=by
  refine aK.test (λb=>?_) (λi a j hi h=>?_) λi ln h1 h2=>?_
  .cases b
   .exact sL.bZ _
   .exact hA.rG
  .split at h
   .exact hA.av i a j hi h
   .cases h;omega
  .rw[Bool.false_or,pN H i (t:=[40]) (by decide)];cases aJ l i [40]with
   |true=>exact hA.sim i ln h1 h2
   |false=>rfl
 cases hti:pJ (aH l i)with
 |true=>
  have hw:gU kw (aH l i)=false:=by unfold pJ at hti;unfold gU;simp only[g3N]at hti;simp[hti]
  rw[hw,if_neg (by decide)];exact(aK.f3E H hex kC true false _ hF).sim (i+1) ln (by omega) hn
 |false=>
  rw[hti,Bool.or_false]at hwt;rw[hwt,if_pos rfl];cases hc:(aJ l (i+1) [91]||aJ l (i+1) [40])with
  |true=>
   have e:(!aJ l (i+1) [91]&& !aJ l (i+1) [40])=false:=by rw[<-Bool.not_or,hc];rfl
   rw[e,if_neg (by decide)];exact(aK.f3E H hex kC false true _ hT).sim (i+1) ln (by omega) hn
  |false=>
   have e:(!aJ l (i+1) [91]&& !aJ l (i+1) [40])=true:=by rw[<-Bool.not_or,hc];rfl
   rw[e,if_pos rfl];simp only[Bool.or_eq_false_iff]at hc;have q1:cF l 0 [91] ⟨i+1,0,ln⟩=false:=(pN H _ (by decide)).trans hc.1;have q2:(false||cF l 0 [40] ⟨i+1,0,ln⟩)=false:=(pN H _ (by decide)).trans hc.2
   show b0v kw andP aD l ex' false false (aH l i).text ⟨i+1,0,ln⟩=_
   unfold b0v;rw[bK,d7w q1,a8C,bK,d7w q2]
   rfl
theorem aK.b1J:aK l low (uF kw andP aD l ex) (a8D kw andP aD l ex'):=⟨λi ln h1 h2=>by
 unfold uF a8D;rw[if_pos rfl,a1i h2,qL H h2 (t:=[116,114,117,101]) (by decide) (by decide),qL H h2 (t:=[102,97,108,115,101]) (by decide) (by decide),qL H h2 (t:=[110,101,119]) (by decide) (by decide),qL H h2 (t:=[103,101,116]) (by decide) (by decide),qL H h2 (t:=[115,101,116]) (by decide) (by decide),pN H i (t:=[40]) (by decide),a3v kw h2,a8F h2];by_cases k3:(aH l i).kind=3
 .rw[if_pos k3,if_pos k3];rfl
 rw[if_neg k3,if_neg k3];by_cases b1:aJ l i [116,114,117,101]=true
 .rw[if_pos b1,if_pos b1];rfl
 rw[if_neg b1,if_neg b1];by_cases b2:aJ l i [102,97,108,115,101]=true
 .rw[if_pos b2,if_pos b2];rfl
 rw[if_neg b2,if_neg b2];by_cases b3:aJ l i [110,101,119]=true
 .rw[if_pos b3,if_pos b3];exact(aK.c6l H hex kC _).sim (i+1) ln (by omega) (aV H.fin h2 b3)
 rw[if_neg b3,if_neg b3];by_cases b4:aJ l i [103,101,116]=true
 .rw[if_pos b4,if_pos b4];exact(aK.c6l H hex kC _).sim (i+1) ln (by omega) (aV H.fin h2 b4)
 rw[if_neg b4,if_neg b4];by_cases b5:aJ l i [115,101,116]=true
 .rw[if_pos b5,if_pos b5];exact(aK.f7r H hex kC _).sim (i+1) ln (by omega) (aV H.fin h2 b5)
 rw[if_neg b5,if_neg b5];cases b6:aJ l i [40]with
 |true=>
  have k4:(aH l i).kind=4:=by have e:aJ l i [40]=_:=(H.tkw i).sg (by decide);rw[e]at b6;simp only[g2Z,g3N]at b6;exact b6.1
  have hw:gU kw (aH l i)=false:=by unfold gU;simp[k4]
  have ht:pJ (aH l i)=false:=by unfold pJ;simp[k4]
  rw[hw,ht,if_neg (by decide),if_neg (by decide),if_pos rfl];exact tS.closed H hex kC h1 h2 b6
 |false=>
  rw[if_neg (show ¬false=true by decide)];cases hwt:(gU kw (aH l i)||pJ (aH l i))with
  |true=>
   have h:=tS.app (ln:=ln) (andP:=andP) H hex kC h1 h2 hwt;rw[if_pos rfl];cases hw:gU kw (aH l i)with
   |true=>rw[hw,if_pos rfl]at h;rw[if_pos rfl];exact h
   |false=>rw[hw,Bool.false_or]at hwt;rw[hw,if_neg (by decide)]at h;rw[if_neg (by decide),hwt,if_pos rfl];exact h
  |false=>simp only[Bool.or_eq_false_iff]at hwt;rw[hwt.1,hwt.2,if_neg (by decide),if_neg (by decide),if_neg (by decide)];unfold oN;exact tS.e2X b6 (tS.fail h2 _),λs hs=>by
 unfold a8D;rw[if_neg hs],(aB.b1J H.fin kC H.oY.pred).le (by omega)⟩
theorem aK.unG:aK l low (a2t kw andP aD l ex) (b4H kw andP aD l ex'):=⟨λi ln h1 h2=>by
 unfold a2t b4H;rw[pN H i (t:=[45]) (by decide)];cases hs:aJ l i [45]with
 |true=>exact(aK.b0 (hex 7) λe=>aK.bZ _).sim (i+1) ln (by omega) (aV H.fin h2 hs)
 |false=>exact(aK.b1J H hex kC).sim i ln h1 h2,λs hs=>by
 unfold b4H;rw[rD hs,if_neg (by decide)];exact(aK.b1J H hex kC).rG s hs,(aB.unG H.fin kC H.oY.pred).le (by omega)⟩
end
def e3H(ops:List (Nm×Int))(ops':List (Nm×Bool×Int)):Bool:=decide (ops=ops'.map λp=>(p.1,p.2.2))&&ops'.all λp=>(if p.2.1 then smU (p.1.headD 0)&& !caU (p.1.headD 0) else sgN p.1)&& !decide (p.2.2=0)
variable{ops:List (Nm×Int)}
theorem d7M:∀{ops':List (Nm×Bool×Int)},e3H ops ops'=true->∀{i:Nat},i<l.length->wX l ops' ⟨i,0,ln⟩=(match ops.find? λp=>aJ l i p.1 with
  |none=>0
  |some p=>p.2)/\∀p,(ops.find? λp=>aJ l i p.1)=some p->p.2≠0:=λ{ops'} h {i} hi=>by
 simp only[e3H,g2Z,g3N]at h;obtain⟨rfl,h⟩:=h;have hp:∀p∈ops',(if p.2.1 then jU l p.1 ⟨i,0,ln⟩ else cF l 0 p.1 ⟨i,0,ln⟩)=aJ l i p.1:=λp hp=>by
  have h:=g3c.1 h p hp;simp only[g2Z]at h;cases hb:p.2.1 with
  |true=>have h:=h.1;rw[hb,if_pos rfl]at h;simp only[g2Z,g3v]at h;rw[if_pos rfl];exact qL H hi h.1 h.2
  |false=>have h:=h.1;rw[hb,if_neg (by decide)]at h;rw[if_neg (by decide)];exact pN H i h
 unfold wX;rw[find_congr hp,List.find?_map]
 show(match ops'.find? (λp=>aJ l i p.1)with|none=>0|some p=>p.2.2)=(match (ops'.find? (λp=>aJ l i p.1)).map (λp=>(p.1,p.2.2))with|none=>0|some p=>p.2)/\∀p,(ops'.find? (λp=>aJ l i p.1)).map (λp=>(p.1,p.2.2))=some p->p.2≠0
 cases hf:ops'.find? (λp=>aJ l i p.1)with
 |none=>exact⟨rfl,λp h=>by cases h⟩
 |some q=>refine⟨rfl,λp hp=>?_⟩;cases hp;have h:=g3c.1 h q (List.mem_of_find?_eq_some hf);simp only[g2Z,g3v,decide_eq_false_iff_not]at h;exact h.2
theorem tS.chain{ops:List (Nm×Int)}{ops':List (Nm×Bool×Int)}(ho:e3H ops ops'=true){one:bE cP}{one':RM cP}(h0:aK l low one one'):∀(g:Nat)(e:cP)(i:Nat),low<=i->i<l.length->l.length<g+i->tS ln (eU l ops one g e i) (zC l ops' one' g e ⟨i,0,ln⟩)
 |0,e,i,h1,h2,h3=>absurd h3 (by omega)
 |g+1,e,i,h1,h2,h3=>by
  unfold eU zC;have hq:=d7M H (ln:=ln) ho h2;rw[hq.1];cases hf:ops.find? λp=>aJ l i p.1 with
  |none=>
   rw[if_neg (λh=>h.2 rfl)]
   rfl
  |some p=>
   have hp:=hq.2 p hf;have hn:=aV H.fin h2 (show aJ l i p.1=true from List.find?_some (p:=λq:Nm×Int=>aJ l i q.1) hf);rw[if_pos ⟨rfl,hp⟩];have h:=h0.sim (i+1) ln (by omega) hn;simp only;cases hx:one (i+1)with
   |bad n x=>
    rw[hx]at h;obtain⟨k1,k2,k3⟩:x≠0/\_:=h;have k4:(one' ⟨i+1,0,ln⟩).2.er≠0:=by rw[k2];exact k1
    have hk:∀(g:Nat)(e:cP),(zC l ops' one' g e (one' ⟨i+1,0,ln⟩).2).2=(one' ⟨i+1,0,ln⟩).2:=λg e=>by
     cases g with
     |zero=>rfl
     |succ g=>unfold zC;rw[if_neg (λh=>k4 h.1)]
    exact⟨k1,by rw[hk];exact k2,by rw[hk];exact k3⟩
   |ok x j=>rw[hx]at h;have h:one' ⟨i+1,0,ln⟩=(x,⟨j,0,ln⟩):=h;have ha:=h0.av (i+1) x j hn hx;rw[h];exact tS.chain ho h0 g _ j (by omega) ha.2 (by omega)
omit H in
theorem aK.lvl{ops':List (Nm×Bool×Int)}{one:bE cP}{one':RM cP}(h0:aK l low one one')(ho:e3H ops ops'=true:=by decide)(H:RfH aD l:=by assumption):aK l low (yX l ops one) (b4I l ops' one'):=by unfold yX b4I;refine aK.b0 h0 λe=>⟨λi ln h1 h2=>tS.chain H ho h0 _ _ _ h1 h2 (by omega),λs hs=>?_,aB.chain H.fin h0.av _ _⟩;unfold zC;rw[if_neg (λh=>hs h.1)]
section
variable {ex:Nat->bE cP} {ex':Nat->RM cP} (hex:∀k,aK l (low+1) (ex k) (ex' k)) (kC:∀k,aB l 1 (ex k))
include hex kC
theorem aK.a6w:aK l low (pL kw andP aD l ex) (a1g kw andP aD l ex'):=aK.lvl (aK.lvl (aK.unG H hex kC))
theorem aK.a3T:aK l low (a0f kw andP aD l ex) (b7u kw andP aD l ex'):=by
 unfold a0f b7u;have hs:=aK.a6w (kw:=kw) (andP:=andP) H hex kC;refine aK.b0 hs λe=>⟨λi ln h1 h2=>?_,λs h=>by rw[if_neg (by rw[b2f h];decide)],λi a j hi h=>?_⟩;rotate_left
 .repeat' split at h
  all_goals first
   |(cases h;omega)
   |(rename_i k;have:=(hs.av.bl λ_=>aB.bZ _).nxt (aV H.fin hi k) h;omega)
 rw[a1i h2];have go:∀(s:Nm)(F:cP->cP),aJ l i s=true->tS ln ((pL kw andP aD l ex >>=λx=>pure (F x)) (i+1)) ((a1g kw andP aD l ex' >>=λx=>pure (F x)) ⟨i+1,0,ln⟩):=λs F h=>(aK.b0 hs λx=>aK.bZ _).sim (i+1) ln (by omega) (aV H.fin h2 h);have ee:∀s,sgN s=true->aJ l i s=(decide ((aH l i).kind=4)&&decide ((aH l i).text=s)):=λs h=>(H.tkw i).sg h;have e1:=ee [61,61] (by decide);have e2:=ee [33,61] (by decide);have e3:=ee [60] (by decide);have e4:=ee [60,61] (by decide);have e5:=ee [62] (by decide);have e6:=ee [62,61] (by decide);by_cases k4:(aH l i).kind=4
 .rw[if_pos k4];simp only[k4,decide_true,Bool.true_and]at e1 e2 e3 e4 e5 e6;by_cases x1:(aH l i).text=[61,61]
  .rw[if_pos x1,if_pos (by rw[e1];simpa using x1)];exact go [61,61] (λx=>eA 16 [e,x]) (by rw[e1];simpa using x1)
  rw[if_neg x1,if_neg (by rw[e1];simpa using x1)];by_cases x2:(aH l i).text=[33,61]
  .rw[if_pos x2,if_pos (by rw[e2];simpa using x2)];exact go [33,61] _ (by rw[e2];simpa using x2)
  rw[if_neg x2,if_neg (by rw[e2];simpa using x2)];by_cases x3:(aH l i).text=[60]
  .rw[if_pos x3,if_pos (by rw[e3];simpa using x3)];exact go [60] _ (by rw[e3];simpa using x3)
  rw[if_neg x3,if_neg (by rw[e3];simpa using x3)];by_cases x4:(aH l i).text=[60,61]
  .rw[if_pos x4,if_pos (by rw[e4];simpa using x4)];exact go [60,61] _ (by rw[e4];simpa using x4)
  rw[if_neg x4,if_neg (by rw[e4];simpa using x4)];by_cases x5:(aH l i).text=[62]
  .rw[if_pos x5,if_pos (by rw[e5];simpa using x5)];exact go [62] _ (by rw[e5];simpa using x5)
  rw[if_neg x5,if_neg (by rw[e5];simpa using x5)];by_cases x6:(aH l i).text=[62,61]
  .rw[if_pos x6,if_pos (by rw[e6];simpa using x6)];exact go [62,61] _ (by rw[e6];simpa using x6)
  rw[if_neg x6,if_neg (by rw[e6];simpa using x6)]
  rfl
 .rw[if_neg k4];simp only[k4,decide_false,Bool.false_and]at e1 e2 e3 e4 e5 e6;rw[e1,e2,e3,e4,e5,e6]
  rfl
theorem aK.a8X:aK l low (xK kw andP aD l ex) (b0w kw andP aD l ex'):=⟨λi ln h1 h2=>by
 unfold xK b0w;rw[pN H i (t:=[33]) (by decide)];cases hs:aJ l i [33]with
 |true=>exact(aK.b0 (hex 3) λe=>aK.bZ _).sim (i+1) ln (by omega) (aV H.fin h2 hs)
 |false=>exact(aK.a3T H hex kC).sim i ln h1 h2,λs hs=>by
 unfold b0w;rw[rD hs,if_neg (by decide)];exact(aK.a3T H hex kC).rG s hs,(aB.a8X H.fin kC H.oY.pred).le (by omega)⟩
theorem aK.orG:aK l low (c0V kw andP aD l ex) (d7u kw andP aD l ex'):=aK.lvl (aK.lvl (aK.a8X H hex kC))
omit hex kC in
theorem aB.e9C:aB l 0 (λi=>if aJ l i [40] then gD kw l i else .ok [] i:bE (List Nm)):=λi b j hi h=>by
 have h:(if aJ l i [40]=true then gD kw l i else .ok [] i)=.ok b j:=h;split at h
 .exact((aB.words H.fin).le (by omega)) _ _ _ hi h
 .cases h;omega
omit hex kC in
theorem aK.e9C:aK l low (λi=>if aJ l i [40] then gD kw l i else .ok [] i:bE (List Nm)) (zA (cF l 0 [40]) >>=λb=>if b then rV kw l else pure []):=by
 refine aK.test (λb=>?_) (aB.e9C H) λi ln h1 h2=>?_
 .cases b
  .exact sL.bZ _
  .exact(aK.words (low:=0) H).rG
 .rw[pN H i (t:=[40]) (by decide)];cases aJ l i [40]with
  |true=>exact(aK.words (low:=low) H).sim i ln h1 h2
  |false=>rfl
theorem aK.b7a:aK l (low+1) (sD kw l ex) (ex' 0 >>=λa=>yA l [111,102] >>=λ_=>b2c kw l ex' >>=λalts=>pure {eA 9 [a]with alts:=alts}):=by unfold sD b2c;refine aK.b0 (hex 0) λe=>aK.key λ_=>aK.a1E (aK.mus (aK.a1E (aK.b0 (aK.list (λout=>?_) _) λalts=>aK.a1E (aK.mus (aK.bZ _)))));exact aK.b0 aK.title λc=>aK.d7v (aK.b0 (aK.e9C H) λns=>aK.mus (aK.b0 ((hex 0).up (by omega)) λb=>aK.bZ _))
theorem aK.d6V:aK l (low+1) (a0e kw andP aD l ex) (a2x kw andP aD l >>=λps=>aX l [45,62] >>=λ_=>ex' 0 >>=λe=>pure {eA 6 [e]with params:=ps}):=by unfold a0e a2x;have aT:=aB.typ (kw:=kw) (andP:=andP) H.fin H.oY.pred;refine aK.a1E (aK.mus (aK.a1E (aK.b0 (aK.list (λout=>?_) _) λps=>aK.a1E (aK.b9K (aK.f3e (aK.mus (aK.b0 ((hex 0).up (by omega)) λe=>aK.bZ _)))))));exact aK.b0 aK.word λw=>aK.b0 aK.b2h λb=>aK.b0 (aK.ite (aK.typ H) (aK.bZ _)) λt=>aK.bZ _
theorem aK.d6U:aK l (low+1) (a0d kw andP aD l ex) (b7v kw andP aD l ex'):=by unfold a0d b7v;have aT:=aB.typ (kw:=kw) (andP:=andP) H.fin H.oY.pred;exact aK.b0 aK.word λw=>aK.b0 aK.b2h λb=>aK.b0 (aK.ite (aK.b0 (aK.typ H) λt=>aK.bZ _) (aK.bZ _)) λts=>aK.mus (aK.b0 ((hex 0).up (by omega)) λa=>aK.key λ_=>aK.nil (aK.b0 ((hex 0).up (by omega)) λc=>aK.bZ _))
theorem aK.exG:aK l low (a3n kw andP aD l ex) (b7w kw andP aD l ex'):=⟨λi ln h1 h2=>by
 unfold a3n b7w;rw[if_pos rfl,qL H h2 (t:=[108,101,116]) (by decide) (by decide),qL H h2 (t:=[105,102]) (by decide) (by decide),qL H h2 (t:=[99,97,115,101]) (by decide) (by decide),qL H h2 (t:=[102,117,110]) (by decide) (by decide),qL H h2 (t:=[117,115,101]) (by decide) (by decide)];by_cases b1:aJ l i [108,101,116]=true
 .rw[if_pos b1,if_pos b1];exact(aK.d6U H hex kC).sim (i+1) ln (by omega) (aV H.fin h2 b1)
 rw[if_neg b1,if_neg b1];by_cases b2:aJ l i [105,102]=true
 .rw[if_pos b2,if_pos b2];have h:aK l (low+1) (ex 0 >>=λa=>aQ l [[116,104,101,110]] >>=λ_=>ex 0 >>=λb=>aQ l [[101,108,115,101]] >>=λ_=>ex 0 >>=λc=>pure (eA 8 [a,b,c])) (ex' 0 >>=λa=>yA l [116,104,101,110] >>=λ_=>ex' 0 >>=λb=>yA l [101,108,115,101] >>=λ_=>ex' 0 >>=λc=>pure (eA 8 [a,b,c])):=aK.b0 (hex 0) λa=>aK.key λ_=>aK.nil (aK.b0 ((hex 0).up (by omega)) λb=>aK.key λ_=>aK.nil (aK.b0 ((hex 0).up (by omega)) λc=>aK.bZ _));exact h.sim (i+1) ln (by omega) (aV H.fin h2 b2)
 rw[if_neg b2,if_neg b2];by_cases b3:aJ l i [99,97,115,101]=true
 .rw[if_pos b3,if_pos b3];exact(aK.b7a (kw:=kw) H hex kC).sim (i+1) ln (by omega) (aV H.fin h2 b3)
 rw[if_neg b3,if_neg b3];by_cases b4:aJ l i [102,117,110]=true
 .rw[if_pos b4,if_pos b4];exact(aK.d6V H hex kC).sim (i+1) ln (by omega) (aV H.fin h2 b4)
 rw[if_neg b4,if_neg b4];by_cases b5:aJ l i [117,115,101]=true
 .rw[if_pos b5,if_pos b5];have h:aK l (low+1) (bU kw l >>=λname=>jB l ex >>=λks=>aQ l [[105,110]] >>=λ_=>ex 0 >>=λb=>pure {eA 25 (ks++[b])with name:=name}) (eY kw l >>=λname=>tC l ex' >>=λks=>yA l [105,110] >>=λ_=>ex' 0 >>=λb=>pure {eA 25 (ks++[b])with name:=name}):=aK.b0 aK.word λname=>aK.b0 ((aK.kZ H hex kC).up (by omega)) λks=>aK.key λ_=>aK.nil (aK.b0 ((hex 0).up (by omega)) λc=>aK.bZ _);exact h.sim (i+1) ln (by omega) (aV H.fin h2 b5)
 rw[if_neg b5,if_neg b5];exact(aK.orG H hex kC).sim i ln h1 h2,λs hs=>by
 unfold b7w;rw[if_neg hs],(aB.exG H.fin kC H.oY.pred).le (by omega)⟩
end
theorem aK.exF:∀(n low:Nat),l.length<n+low->∀k,aK l low (uG kw andP aD l n k) (b2d kw andP aD l n k)
 |0,low,h,k=>⟨λi ln h1 h2=>absurd h (by omega),λs _=>rfl,(aB.exF H.fin H.oY.pred 0 k).le (by omega)⟩
 |n+1,low,h,k=>by
  have ih:=aK.exF n (low+1) (by omega);have ax:=λk=>aB.exF (kw:=kw) (andP:=andP) H.fin H.oY.pred n k;unfold uG b2d;by_cases k7:k=7
  .rw[if_pos k7,if_pos k7];exact aK.unG H ih ax
  rw[if_neg k7,if_neg k7];by_cases k3:k=3
  .rw[if_pos k3,if_pos k3];exact aK.a8X H ih ax
  rw[if_neg k3,if_neg k3];exact aK.exG H ih ax
theorem aK.expr:aK l low (qD kw andP aD l) (a3Z kw andP aD l):=aK.exF H _ _ (by omega) 0
end
end
section
open Go Go.VM
variable {G:GT}
section
variable {aD:List Tok->Nat->Nat->jA Pr} {l:List Tok} (hV:rP G aD l)
include hV
section
variable {ty:bE Ty} {low:Nat} (mU:∀i,low<=i->i<l.length->tL G 43 [] l i (ty i) a1I) (yF:aB l 1 ty) (ity:∀i t j,i<l.length->ty i=.ok t j->TyI t i j)
include mU yF ity
theorem d3X(j0:Nat)(cN:low<=j0+1)(hi:j0<l.length):tL G 43 [] l j0 (wO aL bF aD l ty j0) a1I:=by
 have hl:=hV.len;have p0:=gQ hi;have ht:=dK (G:=G) l j0 j0 0;refine pX.bP func43 rfl ntmps43 rfl (by simp) ?_;intro Q Q0;unfold wO at Q0;simp;refine uA Q0 p0 (.mk func84 rfl) (b7N hV j0 hi) (aB.base hV.fin) λo j1 x1 Q1 p1=>?_;cases o with
 |some t=>obtain⟨op,nm,args,ns,p,ps⟩:=t;simp;exact Q1.ok _ j1 _ _ rfl (.inr rfl) (by simp)
 |none=>
 have hj:=xX x1;subst hj;simp only at Q1;simp[jK,eI];refine pY (ds:=[.int .i64 0]) cH ht ?_;cases hti:pJ (aH l j1)with
 |true=>
  rw[hti,if_pos rfl]at Q1;have hk:(aH l j1).kind=2:=by simpa[pJ]using hti
  generalize aH l j1=T at hk|-;obtain⟨k,x,n,ln⟩:=T;simp only at hk;subst hk;simp[bL];refine rdX (ds:=[]) (.mk func85 rfl) (c9W hV mU (yF.le (by omega)) ity j1 cN p1.2) (λt j h=>?_) (λn e h=>Q1.bad n e _ h);simp;exact Q1.ok t j _ _ h (.inr rfl) (by simp)
 |false=>
  rw[hti,if_neg (by decide)]at Q1;have hk:¬(aH l j1).kind=2:=by simpa[pJ]using hti
  generalize aH l j1=T at hk|-;obtain⟨k,x,n,ln⟩:=T;simp only at hk;simp[bL,hk];have hb:=mQ (G:=G) l j1 [123] p1.2;refine pY (ds:=[.str [123]]) jO hb ?_;cases hs:aJ l j1 [123]with
  |true=>rw[hs,if_pos rfl]at Q1;simp;refine rdX (ds:=[]) (.mk func86 rfl) (a9E hV mU (yF.le (by omega)) ity j1 cN p1.2) (λt j h=>?_) (λn e h=>Q1.bad n e _ h);simp;exact Q1.ok t j _ _ h (.inr rfl) (by simp)
  |false=>rw[hs,if_neg (by decide)]at Q1;simp;refine rdX (ds:=[]) (.mk func87 rfl) (d3V hV mU yF j1 cN p1.2) (λt j h=>?_) (λn e h=>Q1.bad n e _ h);simp;exact Q1.ok t j _ _ h (.inr rfl) (by simp)
end
variable{i j:Nat}
theorem b7X(op:Int)(nm:Nm)(args:List Ty)(ns:List Nm)(ps:List Pr)(h:i<=j):TyI ⟨op,nm,args,ns,eI,ps⟩ i j:=by refine⟨λ_=>rfl,?_⟩;simp[eI,bO,eK];omega
theorem d1U{p q:Pr}{s r:Pr×Bool}(hp:p.op≠0)(hs:s.1.op≠0)(h:b7K p s=some r):r.1.op≠0:=by
 unfold b7K at h;split at h
 .cases h;exact hs
 split at h
 .cases h
 split at h
 .cases h;simp
 .cases h;exact hp
theorem c3z(b:Bool):(a5L b).op≠0:=by cases b<;>simp[a5L,a1G,a5K]
variable{a b:Pr}
theorem e3I(ha:a.op≠0)(hb:b.op≠0):(bF a b).op≠0:=by
 unfold bF b5u;cases h1:b7K a (a5L true,false)with
 |none=>exact c3z hV false
 |some s=>
  have k1:=d1U hV (q:=a) ha (c3z hV true) h1;simp only[b5u];cases h2:b7K b s with
  |none=>exact c3z hV false
  |some r=>exact d1U hV (q:=b) hb k1 h2
theorem d7N:bO (bF a b)<=bO a+bO b+1:=by
 have pos:∀p:Pr,1<=bO p:=λp=>by cases p;simp[bO]
 have ha:=pos a;have hb:=pos b;unfold bF b5u;cases h1:b7K a (a5L true,false)with
 |none=>simp only[b7L];omega
 |some s=>
  have k1:bO s.1<=bO a/\(s.2=false->bO s.1=1):=by
   unfold b7K at h1;split at h1
   .cases h1;simp only[b7L];exact⟨ha,λ_=>trivial⟩
   split at h1
   .cases h1
   simp only[g3t,if_false,g3f]at h1;subst h1;exact⟨g3p _,λh=>by cases h⟩
  simp only[b5u];cases h2:b7K b s with
  |none=>simp only[b7L];omega
  |some r=>
   simp only;unfold b7K at h2;split at h2
   .cases h2;omega
   split at h2
   .cases h2
   split at h2
   .cases h2;simp only[b7M];omega
   .cases h2;simp only;omega
omit hV in
theorem dC{α β:Type}{x:bE α}{f:α->bE β}{b:β}(h:(x >>=f) i=.ok b j):∃a k,x i=.ok a k/\f a k=.ok b j:=by
 rw[bX]at h;cases hx:x i with
 |bad n e=>rw[hx]at h;cases h
 |ok a k=>rw[hx]at h;exact⟨a,k,rfl,h⟩
variable{ty:bE Ty}
theorem d3Y(i:Nat)(t:Ty)(j:Nat)(h:tB aL bF aD l ty i=.ok t j):t.pred=eI:=by
 unfold tB at h;obtain⟨nm,k1,_,h⟩:=dC h;obtain⟨args,k2,_,h⟩:=dC h;obtain⟨b,k3,_,h⟩:=dC h;cases b with
 |true=>rw[if_pos rfl]at h;obtain⟨ps,k4,_,h⟩:=dC h;obtain⟨_,k5,_,h⟩:=dC h;cases h;rfl
 |false=>rw[if_neg (by decide)]at h;cases h;rfl
theorem d7O(yF:aB l 1 ty)(ity:∀i t j,i<l.length->ty i=.ok t j->TyI t i j)(i:Nat)(t:Ty)(j:Nat)(hi:i<l.length)(h:vC bF aD l ty i=.ok t j):TyI t i j:=by
 unfold vC at h;obtain⟨_,k1,h1,h⟩:=dC h;obtain⟨t1,k2,h2,h⟩:=dC h;have a1:=aB.exp hV.fin _ _ i _ k1 hi h1;have a2:=yF k1 t1 k2 a1.2 h2;have i2:=ity k1 t1 k2 a1.2 h2;split at h
 .unfold dN at h;cases h
 obtain⟨_,k3,h3,h⟩:=dC h;obtain⟨p,k4,h4,h⟩:=dC h;obtain⟨_,k5,h5,h⟩:=dC h;have a3:=aB.exp hV.fin _ _ k2 _ k3 a2.2 h3;have a4:=hV.oY.pred k3 p k4 a3.2 h4;have a5:=aB.exp hV.fin _ _ k4 _ k5 a4.2 h5;have hp:=hV.nod k3 _ p k4 a3.2 h4;cases h;unfold TyI at i2|-;simp only;by_cases hz:t1.pred.op=0
 .rw[if_pos hz];exact⟨λh=>(hp.2 h).elim,by omega⟩
 .rw[if_neg hz];have hn:=d7N hV (a:=t1.pred) (b:=p);exact⟨λh=>(e3I hV hz hp.2 h).elim,by omega⟩
theorem d7P(yF:aB l 1 ty)(ity:∀i t j,i<l.length->ty i=.ok t j->TyI t i j)(i:Nat)(t:Ty)(j:Nat)(hi:i<l.length)(h:vD aL l ty i=.ok t j):TyI t i j:=by
 have wC:=aB.c6k (kw:=aL) hV.fin (yF.le (by omega)) hV.oY.pred i t j hi h;unfold vD at h;obtain⟨_,k1,h1,h⟩:=dC h;obtain⟨⟨ns,ts⟩,k2,h2,h⟩:=dC h;obtain⟨_,k3,h3,h⟩:=dC h;have a1:=aB.exp hV.fin _ _ i _ k1 hi h1;simp only at h2 h3 h;have hI:∀(x:bE (List Nm×List Ty)),(∀(I:List Nm×List Ty->Nat->Prop),I ([],[]) k1->(∀a p b q,p<l.length->k1<=p->I a p->(a7G l ty a p=.ok b q\/a6l ty a p=.ok b q)->I b q/\q<l.length/\k1<=q)->(∀a p,I a p->I a (p+1))->x k1=.ok (ns,ts) k2->I (ns,ts) k2/\k2<l.length)->x k1=.ok (ns,ts) k2->(∀t∈ts,(t.pred.op=0->t.pred=b0B)/\bO t.pred+k1<=k2+1)/\k2<l.length:=λx hx hx2=>by
  refine hx (λa p=>∀t∈a.2,(t.pred.op=0->t.pred=b0B)/\bO t.pred+k1<=p+1) (by simp) (λa p b q hp hk ha hab=>?_) (λa p ha t ht=>by have:=ha t ht;exact⟨this.1,by omega⟩) hx2;have key:∀t q',∀p',p<=p'->p'<l.length->ty p'=.ok t q'->(t.pred.op=0->t.pred=b0B)/\bO t.pred+k1<=q'+1/\q'<l.length/\p<=q':=λt q' p' h1 h2 h3=>by have b1:=ity p' t q' h2 h3;have b2:=yF p' t q' h2 h3;exact⟨b1.1,by have:=b1.2;omega,b2.2,by omega⟩
  rcases hab with hab|hab
  .obtain⟨w,m1,e1,hab⟩:=dC hab;obtain⟨_,m2,e2,hab⟩:=dC hab;obtain⟨t',m3,e3,hab⟩:=dC hab;have c1:=aB.word (kw:=aL) hV.fin p w m1 hp e1;have c2:=aB.exp hV.fin _ _ m1 _ m2 c1.2 e2;have c3:=key t' m3 m2 (by omega) c2.2 e3;cases hab;refine⟨λt ht=>?_,c3.2.2.1,by omega⟩;simp only[g3z,g3g]at ht;rcases ht with ht|rfl
   .have:=ha t ht;exact⟨this.1,by omega⟩
   .exact⟨c3.1,c3.2.1⟩
  .obtain⟨t',m3,e3,hab⟩:=dC hab;have c3:=key t' m3 p (g3p _) hp e3;cases hab;refine⟨λt ht=>?_,c3.2.2.1,by omega⟩;simp only[g3z,g3g]at ht;rcases ht with ht|rfl
   .have:=ha t ht;exact⟨this.1,by omega⟩
   .exact⟨c3.1,c3.2.1⟩
 have hA:(∀t∈ts,(t.pred.op=0->t.pred=b0B)/\bO t.pred+k1<=k2+1)/\k2<l.length:=by
  split at h2
  .refine hI _ (λI h0 hs hm hx=>?_) h2;have:=vJ hV (one:=a7G l ty) (λa p=>k1<=p/\I a p) (λa p b q hp ha hab=>by have:=hs a p b q hp ha.1 ha.2 (.inl hab);exact⟨⟨this.2.2,this.1⟩,this.2.1⟩) (λa p h=>⟨by omega,hm a p h.2⟩) _ _ _ _ _ a1.2 ⟨g3p _,h0⟩ hx
   exact⟨this.1.2,this.2⟩
  .refine hI _ (λI h0 hs hm hx=>?_) h2;have:=vJ hV (one:=a6l ty) (λa p=>k1<=p/\I a p) (λa p b q hp ha hab=>by have:=hs a p b q hp ha.1 ha.2 (.inr hab);exact⟨⟨this.2.2,this.1⟩,this.2.1⟩) (λa p h=>⟨by omega,hm a p h.2⟩) _ _ _ _ _ a1.2 ⟨g3p _,h0⟩ hx
   exact⟨this.1.2,this.2⟩
 have a3:=aB.exp hV.fin _ _ k2 _ k3 hA.2 h3;split at h
 .rename_i hc;simp only[g2Z,g3N]at hc;obtain⟨t',rfl⟩:=List.length_eq_one_iff.1 hc.1.2;cases h;have:=hA.1 t' (by simp);simp only[List.headD_cons];exact⟨this.1,by omega⟩
 .obtain⟨_,k4,h4,h⟩:=dC h;obtain⟨t',k5,h5,h⟩:=dC h;cases h;exact b7X hV _ _ _ _ _ (by omega)
theorem d7Q(yF:aB l 1 ty)(ity:∀i t j,i<l.length->ty i=.ok t j->TyI t i j)(i:Nat)(t:Ty)(j:Nat)(hi:i<l.length)(h:wO aL bF aD l ty i=.ok t j):TyI t i j:=by
 have wC:=aB.c2O (kw:=aL) (andP:=bF) hV.fin (yF.le (by omega)) hV.oY.pred i t j hi h;unfold wO at h;rw[bX]at h;cases hb:gO aL l i with
 |bad n e=>rw[hb]at h;cases h
 |ok o k=>
  rw[hb]at h;cases o with
  |some t'=>
   simp only[kR]at h;cases h;unfold gO at hb
   repeat' split at hb
   all_goals first|(cases hb;exact b7X hV _ _ _ _ _ (by omega))|cases hb
  |none=>
   have:=xX hb;subst this;simp only at h;split at h
   .have hp:=d3Y hV _ t j h;obtain⟨op,nm,args,ns,p,ps⟩:=t;simp only at hp;subst hp;exact b7X hV _ _ _ _ _ (by omega)
   .split at h
    .exact d7O hV yF ity _ t j hi h
    .exact d7P hV yF ity _ t j hi h
theorem b7Y:∀n i t j,i<l.length->xJ aL bF aD l n i=.ok t j->TyI t i j
 |0,i,t,j,_,h=>by unfold xJ at h;cases h
 |n+1,i,t,j,hi,h=>d7Q hV (aB.a7n hV.fin hV.oY.pred n) (b7Y n) i t j hi h
theorem b7Z:∀n i,i<l.length->l.length<n+i->tL G 43 [] l i (xJ aL bF aD l n i) a1I
 |0,i,hi,h=>by omega
 |n+1,i,hi,h=>d3X hV (ty:=xJ aL bF aD l n) (low:=i+1) (λi' h1 h2=>b7Z n i' h2 (by omega)) (aB.a7n hV.fin hV.oY.pred n) (b7Y hV n) i (g3p _) hi
theorem qI(i:Nat)(hi:i<l.length):tL G 43 [] l i (mP aL bF aD l i) a1I:=b7Z hV _ i hi (by omega)
theorem mD:aB l 1 (mP aL bF aD l):=aB.typ hV.fin hV.oY.pred
theorem d3Z(i:Nat)(t:Ty)(j:Nat)(hi:i<l.length)(h:mP aL bF aD l i=.ok t j):TyI t i j:=b7Y hV _ i t j hi h
theorem c3A(i:Nat)(hi:i<l.length):tL G 97 [] l i (kO aL bF aD l (mP aL bF aD l) i) a1I:=b4O hV (low:=0) (λi _ h=>qI hV i h) ((mD hV).le (by omega)) (d3Z hV) i (by omega) hi
def a4b(out:List Ty):List (Nat×bH):=[(100001,.cells [.d (.sl (out.map tyC))]),(100002,.cells [.ptr 100000 0])]
abbrev d7R:List (TypeId×List VM.Loc):=[(54,[.c 100001 0])]
abbrev c3B(aD:List Tok->Nat->Nat->jA Pr)(l:List Tok)(out:List Ty):bE (List Ty):=do let t <- mP aL bF aD l;pure (out++[t])
theorem d0f:a2A l K3 [.ptr 100001 0,.ptr 100002 0] a4b d7R:=by
 constructor
 all_goals intros
 all_goals first
  |rfl
  |simp[a4b,aR,aY,bB,bA,bM,getKey,aZ,bI,dE,rk,dM,bW, *]
theorem b8a(out:List Ty):aB l 1 (c3B aD l out):=(mD hV).bl λ_=>aB.bZ _
theorem c7h(a:List Ty)(i:Nat)(b:List Ty)(j:Nat)(hi:i<l.length)(h:a.length<=i)(hx:c3B aD l a i=.ok b j):b.length<=j:=by obtain⟨t,k,h1,h2⟩:=dC hx;have:=mD hV i t k hi h1;cases h2;simp;omega
theorem b5x(out:List Ty)(j0:Nat)(hi:j0<l.length)(vT:out.length<=j0):pX G 273 [.ptr 100001 0,.ptr 100002 0] (a4b out) d7R l j0 (c3B aD l out j0) (λ_=>.cY []) a4b:=by
 have hl:=hV.len;have p0:=gQ hi;refine pX.bP func273 rfl ntmps273 rfl (by simp) ?_;intro Q Q0;simp[a4b];refine b1Y 5 (t:=41) (e:=54) (s:=2) (z:=6) (r:=7) (p:=8) (q:=5) (x:=4) (b:=0) [] 2 [1] (a6y 0 3 4) (kV (mP aL bF aD l j0)) rfl rfl rfl rfl (by kernel_rfl) (by kernel_rfl) rfl ?_;simp
 repeat' apply And.intro
 all_goals
  refine rT Q0 p0 dP ((qI hV j0 p0.2)) (mD hV) λt j1 x1 Q1 p1=>cS.mk ?_;simp;refine⟨_,_,_,_,_,by simp,rfl,rfl,?_,rfl,rfl,?_,by simp,rfl,rfl,rfl,?_⟩
  .intro c hc
   first
    |(obtain⟨y,_,rfl⟩:=g3u.1 hc
      rw[cB]
      rfl)
    |(simp only[g3g]at hc
      subst hc
      rfl)
  .simp<;>omega
  exact Q1.ok _ j1 .normal _ rfl (.inl rfl) (by simp[a4b,cB])
theorem a2C(j0:Nat)(hi:j0<l.length):tL G 265 [] l j0 (qW aL bF aD l j0) (λts=>.d (.sl (ts.map tyC))):=by
 have hl:=hV.len;have p0:=gQ hi;refine pX.bP func265 rfl ntmps265 rfl (by simp) ?_;intro Q Q0;unfold qW at Q0;simp;cases hs:aJ l j0 [91]with
 |false=>have Q1:=Q0.step (mT hs);rw[if_neg (by decide)]at Q1;refine rdF hs p0 ?_;simp;exact Q1.ok _ j0 _ _ rfl (.inr rfl) (by simp)
 |true=>
  have Q1:=Q0.step (mS hs);rw[if_pos rfl]at Q1;refine rdT hs p0 hV.fin λp1=>?_;obtain⟨j1,tM⟩:∃j1,j0+1=j1:=⟨_,rfl⟩;rw[tM]at Q1 p1|-;simp;have kK:=jG hV [44] (c3B aD l) (λout i=>out.length<=i) 0 (.mk func273 rfl) (d0f hV) (λa=>(b8a hV a).le (by omega)) (λa i _ hi h=>b5x hV a i hi h) (c7h hV) (λa i h=>by omega) [] j1 (by omega) p1.2 (by simp);refine eB.mk (a1D eQ kK [(100000,100000),(100001,3),(100002,1)] (λa j hx=>?_) ?_ ?_ ?_ rfl rfl (λws j2 x2=>?_) (λn e hx2=>Q1.fail hx2 _))
  .simp[a4b,aR,aY,bB,bA,bM,getKey]
  .simp[a4b,aR,aY,bB,bA,bM,getKey]
  .simp[aZ,bI,rk]
  .simp[a4b,aZ,bI,rk,dE,dM]
  .have Q2:=Q1.step x2;have p2:=aB.list hV.fin (b8a hV) [] j1 ws j2 p1.2 x2;simp[bJ,a4b,aZ,bI,rk,dE,dM,bW,kU,jF,eN];refine eP Q2 p2 hV.fin λu3 j3 x3 Q3 p3=>?_;simp;exact Q3.ok _ j3 _ _ rfl (.inr rfl) (by simp)
end
abbrev zP(e:cP):List D:=[.int .i64 e.op,.str e.name,.int .i64 e.n,.sl (e.kids.map a1B),.sl (e.params.map a5t),.sl (e.alts.map b1K),.sl (e.types.map tyC)]
abbrev jL:cP->DV:=λe=>.d (.agg (zP e))
@[simp] theorem f5m(o:Int)(ks:List cP):(eA o ks).op=o:=rfl
@[simp] theorem f1t(o:Int)(ks:List cP):(eA o ks).name=[]:=rfl
@[simp] theorem f7s(o:Int)(ks:List cP):(eA o ks).n=0:=rfl
@[simp] theorem f1u(o:Int)(ks:List cP):(eA o ks).kids=ks:=rfl
@[simp] theorem e6x(o:Int)(ks:List cP):(eA o ks).params=[]:=rfl
@[simp] theorem f1v(o:Int)(ks:List cP):(eA o ks).alts=[]:=rfl
@[simp] theorem e9D(o:Int)(ks:List cP):(eA o ks).types=[]:=rfl
theorem cZ:VM.Enters prog 78:=.mk func78 rfl
theorem cV:VM.Enters prog 41:=.mk func41 rfl
theorem zE:VM.Enters prog 245:=.mk func245 rfl
theorem a3A:VM.Enters prog 82:=.mk func82 rfl
theorem a7I(o:Int)(ks:List cP):CS prog G 78 [.int .i64 o,.sl (ks.map a1B)] (.d (.agg (zP (eA o ks)))) none:=by refine CS.res (r':=.d (.agg [.int .i64 o,.str [],.int .i64 0,.sl (ks.map a1B),.aE,.aE,.aE])) ?_ (by simp);refine CS.aW func78 rfl ntmps78 rfl ?_;simp
theorem d4a(o:Int)(a:cP):CS prog G 78 [.int .i64 o,.sl [zP a]] (.d (.agg [.int .i64 o,.str [],.int .i64 0,.sl [a1B a],.aE,.aE,.aE])) none:=by rw[bY];refine CS.aW func78 rfl ntmps78 rfl ?_;simp
theorem a8L(o:Int)(a:cP):CS prog G 78 [.int .i64 o,.sl [zP a]] (.d (.agg (zP (eA o [a])))) none:=by
 have:=a7I (G:=G) o [a]
 rwa[List.map_cons,List.map_nil,bY]at this
theorem oP(o:Int)(a b:cP):CS prog G 78 [.int .i64 o,.sl [zP a,zP b]] (.d (.agg (zP (eA o [a,b])))) none:=by
 have:=a7I (G:=G) o [a,b]
 rwa[List.map_cons,List.map_cons,List.map_nil,bY a,bY b]at this
theorem d4b(o:Int)(a b c:cP):CS prog G 78 [.int .i64 o,.sl [zP a,zP b,zP c]] (.d (.agg (zP (eA o [a,b,c])))) none:=by
 have:=a7I (G:=G) o [a,b,c]
 rwa[List.map_cons,List.map_cons,List.map_cons,List.map_nil,bY a,bY b,bY c]at this
theorem c7i{α β γ:Type}(x:bE α)(f:α->bE β)(g:β->bE γ)(i:Nat):((x >>=f) >>=g) i=(x >>=λa=>f a >>=g) i:=by
 rw[bX,bX,bX];cases x i with
 |ok a j=>simp only[bX]
 |bad n e=>rfl
variable{l:List Tok}{i:Nat}
theorem uJ.assoc{α β γ:Type}{Q:Exit->St->Prop}{rs:List ResultVar}{enc:γ->DV}{Y:γ->List (Nat×bH)}{own:List (TypeId×List VM.Loc)}{x:bE α}{f:α->bE β}{g:β->bE γ}(h:uJ Q rs l enc Y own (((x >>=f) >>=g) i)):uJ Q rs l enc Y own ((x >>=λa=>f a >>=g) i):=by rwa[c7i]at h
variable{f:FuncId}
theorem CH.drop{P:Program}{s0:St}{d:DV}{H1:List (Nat×bH)}{own1:List (TypeId×List VM.Loc)}(h:CH P G f s0 ⟨[d],H1,own1⟩):CH P G f s0 ⟨[d],H1,[]⟩:=λbase R μ args w hr=>(h base R μ args w hr).mono λe w' ⟨v,R',μ',he,jD,hs⟩=>⟨v,R',μ',he,⟨jD.defers,jD.size,jD.tmps,jD.mE,jD.inj,λc hc=>(by cases hc),by obtain⟨vs,sU⟩:=jD.own;obtain⟨vs',hv',_⟩:=a6W jD [] own1 vs ⟨sU.len,sU.one,sU.apart⟩ rfl;exact⟨vs',hv'.len,λi c v hc hv=>⟨(hv'.one i c v hc hv).eR,(hv'.one i c v hc hv).own,(hv'.one i c v hc hv).keys⟩,hv'.apart⟩,jD.wS,jD.rY,jD.base,jD.pass⟩,hs⟩
abbrev RdO(G:GT){α:Type}(f:FuncId)(ds:List D)(l:List Tok)(i:Nat)(e:TypeId)(r:jA α)(enc:α->DV):Prop:=CX prog G f ⟨.ptr 100000 0::ds.map .d,rH l i,[]⟩ (rdE l enc (λ_=>[]) [(e,[.t 0])] r)
theorem RdO.m{α:Type}{ds:List D}{e:TypeId}{r:jA α}{enc:α->DV}(h:RdO G f ds l i e r enc):tL G f ds l i r enc:=by
 cases r with
 |ok a j=>exact CH.drop h
 |bad n x=>exact h
section
variable {β:Type} {Q:Exit->St->Prop} {rs:List ResultVar} {l:List Tok} {i:Nat} {enc:β->DV} {e:TypeId} {r:jA β}
theorem RdO.bP{f:FuncId}{fn:Func}{c:Code}{k:Nat}{ds:List D}(hf:prog.funcs[f]? =some fn)(hb:fn.body=some c)(hn:fn.ntmps=k)(hrs:fn.results.toList=rs)(h:∀Q:Exit->St->Prop,uJ Q rs l enc (λ_=>[]) [(e,[.t 0])] r->XK prog G [.code c] .normal ⟨.ptr 100000 0::ds.map .d++List.replicate (k-(.ptr 100000 0::ds.map .d:List DV).length) (.cY []),rH l i,[]⟩ Q):RdO G f ds l i e r enc:=by
 refine CX.b7p hf hb hn hrs rfl λQ h1 h2=>SW.xk (h Q ⟨λa j e s hr he hs=>?_,λn e s hr=>?_⟩)
 .subst hr;exact h1 _ _ _ e s rfl he hs
 .subst hr;exact h2 _ s rfl
end
section
variable {aD:List Tok->Nat->Nat->jA Pr} {l:List Tok} (hV:rP G aD l)
include hV
section
variable {ex:Nat->bE cP} {low:Nat} (hex:∀i,low<=i->i<l.length->tL G 41 [] l i (ex 0 i) jL) (kC:∀k,aB l 1 (ex k))
include hex kC
def a9I(out:List cP):List (Nat×bH):=[(100001,.cells [.d (.sl (out.map a1B))]),(100002,.cells [.ptr 100000 0])]
abbrev e6y:List (TypeId×List VM.Loc):=[(43,[.c 100001 0])]
abbrev c7j(ex:Nat->bE cP)(out:List cP):bE (List cP):=do let e <- ex 0;pure (out++[e])
omit hex kC in
theorem d4c:a2A l K3 [.ptr 100001 0,.ptr 100002 0] a9I e6y:=by
 constructor
 all_goals intros
 all_goals first
  |rfl
  |simp[a9I,aR,aY,bB,bA,bM,getKey,aZ,bI,dE,rk,dM,bW, *]
omit hex in
theorem b3y(out:List cP):aB l 1 (c7j ex out):=(kC 0).bl λ_=>aB.bZ _
omit hex in
theorem b8c(a:List cP)(i:Nat)(b:List cP)(j:Nat)(hi:i<l.length)(h:a.length<=i)(hx:c7j ex a i=.ok b j):b.length<=j:=by obtain⟨t,k,h1,h2⟩:=dC hx;have:=kC 0 i t k hi h1;cases h2;simp;omega
theorem c7k(out:List cP)(j0:Nat)(cN:low<=j0)(hi:j0<l.length)(vT:out.length<=j0):pX G 129 [.ptr 100001 0,.ptr 100002 0] (a9I out) e6y l j0 (c7j ex out j0) (λ_=>.cY []) a9I:=by
 have hl:=hV.len;have p0:=gQ hi;refine pX.bP func129 rfl ntmps129 rfl (by simp) ?_;intro Q Q0;simp[a9I];refine b1Y 5 (t:=38) (e:=43) (s:=2) (z:=6) (r:=7) (p:=8) (q:=5) (x:=4) (b:=0) [] 2 [1] (a6y 0 3 4) (kV (ex 0 j0)) rfl rfl rfl rfl (by kernel_rfl) (by kernel_rfl) rfl ?_;simp
 repeat' apply And.intro
 all_goals
  refine rT Q0 p0 cV ((hex j0 cN p0.2)) (kC 0) λt j1 x1 Q1 p1=>cS.mk ?_;simp;refine⟨_,_,_,_,_,by simp,rfl,rfl,?_,rfl,rfl,?_,by simp,rfl,rfl,rfl,?_⟩
  .intro c hc
   first
    |(obtain⟨y,_,rfl⟩:=g3u.1 hc
      rw[bY]
      rfl)
    |(simp only[g3g]at hc
      subst hc
      rfl)
  .simp<;>omega
  exact Q1.ok _ j1 .normal _ rfl (.inl rfl) (by simp[a9I,bY])
theorem b8d(j0:Nat)(cN:low<=j0+1)(hi:j0<l.length):RdO G 82 [] l j0 43 (jB l ex j0) (λes=>.d (.sl (es.map a1B))):=by
 have hl:=hV.len;have p0:=gQ hi;refine RdO.bP func82 rfl ntmps82 rfl ?_;intro Q Q0;unfold jB at Q0;simp;refine eP Q0 p0 hV.fin λu1 j1 x1 Q1 p1=>?_;simp;have kK:=jG hV [44] (c7j ex) (λout i=>out.length<=i) low (.mk func129 rfl) (d4c hV) (λa=>(b3y hV kC a).le (by omega)) (λa i rZ hi h=>c7k hV hex kC a i rZ hi h) (b8c hV kC) (λa i h=>by omega) [] j1 (by omega) p1.2 (by simp);refine eB.mk (a1D eQ kK [(100000,100000),(100001,3),(100002,1)] (λa j hx=>?_) ?_ ?_ ?_ rfl rfl (λws j2 x2=>?_) (λn e hx2=>Q1.fail hx2 _))
 .simp[a9I,aR,aY,bB,bA,bM,getKey]
 .simp[a9I,aR,aY,bB,bA,bM,getKey]
 .simp[aZ,bI,rk]
 .simp[a9I,aZ,bI,rk,dE,dM]
 .have Q2:=Q1.step x2;have p2:=aB.list hV.fin (λa=>b3y hV kC a) [] j1 ws j2 p1.2 x2;simp[bJ,a9I,aZ,bI,rk,dE,dM,bW,kU,jF,eN];refine eP Q2 p2 hV.fin λu3 j3 x3 Q3 p3=>?_;simp;exact Q3.ok _ j3 _ _ rfl (.inr rfl) (by simp)
theorem b0E(i:Nat)(cN:low<=i+1)(hi:i<l.length):tL G 82 [] l i (jB l ex i) (λes=>.d (.sl (es.map a1B))):=(b8d hV hex kC i cN hi).m
theorem c1A(op:Int)(j0:Nat)(cN:low<=j0+1)(hi:j0<l.length):tL G 264 [.int .i64 op] l j0 (yW l ex op j0) jL:=by have hl:=hV.len;have p0:=gQ hi;refine pX.bP func264 rfl ntmps264 rfl (by simp) ?_;intro Q Q0;unfold yW at Q0;simp;refine eP Q0 p0 hV.fin λu1 j1 x1 Q1 p1=>?_;simp;refine uA Q1 p1 cV ((hex j1 (by omega) p1.2)) (kC 0) λe j2 x2 Q2 p2=>?_;simp;refine eP Q2 p2 hV.fin λu3 j3 x3 Q3 p3=>?_;simp;refine jT.mk cZ (a8L op e) ?_;simp;exact Q3.ok _ j3 _ _ rfl (.inr rfl) (by simp)
theorem d4d(j0:Nat)(cN:low<=j0+1)(hi:j0<l.length):tL G 77 [] l j0 (a0d aL bF aD l ex j0) jL:=by
 have hl:=hV.len;have p0:=gQ hi;refine pX.bP func77 rfl ntmps77 rfl (by simp) ?_;intro Q Q0;unfold a0d at Q0;simp;refine uA Q0 p0 dS (eH hV.kw l j0 p0.2 (by omega)) (aB.word hV.fin) λnm j1 x1 Q1 p1=>?_;simp;cases hs:aJ l j1 [58]with
 |false=>
  have Q2:=Q1.step (mT hs);rw[if_neg (by decide)]at Q2;refine rdF hs p1 ?_;simp;have Q1:=Q2.step (kR);refine eP Q1 p1 hV.fin λu4 j4 x4 Q4 p4=>?_;simp;refine uA Q4 p4 cV ((hex j4 (by omega) p4.2)) (kC 0) λx j5 x5 Q5 p5=>?_;simp;refine eP Q5 p5 hV.fin λu6 j6 x6 Q6 p6=>?_;simp;refine eV [1] 2 [] (.op 0 (.call [3,4,5] .none) (.call [0,3,4,5] .none)) (kV (ex 0 j6)) (by kernel_rfl) (by kernel_rfl) ?_;simp;refine⟨?_,?_⟩
  all_goals
   refine rT Q6 p6 cV ((hex j6 (by omega) p6.2)) (kC 0) λy j7 x7 Q7 p7=>cS.mk ?_;simp;exact Q7.ok _ j7 _ _ rfl (.inr rfl) (by simp[bY,cB])
 |true=>
  have Q2:=Q1.step (mS hs);rw[if_pos rfl]at Q2;refine rdT hs p1 hV.fin λp2=>?_;obtain⟨j2,vB⟩:∃j2,j1+1=j2:=⟨_,rfl⟩;rw[vB]at Q2 p2|-;simp;have Q2:=Q2.assoc;refine uA Q2 p2 dP ((qI hV j2 p2.2)) (mD hV) λt j3 x3 Q3 p3=>?_;simp;have Q3:=Q3.step (kR);refine eP Q3 p3 hV.fin λu4 j4 x4 Q4 p4=>?_;simp;refine uA Q4 p4 cV ((hex j4 (by omega) p4.2)) (kC 0) λx j5 x5 Q5 p5=>?_;simp;refine eP Q5 p5 hV.fin λu6 j6 x6 Q6 p6=>?_;simp;refine eV [1] 2 [] (.op 0 (.call [3,4,5] .none) (.call [0,3,4,5] .none)) (kV (ex 0 j6)) (by kernel_rfl) (by kernel_rfl) ?_;simp;refine⟨?_,?_⟩
  all_goals
   refine rT Q6 p6 cV ((hex j6 (by omega) p6.2)) (kC 0) λy j7 x7 Q7 p7=>cS.mk ?_;simp;exact Q7.ok _ j7 _ _ rfl (.inr rfl) (by simp[bY,cB])
end
end
theorem a8M(a:Nm×List Nm×cP):b1K a=[.str a.1,.sl (strs a.2.1),.int .i64 a.2.2.op,.str a.2.2.name,.int .i64 a.2.2.n,.sl (a.2.2.kids.map a1B),.sl (a.2.2.params.map a5t),.sl (a.2.2.alts.map b1K),.sl (a.2.2.types.map tyC)]:=by rw[b1K,bY]
theorem a3B(p:Nm×Ty):a5t p=.str p.1::tyD p.2:=by rw[a5t,cB]
abbrev a9J:=Nm×List Nm×cP
section
variable {aD:List Tok->Nat->Nat->jA Pr} {l:List Tok} (hV:rP G aD l)
include hV
section
variable {ex:Nat->bE cP} {low:Nat} (hex:∀i,low<=i->i<l.length->tL G 41 [] l i (ex 0 i) jL) (kC:∀k,aB l 1 (ex k))
include hex kC
def a2D(e:cP)(out:List a9J):List (Nat×bH):=[(100001,.cells [.ptr 100000 0]),(100002,.cells [.d (.int .i64 9),.d (.str []),.d (.int .i64 0),.d (.sl [a1B e]),.d (.sl []),.d (.sl (out.map b1K)),.d (.sl [])])]
abbrev d7S:List (TypeId×List VM.Loc):=[(143,[.c 100002 5])]
abbrev e3J(l:List Tok)(ex:Nat->bE cP)(out:List a9J):bE (List a9J):=do
 let c <- jI l
 let ns <- (λi=>if aJ l i [40] then gD aL l i else .ok [] i:bE (List Nm))
 aQ l [[45,62]]
 let b <- ex 0
 pure (out++[(c,ns,b)])
omit hex kC in
theorem d0h(e:cP):a2A l K3 [.ptr 100001 0,.ptr 100002 0] (a2D e) d7S:=by
 constructor
 all_goals intros
 all_goals first
  |rfl
  |simp[a2D,aR,aY,bB,bA,bM,getKey,aZ,bI,dE,rk,dM,bW, *]
omit hex in
theorem b8f(out:List a9J):aB l 1 (e3J l ex out):=by
 refine(aB.title hV.fin).bl λ_=>aB.bl (λi b j hi h=>?_) λ_=>(aB.exp hV.fin _ _).bz λ_=>(kC 0).bz λ_=>aB.bZ _;split at h
 .exact((aB.words hV.fin).le (by omega)) _ _ _ hi h
 .cases h;omega
omit hex in
theorem d4e(a:List a9J)(i:Nat)(b:List a9J)(j:Nat)(hi:i<l.length)(h:a.length<=i)(hx:e3J l ex a i=.ok b j):b.length<=j:=by have h1:=b8f hV kC a i b j hi hx;obtain⟨_,_,_,hx⟩:=dC hx;obtain⟨_,_,_,hx⟩:=dC hx;obtain⟨_,_,_,hx⟩:=dC hx;obtain⟨_,_,_,hx⟩:=dC hx;cases hx;simp;omega
theorem c3D(e:cP)(out:List a9J)(j0:Nat)(cN:low<=j0)(hi:j0<l.length)(vT:out.length<=j0):pX G 126 [.ptr 100001 0,.ptr 100002 0] (a2D e out) d7S l j0 (e3J l ex out j0) (λ_=>.cY []) (a2D e):=by
 have hl:=hV.len;have p0:=gQ hi;refine pX.bP func126 rfl ntmps126 rfl (by simp) ?_;intro Q Q0;simp[a2D];refine uA Q0 p0 mA (oI l j0 p0.2) (aB.title hV.fin) λc j1 x1 Q1 p1=>?_;simp;have hb:=mQ (G:=G) l j1 [40] p1.2;refine pY (ds:=[.str [40]]) jO hb ?_;cases hs:aJ l j1 [40]with
 |false=>
  have Q1:=Q1.step (a:=[]) (j:=j1) (by simp[hs]);simp;refine eP Q1 p1 hV.fin λu4 j4 x4 Q4 p4=>?_;simp;refine uA Q4 p4 cV ((hex j4 (by omega) p4.2)) (kC 0) λb j5 x5 Q5 p5=>?_;simp;refine a3q (m:=5) (t:=40) (e:=143) (T:=43) (s:=18) (z:=21) (r:=22) (p:=23) (q:=20) (x:=19) (b:=24) (y:=1) (fd:=5) rfl rfl rfl rfl rfl (by kernel_rfl) (by kernel_rfl) rfl rfl ?_;simp;refine⟨_,_,_,_,_,_,_,_,_,by simp,rfl,rfl,?_,rfl,rfl,?_,by simp,rfl,rfl,rfl,rfl,by decide,rfl,?_⟩
  .intro c hc
   first
    |(obtain⟨y,_,rfl⟩:=g3u.1 hc
      rw[a8M]
      rfl)
    |(simp only[g3g]at hc
      subst hc
      rfl)
  .simp<;>omega
  exact Q5.ok _ j5 .normal _ rfl (.inl rfl) (by simp[a2D,a8M,a0i])
 |true=>
  have e1:(λi=>if aJ l i [40] then gD aL l i else .ok [] i:bE (List Nm)) j1=gD aL l j1:=by simp[hs]
  simp;refine rdX (.mk func101 rfl) (a7A hV j1 p1.2) (λns j3 x3=>?_) (λn e hx=>by first|exact Q1.fail (e1.trans hx) _|(simp;exact Q1.fail (e1.trans hx) _)|(simp;exact λs=>Q1.fail (e1.trans hx) s));have Q3:=Q1.step (e1.trans x3);have p3:=aB.words hV.fin j1 ns j3 p1.2 x3;simp;refine eP Q3 p3 hV.fin λu4 j4 x4 Q4 p4=>?_;simp;refine uA Q4 p4 cV ((hex j4 (by omega) p4.2)) (kC 0) λb j5 x5 Q5 p5=>?_;simp;refine a3q (m:=5) (t:=40) (e:=143) (T:=43) (s:=18) (z:=21) (r:=22) (p:=23) (q:=20) (x:=19) (b:=24) (y:=1) (fd:=5) rfl rfl rfl rfl rfl (by kernel_rfl) (by kernel_rfl) rfl rfl ?_;simp;refine⟨_,_,_,_,_,_,_,_,_,by simp,rfl,rfl,?_,rfl,rfl,?_,by simp,rfl,rfl,rfl,rfl,by decide,rfl,?_⟩
  .intro c hc
   first
    |(obtain⟨y,_,rfl⟩:=g3u.1 hc
      rw[a8M]
      rfl)
    |(simp only[g3g]at hc
      subst hc
      rfl)
  .simp<;>omega
  exact Q5.ok _ j5 .normal _ rfl (.inl rfl) (by simp[a2D,a8M,a0i])
theorem c7l(j0:Nat)(cN:low<=j0)(hi:j0<l.length):tL G 79 [] l j0 (sD aL l ex j0) jL:=by
 have hl:=hV.len;have p0:=gQ hi;refine pX.bP func79 rfl ntmps79 rfl (by simp) ?_;intro Q Q0;unfold sD at Q0;simp;refine uA Q0 p0 cV ((hex j0 cN p0.2)) (kC 0) λe j1 x1 Q1 p1=>?_;simp;refine jT.mk cZ (d4a 9 e) ?_;simp;refine eP Q1 p1 hV.fin λu2 j2 x2 Q2 p2=>?_;simp;have kK:=jG hV [59] (e3J l ex) (λout i=>out.length<=i) low (.mk func126 rfl) (d0h hV e) (λa=>(b8f hV kC a).le (by omega)) (λa i rZ hi h=>c3D hV hex kC e a i rZ hi h) (d4e hV kC) (λa i h=>by omega) [] j2 (by omega) p2.2 (by simp);refine eB.mk (a1D eQ kK [(100000,100000),(100001,1),(100002,3)] (λa j hx=>?_) ?_ ?_ ?_ rfl rfl (λws j3 x3=>?_) (λn e hx2=>Q2.fail hx2 _))
 .simp[a2D,aR,aY,bB,bA,bM,getKey]
 .simp[a2D,aR,aY,bB,bA,bM,getKey]
 .simp[aZ,bI,rk]
 .simp[a2D,aZ,bI,rk,dE,dM]
 .have Q3:=Q2.step x3;have p3:=aB.list hV.fin (λa=>b8f hV kC a) [] j2 ws j3 p2.2 x3;simp[bJ,a2D,aZ,bI,rk,dE,dM,bW,kU,jF,eN];refine eP Q3 p3 hV.fin λu4 j4 x4 Q4 p4=>?_;simp;exact Q4.ok _ j4 _ _ rfl (.inr rfl) (by simp)
end
def b8g(out:List (Nm×Ty)):List (Nat×bH):=[(100001,.cells [.ptr 100000 0]),(100002,.cells [.d (.int .i64 6),.d (.str []),.d (.int .i64 0),.d (.sl []),.d (.sl (out.map a5t)),.d (.sl []),.d (.sl [])])]
abbrev f3F:List (TypeId×List VM.Loc):=[(176,[.c 100002 4])]
abbrev e3K(aD:List Tok->Nat->Nat->jA Pr)(l:List Tok)(out:List (Nm×Ty)):bE (List (Nm×Ty)):=do
 let w <- bU aL l
 let b <- cD l [58]
 let t <- (if b then mP aL bF aD l else pure jK)
 pure (out++[(w,t)])
theorem d7T:a2A l K3 [.ptr 100001 0,.ptr 100002 0] b8g f3F:=by
 constructor
 all_goals intros
 all_goals first
  |rfl
  |simp[b8g,aR,aY,bB,bA,bM,getKey,aZ,bI,dE,rk,dM,bW, *]
theorem b8h(out:List (Nm×Ty)):aB l 1 (e3K aD l out):=(aB.word hV.fin).bl λ_=>(aB.skip hV.fin _).bl λ_=>aB.bl (aB.ite ((mD hV).le (by omega)) (aB.bZ _)) λ_=>aB.bZ _
theorem d4f(a:List (Nm×Ty))(i:Nat)(b:List (Nm×Ty))(j:Nat)(hi:i<l.length)(h:a.length<=i)(hx:e3K aD l a i=.ok b j):b.length<=j:=by have h1:=b8h hV a i b j hi hx;obtain⟨_,_,_,hx⟩:=dC hx;obtain⟨_,_,_,hx⟩:=dC hx;obtain⟨_,_,_,hx⟩:=dC hx;cases hx;simp;omega
theorem d0i(out:List (Nm×Ty))(j0:Nat)(hi:j0<l.length)(vT:out.length<=j0):pX G 127 [.ptr 100001 0,.ptr 100002 0] (b8g out) f3F l j0 (e3K aD l out j0) (λ_=>.cY []) b8g:=by
 have hl:=hV.len;have p0:=gQ hi;refine pX.bP func127 rfl ntmps127 rfl (by simp) ?_;intro Q Q0;simp[b8g];refine uA Q0 p0 dS (eH hV.kw l j0 p0.2 (by omega)) (aB.word hV.fin) λc j1 x1 Q1 p1=>?_;simp;cases hs:aJ l j1 [58]with
 |false=>
  have Q2:=Q1.step (mT hs);rw[if_neg (by decide)]at Q2;refine rdF hs p1 ?_;simp;have Q3:=Q2.step (kR);refine jN ⟨rfl,g3c.2 λc hc=>?_,?_⟩ ?_
  .obtain⟨y,_,rfl⟩:=g3u.1 hc;rw[a3B]
   rfl
  .have hb:prog.bytesOf 176<=1000:=by decide
   rw[List.length_map]
   calc (out.length+1)*(prog.bytesOf 176+1)<=50001*1001:=Nat.mul_le_mul (by omega) (by omega)
    _<=140737488355328:=by decide
  simp;exact Q3.ok _ j1 .normal _ rfl (.inl rfl) (by simp[b8g,a3B,jK,eI,a0i])
 |true=>
  have Q2:=Q1.step (mS hs);rw[if_pos rfl]at Q2;refine rdT hs p1 hV.fin λp2=>?_;obtain⟨j2,vB⟩:∃j2,j1+1=j2:=⟨_,rfl⟩;rw[vB]at Q2 p2|-;simp;refine uA Q2 p2 dP ((qI hV j2 p2.2)) (mD hV) λt j3 x3 Q3 p3=>?_;simp;refine jN ⟨rfl,g3c.2 λc hc=>?_,?_⟩ ?_
  .obtain⟨y,_,rfl⟩:=g3u.1 hc;rw[a3B]
   rfl
  .have hb:prog.bytesOf 176<=1000:=by decide
   rw[List.length_map]
   calc (out.length+1)*(prog.bytesOf 176+1)<=50001*1001:=Nat.mul_le_mul (by omega) (by omega)
    _<=140737488355328:=by decide
  simp;exact Q3.ok _ j3 .normal _ rfl (.inl rfl) (by simp[b8g,a3B,a0i])
section
variable {ex:Nat->bE cP} {low:Nat} (hex:∀i,low<=i->i<l.length->tL G 41 [] l i (ex 0 i) jL) (kC:∀k,aB l 1 (ex k))
include hex kC
theorem c3E(j0:Nat)(cN:low<=j0)(hi:j0<l.length):tL G 80 [] l j0 (a0e aL bF aD l ex j0) jL:=by
 have hl:=hV.len;have p0:=gQ hi;refine pX.bP func80 rfl ntmps80 rfl (by simp) ?_;intro Q Q0;unfold a0e at Q0;simp;refine eP Q0 p0 hV.fin λu1 j1 x1 Q1 p1=>?_;simp;have kK:=jG hV [44] (e3K aD l) (λout i=>out.length<=i) 0 (.mk func127 rfl) (d7T hV) (λa=>(b8h hV a).le (by omega)) (λa i rZ hi h=>d0i hV a i hi h) (d4f hV) (λa i h=>by omega) [] j1 (by omega) p1.2 (by simp);refine eB.mk (a1D eQ kK [(100000,100000),(100001,1),(100002,3)] (λa j hx=>?_) ?_ ?_ ?_ rfl rfl (λws j2 x2=>?_) (λn e hx2=>Q1.fail hx2 _))
 .simp[b8g,aR,aY,bB,bA,bM,getKey]
 .simp[b8g,aR,aY,bB,bA,bM,getKey]
 .simp[aZ,bI,rk]
 .simp[b8g,aZ,bI,rk,dE,dM]
 .have Q2:=Q1.step x2;have p2:=aB.list hV.fin (λa=>b8h hV a) [] j1 ws j2 p1.2 x2;simp[bJ,b8g,aZ,bI,rk,dE,dM,bW,kU,jF,eN];refine eP Q2 p2 hV.fin λu3 j3 x3 Q3 p3=>?_;simp;refine uA Q3 p3 cV ((hex j3 (by omega) p3.2)) (kC 0) λe j4 x4 Q4 p4=>?_;simp;exact Q4.ok _ j4 _ _ rfl (.inr rfl) (by simp[bY])
end
end
section
variable {aD:List Tok->Nat->Nat->jA Pr} {l:List Tok} (hV:rP G aD l) (hN:∀i, -9223372036854775807<=(aH l i).n/\(aH l i).n<=9223372036854775807)
include hV hN
section
variable {ex:Nat->bE cP} {low:Nat} (hex:∀i,low<=i->i<l.length->tL G 41 [] l i (ex 0 i) jL) (kC:∀k,aB l 1 (ex k))
include hex kC
theorem c3F(j0:Nat)(cN:low<=j0+1)(hi:j0<l.length):tL G 266 [] l j0 (oN aL bF aD l ex j0) jL:=by
 have hl:=hV.len;have p0:=gQ hi;refine pX.bP func266 rfl ntmps266 rfl (by simp) ?_;intro Q Q0;unfold oN at Q0;simp;refine eP Q0 p0 hV.fin λu1 j1 x1 Q1 p1=>?_;simp;have hb:=mQ (G:=G) l j1 [45] p1.2;have ht1:=dK (G:=G) l j1 (j1+1) 1;have ht2:=dK (G:=G) l j1 (j1+2) 2;refine pY (ds:=[.str [45]]) jO hb ?_;cases hs:aJ l j1 [45]with
 |false=>
  have Q1:=Q1.sK (by simp[hs]);simp;refine uA Q1 p1 cV ((hex j1 (by omega) p1.2)) (kC 0) λe j2 x2 Q2 p2=>?_;simp;cases hc:aJ l j2 [58]with
  |false=>have Q3:=Q2.step (mT hc);rw[if_neg (by decide)]at Q3;refine rdF hc p2 ?_;simp;have Q2:=Q3.step (kR);refine eP Q2 p2 hV.fin λu5 j5 x5 Q5 p5=>?_;simp;exact Q5.ok _ j5 _ _ rfl (.inr rfl) (by simp[bY,cB])
  |true=>
   have Q3:=Q2.step (mS hc);rw[if_pos rfl]at Q3;refine rdT hc p2 hV.fin λp3=>?_;obtain⟨j3,hj3⟩:∃j,j2+1=j:=⟨_,rfl⟩;rw[hj3]at Q3 p3|-;simp;have Q3:=Q3.assoc;refine mK 3 [2] (.op 0 (.op 1 (.call [4,5,6] .none) (.call [1,4,5,6] .none)) (.call [0,1,4,5,6] .none)) (kV (mP aL bF aD l j3)) (by kernel_rfl) (by kernel_rfl) ?_;simp
   repeat' apply And.intro
   all_goals
    refine rT Q3 p3 dP ((qI hV j3 p3.2)) (mD hV) λt j4 x4 Q4 p4=>cS.mk ?_;simp;have Q4:=Q4.step (kR);refine eP Q4 p4 hV.fin λu5 j5 x5 Q5 p5=>?_;simp;exact Q5.ok _ j5 _ _ rfl (.inr rfl) (by simp[bY,cB])
 |true=>
  simp;refine pY (ds:=[.int .i64 1]) cH ht1 ?_;by_cases hk:(aH l (j1+1)).kind=3
  .simp[bL,hk];refine pY (ds:=[.int .i64 2]) cH ht2 ?_;simp;refine jT.mk oS (qE (aH l (j1+2)) [41]) ?_;cases hf:cI (aH l (j1+2)) [41]with
   |false=>
    have Q1:=Q1.sK (by simp[hf]);simp;refine uA Q1 p1 cV ((hex j1 (by omega) p1.2)) (kC 0) λe j2 x2 Q2 p2=>?_;simp;cases hc:aJ l j2 [58]with
    |false=>have Q3:=Q2.step (mT hc);rw[if_neg (by decide)]at Q3;refine rdF hc p2 ?_;simp;have Q2:=Q3.step (kR);refine eP Q2 p2 hV.fin λu5 j5 x5 Q5 p5=>?_;simp;exact Q5.ok _ j5 _ _ rfl (.inr rfl) (by simp[bY,cB])
    |true=>
     have Q3:=Q2.step (mS hc);rw[if_pos rfl]at Q3;refine rdT hc p2 hV.fin λp3=>?_;obtain⟨j3,hj3⟩:∃j,j2+1=j:=⟨_,rfl⟩;rw[hj3]at Q3 p3|-;simp;have Q3:=Q3.assoc;refine mK 3 [2] (.op 0 (.op 1 (.call [4,5,6] .none) (.call [1,4,5,6] .none)) (.call [0,1,4,5,6] .none)) (kV (mP aL bF aD l j3)) (by kernel_rfl) (by kernel_rfl) ?_;simp
     repeat' apply And.intro
     all_goals
      refine rT Q3 p3 dP ((qI hV j3 p3.2)) (mD hV) λt j4 x4 Q4 p4=>cS.mk ?_;simp;have Q4:=Q4.step (kR);refine eP Q4 p4 hV.fin λu5 j5 x5 Q5 p5=>?_;simp;exact Q5.ok _ j5 _ _ rfl (.inr rfl) (by simp[bY,cB])
   |true=>
    have Q1:=Q1.uK (by simp[hs,hk,hf]);simp;refine pY (ds:=[.int .i64 1]) cH ht1 ?_;have hn:=hN (j1+1);have hw3:IntKind.i64.wrap ((j1:Int)+3)=((j1+3:Nat):Int):=by rw[wrap64 (by omega)];omega
    have hw4:IntKind.i64.wrap (-(aH l (j1+1)).n)= -(aH l (j1+1)).n:=wrap64 (by omega);simp[bL,hw3,hw4];exact Q1.ok _ (j1+3) _ _ rfl (.inr rfl) (by simp)
  .have Q1:=Q1.sK (by simp[hk]);simp[bL,hk];refine uA Q1 p1 cV ((hex j1 (by omega) p1.2)) (kC 0) λe j2 x2 Q2 p2=>?_;simp;cases hc:aJ l j2 [58]with
   |false=>have Q3:=Q2.step (mT hc);rw[if_neg (by decide)]at Q3;refine rdF hc p2 ?_;simp;have Q2:=Q3.step (kR);refine eP Q2 p2 hV.fin λu5 j5 x5 Q5 p5=>?_;simp;exact Q5.ok _ j5 _ _ rfl (.inr rfl) (by simp[bY,cB])
   |true=>
    have Q3:=Q2.step (mS hc);rw[if_pos rfl]at Q3;refine rdT hc p2 hV.fin λp3=>?_;obtain⟨j3,hj3⟩:∃j,j2+1=j:=⟨_,rfl⟩;rw[hj3]at Q3 p3|-;simp;have Q3:=Q3.assoc;refine mK 3 [2] (.op 0 (.op 1 (.call [4,5,6] .none) (.call [1,4,5,6] .none)) (.call [0,1,4,5,6] .none)) (kV (mP aL bF aD l j3)) (by kernel_rfl) (by kernel_rfl) ?_;simp
    repeat' apply And.intro
    all_goals
     refine rT Q3 p3 dP ((qI hV j3 p3.2)) (mD hV) λt j4 x4 Q4 p4=>cS.mk ?_;simp;have Q4:=Q4.step (kR);refine eP Q4 p4 hV.fin λu5 j5 x5 Q5 p5=>?_;simp;exact Q5.ok _ j5 _ _ rfl (.inr rfl) (by simp[bY,cB])
theorem d0j(j0:Nat)(cN:low<=j0+1)(hi:j0<l.length):tL G 255 [] l j0 (uF aL bF aD l ex j0) jL:=by
 have hl:=hV.len;have p0:=gQ hi;have ht:=dK (G:=G) l j0 j0 0;refine pX.bP func255 rfl ntmps255 rfl (by simp) ?_;intro Q Q0;unfold uF at Q0;simp;refine pY (ds:=[.int .i64 0]) cH ht ?_;by_cases hk:(aH l j0).kind=3
 .have Q0:=Q0.uK hk;have hw:=bC (show j0<9223372036854775807 by omega);simp[bL,hk,hw];exact Q0.ok _ (j0+1) _ _ rfl (.inr rfl) (by simp)
 have Q0:=Q0.sK hk;simp[bL,hk];cases h1:aJ l j0 [116,114,117,101]with
 |true=>have Q0:=Q0.uK h1;refine rdT h1 p0 hV.fin λp1=>?_;simp;exact Q0.ok _ (j0+1) _ _ rfl (.inr rfl) (by simp)
 |false=>
 have Q0:=Q0.sK (by rw[h1];decide);refine rdF h1 p0 ?_;simp;cases h2:aJ l j0 [102,97,108,115,101]with
 |true=>have Q0:=Q0.uK h2;refine rdT h2 p0 hV.fin λp1=>?_;simp;exact Q0.ok _ (j0+1) _ _ rfl (.inr rfl) (by simp)
 |false=>
 have Q0:=Q0.sK (by rw[h2];decide);refine rdF h2 p0 ?_;simp;cases h3:aJ l j0 [110,101,119]with
 |true=>have Q1:=Q0.uK h3;refine rdT h3 p0 hV.fin λp1=>?_;obtain⟨j1,tM⟩:∃j,j0+1=j:=⟨_,rfl⟩;rw[tM]at Q1 p1|-;simp;refine rdR Q1 (.mk func264 rfl) (c1A hV hex kC 22 j1 (by omega) p1.2) λt j h=>?_;simp;exact Q1.ok t j _ _ h (.inr rfl) (by simp)
 |false=>
 have Q0:=Q0.sK (by rw[h3];decide);refine rdF h3 p0 ?_;simp;cases h4:aJ l j0 [103,101,116]with
 |true=>have Q1:=Q0.uK h4;refine rdT h4 p0 hV.fin λp1=>?_;obtain⟨j1,tM⟩:∃j,j0+1=j:=⟨_,rfl⟩;rw[tM]at Q1 p1|-;simp;refine rdR Q1 (.mk func264 rfl) (c1A hV hex kC 23 j1 (by omega) p1.2) λt j h=>?_;simp;exact Q1.ok t j _ _ h (.inr rfl) (by simp)
 |false=>
 have Q0:=Q0.sK (by rw[h4];decide);refine rdF h4 p0 ?_;simp;cases h5:aJ l j0 [115,101,116]with
 |true=>have Q1:=Q0.uK h5;refine rdT h5 p0 hV.fin λp1=>?_;obtain⟨j1,tM⟩:∃j,j0+1=j:=⟨_,rfl⟩;rw[tM]at Q1 p1|-;simp;refine eP Q1 p1 hV.fin λu2 j2 x2 Q2 p2=>?_;simp;refine uA Q2 p2 cV ((hex j2 (by omega) p2.2)) (kC 0) λx j3 x3 Q3 p3=>?_;simp;refine eP Q3 p3 hV.fin λu4 j4 x4 Q4 p4=>?_;simp;refine uA Q4 p4 cV ((hex j4 (by omega) p4.2)) (kC 0) λy j5 x5 Q5 p5=>?_;simp;refine eP Q5 p5 hV.fin λu6 j6 x6 Q6 p6=>?_;simp;refine jT.mk cZ (oP 24 x y) ?_;simp;exact Q6.ok _ j6 _ _ rfl (.inr rfl) (by simp)
 |false=>
 have Q0:=Q0.sK (by rw[h5];decide);refine rdF h5 p0 ?_;simp;refine jT.mk oH (pS hV.kw (aH l j0)) ?_;cases h6:gU aL (aH l j0)with
 |true=>
  have Q0:=Q0.uK h6;simp;refine rdX (ds:=[]) dS (eH hV.kw l j0 hi (by omega)) (λs j hx=>?_) (λn e hx=>by unfold bU mH at hx;rw[if_pos h6]at hx;cases hx);have p1:=aB.word (kw:=aL) hV.fin _ _ _ p0.2 hx;unfold bU mH at hx;rw[if_pos h6]at hx;cases hx;have Q1:=Q0;obtain⟨j1,tM⟩:∃j,j0+1=j:=⟨_,rfl⟩;rw[tM]at Q1 p1|-;have hb1:=mQ (G:=G) l j1 [91] p1.2;have hb2:=mQ (G:=G) l j1 [40] p1.2;simp;refine pY (ds:=[.str [91]]) jO hb1 ?_;cases h7:aJ l j1 [91]with
  |true=>have Q1:=Q1.sK (by simp[h7]);simp;refine uA Q1 p1 (.mk func265 rfl) ((a2C hV j1 p1.2)) ((aB.types hV.fin hV.oY.pred)) λts j3 x3 Q3 p3=>?_;simp;refine uA Q3 p3 a3A ((b0E hV hex kC j3 (by omega) p3.2)) ((aB.kZ hV.fin kC)) λks j4 x4 Q4 p4=>?_;simp;exact Q4.ok _ j4 _ _ rfl (.inr rfl) (by simp)
  |false=>
   simp;refine pY (ds:=[.str [40]]) jO hb2 ?_;cases h8:aJ l j1 [40]with
   |true=>have Q1:=Q1.sK (by simp[h8]);simp;refine uA Q1 p1 (.mk func265 rfl) ((a2C hV j1 p1.2)) ((aB.types hV.fin hV.oY.pred)) λts j3 x3 Q3 p3=>?_;simp;refine uA Q3 p3 a3A ((b0E hV hex kC j3 (by omega) p3.2)) ((aB.kZ hV.fin kC)) λks j4 x4 Q4 p4=>?_;simp;exact Q4.ok _ j4 _ _ rfl (.inr rfl) (by simp)
   |false=>have Q1:=Q1.uK (by simp[h7,h8]);simp;exact Q1.ok _ j1 _ _ rfl (.inr rfl) (by simp)
 |false=>
 have Q0:=Q0.sK (by rw[h6];decide);simp;by_cases hk2:(aH l j0).kind=2
 .have h7:pJ (aH l j0)=true:=by simp[pJ,hk2]
  have Q0:=Q0.uK h7;simp[hk2];refine rdX (ds:=[]) mA (oI l j0 hi) (λs j hx=>?_) (λn e hx=>by unfold jI mH at hx;rw[if_pos h7]at hx;cases hx);have p1:=aB.title hV.fin _ _ _ p0.2 hx;unfold jI mH at hx;rw[if_pos h7]at hx;cases hx;have Q1:=Q0;obtain⟨j1,tM⟩:∃j,j0+1=j:=⟨_,rfl⟩;rw[tM]at Q1 p1|-;simp;refine uA Q1 p1 (.mk func265 rfl) ((a2C hV j1 p1.2)) ((aB.types hV.fin hV.oY.pred)) λts j3 x3 Q3 p3=>?_;simp;have hb2:=mQ (G:=G) l j3 [40] p3.2;refine pY (ds:=[.str [40]]) jO hb2 ?_;cases h8:aJ l j3 [40]with
  |false=>have Q4:=Q3.step (a:=[]) (j:=j3) (by simp[h8]);simp;exact Q4.ok _ j3 _ _ rfl (.inr rfl) (by simp)
  |true=>
   have e1:(λj=>if aJ l j [40] then jB l ex j else .ok [] j:bE (List cP)) j3=jB l ex j3:=by simp[h8]
   simp;refine rdX a3A ((b0E hV hex kC j3 (by omega) p3.2)) (λks j4 x4=>?_) (λn e hx=>by first|exact Q3.fail (e1.trans hx) _|(simp;exact Q3.fail (e1.trans hx) _)|(simp;exact λs=>Q3.fail (e1.trans hx) s));have Q4:=Q3.step (e1.trans x4);have p4:=(aB.kZ hV.fin kC) j3 ks j4 p3.2 x4;simp;exact Q4.ok _ j4 _ _ rfl (.inr rfl) (by simp)
 .have h7:pJ (aH l j0)=false:=by simp[pJ,hk2]
  have Q0:=Q0.sK (by rw[h7];decide);simp[hk2];refine rdR Q0 (.mk func266 rfl) (c3F hV hN hex kC j0 (by omega) p0.2) λt j h=>?_;simp;exact Q0.ok t j _ _ h (.inr rfl) (by simp)
end
end
end
end Go.Proofs.YtmfbjecjccipfaaGreatDoor
