/- Lemmas. No condition. -/
import Derived.Test.YtmfbjecjccipfaaGreatDoorOwi
set_option linter.unusedVariables false
set_option linter.unusedSimpArgs false
set_option linter.unusedSectionVars false
set_option maxRecDepth 100000
set_option maxHeartbeats 64000000
open Go.Proofs.Tryz
namespace Go.Proofs.YtmfbjecjccipfaaGreatDoor
section
open Go Go.VM
variable {G:GT}
section
variable {α β:Type} {l:List Tok}
theorem b8u{c:Nm}{one:α->RM α}{P:α->Prop}(h:∀a s,P a->P (one a s).1):∀(g:Nat)(a:α)(s:dB),P a->P (mP l c one g a s).1
 |0,a,s,hp=>hp
 |g+1,a,s,hp=>by
  unfold mP;split
  .split
   .exact b8u h g _ _ (h a s hp)
   .exact h a s hp
  .exact hp
end
def RmP{α:Type}(P:α->Prop)(x:RM α):Prop:=∀s,P (x s).1
section
variable {α β:Type} {P:β->Prop} {R:α->Prop} {x:RM α} {f:α->RM β}
theorem RmP.xW(hf:∀a,RmP P (f a)):RmP P (x >>=f):=λs=>hf _ _
theorem RmP.d0z(hx:RmP R x)(hf:∀a,R a->RmP P (f a)):RmP P (x >>=f):=λs=>hf _ (hx s) _
theorem RmP.bP{b:β}(h:P b):RmP P (pure b):=λs=>h
theorem RmP.ite{c:Bool}{x y:RM β}(hx:RmP P x)(hy:RmP P y):RmP P (if c then x else y):=by
 cases c
 .exact hy
 .exact hx
end
theorem c2l(a b:Pr):bN (aZ a b)<=bN a+bN b+1:=by
 have pos:∀p:Pr,1<=bN p:=λp=>by cases p;simp[bN]
 have ha:=pos a;have hb:=pos b;rw[<-d2B];have e1:bN a6a=1:=by simp[a6a,bN,eJ]
 have e2:bN a2h=1:=by simp[a2h,bN,eJ]
 have ht:zU a2h=true:=by decide
 simp only[c0E,ht,if_true]
 repeat' split
 all_goals try simp only[b8o,e1,e2]
 all_goals omega
theorem qL:VM.Enters prog 118:=.mk func118 rfl
section
variable {rdP:List Tok->Nat->Nat->gO Pr} {l:List Tok} (hV:rR G rdP l)
include hV
theorem b8v(e:Nat)(s:dB):bN (pL rdP l e s).1<=20001:=by
 have h1:bN eE=1:=by simp[eE,bN,eJ]
 unfold pL;split
 .cases h:rdP l s.pl e with
  |ok p j=>exact hV.nod _ _ _ _ h
  |bad n x=>simp only[h1];omega
 .simp only[h1];omega
theorem b3Y:∀(n:Nat)(s:dB),bN (a7Z aH aZ rdP l n s).1.pred<=n*20003+1
 |0,s=>by
  show bN eE<=_
  have h1:bN eE=1:=by simp[eE,bN,eJ]
  omega
 |n+1,s=>by
  have h1:bN eE=1:=by simp[eE,bN,eJ]
  have ih:=b3Y n
  show bN (a5T aH aZ rdP l (a7Z aH aZ rdP l n) s).1.pred<=_
  generalize a7Z aH aZ rdP l n=ty at ih;have z:bN eE<=(n+1)*20003+1:=by omega
  have hR:RmP (λt:Ty=>bN t.pred<=(n+1)*20003+1) (a7Y aZ rdP l ty):=by
   unfold a7Y;refine RmP.xW λ_=>RmP.xW λ_=>RmP.xW λ_=>RmP.d0z (R:=λt:Ty=>bN t.pred<=n*20003+1) ih λt ht=>RmP.xW λ_=>RmP.d0z (R:=λp:Pr=>bN p<=20001) (λs=>b8v hV _ s) λp hp=>RmP.xW λ_=>RmP.bP ?_
   show bN (if _=0 then _ else _)<=_
   split
   .omega
   .exact Nat.le_trans (c2l _ _) (by omega)
  have hF:RmP (λt:Ty=>bN t.pred<=(n+1)*20003+1) (a0C aH l ty):=by
   unfold a0C;refine RmP.xW λ_=>RmP.xW λnamed=>RmP.d0z (R:=λp:List Nm×List Ty=>∀t∈p.2,bN t.pred<=(n+1)*20003+1) (λs=>b8u (P:=λp:List Nm×List Ty=>∀t∈p.2,bN t.pred<=(n+1)*20003+1) (λa s ha=>?_) _ _ _ (λt ht=>by cases ht)) λp hp=>?_
   .have h2:∀(ns:List Nm)(t:Ty),bN t.pred<=n*20003+1->∀u∈(ns,a.2++[t]).2,bN u.pred<=(n+1)*20003+1:=λns t ht u hu=>by
     simp only[g3Q,g3x]at hu;rcases hu with hu|rfl
     .exact ha u hu
     .omega
    have h3:RmP (λp:List Nm×List Ty=>∀t∈p.2,bN t.pred<=(n+1)*20003+1) (if named then(dY aH l >>=λw=>aK l [58] >>=λ_=>ty >>=λt=>pure (a.1++[w],a.2++[t])) else ty >>=λt=>pure (a.1,a.2++[t])):=RmP.ite (RmP.xW λw=>RmP.xW λ_=>RmP.d0z (R:=λt:Ty=>bN t.pred<=n*20003+1) ih λt ht=>RmP.bP (h2 _ t ht)) (RmP.d0z (R:=λt:Ty=>bN t.pred<=n*20003+1) ih λt ht=>RmP.bP (h2 _ t ht));exact h3 s
   .obtain⟨ns,ts⟩:=p;refine RmP.xW λ_=>RmP.xW λc=>RmP.ite (RmP.bP ?_) (RmP.xW λ_=>RmP.xW λt=>RmP.bP z);cases ts with
    |nil=>exact z
    |cons t r=>exact hp t (List.mem_cons_self ..)
  have hD:∀nm,RmP (λt:Ty=>bN t.pred<=(n+1)*20003+1) (a5S aH aZ rdP l ty nm):=λnm=>by unfold a5S;exact RmP.xW λ_=>RmP.xW λ_=>RmP.ite (RmP.xW λ_=>RmP.xW λ_=>RmP.bP z) (RmP.bP z)
  have hP:bN (dN aH l s).1.1.pred<=(n+1)*20003+1:=by
   unfold dN;split
   .exact z
   .split
    .exact z
    .show bN (Ty.pred (if _ then _ else _))<=_
     repeat' split
     all_goals exact z
  unfold a5T
  repeat' split
  .exact hR s
  .exact hF s
  .exact hD _ _
  .exact hP
  .exact z
  .exact z
variable{s s1:dB}
theorem yB{p:Pr}(hv:bY l s)(h:pT rdP l s=(p,s1)):uI l 0 s s1:=(aF.pred hV.toRfH).c7r hv h
variable{p:Ty×Bool}
omit hV in
theorem c2m(hE:pK l)(hv:bY l s)(h:dN aH l s=(p,s1)):bY l s1:=λh1=>by
 unfold dN at h;split at h
 .rename_i hw;cases h;simp only at h1;unfold mG gG at hw;rw[if_pos ⟨h1,hv h1⟩]at hw;simp only[g3q,g4e]at hw;exact rD hE (hv h1) (by have:=hw.1;simp only[Nat.add_zero]at this;omega)
 .split at h
  .cases h;exact hv h1
  .rename_i hw;cases h;simp only at h1;unfold pS gG at hw;rw[if_pos ⟨h1,hv h1⟩]at hw;simp only[Bool.not_eq_true,Bool.not_eq_false',g4e]at hw;exact rD hE (hv h1) (by simp only[Nat.add_zero]at hw;omega)
omit hV in
theorem c7C(hv:bY l s)(h:dN aH l s=(p,s1))(h1:s1.er=0):s.er=0/\s.pl<=s1.pl:=by
 unfold dN at h
 repeat' split at h
 all_goals
  cases h;exact⟨h1,by simp⟩
section
variable {x:bF Ty} {ty:RM Ty} {low:Nat} (hM:aF l (low+1) x ty) (ax:aB l 1 x) (pO:∀s,bY l s->(s.er=0->low+1<=s.pl)->eH G 118 [] l s (ty s) a2j) (nty:∀s,bN (ty s).1.pred<=430000000)
include hM ax pO nty
theorem b0c(s0:dB)(hv:bY l s0)(cM:s0.er=0->low<=s0.pl):eH G 155 [] l s0 (a7Y aZ rdP l ty s0) a2j:=by
 have hl:=hV.len;have v0:=hv;refine eH.bO func155 rfl ntmps155 rfl ?_;intro Q Q0;unfold a7Y at Q0;simp;refine rfM Q0 v0 hV.fin λu1 s1 h1 Q1 p1 v1=>?_;simp;refine cH dA (eM (by omega) [118] s1 v1) (λc x hx=>?_);cases hx;simp;refine cH cI (dZ (by omega) (eY l [118] s1) s1 v1) (λu2 s2 h2=>?_);have Q2:=Q1.step (x:=wP l [118]) h2;have p2:=yU hV.fin v1 h2;have v2:=bY.next p2;simp;refine rfM Q2 v2 hV.fin λu3 s3 h3 Q3 p3 v3=>?_;simp;have l3:s3.er=0->low+1<=s3.pl:=λh=>by have:=((uI.tr p1 p2).tr p3) h;have:=cM this.1;omega
 refine cH qL (pO s3 v3 l3) (λt s4 h4=>?_);have Q4:=Q3.step h4;have p4:=hM.mZ ax v3 l3 h4;have v4:=bY.next p4;have n4:bN t.pred<=430000000:=by
  have:=nty s3
  rwa[h4]at this
 have htk:∀B,B=(bZ l 0 [124] s4&& !decide (t.op=6))->eH G 59 [.bool B] l s4 (a4B l (λs=>bZ l 0 [124] s&& !decide (t.op=6)) s4) (λt=>.d (.str t)):=λB hB=>by subst hB;exact dZ (by omega) _ s4 v4
 have htp:∀{a s1},a4B l (λs=>bZ l 0 [124] s&& !decide (t.op=6)) s4=(a,s1)->uI l 1 s4 s1:=λ{a s1} h=>kP hV.fin (λhb=>by unfold bZ at hb;simp only[g3q,g4e]at hb;omega) v4 h
 have hT:=λ(h:bZ l 0 [124] s4=true) (h2:¬t.op=6)=>htk true (by simp[h,h2]);have hF:=λ(h:bZ l 0 [124] s4=false)=>htk false (by simp only[h];rfl);have hS:=λ(h:bZ l 0 [124] s4=true) (h2:t.op=6)=>htk false (by simp[h,h2]);obtain⟨op,nm,args,ns,p,ps⟩:=t;simp only at htk htp hT hF hS Q4 n4;have h3:(bZ l 0 [124] s4=true/\op=6)\/(bZ l 0 [124] s4=true/\ ¬op=6)\/(bZ l 0 [124] s4=false/\True):=by
  rcases g3O (bZ l 0 [124] s4)with h|h
  .by_cases h6:op=6
   .exact .inl ⟨h,h6⟩
   .exact .inr (.inl ⟨h,h6⟩)
  .exact .inr (.inr ⟨h,trivial⟩)
 simp;refine cH cC (dT hV [124] s4 v4) (λb x hx=>?_);cases hx;rcases h3 with⟨hs,e6⟩|⟨hs,e6⟩|⟨hs,e6⟩
 all_goals
  rw[hs];simp[e6]
  first
   |refine cH cI (hS hs e6) (λu5 s5 h5=>?_)
   |refine cH cI (hT hs e6) (λu5 s5 h5=>?_)
   |refine cH cI (hF hs) (λu5 s5 h5=>?_)
  have Q5:=Q4.step h5;have p5:=htp h5;have v5:=bY.next p5;simp;refine rfG Q5 v5 sZ (vN hV s5 v5) (yB hV) λq s6 h6 Q6 p6 v6=>?_;have n6:bN q<=20001:=by
   have:=b8v hV l.length s5
   rwa[show pL rdP l l.length s5=(q,s6) from h6]at this
  by_cases hz:p.op=0
  .simp only[if_pos hz]at Q6;simp[hz];refine rfM Q6 v6 hV.fin λu7 s7 h7 Q7 p7 v7=>?_;simp;exact Q7.ok _ _ (.inr rfl) (by simp[e6])
  .simp only[if_neg hz]at Q6;have ha:=d4C (G:=G) p q;rw[dE,dE]at ha;simp[hz];refine jV.mk (.mk func175 rfl) ha ?_;simp;refine rfM Q6 v6 hV.fin λu7 s7 h7 Q7 p7 v7=>?_;simp;exact Q7.ok _ _ (.inr rfl) (by simp[e6])
theorem a8k(s0:dB)(hv:bY l s0)(cM:s0.er=0->low<=s0.pl):eH G 108 [] l s0 (a5R aH aZ rdP l ty s0) a2j:=by
 have hl:=hV.len;have hr:=b0c hV hM ax pO nty s0 hv cM;have hp:=c7B hV s0 hv;have v0:=hv;refine eH.bO func108 rfl ntmps108 rfl ?_;intro Q Q0;unfold a5R at Q0;simp;refine cH cC (dT hV [123] s0 v0) (λb x hx=>?_);cases hx;cases h1:bZ l 0 [123] s0 with
 |true=>have Q0:=Q0.sW h1;simp;refine cH (.mk func155 rfl) hr (λt s1 h1=>?_);have Q0:=Q0.eq h1;simp;exact Q0.ok _ _ (.inr rfl) (by simp)
 |false=>
 have Q0:=Q0.rK (by rw[h1];decide);simp;refine cH bS (cN (by omega) [40] s0 v0) (λb s1 hh=>?_);rcases oL hV.fin hh with⟨h2,rfl,e2,e3,e4,v1⟩|⟨h2,rfl,rfl⟩
 .have Q0:=Q0.sW h2;have l1:s1.er=0->low+1<=s1.pl:=λ_=>by rw[e4];exact Nat.succ_le_succ (cM e3)
  rw[<-e2]at Q0;simp;refine cH qL (pO s1 v1 l1) (λt s2 h2=>?_);have Q2:=Q0.step h2;have v2:=bY.next (hM.mZ ax v1 l1 h2);obtain⟨op,nm,args,ns,p,ps⟩:=t;simp;refine rfM Q2 v2 hV.fin λu3 s3 h3 Q3 p3 v3=>?_;simp;exact Q3.ok _ _ (.inr rfl) (by simp)
 .have Q0:=Q0.rK (by rw[h2];decide);simp;refine cH (.mk func156 rfl) hp (λp s2 h3=>?_);rw[h3]at Q0;obtain⟨⟨op,nm,args,ns,q,ps⟩,ok⟩:=p;simp only at Q0;have v2:=c2m hV.fin v0 h3;cases ok with
  |true=>rw[if_pos rfl]at Q0;simp;exact Q0.ok _ _ (.inr rfl) (by simp)
  |false=>rw[if_neg (by decide)]at Q0;simp;refine cH yR (a3d (by omega) s2 v2) (λu s3 h4=>?_);cases h4;simp;exact Q0.ok _ _ (.inr rfl) (by simp)
end
end
section
variable {rdP:List Tok->Nat->Nat->gO Pr} {l:List Tok} (hV:rR G rdP l)
include hV
section
variable {x:bF Ty} {ty:RM Ty} {low:Nat} (hM:aF l (low+1) x ty) (ax:aB l 1 x) (pO:∀s,bY l s->(s.er=0->low+1<=s.pl)->eH G 118 [] l s (ty s) a2j) (nty:∀s,bN (ty s).1.pred<=430000000)
include hM ax pO nty
abbrev f3U(rdP:List Tok->Nat->Nat->gO Pr)(l:List Tok)(ty:RM Ty)(out:List Ty):RM (List Ty):=do let t <- a5R aH aZ rdP l ty;pure (out++[t])
abbrev f3V(rdP:List Tok->Nat->Nat->gO Pr)(l:List Tok)(out:List Pr):RM (List Pr):=do
 let _ <- wP l [118]
 aK l [46]
 let p <- pT rdP l
 pure (out++[p])
abbrev d8p(l:List Tok)(s:dB):Bool:=mG aH l 0 s||(pS l s||(bZ l 0 [123] s||bZ l 0 [40] s))
omit hV hM ax pO nty in
theorem e4d(l:List Tok)(s:dB)(hs:s.er≠0):d8p l s=false:=by
 unfold d8p;rw[a9d hs,c3Q hs,tJ hs,tJ hs]
 rfl
def b8w(nm:Nm)(args:List Ty)(ps:D):List (Nat×bG):=[(3,.cells [.d (.int .i64 4),.d (.str nm),.d (.sl (args.map tyC)),.d .aE,.d (.int .i64 0),.d (.str []),.d (.int .i64 0),.d .aE,.d ps]),(4,.cells [.d (.int .i64 0),.d (.str []),.d .aE,.d .aE,.d (.int .i64 0),.d (.str []),.d (.int .i64 0),.d .aE,.d .aE])]
theorem d0K(nm:Nm)(s:dB)(hv:bY l s)(cM:s.er=0->low<=s.pl):eH G 159 [.agg (f0a 4 nm)] l s (a5S aH aZ rdP l ty nm s) a2j:=by
 have hl:=hV.len;have hA:=aF.e3U (kw:=aH) (andP:=aZ) hV.toRfH hM ax;have aA:=aB.a2W (kw:=aH) (andP:=aZ) hV.fin (ax.le (by omega:0<=1)) hV.mZ.pred;refine eH.bO func159 rfl ntmps159 rfl ?_;intro Q Q0;unfold a5S at Q0;simp;refine a9f (d8p l) (e4d l) (f3U rdP l ty) (λa=>a.length) (λ_=>True) (λ_=>[]) (λa s=>b8w nm a .aE++rfH l s) (λ_=>[(54,[.c 3 2])]) (l.length+2) [] s (by omega) hv (by simp) trivial (by simp[b8w]) ?_ ?_
 .intro a s0 e0 i0 bs la _ hc R hR;have v0:bY l s0:=λ_=>i0;have l0:s0.er=0->low<=s0.pl:=λ_=>Nat.le_trans (cM bs.1) bs.2;simp[b8w];refine cH mN (rE hV s0 v0) (λb x hx=>?_);cases hx;rcases g3O (mG aH l 0 s0)with w1|w1
  all_goals
   rw[w1];simp
  case' inr=>
   refine cH gQ (jN (by omega) s0 v0) (λb x hx=>?_);cases hx;rcases g3O (pS l s0)with w2|w2
   all_goals
    rw[w2];simp
  case' inr.refl.inr=>
   refine cH cC (dT hV [123] s0 v0) (λb x hx=>?_);cases hx;rcases g3O (bZ l 0 [123] s0)with w3|w3
   all_goals
    rw[w3];simp
  case' inr.refl.inr.refl.inr=>
   have w4:bZ l 0 [40] s0=true:=by simpa[w1,w2,w3]using hc
   refine cH cC (dT hV [40] s0 v0) (λb x hx=>?_);cases hx;rw[w4];simp
  all_goals
   refine dK [0] 3 [2] (.op 1 (.call [4,5,6,7] .none) (.call [1,4,5,6,7] .none)) true (by kernel_rfl) (by kernel_rfl) ?_;simp;refine⟨?_,?_⟩
   all_goals
    refine rfZ (.mk func108 rfl) (a8k hV hM ax pO nty s0 v0 l0) (λt s1 h1=>?_);have p1:uI l _ s0 s1:=hA.mZ aA v0 l0 h1;have v1:=bY.next p1;refine cG.mk ?_;simp
   all_goals
    refine bQ (by first|omega|(simp[bW];omega)|exact⟨λx hx=>by obtain⟨y,_,rfl⟩:=g3L.1 hx;first|rfl|(rw[bW];rfl),by omega⟩|exact⟨rfl,by omega⟩) ?_;simp;refine hR _ (a++[t]) s1 (by simp only[aQ,h1];rfl) (by simp[b8w,bW]) (λh=>?_) (by simp) trivial;have:=(p1) h;omega
 .intro a s1 hc qZ la _ v1 hy R;have Q1:=Q0.step (x:=rM l (d8p l) (f3U rdP l ty) []) hy;simp only[d8p,Bool.or_eq_false_iff]at hc;obtain⟨w1,w2,w3,w4⟩:=hc;simp[b8w];refine cH mN (rE hV s1 v1) (λb x hx=>?_);cases hx;rw[w1];simp;refine cH gQ (jN (by omega) s1 v1) (λb x hx=>?_);cases hx;rw[w2];simp;refine cH cC (dT hV [123] s1 v1) (λb x hx=>?_);cases hx;rw[w3];simp;refine cH cC (dT hV [40] s1 v1) (λb x hx=>?_);cases hx;rw[w4];simp;refine cH bS (cN (by omega) [60] s1 v1) (λb2 s2 h2=>?_);have Q2:=Q1.step h2;have p2:=yA hV.fin v1 h2;have v2:=bY.next p2;rcases oL hV.fin h2 with⟨_,rfl,_,_,_,_⟩|⟨_,rfl,rfl⟩
  .rw[if_pos rfl]at Q2;simp;refine a1F hV.fin [44] (f3V rdP l) (λa=>a.length) (λ_=>True) 5 (λ_=>[]) (λb s=>b8w nm a (.sl (b.map qF))++rfH l s) (λ_=>[(52,[.c 3 8])]) (l.length+2) [] s2 (by omega) v2 rfl trivial (by simp[b8w]) ?_ ?_
   .intro b s0 e0 i0 bs lb _ R hR;have v0:bY l s0:=λ_=>i0;simp[b8w,e0];refine cH dA (eM (by omega) [118] s0 v0) (λc x hx=>?_);cases hx;simp;refine cH cI (dZ (by omega) (eY l [118] s0) s0 v0) (λu1 s1 h1=>?_);have h1:wP l [118] s0=(u1,s1):=h1;have p1:uI l 1 s0 s1:=yU hV.fin v0 h1;have v1:=bY.next p1;simp;refine rfN [46] v1 hV.fin λu2 s2 h2 p2 v2=>?_;simp;refine dK [0] 3 [2] (.op 1 (.call [4,5,6,7] .none) (.call [1,4,5,6,7] .none)) true (by kernel_rfl) (by kernel_rfl) ?_;simp;refine⟨?_,?_⟩
    all_goals
     refine rfZ sZ (vN hV s2 v2) (λp s3 h3=>?_);have p3:uI l _ s2 s3:=yB hV v2 h3;have v3:=bY.next p3;refine cG.mk ?_;simp
    all_goals
     refine bQ (by first|omega|(simp[dE];omega)|exact⟨λx hx=>by obtain⟨y,_,rfl⟩:=g3L.1 hx;first|rfl|(rw[dE];rfl),by omega⟩|exact⟨rfl,by omega⟩) ?_;simp;refine cH bS (cN (by omega) [44] s3 v3) (λbh sh hh=>?_);simp;refine hR _ (b++[p]) s3 (by simp only[aQ,h1,h2,h3];rfl) (by rw[hh];simp[b8w,dE]) (λh=>?_) (by simp) trivial;have:=((p1.tr p2).tr p3) h;omega
   ·
    intro a s1 m hm qZ la hJ v1 hy R;have hm':m=false\/(m=true/\ ¬s1.er=0):=by
     cases m
     .exact .inl rfl
     .rcases hm with h|h
      .cases h
      .exact .inr ⟨rfl,h⟩
    have Q3:=Q2.step (x:=mH l [44] (f3V rdP l) []) hy;rcases hm' with rfl|⟨rfl,h⟩
    all_goals
     first
      |simp[b8w,h]
      |simp[b8w]
     refine rfM Q3 v1 hV.fin λu4 s4 h4 Q4 p4 v4=>?_;simp;exact Q4.ok _ _ (.inr rfl) (by simp[wW,eE])
  .rw[if_neg (by decide)]at Q2;simp;exact Q2.ok _ _ (.inr rfl) (by simp[wW,eE])
end
end
section
variable {rdP:List Tok->Nat->Nat->gO Pr} {l:List Tok} (hV:rR G rdP l)
include hV
section
variable {x:bF Ty} {ty:RM Ty} {low:Nat} (hM:aF l (low+1) x ty) (ax:aB l 1 x) (pO:∀s,bY l s->(s.er=0->low+1<=s.pl)->eH G 118 [] l s (ty s) a2j) (nty:∀s,bN (ty s).1.pred<=430000000)
include hM ax pO
abbrev e7b(l:List Tok)(ty:RM Ty)(named:Bool)(out:List Nm×List Ty):RM (List Nm×List Ty):=if named then(do
 let w <- dY aH l
 aK l [58]
 let t <- ty
 pure (out.1++[w],out.2++[t])) else(do
 let t <- ty
 pure (out.1,out.2++[t]))
def c7E(ns:List Nm)(ts:List Ty):List (Nat×bG):=[(2,.cells [.d (.int .i64 0),.d (.str []),.d .aE,.d .aE,.d (.int .i64 0),.d (.str []),.d (.int .i64 0),.d .aE,.d .aE]),(3,.cells [.d (.int .i64 6),.d (.str []),.d (.sl (ts.map tyC)),.d (.sl (strs ns)),.d (.int .i64 0),.d (.str []),.d (.int .i64 0),.d .aE,.d .aE])]
theorem c4c(s0:dB)(hv:bY l s0)(cM:s0.er=0->low<=s0.pl):eH G 158 [] l s0 (a0C aH l ty s0) a2j:=by
 have hl:=hV.len;have v0:=hv;refine eH.xA func158 rfl ntmps158 rfl ?_;intro Q Q0;unfold a0C at Q0;refine SW.gN (SW.xk ?_);simp;refine SW.gN (SW.xk ?_);simp;refine rfM Q0 v0 hV.fin λu1 s1 h1 Q1 p1 v1=>?_;have l1:s1.er=0->low+1<=s1.pl:=λh=>by have:=p1 h;have:=cM this.1;omega
 simp;refine SW.gN (SW.xk ?_);simp;obtain⟨named,hnm⟩:∃b,(mG aH l 0 s1&&bZ l 1 [58] s1)=b:=⟨_,rfl⟩;have Q1:=Q1.step (show uH (λs=>mG aH l 0 s&&bZ l 1 [58] s) s1=(named,s1) by rw[<-hnm];rfl);refine SW.a7Q [(4,.d (.bool named))] ([(2,.cells [.d (.int .i64 0),.d (.str []),.d .aE,.d .aE,.d (.int .i64 0),.d (.str []),.d (.int .i64 0),.d .aE,.d .aE]),(3,.cells [.d (.int .i64 6),.d (.str []),.d .aE,.d .aE,.d (.int .i64 0),.d (.str []),.d (.int .i64 0),.d .aE,.d .aE])]++rfH l s1) [] (SW.xk ?_) (SW.xk ?_)
 .have hw:(mG aH l 0 s1=true/\bZ l 1 [58] s1=named)\/(mG aH l 0 s1=false/\named=false):=by
   cases h:mG aH l 0 s1
   .exact .inr ⟨rfl,by rw[<-hnm,h];rfl⟩
   .exact .inl ⟨rfl,by rw[<-hnm,h];rfl⟩
  simp;refine cH mN (rE hV s1 v1) (λb x hx=>?_);cases hx;rcases hw with⟨w1,w2⟩|⟨w1,w2⟩
  .rw[w1];simp;have hsg:eH G 60 [.int .i64 1,.str [58]] l s1 (bZ l 1 [58] s1,s1) (λb=>.d (.bool b)):=tI (by omega) 1 [58] s1 v1 (by omega);refine cH cC hsg (λb x hx=>?_);cases hx;simp[w2]
  .rw[w1];simp[w2]
 simp;refine a1F hV.fin [44] (e7b l ty named) (λa=>a.2.length) (λa=>a.1.length<=a.2.length) 5 (λ_=>[]) (λa s=>c7E a.1 a.2++rfH l s) (λ_=>[(54,[.c 3 2]),(9,[.c 3 3])]) (l.length+2) ([],[]) s1 (by omega) v1 rfl (by simp) (by simp[c7E,strs]) ?_ ?_
 .rintro⟨ns,ts⟩ s0 e0 i0 bs la hJ R hR;simp only at la hJ;have v0:bY l s0:=λ_=>i0;have l0:s0.er=0->low+1<=s0.pl:=λ_=>Nat.le_trans (l1 bs.1) bs.2;cases named with
  |false=>
   simp[c7E,e0];refine dK [0] 3 [2] (.op 1 (.call [4,5,6,7] .none) (.call [1,4,5,6,7] .none)) true (by kernel_rfl) (by kernel_rfl) ?_;simp;refine⟨?_,?_⟩
   all_goals
    refine rfZ qL (pO s0 v0 l0) (λt s1 h1=>?_);have p1:uI l _ s0 s1:=hM.mZ ax v0 l0 h1;have v1:=bY.next p1;refine cG.mk ?_;simp
   all_goals
    refine bQ (by first|omega|(simp[bW];omega)|exact⟨λx hx=>by obtain⟨y,_,rfl⟩:=g3L.1 hx;first|rfl|(rw[bW];rfl),by omega⟩|exact⟨rfl,by omega⟩) ?_;simp;have ho:(ty >>=λt=>pure (ns,ts++[t]):RM (List Nm×List Ty)) s0=((ns,ts++[t]),s1):=by
     rw[aQ,h1]
     rfl
    refine cH bS (cN (by omega) [44] s1 v1) (λbh sh hh=>?_);simp;refine hR _ (ns,ts++[t]) s1 ho (by rw[hh];simp[c7E,bW]) (λh=>?_) (by simp) (Nat.le_trans hJ (by simp));have:=(p1) h;omega
  |true=>
   simp[c7E,e0];refine dK [0] 3 [2] (.op 1 (.call [4,5,6,7] .none) (.call [1,4,5,6,7] .none)) true (by kernel_rfl) (by kernel_rfl) ?_;simp;refine⟨?_,?_⟩
   all_goals
    refine rfZ gK (jJ (by omega) s0 v0) (λw s1 h1=>?_);have p1:uI l _ s0 s1:=gW hV.fin v0 h1;have v1:=bY.next p1;refine cG.mk ?_;simp
   all_goals
    refine bQ (by first|omega|(simp[strs];omega)|exact⟨λx hx=>by obtain⟨y,_,rfl⟩:=g3L.1 hx;first|rfl|(rw[strs];rfl),by omega⟩|exact⟨rfl,by omega⟩) ?_;simp;refine rfN [58] v1 hV.fin λu2 s2 h2 p2 v2=>?_;have l2:s2.er=0->low+1<=s2.pl:=λh=>by have:=(uI.tr p1 p2) h;have:=l0 this.1;omega
    simp;refine dK [0] 3 [2] (.op 1 (.call [4,5,6,7] .none) (.call [1,4,5,6,7] .none)) true (by kernel_rfl) (by kernel_rfl) ?_;simp;refine⟨?_,?_⟩
    all_goals
     refine rfZ qL (pO s2 v2 l2) (λt s3 h3=>?_);have p3:uI l _ s2 s3:=hM.mZ ax v2 l2 h3;have v3:=bY.next p3;refine cG.mk ?_;simp
    all_goals
     refine bQ (by first|omega|(simp[bW];omega)|exact⟨λx hx=>by obtain⟨y,_,rfl⟩:=g3L.1 hx;first|rfl|(rw[bW];rfl),by omega⟩|exact⟨rfl,by omega⟩) ?_;simp;have ho:(dY aH l >>=λw=>aK l [58] >>=λ_=>ty >>=λt=>pure (ns++[w],ts++[t]):RM (List Nm×List Ty)) s0=((ns++[w],ts++[t]),s3):=by
      rw[aQ,h1,aQ,h2,aQ,h3]
      rfl
     refine cH bS (cN (by omega) [44] s3 v3) (λbh sh hh=>?_);simp;refine hR _ (ns++[w],ts++[t]) s3 ho (by rw[hh];simp[c7E,bW,strs]) (λh=>?_) (by simp) (by simpa using hJ);have:=((p1.tr p2).tr p3) h;omega
 .rintro⟨ns,ts⟩ s2 m hm qZ la hJ v2 hy R;have hm':m=false\/(m=true/\ ¬s2.er=0):=by
   cases m
   .exact .inl rfl
   .rcases hm with h|h
    .cases h
    .exact .inr ⟨rfl,h⟩
  have Q2:=Q1.step (x:=mH l [44] (e7b l ty named) ([],[])) hy;simp only at Q2 la hJ;have l2':s2.er=0->low+1<=s2.pl:=λh=>Nat.le_trans (l1 (qZ h).1) (qZ h).2;rcases hm' with rfl|⟨rfl,h⟩
  all_goals
   first
    |simp[c7E,h]
    |simp[c7E]
   refine rfM Q2 v2 hV.fin λu3 s3 h3 Q3 p3 v3=>?_;simp;obtain⟨c,hc⟩:∃c,(decide (ts.length=1)&&(!named&& !bZ l 0 [45,62] s3))=c:=⟨_,rfl⟩;have Q3:=Q3.step (show uH (λs=>decide (ts.length=1)&&(!named&& !bZ l 0 [45,62] s)) s3=(c,s3) by rw[<-hc];rfl);cases c with
   |true=>simp only[g3q,g4e,g3M]at hc;obtain⟨e1,e2,e3⟩:=hc;rw[if_pos rfl]at Q3;obtain⟨t,rfl⟩:∃t,ts=[t]:=List.length_eq_one_iff.1 e1;simp[e2];refine cH cC (dT hV [45,62] s3 v3) (λb x hx=>?_);cases hx;rw[e3];simp[bW];exact Q3.ok _ _ (.inr rfl) (by simp)
   |false=>
    rw[if_neg (by decide)]at Q3;have h4:(ts.length=1/\named=false/\bZ l 0 [45,62] s3=true)\/(ts.length=1/\named=true)\/ ¬ts.length=1:=by
     by_cases h1:ts.length=1
     .cases named
      .exact .inl ⟨h1,rfl,by simpa[h1]using hc⟩
      .exact .inr (.inl ⟨h1,rfl⟩)
     .exact .inr (.inr h1)
    rcases h4 with⟨e1,e2,e3⟩|⟨e1,e2⟩|e1
    case' inl=>simp[e1,e2];refine cH cC (dT hV [45,62] s3 v3) (λb x hx=>?_);cases hx;rw[e3];simp
    case' inr.inl=>simp[e1,e2]
    case' inr.inr=>simp[e1]
    all_goals
     refine rfM Q3 v3 hV.fin λu4 s4 h4 Q4 p4 v4=>?_;have l4:s4.er=0->low+1<=s4.pl:=λh=>by have:=p4 h;have:=p3 this.1;have:=l2' this.1;omega
     simp;refine dK [0] 3 [2] (.op 1 (.call [4,5,6,7] .none) (.call [1,4,5,6,7] .none)) true (by kernel_rfl) (by kernel_rfl) ?_;simp;refine⟨?_,?_⟩
     all_goals
      refine rfZ qL (pO s4 v4 l4) (λt s5 h5=>?_);have Q5:=Q4.step h5;refine cG.mk ?_;simp;refine bQ (by first|omega|(simp[bW];omega)|exact⟨λx hx=>by obtain⟨y,_,rfl⟩:=g3L.1 hx;first|rfl|(rw[bW];rfl),by omega⟩|exact⟨rfl,by omega⟩) ?_;simp;exact Q5.ok _ _ (.inr rfl) (by simp[bW,wW,eE])
end
end
section
variable {rdP:List Tok->Nat->Nat->gO Pr} {l:List Tok} (hV:rR G rdP l)
include hV
omit hV in
theorem c2n{l:List Tok}(s:dB)(hs:s.er≠0):eH G 118 [] l s (jZ,s) a2j:=by obtain⟨i,e,ln⟩:=s;refine eH.bO func118 rfl ntmps118 rfl ?_;intro Q Q0;simp[hs];exact Q0.ok _ _ (.inr rfl) (by simp[jZ,eE])
variable{s s1:dB}{t:Ty}
omit hV in
theorem d0L(h:dN aH l s=((t,false),s1)):t=jZ:=by
 unfold dN at h;split at h
 .cases h
 .split at h
  .cases h;rfl
  .cases h
section
variable {x:bF Ty} {ty:RM Ty} {low:Nat} (hM:aF l (low+1) x ty) (ax:aB l 1 x) (pO:∀s,bY l s->(s.er=0->low+1<=s.pl)->eH G 118 [] l s (ty s) a2j) (nty:∀s,bN (ty s).1.pred<=430000000)
include hM ax pO nty
theorem d0M(s0:dB)(hv:bY l s0)(cM:s0.er=0->low<=s0.pl):eH G 118 [] l s0 (a5T aH aZ rdP l ty s0) a2j:=by
 have hl:=hV.len;by_cases he:s0.er=0;rotate_left
 .have:=c2n (G:=G) (l:=l) s0 he;unfold a5T
  rwa[if_neg he]
 have hr:=b0c hV hM ax pO nty s0 hv cM;have hf:=c4c hV hM ax pO s0 hv cM;have hp:=b2E hV s0 hv;have v0:=hv;refine eH.bO func118 rfl ntmps118 rfl ?_;intro Q Q0;unfold a5T at Q0;have Q0:=Q0.sW he;simp[he];refine cH (hH:=by simp[he]) cC (dT hV [123] s0 v0) (λb x hx=>?_);cases hx;cases h1:bZ l 0 [123] s0 with
 |true=>have Q0:=Q0.sW h1;simp;refine cH (.mk func155 rfl) hr (λt s1 h1=>?_);have Q0:=Q0.eq h1;simp;exact Q0.ok _ _ (.inr rfl) (by simp)
 |false=>
 have Q0:=Q0.rK (by rw[h1];decide);simp;refine cH cC (dT hV [40] s0 v0) (λb x hx=>?_);cases hx;cases h2:bZ l 0 [40] s0 with
 |true=>have Q0:=Q0.sW h2;simp;refine cH (.mk func158 rfl) hf (λt s1 h1=>?_);have Q0:=Q0.eq h1;simp;exact Q0.ok _ _ (.inr rfl) (by simp)
 |false=>
 have Q0:=Q0.rK (by rw[h2];decide);simp;have a3Q:=b2F (l:=l) s0;refine cH (.mk func156 rfl) hp (λp s2 h3=>?_);rw[h3]at Q0 a3Q;obtain⟨t,ok⟩:=p;simp only at Q0 a3Q;have v2:=c2m hV.fin v0 h3;cases ok with
 |false=>have ht:=d0L h3;subst ht;rw[if_neg (by decide)]at Q0;simp[jZ];refine cH yR (a3d (by omega) s2 v2) (λu s3 h4=>?_);cases h4;simp;exact Q0.ok _ _ (.inr rfl) (by simp[jZ,eE])
 |true=>
  rw[if_pos rfl]at Q0;simp;by_cases h4:t.op=4
  .rw[if_pos h4]at Q0;have l2:s2.er=0->low<=s2.pl:=λh=>by have h5:=c7C v0 h3 h;have:=cM he;omega
   have hd:=d0K hV hM ax pO nty t.name s2 v2 l2;simp[h4];refine cH (.mk func159 rfl) hd (λu s3 h5=>?_);have Q0:=Q0.eq h5;simp;exact Q0.ok _ _ (.inr rfl) (by simp)
  .rw[if_neg h4]at Q0;simp[h4];exact Q0.ok _ _ (.inr rfl) (by rw[a3Q];simp[wW,eE])
end
theorem b8x:∀(n low:Nat),l.length<n+low->n<=l.length+2->∀s,bY l s->(s.er=0->low<=s.pl)->eH G 118 [] l s (a7Z aH aZ rdP l n s) a2j
 |0,low,h,_,s,hv,cM=>by
  have he:s.er≠0:=λh0=>by have:=hv h0;have:=cM h0;omega
  exact c2n s he
 |n+1,low,h,hn,s,hv,cM=>d0M hV (aF.b1Y hV.toRfH n (low+1) (by omega)) (aB.b1Y hV.fin hV.mZ.pred n) (λs=>b8x n (low+1) (by omega) (by omega) s) (λs=>by have:=b3Y hV n s;have:=hV.len;omega) s hv cM
theorem a0J(s:dB)(hv:bY l s):eH G 118 [] l s (sX aH aZ rdP l s) a2j:=b8x hV (l.length+2) 0 (by omega) (by omega) s hv (λ_=>by omega)
theorem a2x(hv:bY l s)(h:sX aH aZ rdP l s=(t,s1)):uI l 1 s s1:=(aF.typ hV.toRfH).d4m (aB.typ hV.fin hV.mZ.pred) hv h
abbrev f3W(rdP:List Tok->Nat->Nat->gO Pr)(l:List Tok)(out:List Ty):RM (List Ty):=do let t <- sX aH aZ rdP l;pure (out++[t])
theorem c7G(s0:dB)(hv:bY l s0):eH G 229 [] l s0 (a5U aH aZ rdP l s0) (λts=>.d (.sl (ts.map tyC))):=by
 have hl:=hV.len;have v0:=hv;refine eH.bO func229 rfl ntmps229 rfl ?_;intro Q Q0;unfold a5U at Q0;simp;refine rfM Q0 v0 hV.fin λu1 s1 h1 Q1 p1 v1=>?_;simp;refine a1F hV.fin [44] (f3W rdP l) (λa=>a.length) (λ_=>True) 4 (λa=>[(3,.d (.sl (a.map tyC)))]) (λ_ s=>rfH l s) (λ_=>[(54,[.t 3])]) (l.length+2) [] s1 (by omega) v1 rfl trivial (by simp) ?_ ?_
 .intro a s0 e0 i0 bs la _ R hR;have v0:bY l s0:=λ_=>i0;simp[e0];refine rfL v0 qL (a0J hV s0 v0) (a2x hV) λt s1 h1 p1 v1=>?_;simp;refine eF (by first|omega|(simp[bW];omega)|exact⟨λx hx=>by obtain⟨y,_,rfl⟩:=g3L.1 hx;first|rfl|(rw[bW];rfl),by omega⟩|exact⟨rfl,by omega⟩) ?_;simp;refine cH bS (cN (by omega) [44] s1 v1) (λbh sh hh=>?_);simp;refine hR _ (a++[t]) s1 (by simp only[aQ,h1];rfl) (by rw[hh];simp[bW]) (λh=>?_) (by simp) trivial;have:=(p1) h;omega
 ·
  intro a s2 m hm qZ la hJ v2 hy R;have hm':m=false\/(m=true/\ ¬s2.er=0):=by
   cases m
   .exact .inl rfl
   .rcases hm with h|h
    .cases h
    .exact .inr ⟨rfl,h⟩
  have Q2:=Q1.step (x:=mH l [44] (f3W rdP l) []) hy;rcases hm' with rfl|⟨rfl,h⟩
  all_goals
   first
    |simp[h]
    |simp
   refine rfM Q2 v2 hV.fin λu3 s3 h3 Q3 p3 v3=>?_;simp;exact Q3.ok _ _ (.inr rfl) (by simp)
end
end
section
section
variable {kw:Nm->Bool} {andP:Pr->Pr->Pr} {rdP:List Tok->Nat->Nat->gO Pr} {l:List Tok} {low m:Nat} {α β γ:Type} {ln:Int}
variable (H:RfH rdP l)
include H
section
variable {ex:Nat->bF cP} {ex':Nat->RM cP} (hex:∀k,aF l (low+1) (ex k) (ex' k)) (kE:∀k,aB l 1 (ex k))
include hex kE
theorem aF.qG:aF l low (kW l ex) (tH l ex'):=by unfold kW tH;exact aF.mus (aF.b0 (aF.list (λa=>aF.b0 (hex 0) λt=>aF.bP _) _) λout=>aF.mus (aF.bP _))
theorem aF.d7B(op:Int):aF l low (a2U l ex op) (b7N l ex' op):=by unfold a2U b7N;exact aF.mus (aF.b0 (hex 0) λe=>aF.mus (aF.bP _))
theorem aF.f7K(op:Int):aF l low (aR l [[40]] >>=λ_=>ex 0 >>=λa=>aR l [[44]] >>=λ_=>ex 0 >>=λb=>aR l [[41]] >>=λ_=>pure (eD op [a,b])) (c3P l ex' op):=by unfold c3P;exact aF.mus (aF.b0 (hex 0) λe=>aF.mus (aF.b0 ((hex 0).up (by omega)) λe=>aF.mus (aF.bP _)))
variable{i:Nat}
theorem tZ.closed(h1:low<=i)(h2:i<l.length)(hs:aL l i [40]=true):tZ ln (sF kw andP rdP l ex i) (c7p kw andP rdP l ex' ⟨i,0,ln⟩):=by
 have hr:aF l low (aR l [[40]] >>=λ_=>ex 0 >>=λe=>cS l [58] >>=λb=>(if b then mD kw andP rdP l >>=λt=>pure {eD 26 [e]with types:=[t]} else pure e:bF cP) >>=λe=>aR l [[41]] >>=λ_=>pure e) (aK l [40] >>=λ_=>ex' 0 >>=λe=>eL l [58] >>=λb=>(if b then sX kw andP rdP l >>=λt=>pure {eD 26 [e]with types:=[t]} else pure e:RM cP) >>=λe=>aK l [41] >>=λ_=>pure e):=
  aF.mus (aF.b0 (hex 0) λe=>aF.b0 aF.a9X λb=>aF.b0 (aF.ite (aF.b0 (aF.typ H) λt=>aF.bP _) (aF.bP _)) λe=>aF.mus (aF.bP _))
 have hr:=hr.yS i ln h1 h2;rw[a8a hs]at hr;unfold sF c7p;refine tZ.f3A hs ?_;have hk:decide ((gG l 2 ⟨i,0,ln⟩).kind=3)=decide ((aJ l (i+1+1)).kind=3):=by rw[c1Y H.fin]
 have h3:bZ l 3 [41] ⟨i,0,ln⟩=cQ (aJ l (i+1+2)) [41]:=a5W H 3 i (by decide);rw[a5W H 1 i (t:=[45]) (by decide),hk,h3, <- Bool.and_assoc]
 show tZ ln (if (aL l (i+1) [45]&&decide ((aJ l (i+1+1)).kind=3)&&cQ (aJ l (i+1+2)) [41])=true then _ else _) _
 cases hc:(aL l (i+1) [45]&&decide ((aJ l (i+1+1)).kind=3)&&cQ (aJ l (i+1+2)) [41])with
 |true=>
  rw[if_pos rfl,if_pos rfl];simp only[g3q,g4e]at hc;have aG:i+2<l.length:=by
   rcases Nat.lt_or_ge (i+2) l.length with h|h
   .exact h
   .have:=b7Y H.fin (i:=i+2) (by omega);rw[hc.1.2]at this;cases this
  rw[b6x aG]
  rfl
 |false=>rw[if_neg (by decide),if_neg (by decide)];exact hr
theorem aF.f3X(ti call:Bool)(nm:Nm){Y:bF (List cP)}(hY:aF l low Y (uH (λs=>call||bZ l 0 [40] s) >>=λc=>if c then tH l ex' else pure [])):aF l low (uM kw andP rdP l >>=λts=>Y >>=λks=>pure ⟨if call then 5 else if ti then 4 else 3,nm,0,ks,[],[],ts⟩) (b0O kw andP rdP l ex' ti call nm):=by unfold b0O;refine aF.b0 (aF.types H) λts=>?_;exact⟨λi ln h1 h2=>tZ.xW (hY.yS i ln h1 h2) (λa=>rZ.bP _) λa j h=>rfl,rZ.xW hY.qY λa=>rZ.bP _,hY.av.bl λ_=>aB.bP _⟩
theorem tZ.app(h1:low<=i)(h2:i<l.length)(hwt:(kL kw (aJ l i)||rW (aJ l i))=true):
  tZ ln (if kL kw (aJ l i) then
  (if !aL l (i+1) [91]&& !aL l (i+1) [40] then .ok {eD 3 []with name:=(aJ l i).text} (i+1)
  else(do
   let ts <- uM kw andP rdP l
   let ks <- kW l ex
   pure {eD 5 ks with name:=(aJ l i).text,types:=ts}:bF cP) (i+1))
 else(do
  let ts <- uM kw andP rdP l
  let ks <- (λj=>if aL l j [40] then kW l ex j else .ok [] j:bF (List cP))
  pure {eD 4 ks with name:=(aJ l i).text,types:=ts}:bF cP) (i+1)) (b3S kw andP rdP l ex' ⟨i,0,ln⟩):=by
 have hn:i+1<l.length:=by
  simp only[g3C]at hwt;rcases hwt with h|h
  .exact a8O H.fin h2 h
  .exact a8N H.fin h2 h
 have ht:rL l true ⟨i,0,ln⟩=((aJ l i).text,⟨i+1,0,ln⟩):=by unfold rL;rw[if_pos ⟨rfl,rfl⟩,a0D (by omega)]
 unfold b3S;rw[ht,a9c h2,a5W H 1 i (t:=[91]) (by decide),a5W H 1 i (t:=[40]) (by decide)];have hA:=aF.qG H hex kE;have hT:aF l low (kW l ex) (uH (λs=>true||bZ l 0 [40] s) >>=λc=>if c then tH l ex' else pure []):=⟨λi ln h1 h2=>hA.yS i ln h1 h2,hA.qY,hA.av⟩;have hF:aF l low (λj=>if aL l j [40] then kW l ex j else .ok [] j:bF (List cP)) (uH (λs=>false||bZ l 0 [40] s) >>=λc=>if c then tH l ex' else pure []):=by
  refine aF.test (λb=>?_) (λi a j hi h=>?_) λi ln h1 h2=>?_
  .cases b
   .exact rZ.bP _
   .exact hA.qY
  .split at h
   .exact hA.av i a j hi h
   .cases h;omega
  .rw[Bool.false_or,pU H i (t:=[40]) (by decide)];cases aL l i [40]with
   |true=>exact hA.yS i ln h1 h2
   |false=>rfl
 cases hti:rW (aJ l i)with
 |true=>
  have hw:kL kw (aJ l i)=false:=by unfold rW at hti;unfold kL;simp only[g4e]at hti;simp[hti]
  rw[hw,if_neg (by decide)];exact(aF.f3X H hex kE true false _ hF).yS (i+1) ln (by omega) hn
 |false=>
  rw[hti,Bool.or_false]at hwt;rw[hwt,if_pos rfl];cases hc:(aL l (i+1) [91]||aL l (i+1) [40])with
  |true=>
   have e:(!aL l (i+1) [91]&& !aL l (i+1) [40])=false:=by rw[<-Bool.not_or,hc];rfl
   rw[e,if_neg (by decide)];exact(aF.f3X H hex kE false true _ hT).yS (i+1) ln (by omega) hn
  |false=>
   have e:(!aL l (i+1) [91]&& !aL l (i+1) [40])=true:=by rw[<-Bool.not_or,hc];rfl
   rw[e,if_pos rfl];simp only[Bool.or_eq_false_iff]at hc;have q1:bZ l 0 [91] ⟨i+1,0,ln⟩=false:=(pU H _ (by decide)).trans hc.1;have q2:(false||bZ l 0 [40] ⟨i+1,0,ln⟩)=false:=(pU H _ (by decide)).trans hc.2
   show b0O kw andP rdP l ex' false false (aJ l i).text ⟨i+1,0,ln⟩=_
   unfold b0O;rw[aQ,d8a q1,zS,aQ,d8a q2]
   rfl
theorem aF.b7z:aF l low (zP kw andP rdP l ex) (a9a kw andP rdP l ex'):=⟨λi ln h1 h2=>by
 unfold zP a9a;rw[if_pos rfl,a0D h2,kX H h2 (t:=[116,114,117,101]) (by decide) (by decide),kX H h2 (t:=[102,97,108,115,101]) (by decide) (by decide),kX H h2 (t:=[110,101,119]) (by decide) (by decide),kX H h2 (t:=[103,101,116]) (by decide) (by decide),kX H h2 (t:=[115,101,116]) (by decide) (by decide),pU H i (t:=[40]) (by decide),a3Z kw h2,a9c h2];by_cases k3:(aJ l i).kind=3
 .rw[if_pos k3,if_pos k3];rfl
 rw[if_neg k3,if_neg k3];by_cases b1:aL l i [116,114,117,101]=true
 .rw[if_pos b1,if_pos b1];rfl
 rw[if_neg b1,if_neg b1];by_cases b2:aL l i [102,97,108,115,101]=true
 .rw[if_pos b2,if_pos b2];rfl
 rw[if_neg b2,if_neg b2];by_cases b3:aL l i [110,101,119]=true
 .rw[if_pos b3,if_pos b3];exact(aF.d7B H hex kE _).yS (i+1) ln (by omega) (aV H.fin h2 b3)
 rw[if_neg b3,if_neg b3];by_cases b4:aL l i [103,101,116]=true
 .rw[if_pos b4,if_pos b4];exact(aF.d7B H hex kE _).yS (i+1) ln (by omega) (aV H.fin h2 b4)
 rw[if_neg b4,if_neg b4];by_cases b5:aL l i [115,101,116]=true
 .rw[if_pos b5,if_pos b5];exact(aF.f7K H hex kE _).yS (i+1) ln (by omega) (aV H.fin h2 b5)
 rw[if_neg b5,if_neg b5];cases b6:aL l i [40]with
 |true=>
  have k4:(aJ l i).kind=4:=by have e:aL l i [40]=_:=(H.tkw i).sg (by decide);rw[e]at b6;simp only[g3q,g4e]at b6;exact b6.1
  have hw:kL kw (aJ l i)=false:=by unfold kL;simp[k4]
  have ht:rW (aJ l i)=false:=by unfold rW;simp[k4]
  rw[hw,ht,if_neg (by decide),if_neg (by decide),if_pos rfl];exact tZ.closed H hex kE h1 h2 b6
 |false=>
  rw[if_neg (show ¬false=true by decide)];cases hwt:(kL kw (aJ l i)||rW (aJ l i))with
  |true=>
   have h:=tZ.app (ln:=ln) (andP:=andP) H hex kE h1 h2 hwt;rw[if_pos rfl];cases hw:kL kw (aJ l i)with
   |true=>rw[hw,if_pos rfl]at h;rw[if_pos rfl];exact h
   |false=>rw[hw,Bool.false_or]at hwt;rw[hw,if_neg (by decide)]at h;rw[if_neg (by decide),hwt,if_pos rfl];exact h
  |false=>simp only[Bool.or_eq_false_iff]at hwt;rw[hwt.1,hwt.2,if_neg (by decide),if_neg (by decide),if_neg (by decide)];unfold sF;exact tZ.e3v b6 (tZ.fail h2 _),λs hs=>by
 unfold a9a;rw[if_neg hs],(aB.b7z H.fin kE H.mZ.pred).le (by omega)⟩
theorem aF.unG:aF l low (a6C kw andP rdP l ex) (b5k kw andP rdP l ex'):=⟨λi ln h1 h2=>by
 unfold a6C b5k;rw[pU H i (t:=[45]) (by decide)];cases hs:aL l i [45]with
 |true=>exact(aF.b0 (hex 7) λe=>aF.bP _).yS (i+1) ln (by omega) (aV H.fin h2 hs)
 |false=>exact(aF.b7z H hex kE).yS i ln h1 h2,λs hs=>by
 unfold b5k;rw[tJ hs,if_neg (by decide)];exact(aF.b7z H hex kE).qY s hs,(aB.unG H.fin kE H.mZ.pred).le (by omega)⟩
end
def e4e(ops:List (Nm×Int))(ops':List (Nm×Bool×Int)):Bool:=decide (ops=ops'.map λp=>(p.1,p.2.2))&&ops'.all λp=>(if p.2.1 then smU (p.1.headD 0)&& !caU (p.1.headD 0) else sgN p.1)&& !decide (p.2.2=0)
variable{ops:List (Nm×Int)}
theorem d8q:∀{ops':List (Nm×Bool×Int)},e4e ops ops'=true->∀{i:Nat},i<l.length->xG l ops' ⟨i,0,ln⟩=(match ops.find? λp=>aL l i p.1 with
  |none=>0
  |some p=>p.2)/\∀p,(ops.find? λp=>aL l i p.1)=some p->p.2≠0:=λ{ops'} h {i} hi=>by
 simp only[e4e,g3q,g4e]at h;obtain⟨rfl,h⟩:=h;have hp:∀p∈ops',(if p.2.1 then eY l p.1 ⟨i,0,ln⟩ else bZ l 0 p.1 ⟨i,0,ln⟩)=aL l i p.1:=λp hp=>by
  have h:=g3t.1 h p hp;simp only[g3q]at h;cases hb:p.2.1 with
  |true=>have h:=h.1;rw[hb,if_pos rfl]at h;simp only[g3q,g3M]at h;rw[if_pos rfl];exact kX H hi h.1 h.2
  |false=>have h:=h.1;rw[hb,if_neg (by decide)]at h;rw[if_neg (by decide)];exact pU H i h
 unfold xG;rw[find_congr hp,List.find?_map]
 show(match ops'.find? (λp=>aL l i p.1)with|none=>0|some p=>p.2.2)=(match (ops'.find? (λp=>aL l i p.1)).map (λp=>(p.1,p.2.2))with|none=>0|some p=>p.2)/\∀p,(ops'.find? (λp=>aL l i p.1)).map (λp=>(p.1,p.2.2))=some p->p.2≠0
 cases hf:ops'.find? (λp=>aL l i p.1)with
 |none=>exact⟨rfl,λp h=>by cases h⟩
 |some q=>refine⟨rfl,λp hp=>?_⟩;cases hp;have h:=g3t.1 h q (List.mem_of_find?_eq_some hf);simp only[g3q,g3M,decide_eq_false_iff_not]at h;exact h.2
theorem tZ.chain{ops:List (Nm×Int)}{ops':List (Nm×Bool×Int)}(ho:e4e ops ops'=true){one:bF cP}{one':RM cP}(h0:aF l low one one'):∀(g:Nat)(e:cP)(i:Nat),low<=i->i<l.length->l.length<g+i->tZ ln (jE l ops one g e i) (zT l ops' one' g e ⟨i,0,ln⟩)
 |0,e,i,h1,h2,h3=>absurd h3 (by omega)
 |g+1,e,i,h1,h2,h3=>by
  unfold jE zT;have hq:=d8q H (ln:=ln) ho h2;rw[hq.1];cases hf:ops.find? λp=>aL l i p.1 with
  |none=>
   rw[if_neg (λh=>h.2 rfl)]
   rfl
  |some p=>
   have hp:=hq.2 p hf;have hn:=aV H.fin h2 (show aL l i p.1=true from List.find?_some (p:=λq:Nm×Int=>aL l i q.1) hf);rw[if_pos ⟨rfl,hp⟩];have h:=h0.yS (i+1) ln (by omega) hn;simp only;cases hx:one (i+1)with
   |bad n x=>
    rw[hx]at h;obtain⟨k1,k2,k3⟩:x≠0/\_:=h;have k4:(one' ⟨i+1,0,ln⟩).2.er≠0:=by rw[k2];exact k1
    have hk:∀(g:Nat)(e:cP),(zT l ops' one' g e (one' ⟨i+1,0,ln⟩).2).2=(one' ⟨i+1,0,ln⟩).2:=λg e=>by
     cases g with
     |zero=>rfl
     |succ g=>unfold zT;rw[if_neg (λh=>k4 h.1)]
    exact⟨k1,by rw[hk];exact k2,by rw[hk];exact k3⟩
   |ok x j=>rw[hx]at h;have h:one' ⟨i+1,0,ln⟩=(x,⟨j,0,ln⟩):=h;have ha:=h0.av (i+1) x j hn hx;rw[h];exact tZ.chain ho h0 g _ j (by omega) ha.2 (by omega)
omit H in
theorem aF.lvl{ops':List (Nm×Bool×Int)}{one:bF cP}{one':RM cP}(h0:aF l low one one')(ho:e4e ops ops'=true:=by decide)(H:RfH rdP l:=by assumption):aF l low (a1N l ops one) (b5l l ops' one'):=by unfold a1N b5l;refine aF.b0 h0 λe=>⟨λi ln h1 h2=>tZ.chain H ho h0 _ _ _ h1 h2 (by omega),λs hs=>?_,aB.chain H.fin h0.av _ _⟩;unfold zT;rw[if_neg (λh=>hs h.1)]
section
variable {ex:Nat->bF cP} {ex':Nat->RM cP} (hex:∀k,aF l (low+1) (ex k) (ex' k)) (kE:∀k,aB l 1 (ex k))
include hex kE
theorem aF.b0J:aF l low (qT kw andP rdP l ex) (a1D kw andP rdP l ex'):=aF.lvl (aF.lvl (aF.unG H hex kE))
theorem aF.a9w:aF l low (a4v kw andP rdP l ex) (b7O kw andP rdP l ex'):=by
 unfold a4v b7O;have hs:=aF.b0J (kw:=kw) (andP:=andP) H hex kE;refine aF.b0 hs λe=>⟨λi ln h1 h2=>?_,λs h=>by rw[if_neg (by rw[b2v h];decide)],λi a j hi h=>?_⟩;rotate_left
 .repeat' split at h
  all_goals first
   |(cases h;omega)
   |(rename_i k;have:=(hs.av.bl λ_=>aB.bP _).nxt (aV H.fin hi k) h;omega)
 rw[a0D h2];have go:∀(s:Nm)(F:cP->cP),aL l i s=true->tZ ln ((qT kw andP rdP l ex >>=λx=>pure (F x)) (i+1)) ((a1D kw andP rdP l ex' >>=λx=>pure (F x)) ⟨i+1,0,ln⟩):=λs F h=>(aF.b0 hs λx=>aF.bP _).yS (i+1) ln (by omega) (aV H.fin h2 h);have ee:∀s,sgN s=true->aL l i s=(decide ((aJ l i).kind=4)&&decide ((aJ l i).text=s)):=λs h=>(H.tkw i).sg h;have e1:=ee [61,61] (by decide);have e2:=ee [33,61] (by decide);have e3:=ee [60] (by decide);have e4:=ee [60,61] (by decide);have e5:=ee [62] (by decide);have e6:=ee [62,61] (by decide);by_cases k4:(aJ l i).kind=4
 .rw[if_pos k4];simp only[k4,decide_true,Bool.true_and]at e1 e2 e3 e4 e5 e6;by_cases x1:(aJ l i).text=[61,61]
  .rw[if_pos x1,if_pos (by rw[e1];simpa using x1)];exact go [61,61] (λx=>eD 16 [e,x]) (by rw[e1];simpa using x1)
  rw[if_neg x1,if_neg (by rw[e1];simpa using x1)];by_cases x2:(aJ l i).text=[33,61]
  .rw[if_pos x2,if_pos (by rw[e2];simpa using x2)];exact go [33,61] _ (by rw[e2];simpa using x2)
  rw[if_neg x2,if_neg (by rw[e2];simpa using x2)];by_cases x3:(aJ l i).text=[60]
  .rw[if_pos x3,if_pos (by rw[e3];simpa using x3)];exact go [60] _ (by rw[e3];simpa using x3)
  rw[if_neg x3,if_neg (by rw[e3];simpa using x3)];by_cases x4:(aJ l i).text=[60,61]
  .rw[if_pos x4,if_pos (by rw[e4];simpa using x4)];exact go [60,61] _ (by rw[e4];simpa using x4)
  rw[if_neg x4,if_neg (by rw[e4];simpa using x4)];by_cases x5:(aJ l i).text=[62]
  .rw[if_pos x5,if_pos (by rw[e5];simpa using x5)];exact go [62] _ (by rw[e5];simpa using x5)
  rw[if_neg x5,if_neg (by rw[e5];simpa using x5)];by_cases x6:(aJ l i).text=[62,61]
  .rw[if_pos x6,if_pos (by rw[e6];simpa using x6)];exact go [62,61] _ (by rw[e6];simpa using x6)
  rw[if_neg x6,if_neg (by rw[e6];simpa using x6)]
  rfl
 .rw[if_neg k4];simp only[k4,decide_false,Bool.false_and]at e1 e2 e3 e4 e5 e6;rw[e1,e2,e3,e4,e5,e6]
  rfl
theorem aF.b3M:aF l low (a1z kw andP rdP l ex) (b0P kw andP rdP l ex'):=⟨λi ln h1 h2=>by
 unfold a1z b0P;rw[pU H i (t:=[33]) (by decide)];cases hs:aL l i [33]with
 |true=>exact(aF.b0 (hex 3) λe=>aF.bP _).yS (i+1) ln (by omega) (aV H.fin h2 hs)
 |false=>exact(aF.a9w H hex kE).yS i ln h1 h2,λs hs=>by
 unfold b0P;rw[tJ hs,if_neg (by decide)];exact(aF.a9w H hex kE).qY s hs,(aB.b3M H.fin kE H.mZ.pred).le (by omega)⟩
theorem aF.orG:aF l low (c1L kw andP rdP l ex) (d7Z kw andP rdP l ex'):=aF.lvl (aF.lvl (aF.b3M H hex kE))
omit hex kE in
theorem aB.e4f:aB l 0 (λi=>if aL l i [40] then jD kw l i else .ok [] i:bF (List Nm)):=λi b j hi h=>by
 have h:(if aL l i [40]=true then jD kw l i else .ok [] i)=.ok b j:=h;split at h
 .exact((aB.words H.fin).le (by omega)) _ _ _ hi h
 .cases h;omega
omit hex kE in
theorem aF.e4f:aF l low (λi=>if aL l i [40] then jD kw l i else .ok [] i:bF (List Nm)) (uH (bZ l 0 [40]) >>=λb=>if b then jM kw l else pure []):=by
 refine aF.test (λb=>?_) (aB.e4f H) λi ln h1 h2=>?_
 .cases b
  .exact rZ.bP _
  .exact(aF.words (low:=0) H).qY
 .rw[pU H i (t:=[40]) (by decide)];cases aL l i [40]with
  |true=>exact(aF.words (low:=low) H).yS i ln h1 h2
  |false=>rfl
theorem aF.d0m:aF l (low+1) (xC kw l ex) (ex' 0 >>=λa=>wP l [111,102] >>=λ_=>b2r kw l ex' >>=λalts=>pure {eD 9 [a]with alts:=alts}):=by unfold xC b2r;refine aF.b0 (hex 0) λe=>aF.key λ_=>aF.a2f (aF.mus (aF.a2f (aF.b0 (aF.list (λout=>?_) _) λalts=>aF.a2f (aF.mus (aF.bP _)))));exact aF.b0 aF.title λc=>aF.d0y (aF.b0 (aF.e4f H) λns=>aF.mus (aF.b0 ((hex 0).up (by omega)) λb=>aF.bP _))
theorem aF.e9p:aF l (low+1) (a4u kw andP rdP l ex) (a3b kw andP rdP l >>=λps=>aK l [45,62] >>=λ_=>ex' 0 >>=λe=>pure {eD 6 [e]with params:=ps}):=by unfold a4u a3b;have aT:=aB.typ (kw:=kw) (andP:=andP) H.fin H.mZ.pred;refine aF.a2f (aF.mus (aF.a2f (aF.b0 (aF.list (λout=>?_) _) λps=>aF.a2f (aF.b7Z (aF.f3z (aF.mus (aF.b0 ((hex 0).up (by omega)) λe=>aF.bP _)))))));exact aF.b0 aF.word λw=>aF.b0 aF.a9X λb=>aF.b0 (aF.ite (aF.typ H) (aF.bP _)) λt=>aF.bP _
theorem aF.e9o:aF l (low+1) (a4t kw andP rdP l ex) (b7P kw andP rdP l ex'):=by unfold a4t b7P;have aT:=aB.typ (kw:=kw) (andP:=andP) H.fin H.mZ.pred;exact aF.b0 aF.word λw=>aF.b0 aF.a9X λb=>aF.b0 (aF.ite (aF.b0 (aF.typ H) λt=>aF.bP _) (aF.bP _)) λts=>aF.mus (aF.b0 ((hex 0).up (by omega)) λa=>aF.key λ_=>aF.nil (aF.b0 ((hex 0).up (by omega)) λc=>aF.bP _))
theorem aF.exG:aF l low (a7J kw andP rdP l ex) (b7Q kw andP rdP l ex'):=⟨λi ln h1 h2=>by
 unfold a7J b7Q;rw[if_pos rfl,kX H h2 (t:=[108,101,116]) (by decide) (by decide),kX H h2 (t:=[105,102]) (by decide) (by decide),kX H h2 (t:=[99,97,115,101]) (by decide) (by decide),kX H h2 (t:=[102,117,110]) (by decide) (by decide),kX H h2 (t:=[117,115,101]) (by decide) (by decide)];by_cases b1:aL l i [108,101,116]=true
 .rw[if_pos b1,if_pos b1];exact(aF.e9o H hex kE).yS (i+1) ln (by omega) (aV H.fin h2 b1)
 rw[if_neg b1,if_neg b1];by_cases b2:aL l i [105,102]=true
 .rw[if_pos b2,if_pos b2];have h:aF l (low+1) (ex 0 >>=λa=>aR l [[116,104,101,110]] >>=λ_=>ex 0 >>=λb=>aR l [[101,108,115,101]] >>=λ_=>ex 0 >>=λc=>pure (eD 8 [a,b,c])) (ex' 0 >>=λa=>wP l [116,104,101,110] >>=λ_=>ex' 0 >>=λb=>wP l [101,108,115,101] >>=λ_=>ex' 0 >>=λc=>pure (eD 8 [a,b,c])):=aF.b0 (hex 0) λa=>aF.key λ_=>aF.nil (aF.b0 ((hex 0).up (by omega)) λb=>aF.key λ_=>aF.nil (aF.b0 ((hex 0).up (by omega)) λc=>aF.bP _));exact h.yS (i+1) ln (by omega) (aV H.fin h2 b2)
 rw[if_neg b2,if_neg b2];by_cases b3:aL l i [99,97,115,101]=true
 .rw[if_pos b3,if_pos b3];exact(aF.d0m (kw:=kw) H hex kE).yS (i+1) ln (by omega) (aV H.fin h2 b3)
 rw[if_neg b3,if_neg b3];by_cases b4:aL l i [102,117,110]=true
 .rw[if_pos b4,if_pos b4];exact(aF.e9p H hex kE).yS (i+1) ln (by omega) (aV H.fin h2 b4)
 rw[if_neg b4,if_neg b4];by_cases b5:aL l i [117,115,101]=true
 .rw[if_pos b5,if_pos b5];have h:aF l (low+1) (bV kw l >>=λname=>kW l ex >>=λks=>aR l [[105,110]] >>=λ_=>ex 0 >>=λb=>pure {eD 25 (ks++[b])with name:=name}) (dY kw l >>=λname=>tH l ex' >>=λks=>wP l [105,110] >>=λ_=>ex' 0 >>=λb=>pure {eD 25 (ks++[b])with name:=name}):=aF.b0 aF.word λname=>aF.b0 ((aF.qG H hex kE).up (by omega)) λks=>aF.key λ_=>aF.nil (aF.b0 ((hex 0).up (by omega)) λc=>aF.bP _);exact h.yS (i+1) ln (by omega) (aV H.fin h2 b5)
 rw[if_neg b5,if_neg b5];exact(aF.orG H hex kE).yS i ln h1 h2,λs hs=>by
 unfold b7Q;rw[if_neg hs],(aB.exG H.fin kE H.mZ.pred).le (by omega)⟩
end
theorem aF.exF:∀(n low:Nat),l.length<n+low->∀k,aF l low (yM kw andP rdP l n k) (b2s kw andP rdP l n k)
 |0,low,h,k=>⟨λi ln h1 h2=>absurd h (by omega),λs _=>rfl,(aB.exF H.fin H.mZ.pred 0 k).le (by omega)⟩
 |n+1,low,h,k=>by
  have ih:=aF.exF n (low+1) (by omega);have ax:=λk=>aB.exF (kw:=kw) (andP:=andP) H.fin H.mZ.pred n k;unfold yM b2s;by_cases k7:k=7
  .rw[if_pos k7,if_pos k7];exact aF.unG H ih ax
  rw[if_neg k7,if_neg k7];by_cases k3:k=3
  .rw[if_pos k3,if_pos k3];exact aF.b3M H ih ax
  rw[if_neg k3,if_neg k3];exact aF.exG H ih ax
theorem aF.expr:aF l low (sG kw andP rdP l) (a4C kw andP rdP l):=aF.exF H _ _ (by omega) 0
end
end
section
open Go Go.VM
variable {G:GT}
section
variable {rdP:List Tok->Nat->Nat->gO Pr} {l:List Tok} (hV:rQ G rdP l)
include hV
section
variable {ty:bF Ty} {low:Nat} (pO:∀i,low<=i->i<l.length->tR G 43 [] l i (ty i) a2j) (yZ:aB l 1 ty) (ity:∀i t j,i<l.length->ty i=.ok t j->TyI t i j)
include pO yZ ity
theorem d4D(j0:Nat)(cM:low<=j0+1)(hi:j0<l.length):tR G 43 [] l j0 (a0w aH aZ rdP l ty j0) a2j:=by
 have hl:=hV.len;have p0:=gT hi;have ht:=dM (G:=G) l j0 j0 0;refine qA.bO func43 rfl ntmps43 rfl (by simp) ?_;intro Q Q0;unfold a0w at Q0;simp;refine uG Q0 p0 (.mk func84 rfl) (b8p hV j0 hi) (aB.base hV.fin) λo j1 x1 Q1 p1=>?_;cases o with
 |some t=>obtain⟨op,nm,args,ns,p,ps⟩:=t;simp;exact Q1.ok _ j1 _ _ rfl (.inr rfl) (by simp)
 |none=>
 have hj:=yN x1;subst hj;simp only at Q1;simp[jZ,eE];refine qB (ds:=[.int .i64 0]) cJ ht ?_;cases hti:rW (aJ l j1)with
 |true=>
  rw[hti,if_pos rfl]at Q1;have hk:(aJ l j1).kind=2:=by simpa[rW]using hti
  generalize aJ l j1=T at hk|-;obtain⟨k,x,n,ln⟩:=T;simp only at hk;subst hk;simp[bL];refine rdX (ds:=[]) (.mk func85 rfl) (d0E hV pO (yZ.le (by omega)) ity j1 cM p1.2) (λt j h=>?_) (λn e h=>Q1.bad n e _ h);simp;exact Q1.ok t j _ _ h (.inr rfl) (by simp)
 |false=>
  rw[hti,if_neg (by decide)]at Q1;have hk:¬(aJ l j1).kind=2:=by simpa[rW]using hti
  generalize aJ l j1=T at hk|-;obtain⟨k,x,n,ln⟩:=T;simp only at hk;simp[bL,hk];have hb:=mY (G:=G) l j1 [123] p1.2;refine qB (ds:=[.str [123]]) jR hb ?_;cases hs:aL l j1 [123]with
  |true=>rw[hs,if_pos rfl]at Q1;simp;refine rdX (ds:=[]) (.mk func86 rfl) (a9Z hV pO (yZ.le (by omega)) ity j1 cM p1.2) (λt j h=>?_) (λn e h=>Q1.bad n e _ h);simp;exact Q1.ok t j _ _ h (.inr rfl) (by simp)
  |false=>rw[hs,if_neg (by decide)]at Q1;simp;refine rdX (ds:=[]) (.mk func87 rfl) (d4B hV pO yZ j1 cM p1.2) (λt j h=>?_) (λn e h=>Q1.bad n e _ h);simp;exact Q1.ok t j _ _ h (.inr rfl) (by simp)
end
variable{i j:Nat}
theorem b8y(op:Int)(nm:Nm)(args:List Ty)(ns:List Nm)(ps:List Pr)(h:i<=j):TyI ⟨op,nm,args,ns,eE,ps⟩ i j:=by refine⟨λ_=>rfl,?_⟩;simp[eE,bN,eJ];omega
theorem d2C{p q:Pr}{s r:Pr×Bool}(hp:p.op≠0)(hs:s.1.op≠0)(h:b8m p s=some r):r.1.op≠0:=by
 unfold b8m at h;split at h
 .cases h;exact hs
 split at h
 .cases h
 split at h
 .cases h;simp
 .cases h;exact hp
theorem c4d(b:Bool):(a6b b).op≠0:=by cases b<;>simp[a6b,a2h,a6a]
variable{a b:Pr}
theorem e4g(ha:a.op≠0)(hb:b.op≠0):(aZ a b).op≠0:=by
 unfold aZ b5Z;cases h1:b8m a (a6b true,false)with
 |none=>exact c4d hV false
 |some s=>
  have k1:=d2C hV (q:=a) ha (c4d hV true) h1;simp only[b5Z];cases h2:b8m b s with
  |none=>exact c4d hV false
  |some r=>exact d2C hV (q:=b) hb k1 h2
theorem d8r:bN (aZ a b)<=bN a+bN b+1:=by
 have pos:∀p:Pr,1<=bN p:=λp=>by cases p;simp[bN]
 have ha:=pos a;have hb:=pos b;unfold aZ b5Z;cases h1:b8m a (a6b true,false)with
 |none=>simp only[b8n];omega
 |some s=>
  have k1:bN s.1<=bN a/\(s.2=false->bN s.1=1):=by
   unfold b8m at h1;split at h1
   .cases h1;simp only[b8n];exact⟨ha,λ_=>trivial⟩
   split at h1
   .cases h1
   simp only[g3K,if_false,g3w]at h1;subst h1;exact⟨g3G _,λh=>by cases h⟩
  simp only[b5Z];cases h2:b8m b s with
  |none=>simp only[b8n];omega
  |some r=>
   simp only;unfold b8m at h2;split at h2
   .cases h2;omega
   split at h2
   .cases h2
   split at h2
   .cases h2;simp only[b8o];omega
   .cases h2;simp only;omega
omit hV in
theorem dF{α β:Type}{x:bF α}{f:α->bF β}{b:β}(h:(x >>=f) i=.ok b j):∃a k,x i=.ok a k/\f a k=.ok b j:=by
 rw[cR]at h;cases hx:x i with
 |bad n e=>rw[hx]at h;cases h
 |ok a k=>rw[hx]at h;exact⟨a,k,rfl,h⟩
variable{ty:bF Ty}
theorem d4E(i:Nat)(t:Ty)(j:Nat)(h:xL aH aZ rdP l ty i=.ok t j):t.pred=eE:=by
 unfold xL at h;obtain⟨nm,k1,_,h⟩:=dF h;obtain⟨args,k2,_,h⟩:=dF h;obtain⟨b,k3,_,h⟩:=dF h;cases b with
 |true=>rw[if_pos rfl]at h;obtain⟨ps,k4,_,h⟩:=dF h;obtain⟨_,k5,_,h⟩:=dF h;cases h;rfl
 |false=>rw[if_neg (by decide)]at h;cases h;rfl
theorem d8s(yZ:aB l 1 ty)(ity:∀i t j,i<l.length->ty i=.ok t j->TyI t i j)(i:Nat)(t:Ty)(j:Nat)(hi:i<l.length)(h:zN aZ rdP l ty i=.ok t j):TyI t i j:=by
 unfold zN at h;obtain⟨_,k1,h1,h⟩:=dF h;obtain⟨t1,k2,h2,h⟩:=dF h;have a1:=aB.exp hV.fin _ _ i _ k1 hi h1;have a2:=yZ k1 t1 k2 a1.2 h2;have i2:=ity k1 t1 k2 a1.2 h2;split at h
 .unfold eV at h;cases h
 obtain⟨_,k3,h3,h⟩:=dF h;obtain⟨p,k4,h4,h⟩:=dF h;obtain⟨_,k5,h5,h⟩:=dF h;have a3:=aB.exp hV.fin _ _ k2 _ k3 a2.2 h3;have a4:=hV.mZ.pred k3 p k4 a3.2 h4;have a5:=aB.exp hV.fin _ _ k4 _ k5 a4.2 h5;have hp:=hV.nod k3 _ p k4 a3.2 h4;cases h;unfold TyI at i2|-;simp only;by_cases hz:t1.pred.op=0
 .rw[if_pos hz];exact⟨λh=>(hp.2 h).elim,by omega⟩
 .rw[if_neg hz];have hn:=d8r hV (a:=t1.pred) (b:=p);exact⟨λh=>(e4g hV hz hp.2 h).elim,by omega⟩
theorem d8t(yZ:aB l 1 ty)(ity:∀i t j,i<l.length->ty i=.ok t j->TyI t i j)(i:Nat)(t:Ty)(j:Nat)(hi:i<l.length)(h:zO aH l ty i=.ok t j):TyI t i j:=by
 have wF:=aB.d3Z (kw:=aH) hV.fin (yZ.le (by omega)) hV.mZ.pred i t j hi h;unfold zO at h;obtain⟨_,k1,h1,h⟩:=dF h;obtain⟨⟨ns,ts⟩,k2,h2,h⟩:=dF h;obtain⟨_,k3,h3,h⟩:=dF h;have a1:=aB.exp hV.fin _ _ i _ k1 hi h1;simp only at h2 h3 h;have hI:∀(x:bF (List Nm×List Ty)),(∀(I:List Nm×List Ty->Nat->Prop),I ([],[]) k1->(∀a p b q,p<l.length->k1<=p->I a p->(a8h l ty a p=.ok b q\/a6H ty a p=.ok b q)->I b q/\q<l.length/\k1<=q)->(∀a p,I a p->I a (p+1))->x k1=.ok (ns,ts) k2->I (ns,ts) k2/\k2<l.length)->x k1=.ok (ns,ts) k2->(∀t∈ts,(t.pred.op=0->t.pred=b0U)/\bN t.pred+k1<=k2+1)/\k2<l.length:=λx hx hx2=>by
  refine hx (λa p=>∀t∈a.2,(t.pred.op=0->t.pred=b0U)/\bN t.pred+k1<=p+1) (by simp) (λa p b q hp hk ha hab=>?_) (λa p ha t ht=>by have:=ha t ht;exact⟨this.1,by omega⟩) hx2;have key:∀t q',∀p',p<=p'->p'<l.length->ty p'=.ok t q'->(t.pred.op=0->t.pred=b0U)/\bN t.pred+k1<=q'+1/\q'<l.length/\p<=q':=λt q' p' h1 h2 h3=>by have b1:=ity p' t q' h2 h3;have b2:=yZ p' t q' h2 h3;exact⟨b1.1,by have:=b1.2;omega,b2.2,by omega⟩
  rcases hab with hab|hab
  .obtain⟨w,m1,e1,hab⟩:=dF hab;obtain⟨_,m2,e2,hab⟩:=dF hab;obtain⟨t',m3,e3,hab⟩:=dF hab;have c1:=aB.word (kw:=aH) hV.fin p w m1 hp e1;have c2:=aB.exp hV.fin _ _ m1 _ m2 c1.2 e2;have c3:=key t' m3 m2 (by omega) c2.2 e3;cases hab;refine⟨λt ht=>?_,c3.2.2.1,by omega⟩;simp only[g3Q,g3x]at ht;rcases ht with ht|rfl
   .have:=ha t ht;exact⟨this.1,by omega⟩
   .exact⟨c3.1,c3.2.1⟩
  .obtain⟨t',m3,e3,hab⟩:=dF hab;have c3:=key t' m3 p (g3G _) hp e3;cases hab;refine⟨λt ht=>?_,c3.2.2.1,by omega⟩;simp only[g3Q,g3x]at ht;rcases ht with ht|rfl
   .have:=ha t ht;exact⟨this.1,by omega⟩
   .exact⟨c3.1,c3.2.1⟩
 have hA:(∀t∈ts,(t.pred.op=0->t.pred=b0U)/\bN t.pred+k1<=k2+1)/\k2<l.length:=by
  split at h2
  .refine hI _ (λI h0 hs hm hx=>?_) h2;have:=vM hV (one:=a8h l ty) (λa p=>k1<=p/\I a p) (λa p b q hp ha hab=>by have:=hs a p b q hp ha.1 ha.2 (.inl hab);exact⟨⟨this.2.2,this.1⟩,this.2.1⟩) (λa p h=>⟨by omega,hm a p h.2⟩) _ _ _ _ _ a1.2 ⟨g3G _,h0⟩ hx
   exact⟨this.1.2,this.2⟩
  .refine hI _ (λI h0 hs hm hx=>?_) h2;have:=vM hV (one:=a6H ty) (λa p=>k1<=p/\I a p) (λa p b q hp ha hab=>by have:=hs a p b q hp ha.1 ha.2 (.inr hab);exact⟨⟨this.2.2,this.1⟩,this.2.1⟩) (λa p h=>⟨by omega,hm a p h.2⟩) _ _ _ _ _ a1.2 ⟨g3G _,h0⟩ hx
   exact⟨this.1.2,this.2⟩
 have a3:=aB.exp hV.fin _ _ k2 _ k3 hA.2 h3;split at h
 .rename_i hc;simp only[g3q,g4e]at hc;obtain⟨t',rfl⟩:=List.length_eq_one_iff.1 hc.1.2;cases h;have:=hA.1 t' (by simp);simp only[List.headD_cons];exact⟨this.1,by omega⟩
 .obtain⟨_,k4,h4,h⟩:=dF h;obtain⟨t',k5,h5,h⟩:=dF h;cases h;exact b8y hV _ _ _ _ _ (by omega)
theorem d8u(yZ:aB l 1 ty)(ity:∀i t j,i<l.length->ty i=.ok t j->TyI t i j)(i:Nat)(t:Ty)(j:Nat)(hi:i<l.length)(h:a0w aH aZ rdP l ty i=.ok t j):TyI t i j:=by
 have wF:=aB.d0l (kw:=aH) (andP:=aZ) hV.fin (yZ.le (by omega)) hV.mZ.pred i t j hi h;unfold a0w at h;rw[cR]at h;cases hb:jI aH l i with
 |bad n e=>rw[hb]at h;cases h
 |ok o k=>
  rw[hb]at h;cases o with
  |some t'=>
   simp only[kB]at h;cases h;unfold jI at hb
   repeat' split at hb
   all_goals first|(cases hb;exact b8y hV _ _ _ _ _ (by omega))|cases hb
  |none=>
   have:=yN hb;subst this;simp only at h;split at h
   .have hp:=d4E hV _ t j h;obtain⟨op,nm,args,ns,p,ps⟩:=t;simp only at hp;subst hp;exact b8y hV _ _ _ _ _ (by omega)
   .split at h
    .exact d8s hV yZ ity _ t j hi h
    .exact d8t hV yZ ity _ t j hi h
theorem b8z:∀n i t j,i<l.length->a1y aH aZ rdP l n i=.ok t j->TyI t i j
 |0,i,t,j,_,h=>by unfold a1y at h;cases h
 |n+1,i,t,j,hi,h=>d8u hV (aB.b1Y hV.fin hV.mZ.pred n) (b8z n) i t j hi h
theorem b8A:∀n i,i<l.length->l.length<n+i->tR G 43 [] l i (a1y aH aZ rdP l n i) a2j
 |0,i,hi,h=>by omega
 |n+1,i,hi,h=>d4D hV (ty:=a1y aH aZ rdP l n) (low:=i+1) (λi' h1 h2=>b8A n i' h2 (by omega)) (aB.b1Y hV.fin hV.mZ.pred n) (b8z hV n) i (g3G _) hi
theorem qM(i:Nat)(hi:i<l.length):tR G 43 [] l i (mD aH aZ rdP l i) a2j:=b8A hV _ i hi (by omega)
theorem mK:aB l 1 (mD aH aZ rdP l):=aB.typ hV.fin hV.mZ.pred
theorem d4F(i:Nat)(t:Ty)(j:Nat)(hi:i<l.length)(h:mD aH aZ rdP l i=.ok t j):TyI t i j:=b8z hV _ i t j hi h
theorem c4e(i:Nat)(hi:i<l.length):tR G 97 [] l i (oP aH aZ rdP l (mD aH aZ rdP l) i) a2j:=b5r hV (low:=0) (λi _ h=>qM hV i h) ((mK hV).le (by omega)) (d4F hV) i (by omega) hi
def a4E(out:List Ty):List (Nat×bG):=[(100001,.cells [.d (.sl (out.map tyC))]),(100002,.cells [.ptr 100000 0])]
abbrev d8v:List (TypeId×List VM.Loc):=[(54,[.c 100001 0])]
abbrev c4f(rdP:List Tok->Nat->Nat->gO Pr)(l:List Tok)(out:List Ty):bF (List Ty):=do let t <- mD aH aZ rdP l;pure (out++[t])
theorem d0N:a3e l K3 [.ptr 100001 0,.ptr 100002 0] a4E d8v:=by
 constructor
 all_goals intros
 all_goals first
  |rfl
  |simp[a4E,aW,bB,bD,bC,bK,getKey,bA,bI,dC,rk,dL,bX, *]
theorem b8B(out:List Ty):aB l 1 (c4f rdP l out):=(mK hV).bl λ_=>aB.bP _
theorem c7H(a:List Ty)(i:Nat)(b:List Ty)(j:Nat)(hi:i<l.length)(h:a.length<=i)(hx:c4f rdP l a i=.ok b j):b.length<=j:=by obtain⟨t,k,h1,h2⟩:=dF hx;have:=mK hV i t k hi h1;cases h2;simp;omega
theorem b6b(out:List Ty)(j0:Nat)(hi:j0<l.length)(vT:out.length<=j0):qA G 273 [.ptr 100001 0,.ptr 100002 0] (a4E out) d8v l j0 (c4f rdP l out j0) (λ_=>.cX []) a4E:=by
 have hl:=hV.len;have p0:=gT hi;refine qA.bO func273 rfl ntmps273 rfl (by simp) ?_;intro Q Q0;simp[a4E];refine b2n 5 (t:=41) (e:=54) (s:=2) (z:=6) (r:=7) (p:=8) (q:=5) (x:=4) (b:=0) [] 2 [1] (a6V 0 3 4) (kZ (mD aH aZ rdP l j0)) rfl rfl rfl rfl (by kernel_rfl) (by kernel_rfl) rfl ?_;simp
 repeat' apply And.intro
 all_goals
  refine rX Q0 p0 dO ((qM hV j0 p0.2)) (mK hV) λt j1 x1 Q1 p1=>cG.mk ?_;simp;refine⟨_,_,_,_,_,by simp,rfl,rfl,?_,rfl,rfl,?_,by simp,rfl,rfl,rfl,?_⟩
  .intro c hc
   first
    |(obtain⟨y,_,rfl⟩:=g3L.1 hc
      rw[bW]
      rfl)
    |(simp only[g3x]at hc
      subst hc
      rfl)
  .simp<;>omega
  exact Q1.ok _ j1 .normal _ rfl (.inl rfl) (by simp[a4E,bW])
theorem a3f(j0:Nat)(hi:j0<l.length):tR G 265 [] l j0 (uM aH aZ rdP l j0) (λts=>.d (.sl (ts.map tyC))):=by
 have hl:=hV.len;have p0:=gT hi;refine qA.bO func265 rfl ntmps265 rfl (by simp) ?_;intro Q Q0;unfold uM at Q0;simp;cases hs:aL l j0 [91]with
 |false=>have Q1:=Q0.step (oB hs);rw[if_neg (by decide)]at Q1;refine rdF hs p0 ?_;simp;exact Q1.ok _ j0 _ _ rfl (.inr rfl) (by simp)
 |true=>
  have Q1:=Q0.step (oA hs);rw[if_pos rfl]at Q1;refine rdT hs p0 hV.fin λp1=>?_;obtain⟨j1,tS⟩:∃j1,j0+1=j1:=⟨_,rfl⟩;rw[tS]at Q1 p1|-;simp;have kR:=jK hV [44] (c4f rdP l) (λout i=>out.length<=i) 0 (.mk func273 rfl) (d0N hV) (λa=>(b8B hV a).le (by omega)) (λa i _ hi h=>b6b hV a i hi h) (c7H hV) (λa i h=>by omega) [] j1 (by omega) p1.2 (by simp);refine dX.mk (a2e eT kR [(100000,100000),(100001,3),(100002,1)] (λa j hx=>?_) ?_ ?_ ?_ rfl rfl (λws j2 x2=>?_) (λn e hx2=>Q1.fail hx2 _))
  .simp[a4E,aW,bB,bD,bC,bK,getKey]
  .simp[a4E,aW,bB,bD,bC,bK,getKey]
  .simp[bA,bI,rk]
  .simp[a4E,bA,bI,rk,dC,dL]
  .have Q2:=Q1.step x2;have p2:=aB.list hV.fin (b8B hV) [] j1 ws j2 p1.2 x2;simp[bJ,a4E,bA,bI,rk,dC,dL,bX,kI,jA,eI];refine eS Q2 p2 hV.fin λu3 j3 x3 Q3 p3=>?_;simp;exact Q3.ok _ j3 _ _ rfl (.inr rfl) (by simp)
end
abbrev a0h(e:cP):List D:=[.int .i64 e.op,.str e.name,.int .i64 e.n,.sl (e.kids.map a2c),.sl (e.params.map a0y),.sl (e.alts.map b1Z),.sl (e.types.map tyC)]
abbrev jP:cP->DV:=λe=>.d (.agg (a0h e))
@[simp] theorem f5E(o:Int)(ks:List cP):(eD o ks).op=o:=rfl
@[simp] theorem f1Q(o:Int)(ks:List cP):(eD o ks).name=[]:=rfl
@[simp] theorem f7L(o:Int)(ks:List cP):(eD o ks).n=0:=rfl
@[simp] theorem f1R(o:Int)(ks:List cP):(eD o ks).kids=ks:=rfl
@[simp] theorem e7c(o:Int)(ks:List cP):(eD o ks).params=[]:=rfl
@[simp] theorem f1S(o:Int)(ks:List cP):(eD o ks).alts=[]:=rfl
@[simp] theorem f0b(o:Int)(ks:List cP):(eD o ks).types=[]:=rfl
theorem cZ:VM.Enters prog 78:=.mk func78 rfl
theorem cW:VM.Enters prog 41:=.mk func41 rfl
theorem zV:VM.Enters prog 245:=.mk func245 rfl
theorem a4d:VM.Enters prog 82:=.mk func82 rfl
theorem a8l(o:Int)(ks:List cP):CS prog G 78 [.int .i64 o,.sl (ks.map a2c)] (.d (.agg (a0h (eD o ks)))) none:=by refine CS.res (r':=.d (.agg [.int .i64 o,.str [],.int .i64 0,.sl (ks.map a2c),.aE,.aE,.aE])) ?_ (by simp);refine CS.aY func78 rfl ntmps78 rfl ?_;simp
theorem d4G(o:Int)(a:cP):CS prog G 78 [.int .i64 o,.sl [a0h a]] (.d (.agg [.int .i64 o,.str [],.int .i64 0,.sl [a2c a],.aE,.aE,.aE])) none:=by rw[cB];refine CS.aY func78 rfl ntmps78 rfl ?_;simp
theorem a9k(o:Int)(a:cP):CS prog G 78 [.int .i64 o,.sl [a0h a]] (.d (.agg (a0h (eD o [a])))) none:=by
 have:=a8l (G:=G) o [a]
 rwa[List.map_cons,List.map_nil,cB]at this
theorem oZ(o:Int)(a b:cP):CS prog G 78 [.int .i64 o,.sl [a0h a,a0h b]] (.d (.agg (a0h (eD o [a,b])))) none:=by
 have:=a8l (G:=G) o [a,b]
 rwa[List.map_cons,List.map_cons,List.map_nil,cB a,cB b]at this
theorem d4H(o:Int)(a b c:cP):CS prog G 78 [.int .i64 o,.sl [a0h a,a0h b,a0h c]] (.d (.agg (a0h (eD o [a,b,c])))) none:=by
 have:=a8l (G:=G) o [a,b,c]
 rwa[List.map_cons,List.map_cons,List.map_cons,List.map_nil,cB a,cB b,cB c]at this
theorem c7I{α β γ:Type}(x:bF α)(f:α->bF β)(g:β->bF γ)(i:Nat):((x >>=f) >>=g) i=(x >>=λa=>f a >>=g) i:=by
 rw[cR,cR,cR];cases x i with
 |ok a j=>simp only[cR]
 |bad n e=>rfl
variable{i:Nat}{l:List Tok}
theorem uP.assoc{α β γ:Type}{Q:Exit->St->Prop}{rs:List ResultVar}{enc:γ->DV}{Y:γ->List (Nat×bG)}{own:List (TypeId×List VM.Loc)}{x:bF α}{f:α->bF β}{g:β->bF γ}(h:uP Q rs l enc Y own (((x >>=f) >>=g) i)):uP Q rs l enc Y own ((x >>=λa=>f a >>=g) i):=by rwa[c7I]at h
variable{f:FuncId}
theorem CH.drop{P:Program}{s0:St}{d:DV}{H1:List (Nat×bG)}{own1:List (TypeId×List VM.Loc)}(h:CH P G f s0 ⟨[d],H1,own1⟩):CH P G f s0 ⟨[d],H1,[]⟩:=λbase R μ args w hr=>(h base R μ args w hr).mono λe w' ⟨v,R',μ',he,jG,hs⟩=>⟨v,R',μ',he,⟨jG.defers,jG.size,jG.tmps,jG.mL,jG.inj,λc hc=>(by cases hc),by obtain⟨vs,tA⟩:=jG.own;obtain⟨vs',hv',_⟩:=a7t jG [] own1 vs ⟨tA.len,tA.one,tA.apart⟩ rfl;exact⟨vs',hv'.len,λi c v hc hv=>⟨(hv'.one i c v hc hv).eU,(hv'.one i c v hc hv).own,(hv'.one i c v hc hv).keys⟩,hv'.apart⟩,jG.wY,jG.sB,jG.base,jG.pass⟩,hs⟩
abbrev RdO(G:GT){α:Type}(f:FuncId)(ds:List D)(l:List Tok)(i:Nat)(e:TypeId)(r:gO α)(enc:α->DV):Prop:=CX prog G f ⟨.ptr 100000 0::ds.map .d,rH l i,[]⟩ (rdE l enc (λ_=>[]) [(e,[.t 0])] r)
theorem RdO.m{α:Type}{ds:List D}{e:TypeId}{r:gO α}{enc:α->DV}(h:RdO G f ds l i e r enc):tR G f ds l i r enc:=by
 cases r with
 |ok a j=>exact CH.drop h
 |bad n x=>exact h
section
variable {β:Type} {Q:Exit->St->Prop} {rs:List ResultVar} {l:List Tok} {i:Nat} {enc:β->DV} {e:TypeId} {r:gO β}
theorem RdO.bO{f:FuncId}{fn:Func}{c:Code}{k:Nat}{ds:List D}(hf:prog.funcs[f]? =some fn)(hb:fn.body=some c)(hn:fn.ntmps=k)(hrs:fn.results.toList=rs)(h:∀Q:Exit->St->Prop,uP Q rs l enc (λ_=>[]) [(e,[.t 0])] r->XK prog G [.code c] .normal ⟨.ptr 100000 0::ds.map .d++List.replicate (k-(.ptr 100000 0::ds.map .d:List DV).length) (.cX []),rH l i,[]⟩ Q):RdO G f ds l i e r enc:=by
 refine CX.b3P hf hb hn hrs rfl λQ h1 h2=>SW.xk (h Q ⟨λa j e s hr he hs=>?_,λn e s hr=>?_⟩)
 .subst hr;exact h1 _ _ _ e s rfl he hs
 .subst hr;exact h2 _ s rfl
end
section
variable {rdP:List Tok->Nat->Nat->gO Pr} {l:List Tok} (hV:rQ G rdP l)
include hV
section
variable {ex:Nat->bF cP} {low:Nat} (hex:∀i,low<=i->i<l.length->tR G 41 [] l i (ex 0 i) jP) (kE:∀k,aB l 1 (ex k))
include hex kE
def b0d(out:List cP):List (Nat×bG):=[(100001,.cells [.d (.sl (out.map a2c))]),(100002,.cells [.ptr 100000 0])]
abbrev e7d:List (TypeId×List VM.Loc):=[(43,[.c 100001 0])]
abbrev c7J(ex:Nat->bF cP)(out:List cP):bF (List cP):=do let e <- ex 0;pure (out++[e])
omit hex kE in
theorem d4I:a3e l K3 [.ptr 100001 0,.ptr 100002 0] b0d e7d:=by
 constructor
 all_goals intros
 all_goals first
  |rfl
  |simp[b0d,aW,bB,bD,bC,bK,getKey,bA,bI,dC,rk,dL,bX, *]
omit hex in
theorem b3Z(out:List cP):aB l 1 (c7J ex out):=(kE 0).bl λ_=>aB.bP _
omit hex in
theorem b8D(a:List cP)(i:Nat)(b:List cP)(j:Nat)(hi:i<l.length)(h:a.length<=i)(hx:c7J ex a i=.ok b j):b.length<=j:=by obtain⟨t,k,h1,h2⟩:=dF hx;have:=kE 0 i t k hi h1;cases h2;simp;omega
theorem c7K(out:List cP)(j0:Nat)(cM:low<=j0)(hi:j0<l.length)(vT:out.length<=j0):qA G 129 [.ptr 100001 0,.ptr 100002 0] (b0d out) e7d l j0 (c7J ex out j0) (λ_=>.cX []) b0d:=by
 have hl:=hV.len;have p0:=gT hi;refine qA.bO func129 rfl ntmps129 rfl (by simp) ?_;intro Q Q0;simp[b0d];refine b2n 5 (t:=38) (e:=43) (s:=2) (z:=6) (r:=7) (p:=8) (q:=5) (x:=4) (b:=0) [] 2 [1] (a6V 0 3 4) (kZ (ex 0 j0)) rfl rfl rfl rfl (by kernel_rfl) (by kernel_rfl) rfl ?_;simp
 repeat' apply And.intro
 all_goals
  refine rX Q0 p0 cW ((hex j0 cM p0.2)) (kE 0) λt j1 x1 Q1 p1=>cG.mk ?_;simp;refine⟨_,_,_,_,_,by simp,rfl,rfl,?_,rfl,rfl,?_,by simp,rfl,rfl,rfl,?_⟩
  .intro c hc
   first
    |(obtain⟨y,_,rfl⟩:=g3L.1 hc
      rw[cB]
      rfl)
    |(simp only[g3x]at hc
      subst hc
      rfl)
  .simp<;>omega
  exact Q1.ok _ j1 .normal _ rfl (.inl rfl) (by simp[b0d,cB])
theorem b8E(j0:Nat)(cM:low<=j0+1)(hi:j0<l.length):RdO G 82 [] l j0 43 (kW l ex j0) (λes=>.d (.sl (es.map a2c))):=by
 have hl:=hV.len;have p0:=gT hi;refine RdO.bO func82 rfl ntmps82 rfl ?_;intro Q Q0;unfold kW at Q0;simp;refine eS Q0 p0 hV.fin λu1 j1 x1 Q1 p1=>?_;simp;have kR:=jK hV [44] (c7J ex) (λout i=>out.length<=i) low (.mk func129 rfl) (d4I hV) (λa=>(b3Z hV kE a).le (by omega)) (λa i qZ hi h=>c7K hV hex kE a i qZ hi h) (b8D hV kE) (λa i h=>by omega) [] j1 (by omega) p1.2 (by simp);refine dX.mk (a2e eT kR [(100000,100000),(100001,3),(100002,1)] (λa j hx=>?_) ?_ ?_ ?_ rfl rfl (λws j2 x2=>?_) (λn e hx2=>Q1.fail hx2 _))
 .simp[b0d,aW,bB,bD,bC,bK,getKey]
 .simp[b0d,aW,bB,bD,bC,bK,getKey]
 .simp[bA,bI,rk]
 .simp[b0d,bA,bI,rk,dC,dL]
 .have Q2:=Q1.step x2;have p2:=aB.list hV.fin (λa=>b3Z hV kE a) [] j1 ws j2 p1.2 x2;simp[bJ,b0d,bA,bI,rk,dC,dL,bX,kI,jA,eI];refine eS Q2 p2 hV.fin λu3 j3 x3 Q3 p3=>?_;simp;exact Q3.ok _ j3 _ _ rfl (.inr rfl) (by simp)
theorem b0X(i:Nat)(cM:low<=i+1)(hi:i<l.length):tR G 82 [] l i (kW l ex i) (λes=>.d (.sl (es.map a2c))):=(b8E hV hex kE i cM hi).m
theorem c2p(op:Int)(j0:Nat)(cM:low<=j0+1)(hi:j0<l.length):tR G 264 [.int .i64 op] l j0 (a2U l ex op j0) jP:=by have hl:=hV.len;have p0:=gT hi;refine qA.bO func264 rfl ntmps264 rfl (by simp) ?_;intro Q Q0;unfold a2U at Q0;simp;refine eS Q0 p0 hV.fin λu1 j1 x1 Q1 p1=>?_;simp;refine uG Q1 p1 cW ((hex j1 (by omega) p1.2)) (kE 0) λe j2 x2 Q2 p2=>?_;simp;refine eS Q2 p2 hV.fin λu3 j3 x3 Q3 p3=>?_;simp;refine jV.mk cZ (a9k op e) ?_;simp;exact Q3.ok _ j3 _ _ rfl (.inr rfl) (by simp)
theorem d4J(j0:Nat)(cM:low<=j0+1)(hi:j0<l.length):tR G 77 [] l j0 (a4t aH aZ rdP l ex j0) jP:=by
 have hl:=hV.len;have p0:=gT hi;refine qA.bO func77 rfl ntmps77 rfl (by simp) ?_;intro Q Q0;unfold a4t at Q0;simp;refine uG Q0 p0 dS (eN hV.kw l j0 p0.2 (by omega)) (aB.word hV.fin) λnm j1 x1 Q1 p1=>?_;simp;cases hs:aL l j1 [58]with
 |false=>
  have Q2:=Q1.step (oB hs);rw[if_neg (by decide)]at Q2;refine rdF hs p1 ?_;simp;have Q1:=Q2.step (kB);refine eS Q1 p1 hV.fin λu4 j4 x4 Q4 p4=>?_;simp;refine uG Q4 p4 cW ((hex j4 (by omega) p4.2)) (kE 0) λx j5 x5 Q5 p5=>?_;simp;refine eS Q5 p5 hV.fin λu6 j6 x6 Q6 p6=>?_;simp;refine dK [1] 2 [] (.op 0 (.call [3,4,5] .none) (.call [0,3,4,5] .none)) (kZ (ex 0 j6)) (by kernel_rfl) (by kernel_rfl) ?_;simp;refine⟨?_,?_⟩
  all_goals
   refine rX Q6 p6 cW ((hex j6 (by omega) p6.2)) (kE 0) λy j7 x7 Q7 p7=>cG.mk ?_;simp;exact Q7.ok _ j7 _ _ rfl (.inr rfl) (by simp[cB,bW])
 |true=>
  have Q2:=Q1.step (oA hs);rw[if_pos rfl]at Q2;refine rdT hs p1 hV.fin λp2=>?_;obtain⟨j2,vH⟩:∃j2,j1+1=j2:=⟨_,rfl⟩;rw[vH]at Q2 p2|-;simp;have Q2:=Q2.assoc;refine uG Q2 p2 dO ((qM hV j2 p2.2)) (mK hV) λt j3 x3 Q3 p3=>?_;simp;have Q3:=Q3.step (kB);refine eS Q3 p3 hV.fin λu4 j4 x4 Q4 p4=>?_;simp;refine uG Q4 p4 cW ((hex j4 (by omega) p4.2)) (kE 0) λx j5 x5 Q5 p5=>?_;simp;refine eS Q5 p5 hV.fin λu6 j6 x6 Q6 p6=>?_;simp;refine dK [1] 2 [] (.op 0 (.call [3,4,5] .none) (.call [0,3,4,5] .none)) (kZ (ex 0 j6)) (by kernel_rfl) (by kernel_rfl) ?_;simp;refine⟨?_,?_⟩
  all_goals
   refine rX Q6 p6 cW ((hex j6 (by omega) p6.2)) (kE 0) λy j7 x7 Q7 p7=>cG.mk ?_;simp;exact Q7.ok _ j7 _ _ rfl (.inr rfl) (by simp[cB,bW])
end
end
theorem a9l(a:Nm×List Nm×cP):b1Z a=[.str a.1,.sl (strs a.2.1),.int .i64 a.2.2.op,.str a.2.2.name,.int .i64 a.2.2.n,.sl (a.2.2.kids.map a2c),.sl (a.2.2.params.map a0y),.sl (a.2.2.alts.map b1Z),.sl (a.2.2.types.map tyC)]:=by rw[b1Z,cB]
theorem zW(p:Nm×Ty):a0y p=.str p.1::tyD p.2:=by rw[a0y,bW]
abbrev b0e:=Nm×List Nm×cP
section
variable {rdP:List Tok->Nat->Nat->gO Pr} {l:List Tok} (hV:rQ G rdP l)
include hV
section
variable {ex:Nat->bF cP} {low:Nat} (hex:∀i,low<=i->i<l.length->tR G 41 [] l i (ex 0 i) jP) (kE:∀k,aB l 1 (ex k))
include hex kE
def a3g(e:cP)(out:List b0e):List (Nat×bG):=[(100001,.cells [.ptr 100000 0]),(100002,.cells [.d (.int .i64 9),.d (.str []),.d (.int .i64 0),.d (.sl [a2c e]),.d (.sl []),.d (.sl (out.map b1Z)),.d (.sl [])])]
abbrev d8w:List (TypeId×List VM.Loc):=[(143,[.c 100002 5])]
abbrev e4h(l:List Tok)(ex:Nat->bF cP)(out:List b0e):bF (List b0e):=do
 let c <- mC l
 let ns <- (λi=>if aL l i [40] then jD aH l i else .ok [] i:bF (List Nm))
 aR l [[45,62]]
 let b <- ex 0
 pure (out++[(c,ns,b)])
omit hex kE in
theorem d0P(e:cP):a3e l K3 [.ptr 100001 0,.ptr 100002 0] (a3g e) d8w:=by
 constructor
 all_goals intros
 all_goals first
  |rfl
  |simp[a3g,aW,bB,bD,bC,bK,getKey,bA,bI,dC,rk,dL,bX, *]
omit hex in
theorem b8G(out:List b0e):aB l 1 (e4h l ex out):=by
 refine(aB.title hV.fin).bl λ_=>aB.bl (λi b j hi h=>?_) λ_=>(aB.exp hV.fin _ _).bz λ_=>(kE 0).bz λ_=>aB.bP _;split at h
 .exact((aB.words hV.fin).le (by omega)) _ _ _ hi h
 .cases h;omega
omit hex in
theorem d4K(a:List b0e)(i:Nat)(b:List b0e)(j:Nat)(hi:i<l.length)(h:a.length<=i)(hx:e4h l ex a i=.ok b j):b.length<=j:=by have h1:=b8G hV kE a i b j hi hx;obtain⟨_,_,_,hx⟩:=dF hx;obtain⟨_,_,_,hx⟩:=dF hx;obtain⟨_,_,_,hx⟩:=dF hx;obtain⟨_,_,_,hx⟩:=dF hx;cases hx;simp;omega
theorem c4h(e:cP)(out:List b0e)(j0:Nat)(cM:low<=j0)(hi:j0<l.length)(vT:out.length<=j0):qA G 126 [.ptr 100001 0,.ptr 100002 0] (a3g e out) d8w l j0 (e4h l ex out j0) (λ_=>.cX []) (a3g e):=by
 have hl:=hV.len;have p0:=gT hi;refine qA.bO func126 rfl ntmps126 rfl (by simp) ?_;intro Q Q0;simp[a3g];refine uG Q0 p0 mE (oS l j0 p0.2) (aB.title hV.fin) λc j1 x1 Q1 p1=>?_;simp;have hb:=mY (G:=G) l j1 [40] p1.2;refine qB (ds:=[.str [40]]) jR hb ?_;cases hs:aL l j1 [40]with
 |false=>
  have Q1:=Q1.step (a:=[]) (j:=j1) (by simp[hs]);simp;refine eS Q1 p1 hV.fin λu4 j4 x4 Q4 p4=>?_;simp;refine uG Q4 p4 cW ((hex j4 (by omega) p4.2)) (kE 0) λb j5 x5 Q5 p5=>?_;simp;refine a3T (m:=5) (t:=40) (e:=143) (T:=43) (s:=18) (z:=21) (r:=22) (p:=23) (q:=20) (x:=19) (b:=24) (y:=1) (fd:=5) rfl rfl rfl rfl rfl (by kernel_rfl) (by kernel_rfl) rfl rfl ?_;simp;refine⟨_,_,_,_,_,_,_,_,_,by simp,rfl,rfl,?_,rfl,rfl,?_,by simp,rfl,rfl,rfl,rfl,by decide,rfl,?_⟩
  .intro c hc
   first
    |(obtain⟨y,_,rfl⟩:=g3L.1 hc
      rw[a9l]
      rfl)
    |(simp only[g3x]at hc
      subst hc
      rfl)
  .simp<;>omega
  exact Q5.ok _ j5 .normal _ rfl (.inl rfl) (by simp[a3g,a9l,a0A])
 |true=>
  have e1:(λi=>if aL l i [40] then jD aH l i else .ok [] i:bF (List Nm)) j1=jD aH l j1:=by simp[hs]
  simp;refine rdX (.mk func101 rfl) (a8b hV j1 p1.2) (λns j3 x3=>?_) (λn e hx=>by first|exact Q1.fail (e1.trans hx) _|(simp;exact Q1.fail (e1.trans hx) _)|(simp;exact λs=>Q1.fail (e1.trans hx) s));have Q3:=Q1.step (e1.trans x3);have p3:=aB.words hV.fin j1 ns j3 p1.2 x3;simp;refine eS Q3 p3 hV.fin λu4 j4 x4 Q4 p4=>?_;simp;refine uG Q4 p4 cW ((hex j4 (by omega) p4.2)) (kE 0) λb j5 x5 Q5 p5=>?_;simp;refine a3T (m:=5) (t:=40) (e:=143) (T:=43) (s:=18) (z:=21) (r:=22) (p:=23) (q:=20) (x:=19) (b:=24) (y:=1) (fd:=5) rfl rfl rfl rfl rfl (by kernel_rfl) (by kernel_rfl) rfl rfl ?_;simp;refine⟨_,_,_,_,_,_,_,_,_,by simp,rfl,rfl,?_,rfl,rfl,?_,by simp,rfl,rfl,rfl,rfl,by decide,rfl,?_⟩
  .intro c hc
   first
    |(obtain⟨y,_,rfl⟩:=g3L.1 hc
      rw[a9l]
      rfl)
    |(simp only[g3x]at hc
      subst hc
      rfl)
  .simp<;>omega
  exact Q5.ok _ j5 .normal _ rfl (.inl rfl) (by simp[a3g,a9l,a0A])
theorem c7L(j0:Nat)(cM:low<=j0)(hi:j0<l.length):tR G 79 [] l j0 (xC aH l ex j0) jP:=by
 have hl:=hV.len;have p0:=gT hi;refine qA.bO func79 rfl ntmps79 rfl (by simp) ?_;intro Q Q0;unfold xC at Q0;simp;refine uG Q0 p0 cW ((hex j0 cM p0.2)) (kE 0) λe j1 x1 Q1 p1=>?_;simp;refine jV.mk cZ (d4G 9 e) ?_;simp;refine eS Q1 p1 hV.fin λu2 j2 x2 Q2 p2=>?_;simp;have kR:=jK hV [59] (e4h l ex) (λout i=>out.length<=i) low (.mk func126 rfl) (d0P hV e) (λa=>(b8G hV kE a).le (by omega)) (λa i qZ hi h=>c4h hV hex kE e a i qZ hi h) (d4K hV kE) (λa i h=>by omega) [] j2 (by omega) p2.2 (by simp);refine dX.mk (a2e eT kR [(100000,100000),(100001,1),(100002,3)] (λa j hx=>?_) ?_ ?_ ?_ rfl rfl (λws j3 x3=>?_) (λn e hx2=>Q2.fail hx2 _))
 .simp[a3g,aW,bB,bD,bC,bK,getKey]
 .simp[a3g,aW,bB,bD,bC,bK,getKey]
 .simp[bA,bI,rk]
 .simp[a3g,bA,bI,rk,dC,dL]
 .have Q3:=Q2.step x3;have p3:=aB.list hV.fin (λa=>b8G hV kE a) [] j2 ws j3 p2.2 x3;simp[bJ,a3g,bA,bI,rk,dC,dL,bX,kI,jA,eI];refine eS Q3 p3 hV.fin λu4 j4 x4 Q4 p4=>?_;simp;exact Q4.ok _ j4 _ _ rfl (.inr rfl) (by simp)
end
def b8H(out:List (Nm×Ty)):List (Nat×bG):=[(100001,.cells [.ptr 100000 0]),(100002,.cells [.d (.int .i64 6),.d (.str []),.d (.int .i64 0),.d (.sl []),.d (.sl (out.map a0y)),.d (.sl []),.d (.sl [])])]
abbrev f3Y:List (TypeId×List VM.Loc):=[(176,[.c 100002 4])]
abbrev e4i(rdP:List Tok->Nat->Nat->gO Pr)(l:List Tok)(out:List (Nm×Ty)):bF (List (Nm×Ty)):=do
 let w <- bV aH l
 let b <- cS l [58]
 let t <- (if b then mD aH aZ rdP l else pure jZ)
 pure (out++[(w,t)])
theorem d8x:a3e l K3 [.ptr 100001 0,.ptr 100002 0] b8H f3Y:=by
 constructor
 all_goals intros
 all_goals first
  |rfl
  |simp[b8H,aW,bB,bD,bC,bK,getKey,bA,bI,dC,rk,dL,bX, *]
theorem b8I(out:List (Nm×Ty)):aB l 1 (e4i rdP l out):=(aB.word hV.fin).bl λ_=>(aB.skip hV.fin _).bl λ_=>aB.bl (aB.ite ((mK hV).le (by omega)) (aB.bP _)) λ_=>aB.bP _
theorem d4L(a:List (Nm×Ty))(i:Nat)(b:List (Nm×Ty))(j:Nat)(hi:i<l.length)(h:a.length<=i)(hx:e4i rdP l a i=.ok b j):b.length<=j:=by have h1:=b8I hV a i b j hi hx;obtain⟨_,_,_,hx⟩:=dF hx;obtain⟨_,_,_,hx⟩:=dF hx;obtain⟨_,_,_,hx⟩:=dF hx;cases hx;simp;omega
theorem d0Q(out:List (Nm×Ty))(j0:Nat)(hi:j0<l.length)(vT:out.length<=j0):qA G 127 [.ptr 100001 0,.ptr 100002 0] (b8H out) f3Y l j0 (e4i rdP l out j0) (λ_=>.cX []) b8H:=by
 have hl:=hV.len;have p0:=gT hi;refine qA.bO func127 rfl ntmps127 rfl (by simp) ?_;intro Q Q0;simp[b8H];refine uG Q0 p0 dS (eN hV.kw l j0 p0.2 (by omega)) (aB.word hV.fin) λc j1 x1 Q1 p1=>?_;simp;cases hs:aL l j1 [58]with
 |false=>
  have Q2:=Q1.step (oB hs);rw[if_neg (by decide)]at Q2;refine rdF hs p1 ?_;simp;have Q3:=Q2.step (kB);refine eF ⟨rfl,g3t.2 λc hc=>?_,?_⟩ ?_
  .obtain⟨y,_,rfl⟩:=g3L.1 hc;rw[zW]
   rfl
  .have hb:prog.bytesOf 176<=1000:=by decide
   rw[List.length_map]
   calc (out.length+1)*(prog.bytesOf 176+1)<=50001*1001:=Nat.mul_le_mul (by omega) (by omega)
    _<=140737488355328:=by decide
  simp;exact Q3.ok _ j1 .normal _ rfl (.inl rfl) (by simp[b8H,zW,jZ,eE,a0A])
 |true=>
  have Q2:=Q1.step (oA hs);rw[if_pos rfl]at Q2;refine rdT hs p1 hV.fin λp2=>?_;obtain⟨j2,vH⟩:∃j2,j1+1=j2:=⟨_,rfl⟩;rw[vH]at Q2 p2|-;simp;refine uG Q2 p2 dO ((qM hV j2 p2.2)) (mK hV) λt j3 x3 Q3 p3=>?_;simp;refine eF ⟨rfl,g3t.2 λc hc=>?_,?_⟩ ?_
  .obtain⟨y,_,rfl⟩:=g3L.1 hc;rw[zW]
   rfl
  .have hb:prog.bytesOf 176<=1000:=by decide
   rw[List.length_map]
   calc (out.length+1)*(prog.bytesOf 176+1)<=50001*1001:=Nat.mul_le_mul (by omega) (by omega)
    _<=140737488355328:=by decide
  simp;exact Q3.ok _ j3 .normal _ rfl (.inl rfl) (by simp[b8H,zW,a0A])
section
variable {ex:Nat->bF cP} {low:Nat} (hex:∀i,low<=i->i<l.length->tR G 41 [] l i (ex 0 i) jP) (kE:∀k,aB l 1 (ex k))
include hex kE
theorem c4i(j0:Nat)(cM:low<=j0)(hi:j0<l.length):tR G 80 [] l j0 (a4u aH aZ rdP l ex j0) jP:=by
 have hl:=hV.len;have p0:=gT hi;refine qA.bO func80 rfl ntmps80 rfl (by simp) ?_;intro Q Q0;unfold a4u at Q0;simp;refine eS Q0 p0 hV.fin λu1 j1 x1 Q1 p1=>?_;simp;have kR:=jK hV [44] (e4i rdP l) (λout i=>out.length<=i) 0 (.mk func127 rfl) (d8x hV) (λa=>(b8I hV a).le (by omega)) (λa i qZ hi h=>d0Q hV a i hi h) (d4L hV) (λa i h=>by omega) [] j1 (by omega) p1.2 (by simp);refine dX.mk (a2e eT kR [(100000,100000),(100001,1),(100002,3)] (λa j hx=>?_) ?_ ?_ ?_ rfl rfl (λws j2 x2=>?_) (λn e hx2=>Q1.fail hx2 _))
 .simp[b8H,aW,bB,bD,bC,bK,getKey]
 .simp[b8H,aW,bB,bD,bC,bK,getKey]
 .simp[bA,bI,rk]
 .simp[b8H,bA,bI,rk,dC,dL]
 .have Q2:=Q1.step x2;have p2:=aB.list hV.fin (λa=>b8I hV a) [] j1 ws j2 p1.2 x2;simp[bJ,b8H,bA,bI,rk,dC,dL,bX,kI,jA,eI];refine eS Q2 p2 hV.fin λu3 j3 x3 Q3 p3=>?_;simp;refine uG Q3 p3 cW ((hex j3 (by omega) p3.2)) (kE 0) λe j4 x4 Q4 p4=>?_;simp;exact Q4.ok _ j4 _ _ rfl (.inr rfl) (by simp[cB])
end
end
section
variable {rdP:List Tok->Nat->Nat->gO Pr} {l:List Tok} (hV:rQ G rdP l) (hN:∀i, -9223372036854775807<=(aJ l i).n/\(aJ l i).n<=9223372036854775807)
include hV hN
section
variable {ex:Nat->bF cP} {low:Nat} (hex:∀i,low<=i->i<l.length->tR G 41 [] l i (ex 0 i) jP) (kE:∀k,aB l 1 (ex k))
include hex kE
theorem c4j(j0:Nat)(cM:low<=j0+1)(hi:j0<l.length):tR G 266 [] l j0 (sF aH aZ rdP l ex j0) jP:=by
 have hl:=hV.len;have p0:=gT hi;refine qA.bO func266 rfl ntmps266 rfl (by simp) ?_;intro Q Q0;unfold sF at Q0;simp;refine eS Q0 p0 hV.fin λu1 j1 x1 Q1 p1=>?_;simp;have hb:=mY (G:=G) l j1 [45] p1.2;have ht1:=dM (G:=G) l j1 (j1+1) 1;have ht2:=dM (G:=G) l j1 (j1+2) 2;refine qB (ds:=[.str [45]]) jR hb ?_;cases hs:aL l j1 [45]with
 |false=>
  have Q1:=Q1.rK (by simp[hs]);simp;refine uG Q1 p1 cW ((hex j1 (by omega) p1.2)) (kE 0) λe j2 x2 Q2 p2=>?_;simp;cases hc:aL l j2 [58]with
  |false=>have Q3:=Q2.step (oB hc);rw[if_neg (by decide)]at Q3;refine rdF hc p2 ?_;simp;have Q2:=Q3.step (kB);refine eS Q2 p2 hV.fin λu5 j5 x5 Q5 p5=>?_;simp;exact Q5.ok _ j5 _ _ rfl (.inr rfl) (by simp[cB,bW])
  |true=>
   have Q3:=Q2.step (oA hc);rw[if_pos rfl]at Q3;refine rdT hc p2 hV.fin λp3=>?_;obtain⟨j3,hj3⟩:∃j,j2+1=j:=⟨_,rfl⟩;rw[hj3]at Q3 p3|-;simp;have Q3:=Q3.assoc;refine mS 3 [2] (.op 0 (.op 1 (.call [4,5,6] .none) (.call [1,4,5,6] .none)) (.call [0,1,4,5,6] .none)) (kZ (mD aH aZ rdP l j3)) (by kernel_rfl) (by kernel_rfl) ?_;simp
   repeat' apply And.intro
   all_goals
    refine rX Q3 p3 dO ((qM hV j3 p3.2)) (mK hV) λt j4 x4 Q4 p4=>cG.mk ?_;simp;have Q4:=Q4.step (kB);refine eS Q4 p4 hV.fin λu5 j5 x5 Q5 p5=>?_;simp;exact Q5.ok _ j5 _ _ rfl (.inr rfl) (by simp[cB,bW])
 |true=>
  simp;refine qB (ds:=[.int .i64 1]) cJ ht1 ?_;by_cases hk:(aJ l (j1+1)).kind=3
  .simp[bL,hk];refine qB (ds:=[.int .i64 2]) cJ ht2 ?_;simp;refine jV.mk pF (qH (aJ l (j1+2)) [41]) ?_;cases hf:cQ (aJ l (j1+2)) [41]with
   |false=>
    have Q1:=Q1.rK (by simp[hf]);simp;refine uG Q1 p1 cW ((hex j1 (by omega) p1.2)) (kE 0) λe j2 x2 Q2 p2=>?_;simp;cases hc:aL l j2 [58]with
    |false=>have Q3:=Q2.step (oB hc);rw[if_neg (by decide)]at Q3;refine rdF hc p2 ?_;simp;have Q2:=Q3.step (kB);refine eS Q2 p2 hV.fin λu5 j5 x5 Q5 p5=>?_;simp;exact Q5.ok _ j5 _ _ rfl (.inr rfl) (by simp[cB,bW])
    |true=>
     have Q3:=Q2.step (oA hc);rw[if_pos rfl]at Q3;refine rdT hc p2 hV.fin λp3=>?_;obtain⟨j3,hj3⟩:∃j,j2+1=j:=⟨_,rfl⟩;rw[hj3]at Q3 p3|-;simp;have Q3:=Q3.assoc;refine mS 3 [2] (.op 0 (.op 1 (.call [4,5,6] .none) (.call [1,4,5,6] .none)) (.call [0,1,4,5,6] .none)) (kZ (mD aH aZ rdP l j3)) (by kernel_rfl) (by kernel_rfl) ?_;simp
     repeat' apply And.intro
     all_goals
      refine rX Q3 p3 dO ((qM hV j3 p3.2)) (mK hV) λt j4 x4 Q4 p4=>cG.mk ?_;simp;have Q4:=Q4.step (kB);refine eS Q4 p4 hV.fin λu5 j5 x5 Q5 p5=>?_;simp;exact Q5.ok _ j5 _ _ rfl (.inr rfl) (by simp[cB,bW])
   |true=>
    have Q1:=Q1.sW (by simp[hs,hk,hf]);simp;refine qB (ds:=[.int .i64 1]) cJ ht1 ?_;have hn:=hN (j1+1);have hw3:IntKind.i64.wrap ((j1:Int)+3)=((j1+3:Nat):Int):=by rw[wrap64 (by omega)];omega
    have hw4:IntKind.i64.wrap (-(aJ l (j1+1)).n)= -(aJ l (j1+1)).n:=wrap64 (by omega);simp[bL,hw3,hw4];exact Q1.ok _ (j1+3) _ _ rfl (.inr rfl) (by simp)
  .have Q1:=Q1.rK (by simp[hk]);simp[bL,hk];refine uG Q1 p1 cW ((hex j1 (by omega) p1.2)) (kE 0) λe j2 x2 Q2 p2=>?_;simp;cases hc:aL l j2 [58]with
   |false=>have Q3:=Q2.step (oB hc);rw[if_neg (by decide)]at Q3;refine rdF hc p2 ?_;simp;have Q2:=Q3.step (kB);refine eS Q2 p2 hV.fin λu5 j5 x5 Q5 p5=>?_;simp;exact Q5.ok _ j5 _ _ rfl (.inr rfl) (by simp[cB,bW])
   |true=>
    have Q3:=Q2.step (oA hc);rw[if_pos rfl]at Q3;refine rdT hc p2 hV.fin λp3=>?_;obtain⟨j3,hj3⟩:∃j,j2+1=j:=⟨_,rfl⟩;rw[hj3]at Q3 p3|-;simp;have Q3:=Q3.assoc;refine mS 3 [2] (.op 0 (.op 1 (.call [4,5,6] .none) (.call [1,4,5,6] .none)) (.call [0,1,4,5,6] .none)) (kZ (mD aH aZ rdP l j3)) (by kernel_rfl) (by kernel_rfl) ?_;simp
    repeat' apply And.intro
    all_goals
     refine rX Q3 p3 dO ((qM hV j3 p3.2)) (mK hV) λt j4 x4 Q4 p4=>cG.mk ?_;simp;have Q4:=Q4.step (kB);refine eS Q4 p4 hV.fin λu5 j5 x5 Q5 p5=>?_;simp;exact Q5.ok _ j5 _ _ rfl (.inr rfl) (by simp[cB,bW])
theorem d0R(j0:Nat)(cM:low<=j0+1)(hi:j0<l.length):tR G 255 [] l j0 (zP aH aZ rdP l ex j0) jP:=by
 have hl:=hV.len;have p0:=gT hi;have ht:=dM (G:=G) l j0 j0 0;refine qA.bO func255 rfl ntmps255 rfl (by simp) ?_;intro Q Q0;unfold zP at Q0;simp;refine qB (ds:=[.int .i64 0]) cJ ht ?_;by_cases hk:(aJ l j0).kind=3
 .have Q0:=Q0.sW hk;have hw:=aX (show j0<9223372036854775807 by omega);simp[bL,hk,hw];exact Q0.ok _ (j0+1) _ _ rfl (.inr rfl) (by simp)
 have Q0:=Q0.rK hk;simp[bL,hk];cases h1:aL l j0 [116,114,117,101]with
 |true=>have Q0:=Q0.sW h1;refine rdT h1 p0 hV.fin λp1=>?_;simp;exact Q0.ok _ (j0+1) _ _ rfl (.inr rfl) (by simp)
 |false=>
 have Q0:=Q0.rK (by rw[h1];decide);refine rdF h1 p0 ?_;simp;cases h2:aL l j0 [102,97,108,115,101]with
 |true=>have Q0:=Q0.sW h2;refine rdT h2 p0 hV.fin λp1=>?_;simp;exact Q0.ok _ (j0+1) _ _ rfl (.inr rfl) (by simp)
 |false=>
 have Q0:=Q0.rK (by rw[h2];decide);refine rdF h2 p0 ?_;simp;cases h3:aL l j0 [110,101,119]with
 |true=>have Q1:=Q0.sW h3;refine rdT h3 p0 hV.fin λp1=>?_;obtain⟨j1,tS⟩:∃j,j0+1=j:=⟨_,rfl⟩;rw[tS]at Q1 p1|-;simp;refine rdR Q1 (.mk func264 rfl) (c2p hV hex kE 22 j1 (by omega) p1.2) λt j h=>?_;simp;exact Q1.ok t j _ _ h (.inr rfl) (by simp)
 |false=>
 have Q0:=Q0.rK (by rw[h3];decide);refine rdF h3 p0 ?_;simp;cases h4:aL l j0 [103,101,116]with
 |true=>have Q1:=Q0.sW h4;refine rdT h4 p0 hV.fin λp1=>?_;obtain⟨j1,tS⟩:∃j,j0+1=j:=⟨_,rfl⟩;rw[tS]at Q1 p1|-;simp;refine rdR Q1 (.mk func264 rfl) (c2p hV hex kE 23 j1 (by omega) p1.2) λt j h=>?_;simp;exact Q1.ok t j _ _ h (.inr rfl) (by simp)
 |false=>
 have Q0:=Q0.rK (by rw[h4];decide);refine rdF h4 p0 ?_;simp;cases h5:aL l j0 [115,101,116]with
 |true=>have Q1:=Q0.sW h5;refine rdT h5 p0 hV.fin λp1=>?_;obtain⟨j1,tS⟩:∃j,j0+1=j:=⟨_,rfl⟩;rw[tS]at Q1 p1|-;simp;refine eS Q1 p1 hV.fin λu2 j2 x2 Q2 p2=>?_;simp;refine uG Q2 p2 cW ((hex j2 (by omega) p2.2)) (kE 0) λx j3 x3 Q3 p3=>?_;simp;refine eS Q3 p3 hV.fin λu4 j4 x4 Q4 p4=>?_;simp;refine uG Q4 p4 cW ((hex j4 (by omega) p4.2)) (kE 0) λy j5 x5 Q5 p5=>?_;simp;refine eS Q5 p5 hV.fin λu6 j6 x6 Q6 p6=>?_;simp;refine jV.mk cZ (oZ 24 x y) ?_;simp;exact Q6.ok _ j6 _ _ rfl (.inr rfl) (by simp)
 |false=>
 have Q0:=Q0.rK (by rw[h5];decide);refine rdF h5 p0 ?_;simp;refine jV.mk oQ (pZ hV.kw (aJ l j0)) ?_;cases h6:kL aH (aJ l j0)with
 |true=>
  have Q0:=Q0.sW h6;simp;refine rdX (ds:=[]) dS (eN hV.kw l j0 hi (by omega)) (λs j hx=>?_) (λn e hx=>by unfold bV pD at hx;rw[if_pos h6]at hx;cases hx);have p1:=aB.word (kw:=aH) hV.fin _ _ _ p0.2 hx;unfold bV pD at hx;rw[if_pos h6]at hx;cases hx;have Q1:=Q0;obtain⟨j1,tS⟩:∃j,j0+1=j:=⟨_,rfl⟩;rw[tS]at Q1 p1|-;have hb1:=mY (G:=G) l j1 [91] p1.2;have hb2:=mY (G:=G) l j1 [40] p1.2;simp;refine qB (ds:=[.str [91]]) jR hb1 ?_;cases h7:aL l j1 [91]with
  |true=>have Q1:=Q1.rK (by simp[h7]);simp;refine uG Q1 p1 (.mk func265 rfl) ((a3f hV j1 p1.2)) ((aB.types hV.fin hV.mZ.pred)) λts j3 x3 Q3 p3=>?_;simp;refine uG Q3 p3 a4d ((b0X hV hex kE j3 (by omega) p3.2)) ((aB.qG hV.fin kE)) λks j4 x4 Q4 p4=>?_;simp;exact Q4.ok _ j4 _ _ rfl (.inr rfl) (by simp)
  |false=>
   simp;refine qB (ds:=[.str [40]]) jR hb2 ?_;cases h8:aL l j1 [40]with
   |true=>have Q1:=Q1.rK (by simp[h8]);simp;refine uG Q1 p1 (.mk func265 rfl) ((a3f hV j1 p1.2)) ((aB.types hV.fin hV.mZ.pred)) λts j3 x3 Q3 p3=>?_;simp;refine uG Q3 p3 a4d ((b0X hV hex kE j3 (by omega) p3.2)) ((aB.qG hV.fin kE)) λks j4 x4 Q4 p4=>?_;simp;exact Q4.ok _ j4 _ _ rfl (.inr rfl) (by simp)
   |false=>have Q1:=Q1.sW (by simp[h7,h8]);simp;exact Q1.ok _ j1 _ _ rfl (.inr rfl) (by simp)
 |false=>
 have Q0:=Q0.rK (by rw[h6];decide);simp;by_cases hk2:(aJ l j0).kind=2
 .have h7:rW (aJ l j0)=true:=by simp[rW,hk2]
  have Q0:=Q0.sW h7;simp[hk2];refine rdX (ds:=[]) mE (oS l j0 hi) (λs j hx=>?_) (λn e hx=>by unfold mC pD at hx;rw[if_pos h7]at hx;cases hx);have p1:=aB.title hV.fin _ _ _ p0.2 hx;unfold mC pD at hx;rw[if_pos h7]at hx;cases hx;have Q1:=Q0;obtain⟨j1,tS⟩:∃j,j0+1=j:=⟨_,rfl⟩;rw[tS]at Q1 p1|-;simp;refine uG Q1 p1 (.mk func265 rfl) ((a3f hV j1 p1.2)) ((aB.types hV.fin hV.mZ.pred)) λts j3 x3 Q3 p3=>?_;simp;have hb2:=mY (G:=G) l j3 [40] p3.2;refine qB (ds:=[.str [40]]) jR hb2 ?_;cases h8:aL l j3 [40]with
  |false=>have Q4:=Q3.step (a:=[]) (j:=j3) (by simp[h8]);simp;exact Q4.ok _ j3 _ _ rfl (.inr rfl) (by simp)
  |true=>
   have e1:(λj=>if aL l j [40] then kW l ex j else .ok [] j:bF (List cP)) j3=kW l ex j3:=by simp[h8]
   simp;refine rdX a4d ((b0X hV hex kE j3 (by omega) p3.2)) (λks j4 x4=>?_) (λn e hx=>by first|exact Q3.fail (e1.trans hx) _|(simp;exact Q3.fail (e1.trans hx) _)|(simp;exact λs=>Q3.fail (e1.trans hx) s));have Q4:=Q3.step (e1.trans x4);have p4:=(aB.qG hV.fin kE) j3 ks j4 p3.2 x4;simp;exact Q4.ok _ j4 _ _ rfl (.inr rfl) (by simp)
 .have h7:rW (aJ l j0)=false:=by simp[rW,hk2]
  have Q0:=Q0.rK (by rw[h7];decide);simp[hk2];refine rdR Q0 (.mk func266 rfl) (c4j hV hN hex kE j0 (by omega) p0.2) λt j h=>?_;simp;exact Q0.ok t j _ _ h (.inr rfl) (by simp)
end
end
end
end Go.Proofs.YtmfbjecjccipfaaGreatDoor
