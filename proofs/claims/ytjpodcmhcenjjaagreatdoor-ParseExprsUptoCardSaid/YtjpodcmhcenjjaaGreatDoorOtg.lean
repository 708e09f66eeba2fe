/- Lemmas that the law of this claim needs (PwJ PwK PwL PwM ZR PuD ZS ZT ZW PrO PwN PsL PsM PsR). No condition. -/
import Derived.Test.YtjpodcmhcenjjaaGreatDoorOta
import Derived.Test.YtjpodcmhcenjjaaGreatDoorOtc
import Derived.Test.YtjpodcmhcenjjaaGreatDoorOtd
import Derived.Test.YtjpodcmhcenjjaaGreatDoorOte
import Derived.Test.YtjpodcmhcenjjaaGreatDoorOtf
set_option linter.unusedVariables false
set_option linter.unusedSimpArgs false
set_option linter.unusedSectionVars false
set_option maxRecDepth 100000
set_option maxHeartbeats 64000000
open Go.Proofs.Tryz
namespace Go.Proofs.YtjpodcmhcenjjaaGreatDoor
section
open Go Go.VM
variable {G:GT}
section
variable {α β:Type} {l:List Tok}
theorem b6X{c:Nm}{one:α->RM α}{P:α->Prop}(h:∀a s,P a->P (one a s).1):∀(g:Nat) (a:α) (s:dW),P a->P (pR l c one g a s).1
 |0,a,s,hp=>hp
 |g+1,a,s,hp=>by
  unfold pR;split
  .split
   .exact b6X h g _ _ (h a s hp)
   .exact h a s hp
  .exact hp
end
def RmP{α:Type}(P:α->Prop)(x:RM α):Prop:=∀s,P (x s).1
section
variable {α β:Type} {P:β->Prop} {R:α->Prop} {x:RM α} {f:α->RM β}
theorem RmP.yK(hf:∀a,RmP P (f a)):RmP P (x >>=f):=λs=>hf _ _
theorem RmP.c8O(hx:RmP R x)(hf:∀a,R a->RmP P (f a)):RmP P (x >>=f):=λs=>hf _ (hx s) _
theorem RmP.bY{b:β}(h:P b):RmP P (pure b):=λs=>h
theorem RmP.ite{c:Bool}{x y:RM β}(hx:RmP P x)(hy:RmP P y):RmP P (if c then x else y):=by
 cases c
 .exact hy
 .exact hx
end
theorem d2J(a b:Pr):bM (aZ a b)<=bM a+bM b+1:=by
 have pos:∀p:Pr,1<=bM p:=λp=>by cases p;simp[bM]
 have ha:=pos a;have hb:=pos b;rw[<-d0M];have e1:bM a4U=1:=by simp[a4U,bM,dM]
 have e2:bM a1c=1:=by simp[a1c,bM,dM]
 have ht:tI a1c=true:=by decide
 simp only[b8X,ht,if_true]
 repeat' split
 all_goals try simp only[b6R,e1,e2]
 all_goals omega
theorem a6V:VM.Enters prog 95:=.mk func95 rfl
theorem b4v:VM.Enters prog 144:=.mk func144 rfl
theorem sC:VM.Enters prog 54:=.mk func54 rfl
section
variable {aE:List Tok->Nat->Nat->kJ Pr} {l:List Tok} (hV:vW G aE l)
include hV
theorem b6Y(e:Nat)(s:dW):bM (sK aE l e s).1<=20001:=by
 have h1:bM eY=1:=by simp[eY,bM,dM]
 unfold sK;split
 .cases h:aE l s.pl e with
  |ok p j=>exact hV.nod _ _ _ _ h
  |bad n x=>simp only[h1];omega
 .simp only[h1];omega
theorem c0F:∀(n:Nat) (s:dW),bM (a9z aJ aZ aE l n s).1.pred<=n*20003+1
 |0,s=>by
  show bM eY<=_
  have h1:bM eY=1:=by simp[eY,bM,dM]
  omega
 |n+1,s=>by
  have h1:bM eY=1:=by simp[eY,bM,dM]
  have ih:=c0F n
  show bM (a4O aJ aZ aE l (a9z aJ aZ aE l n) s).1.pred<=_
  generalize a9z aJ aZ aE l n=ty at ih;have z:bM eY<=(n+1)*20003+1:=by omega
  have hR:RmP (λt:Ty=>bM t.pred<=(n+1)*20003+1) (a6N aZ aE l ty):=by
   unfold a6N;refine RmP.yK λ_=>RmP.yK λ_=>RmP.yK λ_=>RmP.c8O (R:=λt:Ty=>bM t.pred<=n*20003+1) ih λt ht=>RmP.yK λ_=>RmP.c8O (R:=λp:Pr=>bM p<=20001) (λs=>b6Y hV _ s) λp hp=>RmP.yK λ_=>RmP.bY ?_
   show bM (if _=0 then _ else _)<=_
   split
   .omega
   .exact Nat.le_trans (d2J _ _) (by omega)
  have hF:RmP (λt:Ty=>bM t.pred<=(n+1)*20003+1) (zE aJ l ty):=by
   unfold zE;refine RmP.yK λ_=>RmP.yK λnamed=>RmP.c8O (R:=λp:List Nm×List Ty=>∀t∈p.2,bM t.pred<=(n+1)*20003+1) (λs=>b6X (P:=λp:List Nm×List Ty=>∀t∈p.2,bM t.pred<=(n+1)*20003+1) (λa s ha=>?_) _ _ _ (λt ht=>by cases ht)) λp hp=>?_
   .have h2:∀(ns:List Nm) (t:Ty),bM t.pred<=n*20003+1->∀u∈(ns,a.2++[t]).2,bM u.pred<=(n+1)*20003+1:=λns t ht u hu=>by
     simp only[List.mem_append,g1d]at hu;rcases hu with hu|rfl
     .exact ha u hu
     .omega
    have h3:RmP (λp:List Nm×List Ty=>∀t∈p.2,bM t.pred<=(n+1)*20003+1) (if named then(oF aJ l >>=λw=>bQ l [58] >>=λ_=>ty >>=λt=>pure (a.1++[w],a.2++[t])) else ty >>=λt=>pure (a.1,a.2++[t])):=RmP.ite (RmP.yK λw=>RmP.yK λ_=>RmP.c8O (R:=λt:Ty=>bM t.pred<=n*20003+1) ih λt ht=>RmP.bY (h2 _ t ht)) (RmP.c8O (R:=λt:Ty=>bM t.pred<=n*20003+1) ih λt ht=>RmP.bY (h2 _ t ht));exact h3 s
   .obtain⟨ns,ts⟩:=p;refine RmP.yK λ_=>RmP.yK λc=>RmP.ite (RmP.bY ?_) (RmP.yK λ_=>RmP.yK λt=>RmP.bY z);cases ts with
    |nil=>exact z
    |cons t r=>exact hp t (List.mem_cons_self ..)
  have hD:∀nm,RmP (λt:Ty=>bM t.pred<=(n+1)*20003+1) (a4N aJ aZ aE l ty nm):=λnm=>by unfold a4N;exact RmP.yK λ_=>RmP.yK λ_=>RmP.ite (RmP.yK λ_=>RmP.yK λ_=>RmP.bY z) (RmP.bY z)
  have hP:bM (dC aJ l s).1.1.pred<=(n+1)*20003+1:=by
   unfold dC;split
   .exact z
   .split
    .exact z
    .show bM (Ty.pred (if _ then _ else _))<=_
     repeat' split
     all_goals exact z
  unfold a4O
  repeat' split
  .exact hR s
  .exact hF s
  .exact hD _ _
  .exact hP
  .exact z
  .exact z
theorem b6Z{s s1:dW}{p:Pr}(hv:dS l s)(h:a9x aE l s=(p,s1)):RfP l 0 s s1:=(aM.pred (low:=0) hV.nz).kL hV.kL.pred hv (λ_=>Nat.zero_le _) h
omit hV in
theorem c0G(hE:oK l){s s1:dW}{p:Ty×Bool}(hv:dS l s)(h:dC aJ l s=(p,s1)):dS l s1:=λh1=>by
 unfold dC at h;split at h
 .rename_i hw;cases h;simp only at h1;unfold vH eT at hw;rw[if_pos ⟨h1,hv h1⟩]at hw;simp only[g0W,decide_eq_true_eq]at hw;exact qM hE (hv h1) (by have:=hw.1;simp only[Nat.add_zero]at this;omega)
 .split at h
  .cases h;exact hv h1
  .rename_i hw;cases h;simp only at h1;unfold xC eT at hw;rw[if_pos ⟨h1,hv h1⟩]at hw;simp only[Bool.not_eq_true,Bool.not_eq_false',decide_eq_true_eq]at hw;exact qM hE (hv h1) (by simp only[Nat.add_zero]at hw;omega)
omit hV in
theorem c6b{s s1:dW}{p:Ty×Bool}(hv:dS l s)(h:dC aJ l s=(p,s1))(h1:s1.er=0):s.er=0/\s.pl<=s1.pl:=by
 unfold dC at h
 repeat' split at h
 all_goals
  cases h;exact⟨h1,by simp⟩
section
variable {x:bE Ty} {ty:RM Ty} {low:Nat} (hM:aM l (low+1) x ty) (ax:aB l 1 x) (oW:∀s,dS l s->(s.er=0->low+1<=s.pl)->eR G 54 [] l s (ty s) a1e) (nty:∀s,bM (ty s).1.pred<=430000000)
include hM ax oW nty
theorem a8I(s:dW)(hv:dS l s)(cC:s.er=0->low<=s.pl):eR G 95 [] l s (a6N aZ aE l ty s) a1e:=by
 have hl:=hV.len;obtain⟨s0,rfl⟩:∃s0,s0=s:=⟨_,rfl⟩;have v0:=hv;refine eR.bL func95 rfl ntmps95 rfl ?_;intro Q Q0;unfold a6N at Q0;simp;refine rfM Q0 v0 hV.fin λu1 s1 h1 Q1 p1 v1=>?_;simp;refine eB pG (uT (by omega) [118] s1 v1) (λc x hx=>?_);cases hx;simp;refine eB gV (oH (by omega) (oL l [118] s1) s1 v1) (λu2 s2 h2=>?_);have Q2:=Q1.step (x:=wT l [118]) h2;have p2:=zL hV.fin v1 h2;have v2:=dS.next p2;simp;refine rfM Q2 v2 hV.fin λu3 s3 h3 Q3 p3 v3=>?_;simp;have l3:s3.er=0->low+1<=s3.pl:=λh=>by have:=((RfP.tr p1 p2).tr p3) h;have:=cC this.1;omega
 refine eB sC (oW s3 v3 l3) (λt s4 h4=>?_);have Q4:=Q3.step h4;have p4:=hM.kL ax v3 l3 h4;have v4:=dS.next p4;have n4:bM t.pred<=430000000:=by
  have:=nty s3
  rwa[h4]at this
 have htk:∀B,B=(cF l 0 [124] s4&& !decide (t.op=6))->eR G 91 [.bool B] l s4 (a5L l (λs=>cF l 0 [124] s&& !decide (t.op=6)) s4) (λt=>.d (.str t)):=λB hB=>by subst hB;exact oH (by omega) _ s4 v4
 have htp:∀ {a s1},a5L l (λs=>cF l 0 [124] s&& !decide (t.op=6)) s4=(a,s1)->RfP l 1 s4 s1:=λ{a s1} h=>zK hV.fin (λhb=>by unfold cF at hb;simp only[g0W,decide_eq_true_eq]at hb;omega) v4 h
 have hT:=λ(h:cF l 0 [124] s4=true) (h2: ¬t.op=6)=>htk true (by simp[h,h2]);have hF:=λ(h:cF l 0 [124] s4=false)=>htk false (by simp only[h];rfl);have hS:=λ(h:cF l 0 [124] s4=true) (h2:t.op=6)=>htk false (by simp[h,h2]);obtain⟨op,nm,args,ns,p,ps⟩:=t;simp only at htk htp hT hF hS Q4 n4;have h3:(cF l 0 [124] s4=true/\op=6)\/(cF l 0 [124] s4=true/\ ¬op=6)\/(cF l 0 [124] s4=false/\True):=by
  rcases Bool.eq_false_or_eq_true (cF l 0 [124] s4)with h|h
  .by_cases h6:op=6
   .exact .inl ⟨h,h6⟩
   .exact .inr (.inl ⟨h,h6⟩)
  .exact .inr (.inr ⟨h,trivial⟩)
 simp;refine eB dB (gW hV [124] s4 v4) (λb x hx=>?_);cases hx;rcases h3 with⟨hs,e6⟩|⟨hs,e6⟩|⟨hs,e6⟩
 all_goals
  rw[hs];simp[e6]
  first
   |refine eB gV (hS hs e6) (λu5 s5 h5=>?_)
   |refine eB gV (hT hs e6) (λu5 s5 h5=>?_)
   |refine eB gV (hF hs) (λu5 s5 h5=>?_)
  have Q5:=Q4.step h5;have p5:=htp h5;have v5:=dS.next p5;simp;refine rfG Q5 v5 b3N (b6V hV s5 v5) (b6Z hV) λq s6 h6 Q6 p6 v6=>?_;have n6:bM q<=20001:=by
   have:=b6Y hV l.length s5
   rwa[show sK aE l l.length s5=(q,s6) from h6]at this
  by_cases hz:p.op=0
  .simp only[if_pos hz]at Q6;simp[hz];refine rfM Q6 v6 hV.fin λu7 s7 h7 Q7 p7 v7=>?_;simp;exact Q7.ok _ _ (.inr rfl) (by simp[e6])
  .simp only[if_neg hz]at Q6;have ha:=d2I (G:=G) p q (by omega) (by omega);rw[dE,dE]at ha;simp[hz];refine mG.mk c8Y ha ?_;simp;refine rfM Q6 v6 hV.fin λu7 s7 h7 Q7 p7 v7=>?_;simp;exact Q7.ok _ _ (.inr rfl) (by simp[e6])
theorem b7a(s:dW)(hv:dS l s)(cC:s.er=0->low<=s.pl):eR G 144 [] l s (a9y aJ aZ aE l ty s) a1e:=by
 have hl:=hV.len;have hr:=a8I hV hM ax oW nty s hv cC;have hp:=c6a hV s hv;obtain⟨s0,rfl⟩:∃s0,s0=s:=⟨_,rfl⟩;have v0:=hv;refine eR.bL func144 rfl ntmps144 rfl ?_;intro Q Q0;unfold a9y at Q0;simp;refine eB dB (gW hV [123] s0 v0) (λb x hx=>?_);cases hx;cases h1:cF l 0 [123] s0 with
 |true=>have Q0:=Q0.tH h1;simp;refine eB a6V hr (λt s1 h1=>?_);have Q0:=Q0.eq h1;simp;exact Q0.ok _ _ (.inr rfl) (by simp)
 |false=>
 have Q0:=Q0.rF (by rw[h1];decide);simp;refine eB cT (eQ (by omega) [40] s0 v0) (λb s1 hh=>?_);rcases mK hV.fin hh with⟨h2,rfl,e2,e3,e4,v1⟩|⟨h2,rfl,rfl⟩
 .have Q0:=Q0.tH h2;have l1:s1.er=0->low+1<=s1.pl:=λ_=>by rw[e4];exact Nat.succ_le_succ (cC e3)
  rw[<-e2]at Q0;simp;refine eB sC (oW s1 v1 l1) (λt s2 h2=>?_);have Q2:=Q0.step h2;have v2:=dS.next (hM.kL ax v1 l1 h2);obtain⟨op,nm,args,ns,p,ps⟩:=t;simp;refine rfM Q2 v2 hV.fin λu3 s3 h3 Q3 p3 v3=>?_;simp;exact Q3.ok _ _ (.inr rfl) (by simp)
 .have Q0:=Q0.rF (by rw[h2];decide);simp;refine eB b1o hp (λp s2 h3=>?_);rw[h3]at Q0;obtain⟨⟨op,nm,args,ns,q,ps⟩,ok⟩:=p;simp only at Q0;have v2:=c0G hV.fin v0 h3;cases ok with
  |true=>rw[if_pos rfl]at Q0;simp;exact Q0.ok _ _ (.inr rfl) (by simp)
  |false=>rw[if_neg (by decide)]at Q0;simp;refine eB wU (a1V (by omega) s2 v2) (λu s3 h4=>?_);cases h4;simp;exact Q0.ok _ _ (.inr rfl) (by simp)
end
end
end
section
open Go Go.VM
variable {G:GT}
theorem c6c:VM.Enters prog 99:=.mk func99 rfl
section
variable {aE:List Tok->Nat->Nat->kJ Pr} {l:List Tok} (hV:vW G aE l)
include hV
section
variable {x:bE Ty} {ty:RM Ty} {low:Nat} (hM:aM l (low+1) x ty) (ax:aB l 1 x) (oW:∀s,dS l s->(s.er=0->low+1<=s.pl)->eR G 54 [] l s (ty s) a1e) (nty:∀s,bM (ty s).1.pred<=430000000)
include hM ax oW nty
abbrev f1G(aE:List Tok->Nat->Nat->kJ Pr)(l:List Tok)(ty:RM Ty)(out:List Ty):RM (List Ty):=do let t <- a9y aJ aZ aE l ty;pure (out++[t])
abbrev f1H(aE:List Tok->Nat->Nat->kJ Pr)(l:List Tok)(out:List Pr):RM (List Pr):=do
 let _ <- wT l [118]
 bQ l [46]
 let p <- a9x aE l
 pure (out++[p])
abbrev d6D(l:List Tok)(s:dW):Bool:=vH aJ l 0 s||(xC l s||(cF l 0 [123] s||cF l 0 [40] s))
omit hV hM ax oW nty in
theorem e2q(l:List Tok)(s:dW)(hs:s.er≠0):d6D l s=false:=by
 unfold d6D;rw[c2o hs,c2p hs,vZ hs,vZ hs]
 rfl
def b7b(nm:Nm)(args:List Ty)(ps:D):List (Nat×bD):=[(3,.cells [.d (.int .i64 4),.d (.str nm),.d (.sl (args.map tyC)),.d .aD,.d (.int .i64 0),.d (.str []),.d (.int .i64 0),.d .aD,.d ps]),(4,.cells [.d (.int .i64 0),.d (.str []),.d .aD,.d .aD,.d (.int .i64 0),.d (.str []),.d (.int .i64 0),.d .aD,.d .aD])]
theorem c8Z(nm:Nm)(s:dW)(hv:dS l s)(cC:s.er=0->low<=s.pl):eR G 99 [.agg (e7Z 4 nm)] l s (a4N aJ aZ aE l ty nm s) a1e:=by
 have hl:=hV.len;have hA:=aM.f1m (kw:=aJ) (andP:=aZ) hV.fin hV.tkw hV.kL hV.nz hM ax;have aA:=aB.a3m (kw:=aJ) (andP:=aZ) hV.fin (ax.le (by omega:0<=1)) hV.kL.pred;refine eR.bL func99 rfl ntmps99 rfl ?_;intro Q Q0;unfold a4N at Q0;simp;refine e2i (d6D l) (e2q l) (f1G aE l ty) (λa=>a.length) (λ_=>True) (λ_=>[]) (λa s=>b7b nm a .aD++rfH l s) (λ_=>[(45,[.c 3 2])]) (l.length+2) [] s (by omega) hv (by simp) trivial (by simp[b7b]) ?_ ?_
 .intro a s0 e0 i0 bs la _ hc R hR;have v0:dS l s0:=λ_=>i0;have l0:s0.er=0->low<=s0.pl:=λ_=>Nat.le_trans (cC bs.1) bs.2;simp[b7b];refine eB wV (a2R hV s0 v0) (λb x hx=>?_);cases hx;rcases Bool.eq_false_or_eq_true (vH aJ l 0 s0)with w1|w1
  all_goals
   rw[w1];simp
  case' inr=>
   refine eB uS (wX (by omega) s0 v0) (λb x hx=>?_);cases hx;rcases Bool.eq_false_or_eq_true (xC l s0)with w2|w2
   all_goals
    rw[w2];simp
  case' inr.refl.inr=>
   refine eB dB (gW hV [123] s0 v0) (λb x hx=>?_);cases hx;rcases Bool.eq_false_or_eq_true (cF l 0 [123] s0)with w3|w3
   all_goals
    rw[w3];simp
  case' inr.refl.inr.refl.inr=>
   have w4:cF l 0 [40] s0=true:=by simpa[w1,w2,w3]using hc
   refine eB dB (gW hV [40] s0 v0) (λb x hx=>?_);cases hx;rw[w4];simp
  all_goals
   refine gC [0] 3 [2] (.op 1 (.call [4,5,6,7] .none) (.call [1,4,5,6,7] .none)) true (by kernel_rfl) (by kernel_rfl) ?_;simp;refine⟨?_,?_⟩
   all_goals
    refine rfZ b4v (b7a hV hM ax oW nty s0 v0 l0) (λt s1 h1=>?_);have p1:RfP l _ s0 s1:=hA.kL aA v0 l0 h1;have v1:=dS.next p1;refine cJ.mk ?_;simp
   all_goals
    refine cK (by first|omega|(simp[bV];omega)|exact⟨λx hx=>by obtain⟨y,_,rfl⟩:=List.mem_map.1 hx;first|rfl|(rw[bV];rfl),by omega⟩|exact⟨rfl,by omega⟩) ?_;simp;refine hR _ (a++[t]) s1 (by simp only[cO,h1];rfl) (by simp[b7b,bV]) (λh=>?_) (by simp) trivial;have:=(p1) h;omega
 .intro a s1 hc sE la _ v1 hy R;have Q1:=Q0.step (x:=c8M l (d6D l) (f1G aE l ty) []) hy;simp only[d6D,Bool.or_eq_false_iff]at hc;obtain⟨w1,w2,w3,w4⟩:=hc;simp[b7b];refine eB wV (a2R hV s1 v1) (λb x hx=>?_);cases hx;rw[w1];simp;refine eB uS (wX (by omega) s1 v1) (λb x hx=>?_);cases hx;rw[w2];simp;refine eB dB (gW hV [123] s1 v1) (λb x hx=>?_);cases hx;rw[w3];simp;refine eB dB (gW hV [40] s1 v1) (λb x hx=>?_);cases hx;rw[w4];simp;refine eB cT (eQ (by omega) [60] s1 v1) (λb2 s2 h2=>?_);have Q2:=Q1.step h2;have p2:=a4W hV.fin v1 h2;have v2:=dS.next p2;rcases mK hV.fin h2 with⟨_,rfl,_,_,_,_⟩|⟨_,rfl,rfl⟩
  .rw[if_pos rfl]at Q2;simp;refine b2s hV.fin [44] (f1H aE l) (λa=>a.length) (λ_=>True) 5 (λ_=>[]) (λb s=>b7b nm a (.sl (b.map rW))++rfH l s) (λ_=>[(43,[.c 3 8])]) (l.length+2) [] s2 (by omega) v2 rfl trivial (by simp[b7b]) ?_ ?_
   .intro b s0 e0 i0 bs lb _ R hR;have v0:dS l s0:=λ_=>i0;simp[b7b,e0];refine eB pG (uT (by omega) [118] s0 v0) (λc x hx=>?_);cases hx;simp;refine eB gV (oH (by omega) (oL l [118] s0) s0 v0) (λu1 s1 h1=>?_);have h1:wT l [118] s0=(u1,s1):=h1;have p1:RfP l 1 s0 s1:=zL hV.fin v0 h1;have v1:=dS.next p1;simp;refine rfN [46] v1 hV.fin λu2 s2 h2 p2 v2=>?_;simp;refine gC [0] 3 [2] (.op 1 (.call [4,5,6,7] .none) (.call [1,4,5,6,7] .none)) true (by kernel_rfl) (by kernel_rfl) ?_;simp;refine⟨?_,?_⟩
    all_goals
     refine rfZ b3N (b6V hV s2 v2) (λp s3 h3=>?_);have p3:RfP l _ s2 s3:=b6Z hV v2 h3;have v3:=dS.next p3;refine cJ.mk ?_;simp
    all_goals
     refine cK (by first|omega|(simp[dE];omega)|exact⟨λx hx=>by obtain⟨y,_,rfl⟩:=List.mem_map.1 hx;first|rfl|(rw[dE];rfl),by omega⟩|exact⟨rfl,by omega⟩) ?_;simp;refine eB cT (eQ (by omega) [44] s3 v3) (λbh sh hh=>?_);simp;refine hR _ (b++[p]) s3 (by simp only[cO,h1,h2,h3];rfl) (by rw[hh];simp[b7b,dE]) (λh=>?_) (by simp) trivial;have:=((p1.tr p2).tr p3) h;omega
   ·
    intro a s1 m hm sE la hJ v1 hy R;have hm':m=false\/(m=true/\ ¬s1.er=0):=by
     cases m
     .exact .inl rfl
     .rcases hm with h|h
      .cases h
      .exact .inr ⟨rfl,h⟩
    have Q3:=Q2.step (x:=sZ l [44] (f1H aE l) []) hy;rcases hm' with rfl|⟨rfl,h⟩
    all_goals
     first
      |simp[b7b,h]
      |simp[b7b]
     refine rfM Q3 v1 hV.fin λu4 s4 h4 Q4 p4 v4=>?_;simp;exact Q4.ok _ _ (.inr rfl) (by simp[vP,eY])
  .rw[if_neg (by decide)]at Q2;simp;exact Q2.ok _ _ (.inr rfl) (by simp[vP,eY])
end
end
end
section
open Go Go.VM
variable {G:GT}
theorem b9a:VM.Enters prog 96:=.mk func96 rfl
theorem c2C:VM.Enters prog 208:=.mk func208 rfl
section
variable {aE:List Tok->Nat->Nat->kJ Pr} {l:List Tok} (hV:vW G aE l)
include hV
section
variable {x:bE Ty} {ty:RM Ty} {low:Nat} (hM:aM l (low+1) x ty) (ax:aB l 1 x) (oW:∀s,dS l s->(s.er=0->low+1<=s.pl)->eR G 54 [] l s (ty s) a1e) (nty:∀s,bM (ty s).1.pred<=430000000)
include hM ax oW
abbrev e4Y(l:List Tok)(ty:RM Ty)(named:Bool)(out:List Nm×List Ty):RM (List Nm×List Ty):=if named then(do
 let w <- oF aJ l
 bQ l [58]
 let t <- ty
 pure (out.1++[w],out.2++[t])) else(do
 let t <- ty
 pure (out.1,out.2++[t]))
def c6d(ns:List Nm)(ts:List Ty):List (Nat×bD):=[(2,.cells [.d (.int .i64 0),.d (.str []),.d .aD,.d .aD,.d (.int .i64 0),.d (.str []),.d (.int .i64 0),.d .aD,.d .aD]),(3,.cells [.d (.int .i64 6),.d (.str []),.d (.sl (ts.map tyC)),.d (.sl (strs ns)),.d (.int .i64 0),.d (.str []),.d (.int .i64 0),.d .aD,.d .aD])]
theorem c2D(s:dW)(hv:dS l s)(cC:s.er=0->low<=s.pl):eR G 96 [] l s (zE aJ l ty s) a1e:=by
 have hl:=hV.len;obtain⟨s0,rfl⟩:∃s0,s0=s:=⟨_,rfl⟩;have v0:=hv;refine eR.a0k func96 rfl ntmps96 rfl ?_;intro Q Q0;unfold zE at Q0;refine SW.jW (SW.xk ?_);simp;refine SW.jW (SW.xk ?_);simp;refine rfM Q0 v0 hV.fin λu1 s1 h1 Q1 p1 v1=>?_;have l1:s1.er=0->low+1<=s1.pl:=λh=>by have:=p1 h;have:=cC this.1;omega
 simp;refine SW.jW (SW.xk ?_);simp;obtain⟨named,hnm⟩:∃b,(vH aJ l 0 s1&&cF l 1 [58] s1)=b:=⟨_,rfl⟩;have Q1:=Q1.step (show a0n (λs=>vH aJ l 0 s&&cF l 1 [58] s) s1=(named,s1) by rw[<-hnm];rfl);refine SW.d2g [(4,.d (.bool named))] ([(2,.cells [.d (.int .i64 0),.d (.str []),.d .aD,.d .aD,.d (.int .i64 0),.d (.str []),.d (.int .i64 0),.d .aD,.d .aD]),(3,.cells [.d (.int .i64 6),.d (.str []),.d .aD,.d .aD,.d (.int .i64 0),.d (.str []),.d (.int .i64 0),.d .aD,.d .aD])]++rfH l s1) [] (SW.xk ?_) (SW.xk ?_)
 .have hw:(vH aJ l 0 s1=true/\cF l 1 [58] s1=named)\/(vH aJ l 0 s1=false/\named=false):=by
   cases h:vH aJ l 0 s1
   .exact .inr ⟨rfl,by rw[<-hnm,h];rfl⟩
   .exact .inl ⟨rfl,by rw[<-hnm,h];rfl⟩
  simp;refine eB wV (a2R hV s1 v1) (λb x hx=>?_);cases hx;rcases hw with⟨w1,w2⟩|⟨w1,w2⟩
  .rw[w1];simp;have hsg:eR G 92 [.int .i64 1,.str [58]] l s1 (cF l 1 [58] s1,s1) (λb=>.d (.bool b)):=uB (by omega) 1 [58] s1 v1 (by omega);refine eB dB hsg (λb x hx=>?_);cases hx;simp[w2]
  .rw[w1];simp[w2]
 simp;refine b2s hV.fin [44] (e4Y l ty named) (λa=>a.2.length) (λa=>a.1.length<=a.2.length) 5 (λ_=>[]) (λa s=>c6d a.1 a.2++rfH l s) (λ_=>[(45,[.c 3 2]),(9,[.c 3 3])]) (l.length+2) ([],[]) s1 (by omega) v1 rfl (by simp) (by simp[c6d,strs]) ?_ ?_
 .rintro⟨ns,ts⟩ s0 e0 i0 bs la hJ R hR;simp only at la hJ;have v0:dS l s0:=λ_=>i0;have l0:s0.er=0->low+1<=s0.pl:=λ_=>Nat.le_trans (l1 bs.1) bs.2;cases named with
  |false=>
   simp[c6d,e0];refine gC [0] 3 [2] (.op 1 (.call [4,5,6,7] .none) (.call [1,4,5,6,7] .none)) true (by kernel_rfl) (by kernel_rfl) ?_;simp;refine⟨?_,?_⟩
   all_goals
    refine rfZ sC (oW s0 v0 l0) (λt s1 h1=>?_);have p1:RfP l _ s0 s1:=hM.kL ax v0 l0 h1;have v1:=dS.next p1;refine cJ.mk ?_;simp
   all_goals
    refine cK (by first|omega|(simp[bV];omega)|exact⟨λx hx=>by obtain⟨y,_,rfl⟩:=List.mem_map.1 hx;first|rfl|(rw[bV];rfl),by omega⟩|exact⟨rfl,by omega⟩) ?_;simp;have ho:(ty >>=λt=>pure (ns,ts++[t]):RM (List Nm×List Ty)) s0=((ns,ts++[t]),s1):=by
     rw[cO,h1]
     rfl
    refine eB cT (eQ (by omega) [44] s1 v1) (λbh sh hh=>?_);simp;refine hR _ (ns,ts++[t]) s1 ho (by rw[hh];simp[c6d,bV]) (λh=>?_) (by simp) (Nat.le_trans hJ (by simp));have:=(p1) h;omega
  |true=>
   simp[c6d,e0];refine gC [0] 3 [2] (.op 1 (.call [4,5,6,7] .none) (.call [1,4,5,6,7] .none)) true (by kernel_rfl) (by kernel_rfl) ?_;simp;refine⟨?_,?_⟩
   all_goals
    refine rfZ wW (zF (by omega) s0 v0) (λw s1 h1=>?_);have p1:RfP l _ s0 s1:=zM hV.fin v0 h1;have v1:=dS.next p1;refine cJ.mk ?_;simp
   all_goals
    refine cK (by first|omega|(simp[strs];omega)|exact⟨λx hx=>by obtain⟨y,_,rfl⟩:=List.mem_map.1 hx;first|rfl|(rw[strs];rfl),by omega⟩|exact⟨rfl,by omega⟩) ?_;simp;refine rfN [58] v1 hV.fin λu2 s2 h2 p2 v2=>?_;have l2:s2.er=0->low+1<=s2.pl:=λh=>by have:=(RfP.tr p1 p2) h;have:=l0 this.1;omega
    simp;refine gC [0] 3 [2] (.op 1 (.call [4,5,6,7] .none) (.call [1,4,5,6,7] .none)) true (by kernel_rfl) (by kernel_rfl) ?_;simp;refine⟨?_,?_⟩
    all_goals
     refine rfZ sC (oW s2 v2 l2) (λt s3 h3=>?_);have p3:RfP l _ s2 s3:=hM.kL ax v2 l2 h3;have v3:=dS.next p3;refine cJ.mk ?_;simp
    all_goals
     refine cK (by first|omega|(simp[bV];omega)|exact⟨λx hx=>by obtain⟨y,_,rfl⟩:=List.mem_map.1 hx;first|rfl|(rw[bV];rfl),by omega⟩|exact⟨rfl,by omega⟩) ?_;simp;have ho:(oF aJ l >>=λw=>bQ l [58] >>=λ_=>ty >>=λt=>pure (ns++[w],ts++[t]):RM (List Nm×List Ty)) s0=((ns++[w],ts++[t]),s3):=by
      rw[cO,h1,cO,h2,cO,h3]
      rfl
     refine eB cT (eQ (by omega) [44] s3 v3) (λbh sh hh=>?_);simp;refine hR _ (ns++[w],ts++[t]) s3 ho (by rw[hh];simp[c6d,bV,strs]) (λh=>?_) (by simp) (by simpa using hJ);have:=((p1.tr p2).tr p3) h;omega
 .rintro⟨ns,ts⟩ s2 m hm sE la hJ v2 hy R;have hm':m=false\/(m=true/\ ¬s2.er=0):=by
   cases m
   .exact .inl rfl
   .rcases hm with h|h
    .cases h
    .exact .inr ⟨rfl,h⟩
  have Q2:=Q1.step (x:=sZ l [44] (e4Y l ty named) ([],[])) hy;simp only at Q2 la hJ;have l2':s2.er=0->low+1<=s2.pl:=λh=>Nat.le_trans (l1 (sE h).1) (sE h).2;rcases hm' with rfl|⟨rfl,h⟩
  all_goals
   first
    |simp[c6d,h]
    |simp[c6d]
   refine rfM Q2 v2 hV.fin λu3 s3 h3 Q3 p3 v3=>?_;simp;obtain⟨c,hc⟩:∃c,(decide (ts.length=1)&&(!named&& !cF l 0 [45,62] s3))=c:=⟨_,rfl⟩;have Q3:=Q3.step (show a0n (λs=>decide (ts.length=1)&&(!named&& !cF l 0 [45,62] s)) s3=(c,s3) by rw[<-hc];rfl);cases c with
   |true=>simp only[g0W,decide_eq_true_eq,Bool.not_eq_true']at hc;obtain⟨e1,e2,e3⟩:=hc;rw[if_pos rfl]at Q3;obtain⟨t,rfl⟩:∃t,ts=[t]:=List.length_eq_one_iff.1 e1;simp[e2];refine eB dB (gW hV [45,62] s3 v3) (λb x hx=>?_);cases hx;rw[e3];simp[bV];exact Q3.ok _ _ (.inr rfl) (by simp)
   |false=>
    rw[if_neg (by decide)]at Q3;have h4:(ts.length=1/\named=false/\cF l 0 [45,62] s3=true)\/(ts.length=1/\named=true)\/ ¬ts.length=1:=by
     by_cases h1:ts.length=1
     .cases named
      .exact .inl ⟨h1,rfl,by simpa[h1]using hc⟩
      .exact .inr (.inl ⟨h1,rfl⟩)
     .exact .inr (.inr h1)
    rcases h4 with⟨e1,e2,e3⟩|⟨e1,e2⟩|e1
    case' inl=>simp[e1,e2];refine eB dB (gW hV [45,62] s3 v3) (λb x hx=>?_);cases hx;rw[e3];simp
    case' inr.inl=>simp[e1,e2]
    case' inr.inr=>simp[e1]
    all_goals
     refine rfM Q3 v3 hV.fin λu4 s4 h4 Q4 p4 v4=>?_;have l4:s4.er=0->low+1<=s4.pl:=λh=>by have:=p4 h;have:=p3 this.1;have:=l2' this.1;omega
     simp;refine gC [0] 3 [2] (.op 1 (.call [4,5,6,7] .none) (.call [1,4,5,6,7] .none)) true (by kernel_rfl) (by kernel_rfl) ?_;simp;refine⟨?_,?_⟩
     all_goals
      refine rfZ sC (oW s4 v4 l4) (λt s5 h5=>?_);have Q5:=Q4.step h5;refine cJ.mk ?_;simp;refine cK (by first|omega|(simp[bV];omega)|exact⟨λx hx=>by obtain⟨y,_,rfl⟩:=List.mem_map.1 hx;first|rfl|(rw[bV];rfl),by omega⟩|exact⟨rfl,by omega⟩) ?_;simp;exact Q5.ok _ _ (.inr rfl) (by simp[bV,vP,eY])
end
end
end
section
open Go Go.VM
variable {G:GT}
section
variable {aE:List Tok->Nat->Nat->kJ Pr} {l:List Tok} (hV:vW G aE l)
include hV
omit hV in
theorem c0H{l:List Tok}(s:dW)(hs:s.er≠0):eR G 54 [] l s (mO,s) a1e:=by obtain⟨i,e,ln⟩:=s;refine eR.bL func54 rfl ntmps54 rfl ?_;intro Q Q0;simp[hs];exact Q0.ok _ _ (.inr rfl) (by simp[mO,eY])
omit hV in
theorem c9a{s s1:dW}{t:Ty}(h:dC aJ l s=((t,false),s1)):t=mO:=by
 unfold dC at h;split at h
 .cases h
 .split at h
  .cases h;rfl
  .cases h
section
variable {x:bE Ty} {ty:RM Ty} {low:Nat} (hM:aM l (low+1) x ty) (ax:aB l 1 x) (oW:∀s,dS l s->(s.er=0->low+1<=s.pl)->eR G 54 [] l s (ty s) a1e) (nty:∀s,bM (ty s).1.pred<=430000000)
include hM ax oW nty
theorem c9b(s:dW)(hv:dS l s)(cC:s.er=0->low<=s.pl):eR G 54 [] l s (a4O aJ aZ aE l ty s) a1e:=by
 have hl:=hV.len;by_cases he:s.er=0;rotate_left
 .have:=c0H (G:=G) (l:=l) s he;unfold a4O
  rwa[if_neg he]
 have hr:=a8I hV hM ax oW nty s hv cC;have hf:=c2D hV hM ax oW s hv cC;have hp:=b1p hV s hv;obtain⟨s0,rfl⟩:∃s0,s0=s:=⟨_,rfl⟩;have v0:=hv;refine eR.bL func54 rfl ntmps54 rfl ?_;intro Q Q0;unfold a4O at Q0;have Q0:=Q0.tH he;simp[he];refine eB (hH:=by simp[he]) dB (gW hV [123] s0 v0) (λb x hx=>?_);cases hx;cases h1:cF l 0 [123] s0 with
 |true=>have Q0:=Q0.tH h1;simp;refine eB a6V hr (λt s1 h1=>?_);have Q0:=Q0.eq h1;simp;exact Q0.ok _ _ (.inr rfl) (by simp)
 |false=>
 have Q0:=Q0.rF (by rw[h1];decide);simp;refine eB dB (gW hV [40] s0 v0) (λb x hx=>?_);cases hx;cases h2:cF l 0 [40] s0 with
 |true=>have Q0:=Q0.tH h2;simp;refine eB b9a hf (λt s1 h1=>?_);have Q0:=Q0.eq h1;simp;exact Q0.ok _ _ (.inr rfl) (by simp)
 |false=>
 have Q0:=Q0.rF (by rw[h2];decide);simp;have a2H:=b1q (l:=l) s0;refine eB b1o hp (λp s2 h3=>?_);rw[h3]at Q0 a2H;obtain⟨t,ok⟩:=p;simp only at Q0 a2H;have v2:=c0G hV.fin v0 h3;cases ok with
 |false=>have ht:=c9a h3;subst ht;rw[if_neg (by decide)]at Q0;simp[mO];refine eB wU (a1V (by omega) s2 v2) (λu s3 h4=>?_);cases h4;simp;exact Q0.ok _ _ (.inr rfl) (by simp[mO,eY])
 |true=>
  rw[if_pos rfl]at Q0;simp;by_cases h4:t.op=4
  .rw[if_pos h4]at Q0;have l2:s2.er=0->low<=s2.pl:=λh=>by have h5:=c6b v0 h3 h;have:=cC he;omega
   have hd:=c8Z hV hM ax oW nty t.name s2 v2 l2;simp[h4];refine eB c6c hd (λu s3 h5=>?_);have Q0:=Q0.eq h5;simp;exact Q0.ok _ _ (.inr rfl) (by simp)
  .rw[if_neg h4]at Q0;simp[h4];exact Q0.ok _ _ (.inr rfl) (by rw[a2H];simp[vP,eY])
end
theorem b7c:∀(n low:Nat),l.length<n+low->n<=l.length+2->∀s,dS l s->(s.er=0->low<=s.pl)->eR G 54 [] l s (a9z aJ aZ aE l n s) a1e
 |0,low,h,_,s,hv,cC=>by
  have he:s.er≠0:=λh0=>by have:=hv h0;have:=cC h0;omega
  exact c0H s he
 |n+1,low,h,hn,s,hv,cC=>c9b hV (aM.b0J hV.fin hV.tkw hV.kL hV.nz n (low+1) (by omega)) (aB.b0J hV.fin hV.kL.pred n) (λs=>b7c n (low+1) (by omega) (by omega) s) (λs=>by have:=c0F hV n s;have:=hV.len;omega) s hv cC
theorem a7S(s:dW)(hv:dS l s):eR G 54 [] l s (yA aJ aZ aE l s) a1e:=b7c hV (l.length+2) 0 (by omega) (by omega) s hv (λ_=>by omega)
theorem a7T{s s1:dW}{t:Ty}(hv:dS l s)(h:yA aJ aZ aE l s=(t,s1)):RfP l 1 s s1:=(aM.typ (low:=0) hV.fin hV.tkw hV.kL hV.nz).kL (aB.typ hV.fin hV.kL.pred) hv (λ_=>Nat.zero_le _) h
abbrev f1I(aE:List Tok->Nat->Nat->kJ Pr)(l:List Tok)(out:List Ty):RM (List Ty):=do let t <- yA aJ aZ aE l;pure (out++[t])
theorem c6f(s:dW)(hv:dS l s):eR G 208 [] l s (a4P aJ aZ aE l s) (λts=>.d (.sl (ts.map tyC))):=by
 have hl:=hV.len;obtain⟨s0,rfl⟩:∃s0,s0=s:=⟨_,rfl⟩;have v0:=hv;refine eR.bL func208 rfl ntmps208 rfl ?_;intro Q Q0;unfold a4P at Q0;simp;refine rfM Q0 v0 hV.fin λu1 s1 h1 Q1 p1 v1=>?_;simp;refine b2s hV.fin [44] (f1I aE l) (λa=>a.length) (λ_=>True) 4 (λa=>[(3,.d (.sl (a.map tyC)))]) (λ_ s=>rfH l s) (λ_=>[(45,[.t 3])]) (l.length+2) [] s1 (by omega) v1 rfl trivial (by simp) ?_ ?_
 .intro a s0 e0 i0 bs la _ R hR;have v0:dS l s0:=λ_=>i0;simp[e0];refine rfL v0 sC (a7S hV s0 v0) (a7T hV) λt s1 h1 p1 v1=>?_;simp;refine kK (by first|omega|(simp[bV];omega)|exact⟨λx hx=>by obtain⟨y,_,rfl⟩:=List.mem_map.1 hx;first|rfl|(rw[bV];rfl),by omega⟩|exact⟨rfl,by omega⟩) ?_;simp;refine eB cT (eQ (by omega) [44] s1 v1) (λbh sh hh=>?_);simp;refine hR _ (a++[t]) s1 (by simp only[cO,h1];rfl) (by rw[hh];simp[bV]) (λh=>?_) (by simp) trivial;have:=(p1) h;omega
 ·
  intro a s2 m hm sE la hJ v2 hy R;have hm':m=false\/(m=true/\ ¬s2.er=0):=by
   cases m
   .exact .inl rfl
   .rcases hm with h|h
    .cases h
    .exact .inr ⟨rfl,h⟩
  have Q2:=Q1.step (x:=sZ l [44] (f1I aE l) []) hy;rcases hm' with rfl|⟨rfl,h⟩
  all_goals
   first
    |simp[h]
    |simp
   refine rfM Q2 v2 hV.fin λu3 s3 h3 Q3 p3 v3=>?_;simp;exact Q3.ok _ _ (.inr rfl) (by simp)
end
end
end Go.Proofs.YtjpodcmhcenjjaaGreatDoor
section
section
namespace Go.Proofs.YtjpodcmhcenjjaaGreatDoor
def oM(l:List Tok)(i:Nat)(s:List UInt8):Bool:=match l[i]? with
 |some t=>decide (t.kind=4)&&decide (t.text=s)
 |none=>false
def kdB(l:List Tok)(i:Nat)(k:Int):Bool:=match l[i]? with
 |some t=>decide (t.kind=k)
 |none=>false
def wtB(l:List Tok)(i:Nat):Bool:=kdB l i 1||kdB l i 2
def txA(l:List Tok)(i:Nat):List UInt8:=((l[i]?).map (·.text)).getD []
def nmA(l:List Tok)(i:Nat):Int:=((l[i]?).map (·.n)).getD 0
def tw(op:Int)(a b:Pr):Pr:=⟨op,[],0,[a,b]⟩
def qY(l:List Tok):Nat->Nat->List UInt8->List UInt8×Nat
 |0,i,s=>(s,i)
 |f+1,i,s=>
  if oM l i [46]=true then
   if wtB l (i+1)=true then qY l f (i+2) (s++[46]++txA l (i+1))
   else if kdB l (i+1) 3=true then
    if wtB l (i+2)=true then qY l f (i+3) (s++[46]++txA l (i+1)++txA l (i+2)) else qY l f (i+2) (s++[46]++txA l (i+1))
   else(s,i)
  else(s,i)
def opL:Nat->List (Int×List UInt8)
 |1=>[(18,[60,61,62])]
 |3=>[(16,[124,124])]
 |4=>[(15,[38,38])]
 |7=>[(6,[43]),(7,[45])]
 |8=>[(8,[42])]
 |_=>[]
def b1r(l:List Tok)(n k:Nat):Option Int:=((opL k).find? λp=>oM l n p.2).map (·.1)
def cmpL:List (List UInt8×Int×Bool):=[([61],10,false),([33,61],11,false),([60],12,false),([62],12,true),([60,61],13,false),([62,61],13,true)]
def a1Y(l:List Tok)(n:Nat):Option (Int×Bool):=(cmpL.find? λp=>oM l n p.1).map (·.2)
section
variable (kw:List UInt8->Bool) (rd:Nat->Nat->Option (Pr×Nat)) (l:List Tok)
def b7d(i:Nat):Bool:=wtB l i&&(!kw (txA l i)||decide (txA l i=[118])||decide (txA l i=[116,97,103])||decide (txA l i=[118,97,108]))
def vF(i:Nat):Option (List UInt8×Nat):=if b7d kw l i=true then some (qY l l.length (i+1) (txA l i)) else none
def eG(k:Nat):Nat->Pr->Nat->Pr×Nat
 |0,a,n=>(a,n)
 |g+1,a,n=>match b1r l n k with
  |none=>(a,n)
  |some op=>match rd (n+1) (k+1)with
   |none=>(a,n)
   |some (b,m)=>eG k g (tw op a b) m
def mZ:Nat->Nat->List Pr->Option (List Pr×Nat)
 |0,_,_=>none
 |g+1,i,acc=>match rd (i+1) 1 with
  |none=>none
  |some (p,n)=>if oM l n [41]=true then some (acc++[p],n+1) else if oM l n [44]=true then mZ g n (acc++[p]) else none
def tK(i:Nat):Option (List Pr×Nat):=if oM l i [40]=true then mZ rd l l.length i [] else none
def yC(i:Nat):Option (Pr×Nat):=match l[i]? with
 |none=>none
 |some t=>
  if t.kind=3 then some (⟨1,[],t.n,[]⟩,i+1)
  else if t.kind=1/\t.text=[116,114,117,101] then some (⟨2,[],1,[]⟩,i+1)
  else if t.kind=1/\t.text=[102,97,108,115,101] then some (⟨2,[],0,[]⟩,i+1)
  else if oM l i [63]=true then(match vF kw l (i+1)with
   |none=>none
   |some (s,n)=>(tK rd l n).map λq=>(⟨5,s,0,q.1⟩,q.2))
  else if oM l i [40]=true then
   if oM l (i+1) [45]=true/\kdB l (i+2) 3=true/\oM l (i+3) [41]=true then some (⟨1,[],IntKind.i64.wrap (-nmA l (i+2)),[]⟩,i+4)
   else(match rd (i+1) 1 with
    |none=>none
    |some (p,n)=>if oM l n [41]=true then some (p,n+1) else none)
  else(match vF kw l i with
   |none=>none
   |some (s,n)=>(match tK rd l n with
    |some (ks,m)=>some (⟨4,s,0,ks⟩,m)
    |none=>some (⟨3,s,0,[]⟩,n)))
def a8g(i:Nat):Option (Pr×Nat):=match rd i 7 with
 |none=>none
 |some (a,n)=>(match a1Y l n with
  |none=>some (a,n)
  |some (op,ex)=>(match rd (n+1) 7 with
   |none=>some (a,n)
   |some (b,m)=>some (if ex=true then tw op b a else tw op a b,m)))
def b2x(i:Nat):Option (Pr×Nat):=match rd i 3 with
 |none=>none
 |some (a,n)=>if oM l n [61,62]=true then(match rd (n+1) 2 with
  |some (b,m)=>some (tw 17 a b,m)
  |none=>some (a,n)) else some (a,n)
def atG(i k:Nat):Option (Pr×Nat):=
 match k with
 |2=>b2x rd l i
 |5=>if oM l i [33]=true then(rd (i+1) 5).map λq=>(⟨14,[],0,[q.1]⟩,q.2) else rd i 6
 |6=>a8g rd l i
 |9=>if oM l i [45]=true then(rd (i+1) 9).map λq=>(⟨9,[],0,[q.1]⟩,q.2) else rd i 10
 |10=>yC kw rd l i
 |k=>(rd i (k+1)).map λq=>eG rd l k l.length q.1 q.2
end
def gJ(kw:List UInt8->Bool)(l:List Tok):Nat->Nat->Nat->Option (Pr×Nat)
 |0,_,_=>none
 |f+1,i,k=>atG kw (gJ kw l f) l i k
theorem mD{l:List Tok}{i:Nat}{s:List UInt8}(h:oM l i s=true):i<l.length:=by
 unfold oM at h;split at h
 .rename_i t ht;exact(g0X.1 ht).1
 .cases h
theorem b7e{l:List Tok}{i:Nat}{k:Int}(h:kdB l i k=true):i<l.length:=by
 unfold kdB at h;split at h
 .rename_i t ht;exact(g0X.1 ht).1
 .cases h
theorem a3r{l:List Tok}{i:Nat}(h:wtB l i=true):i<l.length:=by unfold wtB at h;rw[g1i]at h;rcases h with h|h<;>exact b7e h
theorem zN{l:List Tok}:∀(f i:Nat) (s:List UInt8),i<=l.length->i<=(qY l f i s).2/\(qY l f i s).2<=l.length
 |0,i,s,h=>⟨g1m _,h⟩
 |f+1,i,s,h=>by
  rw[qY];split
  .rename_i h1;have:=mD h1;split
   .rename_i h2;have:=a3r h2;have:=zN (l:=l) f (i+2) (s++[46]++txA l (i+1)) (by omega);omega
   .split
    .rename_i h3;have:=b7e h3;split
     .rename_i h4;have:=a3r h4;have:=zN (l:=l) f (i+3) (s++[46]++txA l (i+1)++txA l (i+2)) (by omega);omega
     .have:=zN (l:=l) f (i+2) (s++[46]++txA l (i+1)) (by omega);omega
    .exact⟨g1m _,h⟩
  .exact⟨g1m _,h⟩
theorem qZ{kw:List UInt8->Bool}{l:List Tok}{i n:Nat}{s:List UInt8}(h:vF kw l i=some (s,n)):i<n/\n<=l.length:=by
 unfold vF at h;split at h
 .rename_i hb;unfold b7d at hb;rw[g0W]at hb;have h1:=a3r hb.1;have h2:=zN (l:=l) l.length (i+1) (txA l i) (by omega);rw[g1c]at h;rw[h]at h2;simp only at h2;omega
 .cases h
def Adv(l:List Tok)(rd:Nat->Nat->Option (Pr×Nat)):Prop:=∀i k p n,rd i k=some (p,n)->i<n/\n<=l.length
section
variable {kw:List UInt8->Bool} {rd rd':Nat->Nat->Option (Pr×Nat)} {l:List Tok}
theorem a7U(h:Adv l rd)(k:Nat):∀(g:Nat) (a:Pr) (n:Nat),n<=l.length->n<=(eG rd l k g a n).2/\(eG rd l k g a n).2<=l.length
 |0,a,n,hn=>⟨g1m _,hn⟩
 |g+1,a,n,hn=>by
  rw[eG];split
  .exact⟨g1m _,hn⟩
  .split
   .exact⟨g1m _,hn⟩
   .rename_i op _ _ b m hr;have h1:=h _ _ _ _ hr;have h2:=a7U h k g (tw op a b) m h1.2;omega
theorem b1s(h:Adv l rd):∀(g i:Nat) (acc ks:List Pr) (m:Nat),mZ rd l g i acc=some (ks,m)->i<m/\m<=l.length
 |0,_,_,_,_,hr=>by cases hr
 |g+1,i,acc,ks,m,hr=>by
  rw[mZ]at hr;split at hr
  .cases hr
  .rename_i p n hp;have h1:=h _ _ _ _ hp;split at hr
   .rename_i hs;have:=mD hs;cases hr;omega
   .split at hr
    .have:=b1s h g n _ ks m hr;omega
    .cases hr
theorem b1t(h:Adv l rd){i m:Nat}{ks:List Pr}(hr:tK rd l i=some (ks,m)):i<m/\m<=l.length:=by
 unfold tK at hr;split at hr
 .exact b1s h _ _ _ _ _ hr
 .cases hr
theorem d6F(h:Adv l rd){i n:Nat}{p:Pr}(hr:yC kw rd l i=some (p,n)):i<n/\n<=l.length:=by
 unfold yC at hr;split at hr
 .cases hr
 .rename_i t ht;have vJ:=(g0X.1 ht).1;split at hr
  .cases hr;omega
  split at hr
  .cases hr;omega
  split at hr
  .cases hr;omega
  split at hr
  .split at hr
   .cases hr
   .rename_i s m hn;have h1:=qZ hn;rw[g0V]at hr;obtain⟨⟨ks,q⟩,hq,he⟩:=hr;have h2:=b1t h hq;cases he;simp only at *;omega
  split at hr
  .split at hr
   .rename_i hc;have:=mD hc.2.2;cases hr;omega
   .split at hr
    .cases hr
    .rename_i q m hq;have h1:=h _ _ _ _ hq;split at hr
     .rename_i hs;have:=mD hs;cases hr;omega
     .cases hr
  .split at hr
   .cases hr
   .rename_i s m hn;have h1:=qZ hn;split at hr
    .rename_i ks q hq;have h2:=b1t h hq;cases hr;omega
    .cases hr;omega
theorem d6G(h:Adv l rd){i k n:Nat}{p:Pr}(hr:atG kw rd l i k=some (p,n)):i<n/\n<=l.length:=by
 unfold atG at hr;split at hr
 .unfold b2x at hr;split at hr
  .cases hr
  .rename_i a m ha;have h1:=h _ _ _ _ ha;split at hr
   .split at hr
    .rename_i b q hb;have h2:=h _ _ _ _ hb;cases hr;omega
    .cases hr;exact h1
   .cases hr;exact h1
 .split at hr
  .rw[g0V]at hr;obtain⟨⟨a,m⟩,ha,he⟩:=hr;have h1:=h _ _ _ _ ha;cases he;simp only;omega
  .exact h _ _ _ _ hr
 .unfold a8g at hr;split at hr
  .cases hr
  .rename_i a m ha;have h1:=h _ _ _ _ ha;split at hr
   .cases hr;exact h1
   .split at hr
    .cases hr;exact h1
    .rename_i b q hb;have h2:=h _ _ _ _ hb;cases hr;omega
 .split at hr
  .rw[g0V]at hr;obtain⟨⟨a,m⟩,ha,he⟩:=hr;have h1:=h _ _ _ _ ha;cases he;simp only;omega
  .exact h _ _ _ _ hr
 .exact d6F h hr
 .rw[g0V]at hr;obtain⟨⟨a,m⟩,ha,he⟩:=hr;have h1:=h _ _ _ _ ha;have h2:=a7U (k:=k) h l.length a m h1.2;have h3:(eG rd l k l.length a m).2=n:=by rw[he]
  omega
end
theorem kQ(kw:List UInt8->Bool)(l:List Tok):∀f,Adv l (gJ kw l f)
 |0=>λ_ _ _ _ h=>by cases h
 |f+1=>λ_ _ _ _ h=>d6G (kQ kw l f) h
end Go.Proofs.YtjpodcmhcenjjaaGreatDoor
end
section
namespace Go.Proofs.YtjpodcmhcenjjaaGreatDoor
theorem b2y{l:List Tok}{n k:Nat}{op:Int}(h:b1r l n k=some op):n<l.length/\1<=k/\k<=8:=by unfold b1r at h;rw[g0V]at h;obtain⟨p,hp,_⟩:=h;have hs:oM l n p.2=true:=List.find?_some (p:=λp:Int×List UInt8=>oM l n p.2) hp;refine⟨mD hs,?_⟩;have hm:=List.mem_of_find?_eq_some hp;unfold opL at hm;split at hm<;>first|omega|cases hm
theorem b7f{l:List Tok}{n:Nat}{q:Int×Bool}(h:a1Y l n=some q):n<l.length:=by unfold a1Y at h;rw[g0V]at h;obtain⟨p,hp,_⟩:=h;have hs:oM l n p.1=true:=List.find?_some (p:=λp:List UInt8×Int×Bool=>oM l n p.1) hp;exact mD hs
section
variable {kw:List UInt8->Bool} {rd rd':Nat->Nat->Option (Pr×Nat)} {l:List Tok}
theorem b3O(hA:Adv l rd){i k:Nat}(h:∀i' k',1<=k'->k'<=10->i<i'->i'<=l.length->rd i' k'=rd' i' k'):∀(g:Nat) (a:Pr) (n:Nat),i<=n->eG rd l k g a n=eG rd' l k g a n
 |0,_,_,_=>rfl
 |g+1,a,n,hn=>by
  rw[eG,eG];cases ho:b1r l n k with
  |none=>rfl
  |some op=>
   obtain⟨h1,h2,h3⟩:=b2y ho;rw[<-h (n+1) (k+1) (by omega) (by omega) (by omega) (by omega)];cases hr:rd (n+1) (k+1)with
   |none=>rfl
   |some q=>obtain⟨b,m⟩:=q;have:=hA _ _ _ _ hr;exact b3O hA h g _ m (by omega)
theorem b7g(hA:Adv l rd){i:Nat}(h:∀i' k',1<=k'->k'<=10->i<i'->i'<=l.length->rd i' k'=rd' i' k'):∀(g n:Nat) (acc:List Pr),i<=n->n<l.length->mZ rd l g n acc=mZ rd' l g n acc
 |0,_,_,_,_=>rfl
 |g+1,n,acc,hn,hl=>by
  rw[mZ,mZ, <- h (n+1) 1 (by omega) (by omega) (by omega) (by omega)];cases hr:rd (n+1) 1 with
  |none=>rfl
  |some q=>
   obtain⟨p,m⟩:=q;have:=hA _ _ _ _ hr;simp only;split
   .rfl
   .split
    .rename_i hs;exact b7g hA h g m _ (by omega) (mD hs)
    .rfl
theorem b7h(hA:Adv l rd){i n:Nat}(h:∀i' k',1<=k'->k'<=10->i<i'->i'<=l.length->rd i' k'=rd' i' k')(hn:i<=n):tK rd l n=tK rd' l n:=by
 unfold tK;split
 .rename_i hs;exact b7g hA h _ _ _ hn (mD hs)
 .rfl
theorem c9c(hA:Adv l rd){i:Nat}(h:∀i' k',1<=k'->k'<=10->i<i'->i'<=l.length->rd i' k'=rd' i' k'):yC kw rd l i=yC kw rd' l i:=by
 unfold yC;cases ht:l[i]? with
 |none=>rfl
 |some t=>
  simp only;split
  .rfl
  split
  .rfl
  split
  .rfl
  split
  .cases hn:vF kw l (i+1)with
   |none=>rfl
   |some q=>have:=qZ (s:=q.1) (n:=q.2) hn;simp only;rw[b7h hA h (by omega)]
  split
  .rename_i hs;have:=mD hs;split
   .rfl
   .rw[h (i+1) 1 (by omega) (by omega) (by omega) (by omega)]
  .cases hn:vF kw l i with
   |none=>rfl
   |some q=>have:=qZ (s:=q.1) (n:=q.2) hn;simp only;rw[b7h hA h (by omega)]
theorem d6H(hA:Adv l rd){i k:Nat}(hk:1<=k/\k<=10)(h:∀i' k',1<=k'->k'<=10->i<i'->i'<=l.length->rd i' k'=rd' i' k')(h0:∀k',k<k'->k'<=10->rd i k'=rd' i k'):atG kw rd l i k=atG kw rd' l i k:=by
 unfold atG;split
 .unfold b2x;rw[<-h0 3 (by omega) (by omega)];cases hr:rd i 3 with
  |none=>rfl
  |some q=>
   obtain⟨a,n⟩:=q;have:=hA _ _ _ _ hr;simp only;split
   .rename_i hs;have:=mD hs;rw[h (n+1) 2 (by omega) (by omega) (by omega) (by omega)]
   .rfl
 .split
  .rename_i hs;have:=mD hs;rw[h (i+1) 5 (by omega) (by omega) (by omega) (by omega)]
  .exact h0 6 (by omega) (by omega)
 .unfold a8g;rw[<-h0 7 (by omega) (by omega)];cases hr:rd i 7 with
  |none=>rfl
  |some q=>
   obtain⟨a,n⟩:=q;have:=hA _ _ _ _ hr;simp only;cases hc:a1Y l n with
   |none=>rfl
   |some c=>have:=b7f hc;simp only;rw[h (n+1) 7 (by omega) (by omega) (by omega) (by omega)]
 .split
  .rename_i hs;have:=mD hs;rw[h (i+1) 9 (by omega) (by omega) (by omega) (by omega)]
  .exact h0 10 (by omega) (by omega)
 .exact c9c hA h
 .rename_i yJ hx5 hx6 hx9 f5v;have eU:k≠10:=λe=>f5v e;rw[<-h0 (k+1) (by omega) (by omega)];cases hr:rd i (k+1)with
  |none=>rfl
  |some q=>obtain⟨a,n⟩:=q;have:=hA _ _ _ _ hr;simp only[Option.map_some];rw[b3O hA h l.length a n (by omega)]
end
def mu(L i k:Nat):Nat:=(L+1-i)*12+(11-k)
theorem tL{L i i' k k':Nat}(hi:i<i')(hl:i'<=L)(hk:1<=k')(hk2:k<=10):mu L i' k'<mu L i k:=by unfold mu;omega
theorem b7i{L i k k':Nat}(h:k<k')(hk:k'<=10):mu L i k'<mu L i k:=by unfold mu;omega
theorem b7j(kw:List UInt8->Bool)(l:List Tok):∀(f f' i k:Nat),1<=k->k<=10->i<=l.length->mu l.length i k<=f->mu l.length i k<=f'->gJ kw l f i k=gJ kw l f' i k
 |0,_,i,k,_,h2,hi,h,_=>by unfold mu at h;omega
 |_+1,0,i,k,_,h2,hi,_,h=>by unfold mu at h;omega
 |f+1,f'+1,i,k,h1,h2,hi,h,h'=>by
  rw[gJ,gJ];exact d6H (kQ kw l f) ⟨h1,h2⟩ (λi' k' q1 q2 q3 q4=>by
   have:=tL (k:=k) q3 q4 q1 h2;exact b7j kw l f f' i' k' q1 q2 q4 (by omega) (by omega)) (λk' q1 q2=>by
   have:=b7i (L:=l.length) (i:=i) q1 q2;exact b7j kw l f f' i k' (by omega) q2 hi (by omega) (by omega))
theorem d0O(kw:List UInt8->Bool)(l:List Tok):∀(f f' i:Nat) (p:Pr) (m:Nat),i<=l.length->mu l.length i 2<=f->gJ kw l f i 2=some (p,m)->oM l m [61,62]=true->mu l.length (m+1) 2<=f'->gJ kw l f' (m+1) 2=none
 |0,_,_,_,_,_,_,h,_,_=>by cases h
 |f+1,f',i,p,m,hi,hf,h,hs,hf'=>by
  have h0:b2x (gJ kw l f) l i=some (p,m):=h;unfold b2x at h0;split at h0
  .cases h0
  .rename_i a n ha;have hA:=kQ kw l f _ _ _ _ ha;split at h0
   .rename_i hs1;have hl:=mD hs1;have hm1:=tL (L:=l.length) (i:=i) (i':=n+1) (k:=2) (k':=2) (by omega) (by omega) (by omega) (by omega);split at h0
    .rename_i b q hb;cases h0;exact d0O kw l f f' (n+1) b m (by omega) (by omega) hb hs hf'
    .rename_i hb;cases h0;rw[<-hb];exact b7j kw l f' f (m+1) 2 (by omega) (by omega) (by omega) hf' (by omega)
   .rename_i hs1;cases h0;exact absurd hs hs1
end Go.Proofs.YtjpodcmhcenjjaaGreatDoor
end
section
namespace Go.Proofs.YtjpodcmhcenjjaaGreatDoor
def frN(op:Int):Option (Nat×Nat×Nat×List UInt8):=
 if op=18 then some (1,1,2,[60,61,62]) else if op=17 then some (2,3,2,[61,62]) else if op=16 then some (3,3,4,[124,124]) else if op=15 then some (4,4,5,[38,38])
 else if op=10 then some (6,7,7,[61]) else if op=11 then some (6,7,7,[33,61]) else if op=12 then some (6,7,7,[60]) else if op=13 then some (6,7,7,[60,61])
 else if op=6 then some (7,7,8,[43]) else if op=7 then some (7,7,8,[45]) else if op=8 then some (8,8,9,[42]) else none
structure Out (α:Type) where
 sg:List UInt8->List α
 nm:List UInt8->List α
 nu:Nat->List α
 bo:Bool->List α
 sp:List α
def f1J(ln:Int)(s:List UInt8):Tok:=⟨4,s,0,ln⟩
end Go.Proofs.YtjpodcmhcenjjaaGreatDoor
end
section
namespace Go.Proofs.YtjpodcmhcenjjaaGreatDoor
def RR(kw:List UInt8->Bool)(l:List Tok)(i k:Nat):Option (Pr×Nat):=gJ kw l (mu l.length i k) i k
end Go.Proofs.YtjpodcmhcenjjaaGreatDoor
end
section
namespace Go.Proofs.YtjpodcmhcenjjaaGreatDoor
inductive WfP (N:List UInt8->Prop):Pr->Prop
 |int (n:Int): -1000000000000<=n->n<=1000000000000->WfP N ⟨1,[],n,[]⟩
 |boo (n:Int):n=0\/n=1->WfP N ⟨2,[],n,[]⟩
 |var (s:List UInt8):N s->WfP N ⟨3,s,0,[]⟩
 |app (s:List UInt8) (ks:List Pr):N s->ks≠[]->(∀k∈ks,WfP N k)->WfP N ⟨4,s,0,ks⟩
 |hole (s:List UInt8) (ks:List Pr):N s->ks≠[]->(∀k∈ks,WfP N k)->WfP N ⟨5,s,0,ks⟩
 |neg (a:Pr):WfP N a->WfP N ⟨9,[],0,[a]⟩
 |not (a:Pr):WfP N a->WfP N ⟨14,[],0,[a]⟩
 |two (op:Int) (lv l r:Nat) (s:List UInt8) (a b:Pr):frN op=some (lv,l,r,s)->WfP N a->WfP N b->WfP N ⟨op,[],0,[a,b]⟩
end Go.Proofs.YtjpodcmhcenjjaaGreatDoor
end
section
namespace Go.Proofs.YtjpodcmhcenjjaaGreatDoor
section
variable {num:List UInt8->Int×Bool} {ln:Int}
end
end Go.Proofs.YtjpodcmhcenjjaaGreatDoor
end
end
namespace Go.Proofs.YtjpodcmhcenjjaaGreatDoor
section
def a9I(t:Tok):Int:=if t.text=[40] then 1 else if t.text=[41] then -1 else 0
def a2p(l:List Tok)(i:Nat):Int:=match l[i]? with
 |some t=>a9I t
 |none=>0
def a8i(l:List Tok):Nat->Nat->Int
 |_,0=>0
 |i,m+1=>a2p l i+a8i l (i+1) m
def par(l:List Tok)(i j:Nat):Int:=a8i l i (j-i)
section
variable {l:List Tok}
theorem yD(i:Nat):par l i i=0:=by
 unfold par;rw[Nat.sub_self]
 rfl
theorem kR{i j:Nat}(h:i<j):par l i j=a2p l i+par l (i+1) j:=by
 unfold par;rw[show j-i=(j-(i+1))+1 by omega]
 rfl
theorem c6h:∀(m i n:Nat),a8i l i (m+n)=a8i l i m+a8i l (i+m) n
 |0,i,n=>by simp[a8i]
 |m+1,i,n=>by rw[show m+1+n=(m+n)+1 by omega,a8i,a8i,c6h m (i+1) n,show i+1+m=i+(m+1) by omega];omega
theorem a1g{i j k:Nat}(h1:i<=j)(h2:j<=k):par l i k=par l i j+par l j k:=by unfold par;have:=c6h (l:=l) (j-i) i (k-j);rw[show j-i+(k-j)=k-i by omega,show i+(j-i)=j by omega]at this;exact this
theorem yE{i:Nat}:par l i (i+1)=a2p l i:=by rw[kR (by omega),yD];omega
def WfD(l:List Tok):Prop:=∀(i:Nat) (t:Tok),l[i]? =some t->t.kind≠4->a9I t=0
theorem wJ{i:Nat}{s:List UInt8}(h:oM l i s=true):a2p l i=a9I ⟨4,s,0,0⟩:=by
 unfold oM at h;unfold a2p;cases ht:l[i]? with
 |none=>rw[ht]at h;cases h
 |some t=>rw[ht]at h;simp only[g0W,decide_eq_true_eq]at h;simp only[a9I,h.2]
theorem c2E(hW:WfD l){i:Nat}{k:Int}(hk:k≠4)(h:kdB l i k=true):a2p l i=0:=by
 unfold kdB at h;unfold a2p;cases ht:l[i]? with
 |none=>rfl
 |some t=>rw[ht]at h;simp only[decide_eq_true_eq]at h;exact hW i t ht (by omega)
theorem c9d(hW:WfD l){i:Nat}(h:wtB l i=true):a2p l i=0:=by
 unfold wtB at h;rw[g1i]at h;rcases h with h|h
 .exact c2E hW (by decide) h
 .exact c2E hW (by decide) h
theorem a7V(hW:WfD l):∀(g i:Nat) (s:List UInt8),i<=l.length->par l i (qY l g i s).2=0
 |0,i,s,_=>yD i
 |g+1,i,s,hi=>by
  rw[qY];split
  .rename_i h1;have d1:a2p l i=0:=wJ h1;have l1:=mD h1;split
   .rename_i h2;have d2:=c9d hW h2;have l2:=a3r h2;have h3:=a7V hW g (i+2) (s++[46]++txA l (i+1)) (by omega);have h4:=zN (l:=l) g (i+2) (s++[46]++txA l (i+1)) (by omega);rw[kR (by omega),kR (by omega),d1,d2,h3]
    rfl
   .split
    .rename_i h3;have d3:=c2E hW (by decide) h3;have l3:=b7e h3;split
     .rename_i h4;have d4:=c9d hW h4;have l4:=a3r h4;have h5:=a7V hW g (i+3) (s++[46]++txA l (i+1)++txA l (i+2)) (by omega);have h6:=zN (l:=l) g (i+3) (s++[46]++txA l (i+1)++txA l (i+2)) (by omega);rw[kR (by omega),kR (by omega),kR (by omega),d1,d3,d4,h5]
      rfl
     .have h5:=a7V hW g (i+2) (s++[46]++txA l (i+1)) (by omega);have h6:=zN (l:=l) g (i+2) (s++[46]++txA l (i+1)) (by omega);rw[kR (by omega),kR (by omega),d1,d3,h5]
      rfl
    .exact yD i
  .exact yD i
variable {kw:List UInt8->Bool} {rd:Nat->Nat->Option (Pr×Nat)}
theorem b7k(hW:WfD l){i n:Nat}{s:List UInt8}(h:vF kw l i=some (s,n)):par l i n=0:=by
 have ha:=qZ h;unfold vF at h;split at h
 .rename_i hb;unfold b7d at hb;rw[g0W]at hb;have d1:=c9d hW hb.1;have l1:=a3r hb.1;have h2:=a7V hW l.length (i+1) (txA l i) (by omega);rw[g1c]at h;rw[h]at h2;simp only at h2;rw[kR ha.1,d1,h2]
  rfl
 .cases h
def RdB(l:List Tok)(rd:Nat->Nat->Option (Pr×Nat)):Prop:=∀i k p n,rd i k=some (p,n)->par l i n=0
variable (hW:WfD l) (hA:Adv l rd) (hB:RdB l rd)
include hW hA hB
theorem e8a{n k:Nat}{op:Int}(ho:b1r l n k=some op):a2p l n=0:=by unfold b1r at ho;rw[g0V]at ho;obtain⟨p,hp,_⟩:=ho;have hs:oM l n p.2=true:=List.find?_some (p:=λp:Int×List UInt8=>oM l n p.2) hp;rw[wJ hs];have hm:=List.mem_of_find?_eq_some hp;unfold opL at hm;split at hm<;>simp at hm<;>(try rcases hm with rfl|rfl)<;>(try subst hm)<;>rfl
theorem e2r{n:Nat}{q:Int×Bool}(hc:a1Y l n=some q):a2p l n=0:=by unfold a1Y at hc;rw[g0V]at hc;obtain⟨p,hp,_⟩:=hc;have hs:oM l n p.1=true:=List.find?_some (p:=λp:List UInt8×Int×Bool=>oM l n p.1) hp;rw[wJ hs];have hm:=List.mem_of_find?_eq_some hp;simp[cmpL]at hm;rcases hm with rfl|rfl|rfl|rfl|rfl|rfl<;>rfl
theorem c0I(k:Nat):∀(g:Nat) (a:Pr) (n:Nat),n<=l.length->par l n (eG rd l k g a n).2=0
 |0,a,n,hn=>yD n
 |g+1,a,n,hn=>by
  rw[eG];split
  .exact yD n
  .rename_i op ho;split
   .exact yD n
   .rename_i b m hr;have h1:=hA _ _ _ _ hr;have h2:=a7U hA k g (tw op a b) m h1.2;rw[kR (by omega),e8a hW hA hB ho,a1g (j:=m) (by omega) (by omega),hB _ _ _ _ hr,c0I k g (tw op a b) m h1.2]
    rfl
theorem c6i:∀(g i:Nat) (acc ks:List Pr) (m:Nat),mZ rd l g i acc=some (ks,m)->par l (i+1) m= -1
 |0,_,_,_,_,hr=>by cases hr
 |g+1,i,acc,ks,m,hr=>by
  rw[mZ]at hr;split at hr
  .cases hr
  .rename_i p n hp;have h1:=hA _ _ _ _ hp;split at hr
   .rename_i hs;cases hr;rw[a1g (j:=n) (by omega) (by omega),hB _ _ _ _ hp,yE,wJ hs]
    rfl
   .split at hr
    .rename_i hs;have h2:=b1s hA g n _ ks m hr;have h3:=c6i g n _ ks m hr;rw[a1g (j:=n) (by omega) (by omega),hB _ _ _ _ hp,kR h2.1,wJ hs,h3]
     rfl
    .cases hr
theorem c6j{i m:Nat}{ks:List Pr}(hr:tK rd l i=some (ks,m)):par l i m=0:=by
 unfold tK at hr;split at hr
 .rename_i hs;have h2:=b1s hA _ _ _ _ _ hr;rw[kR h2.1,wJ hs,c6i hW hA hB _ _ _ _ _ hr]
  rfl
 .cases hr
theorem d6I{i n:Nat}{p:Pr}(hr:yC kw rd l i=some (p,n)):par l i n=0:=by
 unfold yC at hr;split at hr
 .cases hr
 .rename_i t ht;have d0:t.kind≠4->a2p l i=0:=λhk=>by unfold a2p;rw[ht];exact hW i t ht hk
  split at hr
  .cases hr;rw[yE];exact d0 (by omega)
  split at hr
  .cases hr;rw[yE];exact d0 (by omega)
  split at hr
  .cases hr;rw[yE];exact d0 (by omega)
  split at hr
  .rename_i hq;split at hr
   .cases hr
   .rename_i s m hn;have h1:=qZ hn;rw[g0V]at hr;obtain⟨⟨ks,q⟩,hq2,he⟩:=hr;have h2:=b1t hA hq2;cases he;simp only at *;rw[kR (by omega),wJ hq,a1g (j:=m) (by omega) (by omega),b7k hW hn,c6j hW hA hB hq2]
    rfl
  split at hr
  .rename_i hp;split at hr
   .rename_i hc;cases hr;rw[kR (by omega),kR (by omega),kR (by omega),yE,wJ hp,wJ hc.1,c2E hW (by decide) hc.2.1,wJ hc.2.2]
    rfl
   .split at hr
    .cases hr
    .rename_i q m hq;have h1:=hA _ _ _ _ hq;split at hr
     .rename_i hs;cases hr;rw[kR (by omega),a1g (j:=m) (by omega) (by omega),yE,wJ hp,hB _ _ _ _ hq,wJ hs]
      rfl
     .cases hr
  .split at hr
   .cases hr
   .rename_i s m hn;have h1:=qZ hn;split at hr
    .rename_i ks q hq;have h2:=b1t hA hq;cases hr;rw[a1g (j:=m) (by omega) (by omega),b7k hW hn,c6j hW hA hB hq]
     rfl
    .cases hr;exact b7k hW hn
theorem e8b{i k n:Nat}{p:Pr}(hr:atG kw rd l i k=some (p,n)):par l i n=0:=by
 have ha:=d6G hA hr;unfold atG at hr;split at hr
 .unfold b2x at hr;split at hr
  .cases hr
  .rename_i a m hm;have h1:=hA _ _ _ _ hm;split at hr
   .rename_i hs;split at hr
    .rename_i b q hb;have h2:=hA _ _ _ _ hb;cases hr;rw[a1g (j:=m) (by omega) (by omega),hB _ _ _ _ hm,kR (by omega),wJ hs,hB _ _ _ _ hb]
     rfl
    .cases hr;exact hB _ _ _ _ hm
   .cases hr;exact hB _ _ _ _ hm
 .split at hr
  .rename_i hs;rw[g0V]at hr;obtain⟨⟨a,m⟩,hm,he⟩:=hr;cases he;simp only at *;rw[kR (by omega),wJ hs,hB _ _ _ _ hm]
   rfl
  .exact hB _ _ _ _ hr
 .unfold a8g at hr;split at hr
  .cases hr
  .rename_i a m hm;have h1:=hA _ _ _ _ hm;split at hr
   .cases hr;exact hB _ _ _ _ hm
   .rename_i op ex hc;split at hr
    .cases hr;exact hB _ _ _ _ hm
    .rename_i b q hb;have h2:=hA _ _ _ _ hb;cases hr;rw[a1g (j:=m) (by omega) (by omega),hB _ _ _ _ hm,kR (by omega),e2r hW hA hB hc,hB _ _ _ _ hb]
     rfl
 .split at hr
  .rename_i hs;rw[g0V]at hr;obtain⟨⟨a,m⟩,hm,he⟩:=hr;cases he;simp only at *;rw[kR (by omega),wJ hs,hB _ _ _ _ hm]
   rfl
  .exact hB _ _ _ _ hr
 .exact d6I hW hA hB hr
 .rw[g0V]at hr;obtain⟨⟨a,m⟩,hm,he⟩:=hr;have h1:=hA _ _ _ _ hm;have h2:=a7U (k:=k) hA l.length a m h1.2;have h3:=c0I hW hA hB k l.length a m h1.2;have h4:(eG rd l k l.length a m).2=n:=by rw[he]
  rw[h4]at h2 h3;rw[a1g (j:=m) (by omega) (by omega),hB _ _ _ _ hm,h3]
  rfl
end
theorem d0Q(kw:List UInt8->Bool){l:List Tok}(hW:WfD l):∀f,RdB l (gJ kw l f)
 |0=>λ_ _ _ _ h=>by cases h
 |f+1=>λ_ _ _ _ h=>e8b hW (kQ kw l f) (d0Q kw hW f) h
theorem c0J(l:List Tok)(k:Nat):∀(m i:Nat),a8i (l.drop k) i m=a8i l (k+i) m
 |0,i=>rfl
 |m+1,i=>by rw[a8i,a8i,c0J l k m (i+1)];unfold a2p;rw[g1p,show k+(i+1)=k+i+1 by omega]
theorem c0K(l:List Tok)(e:Nat):∀(m i:Nat),i+m<=e->a8i (l.take e) i m=a8i l i m
 |0,i,_=>rfl
 |m+1,i,h=>by rw[a8i,a8i,c0K l e m (i+1) (by omega)];unfold a2p;rw[List.getElem?_take,if_pos (by omega)]
theorem d6J(l:List Tok)(e k n:Nat)(h:k+n<=e):par ((l.take e).drop k) 0 n=par l k (k+n):=by unfold par;rw[c0J,Nat.sub_zero,Nat.add_zero,c0K l e n k h,show k+n-k=n by omega]
theorem WfD.part{l:List Tok}(h:WfD l)(e k:Nat):WfD ((l.take e).drop k):=λi t ht=>by
 rw[g1p,List.getElem?_take]at ht;split at ht
 .exact h _ t ht
 .cases ht
end
end Go.Proofs.YtjpodcmhcenjjaaGreatDoor
section
section
namespace Go.Proofs.YtjpodcmhcenjjaaGreatDoor
open Go Go.VM
variable {G:GT}
theorem rg1:List.range 1=[0]:=rfl
theorem rg2:List.range 2=[0,1]:=rfl
theorem rg3:List.range 3=[0,1,2]:=rfl
abbrev rdD(l:List Tok):D:=.agg [.sl (l.map bJ)]
theorem a9J{l:List Tok}{i:Nat}(h:i<l.length)(s:List UInt8):oM l i s=(decide (l[i].kind=4)&&decide (l[i].text=s)):=by simp[oM,h]
theorem c2F{l:List Tok}{i:Nat}(h: ¬i<l.length)(s:List UInt8):oM l i s=false:=by unfold oM;rw[List.getElem?_eq_none (by omega)]
theorem a9K{l:List Tok}{i:Nat}(h:i<l.length)(k:Int):kdB l i k=decide (l[i].kind=k):=by simp[kdB,h]
theorem c9e{l:List Tok}{i:Nat}(h: ¬i<l.length)(k:Int):kdB l i k=false:=by unfold kdB;rw[List.getElem?_eq_none (by omega)]
theorem a6W{l:List Tok}{i:Nat}(h:i<l.length):txA l i=l[i].text:=by simp[txA,h]
theorem d6K{l:List Tok}{i:Nat}(h:i<l.length):nmA l i=l[i].n:=by simp[nmA,h]
theorem bX:VM.Enters prog 209:=.mk func209 rfl
theorem rC(l:List Tok)(i:Nat)(s:List UInt8)(hl:l.length<=900000000):CS prog G 209 [rdD l,.int .i64 i,.str s] (.d (.bool (oM l i s))) none:=by
 refine CS.aX func209 rfl ntmps209 rfl ?_;by_cases aF:i<l.length
 .rw[a9J aF];obtain⟨t,ht⟩:∃t,l[i]=t:=⟨_,rfl⟩;rw[ht];simp[aF,ht,bJ];by_cases h1:t.kind=4
  .by_cases h2:t.text=s<;>simp[h1,h2,aF,ht,bJ]
  .simp[h1,aF,ht,bJ]
 .rw[c2F aF];simp[aF]
theorem uX:VM.Enters prog 210:=.mk func210 rfl
theorem wA(op:Int)(a b:Pr):CS prog G 210 [.int .i64 op,.agg (prD a),.agg (prD b)] (.d (.agg (prD (tw op a b)))) none:=by refine CS.aX func210 rfl ntmps210 rfl ?_;simp[tw,rg2,dE]
def a8j(k:Nat):List (List D):=(opL k).map λp=>[.int .i64 p.1]
theorem yF:VM.Enters prog 234:=.mk func234 rfl
theorem a5N(k:Nat):CS prog G 234 [.int .i64 k] (.d (.sl (a8j k))) none:=by
 refine CS.aX func234 rfl ntmps234 rfl ?_
 match k with
 |0=>simp[a8j,opL,rg1,rg2]
 |1=>simp[a8j,opL,rg1,rg2]
 |2=>simp[a8j,opL,rg1,rg2]
 |3=>simp[a8j,opL,rg1,rg2]
 |4=>simp[a8j,opL,rg1,rg2]
 |5=>simp[a8j,opL,rg1,rg2]
 |6=>simp[a8j,opL,rg1,rg2]
 |7=>simp[a8j,opL,rg1,rg2]
 |8=>simp[a8j,opL,rg1,rg2]
 |k+9=>
  have h1: ¬(k:Int)+9=1:=by omega
  have h3: ¬(k:Int)+9=3:=by omega
  have h4: ¬(k:Int)+9=4:=by omega
  have h7: ¬(k:Int)+9=7:=by omega
  have h8: ¬(k:Int)+9=8:=by omega
  simp[a8j,opL,h1,h3,h4,h7,h8]
def frm(op:Int):Option (Int×Int×Int×List UInt8):=
 if op=18 then some (1,1,2,[60,61,62]) else if op=17 then some (2,3,2,[61,62]) else if op=16 then some (3,3,4,[124,124]) else if op=15 then some (4,4,5,[38,38])
 else if op=10 then some (6,7,7,[61]) else if op=11 then some (6,7,7,[33,61]) else if op=12 then some (6,7,7,[60]) else if op=13 then some (6,7,7,[60,61])
 else if op=6 then some (7,7,8,[43]) else if op=7 then some (7,7,8,[45]) else if op=8 then some (8,8,9,[42]) else none
def b1u:Option (Int×Int×Int×List UInt8)->DV
 |some (a,b,c,s)=>.cI [.agg [.int .i64 a,.int .i64 b,.int .i64 c,.str s],.bool true]
 |none=>.cI [.agg [.int .i64 0,.int .i64 0,.int .i64 0,.str []],.bool false]
theorem a9L:VM.Enters prog 236:=.mk func236 rfl
theorem b1v(op:Int):CS prog G 236 [.int .i64 op] (b1u (frm op)) none:=by
 refine CS.aX func236 rfl ntmps236 rfl ?_;simp;by_cases h18:op=18
 .simp[h18,frm,b1u]
 by_cases h17:op=17
 .simp[h17,frm,b1u]
 by_cases h16:op=16
 .simp[h16,frm,b1u]
 by_cases h15:op=15
 .simp[h15,frm,b1u]
 by_cases h10:op=10
 .simp[h10,frm,b1u]
 by_cases h11:op=11
 .simp[h11,frm,b1u]
 by_cases h12:op=12
 .simp[h12,frm,b1u]
 by_cases h13:op=13
 .simp[h13,frm,b1u]
 by_cases h6:op=6
 .simp[h6,frm,b1u]
 by_cases h7:op=7
 .simp[h7,frm,b1u]
 by_cases h8:op=8
 .simp[h8,frm,b1u]
 simp[h18,h17,h16,h15,h10,h11,h12,h13,h6,h7,h8,frm,b1u]
end Go.Proofs.YtjpodcmhcenjjaaGreatDoor
end
section
namespace Go.Proofs.YtjpodcmhcenjjaaGreatDoor
open Go Go.VM
variable {G:GT}
theorem e2s(k:Nat):∀p∈opL k,∃a b c,frm p.1=some (a,b,c,p.2):=by unfold opL;split<;>simp[frm]
abbrev d6L(l:List Tok)(n:Nat):List (Nat×bD):=[(100000,.cells [.d (.sl (l.map bJ))]),(100001,.cells [.d (.int .i64 n)])]
theorem c9f:VM.Enters prog 235:=.mk func235 rfl
theorem d2O(l:List Tok)(n:Nat)(hl:l.length<=900000000){op a b c:Int}{s:List UInt8}(h:frm op=some (a,b,c,s)):CH prog G 235 ⟨[.d (.int .i64 op),.ptr 100000 0,.ptr 100001 0],d6L l n,[]⟩ ⟨[.d (.bool (oM l n s))],d6L l n,[]⟩:=by have h1:=b1v (G:=G) op;rw[h,b1u]at h1;have h2:=rC (G:=G) l n s hl;refine CH.aX func235 rfl ntmps235 rfl (by simp) ?_;simp;refine aC.mk a9L h1 ?_;simp;refine aC.mk bX h2 ?_;simp
def ixO(l:List Tok)(n:Nat):List (Int×List UInt8)->Nat->Int
 |[],_=> -1
 |p::r,i=>if oM l n p.2=true then(i:Int) else ixO l n r (i+1)
theorem d6M{l:List Tok}{n:Nat}{o:List (Int×List UInt8)}{i:Nat}(h:i<o.length):ixO l n (o.drop i) i=if oM l n o[i].2=true then(i:Int) else ixO l n (o.drop (i+1)) (i+1):=by rw[g1j h,ixO]
theorem d6N:VM.Enters prog 233:=.mk func233 rfl
theorem e2t(l:List Tok)(n:Nat)(o:List (Int×List UInt8))(ho:∀p∈o,∃a b c,frm p.1=some (a,b,c,p.2))(hl:l.length<=900000000)(hol:o.length<=10):
  CH prog G 233 ⟨[.d (.sl (o.map λp=>[.int .i64 p.1])),.clo 235 [.ptr 100000 0,.ptr 100001 0]],d6L l n,[]⟩ ⟨[.d (.int .i64 (ixO l n o 0))],d6L l n,[]⟩:=by
 obtain⟨r,hr⟩:∃r,ixO l n o 0=r:=⟨_,rfl⟩;rw[hr];refine CH.aX func233 rfl ntmps233 rfl (by simp) ?_;simp;refine SW.eX (ι:={i:Nat//i<=o.length/\ixO l n (o.drop i) i=r}) (λi=>[(8,.d (.int .i64 i.1))]) (λ_=>d6L l n) (λ_=>[]) (λi=>o.length-i.1) ⟨0,by simpa using hr⟩ (by simp) ?_;rintro⟨i,hi,hR⟩
 try simp only at hi hR
 by_cases aF:i<o.length
 .have hw:=bA (show i<9223372036854775807 by omega);obtain⟨q,hq⟩:∃q,o[i]=q:=⟨_,rfl⟩;obtain⟨a,b,c,hf⟩:=ho o[i] (List.getElem_mem aF);rw[d6M aF]at hR;rw[hq]at hf hR;have hc:=d2O (G:=G) l n hl hf;simp[aF,hq];refine jB.ro c9f hc [(100000,100000),(100001,100001)] (by simp) (by simp) (by simp) (by simp) (by simp) ?_;cases hs:oM l n q.2
  .rw[if_neg (by simp[hs])]at hR;simp;exact bC.mk ⟨i+1,aF,hR⟩ (by simp[hw]) (by simp;omega)
  .rw[if_pos hs]at hR;simp[hR]
 .have:i=o.length:=by omega
  subst this;rw[List.drop_length,ixO]at hR;simp[<-hR]
end Go.Proofs.YtjpodcmhcenjjaaGreatDoor
end
section
namespace Go.Proofs.YtjpodcmhcenjjaaGreatDoor
open Go Go.VM
variable {G:GT}
theorem d6O:VM.Enters prog 265:=.mk func265 rfl
theorem e2u(xs:List (List UInt8))(sep:List UInt8)(hl:xs.length<=140737488355328)(hj:(Lib.join xs sep).length<=140737488355328):CS prog G 265 [.sl (xs.map λs=>[.str s]),.str sep] (.d (.str (Lib.join xs sep))) none:=
 e1A strings_Join_none strings_Join hl hj
theorem c0L:∀xs:List (List UInt8),Lib.join xs []=xs.flatten
 |[]=>rfl
 |x::r=>by rw[Lib.join_cons,Lib.joinTail];simp
theorem oN:VM.Enters prog 248:=.mk func248 rfl
theorem a1Z(xs:List (List UInt8))(hl:xs.length<=1000000)(hj:xs.flatten.length<=900000000):CS prog G 248 [.sl (xs.map λs=>[.str s])] (.d (.str xs.flatten)) none:=by have h:=e2u (G:=G) xs [] (by omega) (by rw[c0L];omega);rw[c0L]at h;refine CS.aX func248 rfl ntmps248 rfl ?_;simp;refine aC.mk d6O h ?_;simp
theorem e2v(a b:List UInt8)(h:(a++b).length<=900000000):CS prog G 248 [.sl [[.str a],[.str b]]] (.d (.str (a++b))) none:=by have:=a1Z (G:=G) [a,b] (by simp) (by simpa using h);simpa using this
theorem e2w(a b c:List UInt8)(h:(a++(b++c)).length<=900000000):CS prog G 248 [.sl [[.str a],[.str b],[.str c]]] (.d (.str (a++(b++c)))) none:=by have:=a1Z (G:=G) [a,b,c] (by simp) (by simpa using h);simpa using this
def txS:List Tok->Nat
 |[]=>0
 |t::r=>t.text.length+1+txS r
theorem c2G:∀a b:List Tok,txS (a++b)=txS a+txS b
 |[],b=>by simp[txS]
 |t::a,b=>by rw[List.cons_append,txS,txS,c2G a b];omega
theorem a6X{l:List Tok}{i:Nat}(h:i<l.length):txS (l.take (i+1))=txS (l.take i)+(l[i].text.length+1):=by rw[g1l h,c2G];simp[txS]
theorem e8c(l:List Tok)(i:Nat):txS (l.take i)<=txS l:=by have:=c2G (l.take i) (l.drop i);rw[List.take_append_drop]at this;omega
def zO(l:List Tok):Prop:=l.length<=50000/\txS l<=900000
theorem a9M{l:List Tok}{j:Nat}{s:List UInt8}(hs:s.length<=txS (l.take j))(h1:j+1<l.length):(s++([46]++(l[j+1]).text)).length<=txS (l.take (j+2)):=by have q1:=a6X (l:=l) (i:=j) (by omega);have q2:txS (l.take (j+2))=txS (l.take (j+1))+((l[j+1]).text.length+1):=a6X h1;simp only[List.length_append,List.length_cons,List.length_nil];omega
theorem b3P{l:List Tok}{j:Nat}{s:List UInt8}(hs:s.length<=txS (l.take (j+2)))(h1:j+2<l.length):(s++(l[j+2]).text).length<=txS (l.take (j+3)):=by have q2:txS (l.take (j+3))=txS (l.take (j+2))+((l[j+2]).text.length+1):=a6X h1;simp only[List.length_append];omega
theorem zO.le{l:List Tok}(h:zO l){i n:Nat}(hn:n<=txS (l.take i)):n<=900000000:=by have h1:=e8c l i;have h2:=h.2;omega
theorem c2H{l:List Tok}{i:Nat}(h:i<l.length):wtB l i=(decide (l[i].kind=1)||decide (l[i].kind=2)):=by simp[wtB,a9K h]
theorem c2I{l:List Tok}{i:Nat}(h: ¬i<l.length):wtB l i=false:=by simp[wtB,c9e h]
theorem b7l{l:List Tok}{f i:Nat}{s:List UInt8}(h:oM l i [46]=false):qY l f i s=(s,i):=by
 cases f with
 |zero=>rfl
 |succ f=>rw[qY,if_neg (by simp[h])]
def b2z:Option (List UInt8×Nat)->DV
 |some (s,n)=>.cI [.str s,.int .i64 n]
 |none=>.cI [.str [],.int .i64 (-1)]
theorem a1h(o):pK (b2z o)=true:=by
 cases o with
 |none=>rfl
 |some q=>obtain⟨a,b⟩:=q;rfl
theorem mE{P:Program}{x y:Code}{st:St}{Q:Exit->St->Prop}(st':St)(h1:SW P G x st λe s=>match e with
  | .normal=>wI s st'
  |e=>Q e s)(h2:SW P G y st' Q):SW P G (.seq x y) st Q:=SW.jW λbase R μ a w hr=>
 wp_mono (h1 base R μ a w hr) λe a1 w1 ⟨s,R1,μ1,q1,q2,q3⟩=>by
  cases e with
  |normal=>exact⟨s,R1,μ1,λbase R μ a w hr=>h2 base R μ a w (hr.a1H q1),q2,q3⟩
  |_=>exact⟨s,R1,μ1,q1,q2,q3⟩
theorem a7W:VM.Enters prog 230:=.mk func230 rfl
theorem c6l(hG:G 1=some eK)(l:List Tok)(i:Nat)(hl:zO l)(hi:i<=l.length):CS prog G 230 [rdD l,.int .i64 i] (b2z (vF aJ l i)) none:=by
 have hll:=hl.1;obtain⟨o,ho⟩:∃o,vF aJ l i=o:=⟨_,rfl⟩;rw[ho];refine CS.a4G func230 rfl ntmps230 rfl ?_;refine SW.jW (SW.vk ?_);simp;by_cases aF:i<l.length;rotate_left
 .have hge:l.length<=i:=Nat.le_of_not_lt aF;have:o=none:=by rw[<-ho];simp[vF,b7d,c2I aF]
  subst this;refine SW.jW (SW.vk ?_);simp[hge,b2z]
 have hge: ¬l.length<=i:=by omega
 unfold vF b7d at ho;rw[c2H aF,a6W aF]at ho;obtain⟨t,ht⟩:∃t,l[i]=t:=⟨_,rfl⟩;rw[ht]at ho;by_cases hw:t.kind=1\/t.kind=2;rotate_left
 .have k1: ¬t.kind=1:=λh=>hw (.inl h);have k2: ¬t.kind=2:=λh=>hw (.inr h);have:o=none:=by rw[<-ho];simp[k1,k2]
  subst this;refine SW.jW (SW.vk ?_);simp[hge,aF,ht,bJ];simp[k1,k2,aF,ht,bJ,b2z]
 have hwd:(decide (t.kind=1)||decide (t.kind=2))=true:=by simpa using hw
 rw[hwd,Bool.true_and]at ho;refine mE ⟨[.d (rdD l),.d (.int .i64 i),.ptr 2 0,.undef,.d (.str []),.d (.int .i64 0)]++List.replicate 125 .undef,[(2,.cells [.d (.sl (l.map bJ))])],[]⟩ (SW.vk ?_) ?_
 .simp[hge,aF,ht,bJ];by_cases k1:t.kind=1
  .simp[k1,aF,ht,bJ,List.replicate]
  .have k2:=hw.resolve_left k1;simp[k1,k2,aF,ht,bJ,List.replicate]
 refine SW.jW (SW.vk ?_);simp[aF,ht,bJ,List.replicate];cases oI:(!aJ t.text||decide (t.text=[118])||decide (t.text=[116,97,103])||decide (t.text=[118,97,108]))
 .have:o=none:=by rw[<-ho];simp[oI]
  subst this;simp at oI;obtain⟨⟨⟨q1,q2⟩,q3⟩,q4⟩:=oI;refine SW.jW (SW.vk ?_);simp;refine aC.mk zS (a0U hG t.text) ?_;simp[q1,q2,q3,q4,b2z]
 rw[if_pos oI]at ho;refine mE ⟨[.d (rdD l),.d (.int .i64 i),.ptr 2 0,.undef,.d (.str []),.d (.int .i64 0),.d (.str t.text)]++List.replicate 124 .undef,[(2,.cells [.d (.sl (l.map bJ))])],[]⟩ (SW.vk ?_) ?_
 .simp;refine aC.mk zS (a0U hG t.text) ?_;by_cases q1:aJ t.text=true
  .by_cases q2:t.text=[118]
   .rw[q2]at q1;simp[q1,q2,List.replicate]
   .by_cases q3:t.text=[116,97,103]
    .rw[q3]at q1;simp[q1,q3,List.replicate]
    .have q4:t.text=[118,97,108]:=by simpa[q1,q2,q3]using oI
     rw[q4]at q1;simp[q1,q4,List.replicate]
  .simp[q1,List.replicate]
 obtain⟨rs,rn,hrr⟩:∃rs rn,qY l l.length (i+1) t.text=(rs,rn):=⟨_,_,rfl⟩;rw[hrr]at ho;subst ho;have hw1:=bA (show i<9223372036854775807 by omega);refine SW.vk ?_;simp[hw1,List.replicate];refine SW.eX (ι:={p:Nat×List UInt8//p.1<=l.length/\p.2.length<=txS (l.take p.1)/\∃f,l.length<=f+p.1/\qY l f p.1 p.2=(rs,rn)}) (λp=>[(1,.d (.int .i64 p.1.1)),(6,.d (.str p.1.2))]) (λ_=>[(2,.cells [.d (.sl (l.map bJ))])]) (λ_=>[]) (λp=>l.length-p.1.1) ⟨(i+1,t.text),aF,by have:=a6X aF;rw[ht]at this;simp only;omega,l.length,by omega,hrr⟩ (by simp) ?_;rintro⟨⟨j,s⟩,hj,hs,f,hf,hp⟩;simp only at hj hs hf hp;have hsg:=rC (G:=G) l j [46] (by omega);have sL:=bA (show j<9223372036854775807 by omega);have tY:IntKind.i64.wrap ((j:Int)+2)=((j+2:Nat):Int):=by rw[wrap64 (by omega)];simp
 have hj3:IntKind.i64.wrap ((j:Int)+2+1)=((j+3:Nat):Int):=by rw[wrap64 (by omega)];omega
 simp;refine aC.mk bX hsg ?_;cases hd:oM l j [46]with
 |false=>rw[b7l hd]at hp;cases hp;simp[b2z]
 |true=>
  have hjl:=mD hd;obtain⟨f,rfl⟩:∃g,f=g+1:=⟨f-1,by omega⟩;rw[qY,if_pos hd]at hp;simp[sL];by_cases uE:j+1<l.length;rotate_left
  .rw[if_neg (by rw[c2I uE];simp),if_neg (by rw[c9e uE];simp)]at hp;cases hp;simp[uE,b2z]
  obtain⟨u,hu⟩:∃u,l[j+1]=u:=⟨_,rfl⟩;have hgr:=a9M hs uE;rw[hu]at hgr;rw[c2H uE,a9K uE,a6W uE,hu]at hp;have d6P:=e2w (G:=G) s [46] u.text (hl.le hgr);simp[sL,uE,hu,bJ];by_cases k1:u.kind=1
  .simp[k1]at hp;simp[k1,sL,uE,hu,bJ,rg3];refine aC.mk oN d6P ?_;simp[tY,k1];exact bC.mk ⟨(j+2,s++([46]++u.text)),uE,hgr,f,by omega,by simpa using hp⟩ (by simp[tY]) (by simp;omega)
  by_cases k2:u.kind=2
  .simp[k2]at hp;simp[k1,k2,sL,uE,hu,bJ,rg3];refine aC.mk oN d6P ?_;simp[tY,k2];exact bC.mk ⟨(j+2,s++([46]++u.text)),uE,hgr,f,by omega,by simpa using hp⟩ (by simp[tY]) (by simp;omega)
  by_cases k3:u.kind=3;rotate_left
  .simp[k1,k2,k3]at hp;obtain⟨rfl,rfl⟩:=hp;simp[k1,k2,k3,b2z]
  simp[k3]at hp;simp[k1,k2,k3,sL,uE,hu,bJ,rg3];refine aC.mk oN d6P ?_;simp[tY,k3];by_cases a5A:j+2<l.length;rotate_left
  .rw[if_neg (by rw[c2I a5A];simp)]at hp;have b1w: ¬(j:Int)+2<(l.length:Int):=by omega
   simp[b1w];exact bC.mk ⟨(j+2,s++([46]++u.text)),uE,hgr,f,by omega,by simpa using hp⟩ (by simp[tY]) (by simp;omega)
  have b1w:(j:Int)+2<(l.length:Int):=by omega
  have hnn:(0:Int)<=(j:Int)+2:=by omega
  have htn:((j:Int)+2).toNat=j+2:=by omega
  obtain⟨v,hv⟩:∃v,l[j+2]=v:=⟨_,rfl⟩;have c6m:=b3P hgr a5A;rw[hv]at c6m;rw[c2H a5A,a6W a5A,hv]at hp;have c9g:=e2v (G:=G) (s++([46]++u.text)) v.text (hl.le c6m);simp at c9g;simp[b1w,a5A,hnn,htn,hv,bJ];by_cases m1:v.kind=1
  .simp[m1]at hp;simp[m1,a5A,b1w,hnn,htn,hv,bJ,rg2];refine aC.mk oN c9g ?_;simp[hj3];exact bC.mk ⟨(j+3,s++([46]++u.text)++v.text),a5A,c6m,f,by omega,by simpa using hp⟩ (by simp[hj3]) (by simp;omega)
  by_cases m2:v.kind=2
  .simp[m2]at hp;simp[m1,m2,a5A,b1w,hnn,htn,hv,bJ,rg2];refine aC.mk oN c9g ?_;simp[hj3];exact bC.mk ⟨(j+3,s++([46]++u.text)++v.text),a5A,c6m,f,by omega,by simpa using hp⟩ (by simp[hj3]) (by simp;omega)
  simp[m1,m2]at hp;simp[m1,m2,a5A,b1w,hnn,htn,hv,bJ];exact bC.mk ⟨(j+2,s++([46]++u.text)),uE,hgr,f,by omega,by simpa using hp⟩ (by simp[tY]) (by simp;omega)
end Go.Proofs.YtjpodcmhcenjjaaGreatDoor
end
section
namespace Go.Proofs.YtjpodcmhcenjjaaGreatDoor
open Go Go.VM
variable {G:GT}
def eM:Option (Pr×Nat)->Pr->DV
 |some (p,n),_=>.cI [.agg (prD p),.int .i64 n]
 |none,j=>.cI [.agg (prD j),.int .i64 (-1)]
def b9b:Option (List Pr×Nat)->DV
 |some (ks,n)=>.cI [.sl (ks.map rW),.int .i64 n]
 |none=>.cI [.sl [],.int .i64 (-1)]
theorem cE(o)(j):pK (eM o j)=true:=by
 cases o with
 |none=>rfl
 |some q=>obtain⟨a,b⟩:=q;rfl
theorem a4Y(o):pK (b9b o)=true:=by
 cases o with
 |none=>rfl
 |some q=>obtain⟨a,b⟩:=q;rfl
theorem c6n(l:List Pr):∀x:List D,x∈l.map rW->x.length=4:=λx hx=>by
 obtain⟨p,_,rfl⟩:=List.mem_map.1 hx;rw[dE]
 rfl
section
variable {l:List Tok} {f:Nat}
def AtC(G:GT)(l:List Tok)(f:Nat):Prop:=∀i k,1<=k->k<=9->k≠6->i<=l.length->mu l.length i k<=f->∃j,CS prog G 198 [rdD l,.int .i64 i,.int .i64 k] (eM (gJ aJ l f i k) j) none
def CmC(G:GT)(l:List Tok)(f:Nat):Prop:=∀i,i<=l.length->mu l.length i 6<=f->∃j,CS prog G 211 [rdD l,.int .i64 i] (eM (gJ aJ l f i 6) j) none
def PrC(G:GT)(l:List Tok)(f:Nat):Prop:=∀i,i<=l.length->mu l.length i 10<=f->∃j,CS prog G 212 [rdD l,.int .i64 i] (eM (gJ aJ l f i 10) j) none
theorem yG:VM.Enters prog 198:=.mk func198 rfl
theorem b2A:VM.Enters prog 231:=.mk func231 rfl
theorem d6Q{L n:Nat}(h:n<L):mu L (n+1) 1=(L-n)*12+10:=by unfold mu;omega
theorem c6o(hl:zO l)(hA:AtC G l f)(n:Nat)(hf:(l.length-n)*12+10<=f):CS prog G 231 [rdD l,.int .i64 n] (b9b (tK (gJ aJ l f) l n)) none:=by
 have hll:=hl.1;obtain⟨o,ho⟩:∃o,tK (gJ aJ l f) l n=o:=⟨_,rfl⟩;rw[ho];unfold tK at ho;have hsg:=rC (G:=G) l n [40] (by omega);refine CS.aX func231 rfl ntmps231 rfl ?_;simp;refine aC.mk bX hsg ?_;cases hd:oM l n [40]with
 |false=>rw[if_neg (by simp[hd])]at ho;subst ho;simp[b9b]
 |true=>
  have hnl:=mD hd;rw[if_pos hd]at ho;simp;refine SW.eX (ι:={p:Nat×List Pr//p.1<l.length/\(l.length-p.1)*12+10<=f/\p.2.length<=p.1/\∃g,l.length<=g+p.1/\mZ (gJ aJ l f) l g p.1 p.2=o}) (λp=>[(1,.d (.int .i64 p.1.1)),(6,.d (.sl (p.1.2.map rW)))]) (λ_=>[(2,.cells [.d (.sl (l.map bJ))])]) (λ_=>[(43,[.t 6])]) (λp=>l.length-p.1.1) ⟨(n,[]),hnl,hf,by simp,l.length,by omega,ho⟩ (by simp) ?_;rintro⟨⟨i,acc⟩,hi,hf,hal,g,hg,hR⟩;simp only at hi hf hal hg hR;have hi1:=bA (show i<9223372036854775807 by omega);obtain⟨g,rfl⟩:∃h,g=h+1:=⟨g-1,by omega⟩;rw[mZ]at hR;obtain⟨jk,hat⟩:=hA (i+1) 1 (by omega) (by omega) (by omega) hi (by rw[d6Q hi];exact hf);simp[hi1];refine aC.mk (hkl:=cE _ _) yG hat ?_;cases hr:gJ aJ l f (i+1) 1 with
  |none=>rw[hr]at hR;simp only at hR;subst hR;simp[eM,b9b]
  |some q=>
   obtain⟨p,m⟩:=q;have uV:=kQ aJ l f _ _ _ _ hr;rw[hr]at hR;simp only at hR;have hm1:=bA (show m<9223372036854775807 by omega);have hs1:=rC (G:=G) l m [41] (by omega);have hs2:=rC (G:=G) l m [44] (by omega);have f1L:=c6n acc;have hap:acc.map rW++[prD p]=(acc++[p]).map rW:=by simp[dE]
   simp[eM];have jZ:(acc.length+1)*57<=140737488355328:=by omega
   simp[jZ];refine aC.mk bX hs1 ?_;cases hd1:oM l m [41]with
   |true=>rw[if_pos hd1]at hR;subst hR;simp[hm1,b9b,dE]
   |false=>
    rw[if_neg (by simp[hd1])]at hR;simp;refine aC.mk bX hs2 ?_;cases hd2:oM l m [44]with
    |false=>rw[if_neg (by simp[hd2])]at hR;subst hR;simp[b9b]
    |true=>
     rw[if_pos hd2]at hR;have hml:=mD hd2;have hmu:(l.length-m)*12+10<=f:=by omega
     have hac:(acc++[p]).length<=m:=by simp;omega
     simp;exact bC.mk ⟨(m,acc++[p]),hml,hmu,hac,g,by omega,hR⟩ (by simp[dE]) (by simp;omega)
theorem a3W:VM.Enters prog 213:=.mk func213 rfl
theorem e2y{l:List Tok}{n k:Nat}:(match b1r l n k with
  |none=>ixO l n (opL k) 0= -1
  |some op=>∃(q:Nat) (h:q<(opL k).length),ixO l n (opL k) 0=q/\(opL k)[q].1=op):=by
 have gen:∀(o:List (Int×List UInt8)) (i:Nat),(match (o.find? λp=>oM l n p.2).map (·.1)with
   |none=>ixO l n o i= -1
   |some op=>∃(q:Nat) (h:q<o.length),ixO l n o i=((q+i:Nat):Int)/\o[q].1=op):=by
  intro o
  induction o with
  |nil=>intro i;rfl
  |cons p r ih=>
   intro i;rw[List.find?_cons,ixO];cases hs:oM l n p.2 with
   |true=>exact⟨0,by simp,by simp,rfl⟩
   |false=>
    have:=ih (i+1);simp only[Bool.false_eq_true,if_false];cases ho:(r.find? λp=>oM l n p.2).map (·.1)with
    |none=>rw[ho]at this;exact this
    |some op=>rw[ho]at this;obtain⟨q,hq,h1,h2⟩:=this;exact⟨q+1,by simpa using hq,by rw[h1];congr 1;omega,by simpa using h2⟩
 have:=gen (opL k) 0;unfold b1r;cases ho:((opL k).find? λp=>oM l n p.2).map (·.1)with
 |none=>rw[ho]at this;exact this
 |some op=>rw[ho]at this;simpa using this
theorem e2z(k:Nat):(opL k).length<=2:=by unfold opL;split<;>simp
def c2K(p:Pr)(z:Int):St:=⟨List.replicate 6 .undef++[.ptr 6 0,.d (.int .i64 0),.ptr 8 0,.ptr 9 0]++List.replicate 41 .undef,[(6,.cells [.d (.int .i64 0),.d (.str []),.d (.int .i64 0),.d .aD]),(8,.cells ((prD p).map .d)),(9,.cells [.d (.int .i64 z)])],[]⟩
theorem a6Y(hl:zO l)(hA:AtC G l f)(i k:Nat)(hk:1<=k/\k<=8/\k≠5)(hi:i<=l.length)(hf:mu l.length i k<=f+1):
  ∃j,CS prog G 213 [rdD l,.int .i64 i,.int .i64 k] (eM ((gJ aJ l f i (k+1)).map λq=>eG (gJ aJ l f) l k l.length q.1 q.2) j) none:=by
 have hll:=hl.1;obtain⟨ja,hat⟩:=hA i (k+1) (by omega) (by omega) (by omega) hi (by unfold mu at hf|-;omega);refine⟨ja,?_⟩;obtain⟨o,ho⟩:∃o,((gJ aJ l f i (k+1)).map λq=>eG (gJ aJ l f) l k l.length q.1 q.2)=o:=⟨_,rfl⟩;rw[ho];have f1N:=a5N (G:=G) k;have hk1:=bA (show k<9223372036854775807 by omega);refine CS.a4G func213 rfl ntmps213 rfl ?_;refine SW.jW (SW.vk ?_);simp;refine SW.jW (SW.vk ?_);simp[hk1];refine aC.mk (hkl:=cE _ _) yG hat ?_;cases hr:gJ aJ l f i (k+1)with
 |none=>
  rw[hr]at ho;subst ho;simp[eM];refine mE (c2K ja (-1)) (SW.vk ?_) ?_;rotate_left
  .skip
   refine SW.jW (c5u (by kernel_rfl) (by kernel_rfl) rfl rfl rfl rfl ⟨?_,?_⟩)
   .simp[c2K,List.replicate];refine SW.vk ?_;simp
   .simp[c2K,List.replicate];refine SW.vk ?_;simp
  simp;refine SW.eX (ι:={x:Unit//True}) (λ_=>[]) (λ_=>[(3,.cells [.d (.sl (l.map bJ))]),(6,.cells [.d (.int .i64 0),.d (.str []),.d (.int .i64 0),.d .aD]),(8,.cells ((prD ja).map .d)),(9,.cells [.d (.int .i64 (-1))])]) (λ_=>[]) (λ_=>0) ⟨(),trivial⟩ (by simp) ?_;rintro⟨_,_⟩;simp[c2K,List.replicate]
 |some q=>
  obtain⟨a,n⟩:=q;have uV:=kQ aJ l f _ _ _ _ hr;rw[hr]at ho;simp only[Option.map_some]at ho;obtain⟨⟨rp,rn⟩,kF⟩:∃r,eG (gJ aJ l f) l k l.length a n=r:=⟨_,rfl⟩;rw[kF]at ho;subst ho;simp[eM];refine mE (c2K rp rn) (SW.vk ?_) ?_;rotate_left
  .skip
   refine SW.jW (c5u (by kernel_rfl) (by kernel_rfl) rfl rfl rfl rfl ⟨?_,?_⟩)
   .simp[c2K,List.replicate];refine SW.vk ?_;simp
   .simp[c2K,List.replicate];refine SW.vk ?_;simp
  simp;refine SW.eX (ι:={p:Pr×Nat//p.2<=l.length/\i<p.2/\∃g,l.length<=g+p.2/\eG (gJ aJ l f) l k g p.1 p.2=(rp,rn)}) (λ_=>[]) (λp=>[(3,.cells [.d (.sl (l.map bJ))]),(6,.cells [.d (.int .i64 0),.d (.str []),.d (.int .i64 0),.d .aD]),(8,.cells ((prD p.1.1).map .d)),(9,.cells [.d (.int .i64 p.1.2)])]) (λ_=>[]) (λp=>l.length-p.1.2) ⟨(a,n),uV.2,uV.1,l.length,by omega,kF⟩ (by simp) ?_;rintro⟨⟨a,n⟩,hn,xE,g,hg,hR⟩;simp only at hn xE hg hR;have hcx:=e2t (G:=G) l n (opL k) (e2s k) (by omega) (by have:=e2z k;omega);have hix:=e2y (l:=l) (n:=n) (k:=k);have hn1:=bA (show n<9223372036854775807 by omega)
  change CH _ _ _ ⟨[.d (.sl (a8j k)),_],_,_⟩ _ at hcx
  simp;refine aC.mk yF f1N ?_;simp;refine jB.ro d6N hcx [(100000,3),(100001,9)] (by simp) (by simp) (by simp) (by simp) (by simp) ?_;cases oV:b1r l n k with
  |none=>
   rw[oV]at hix;simp only at hix;have:(a,n)=(rp,rn):=by
    rw[<-hR];cases g with
    |zero=>rfl
    |succ g=>rw[eG,oV]
   cases this;simp[hix,c2K,List.replicate]
  |some op=>
   rw[oV]at hix;obtain⟨q,hq,hx,hqo⟩:=hix;obtain⟨hnl,_,_⟩:=b2y oV;obtain⟨g,rfl⟩:∃h,g=h+1:=⟨g-1,by omega⟩;rw[eG,oV]at hR;obtain⟨jb,c2L⟩:=hA (n+1) (k+1) (by omega) (by omega) (by omega) hnl (by have:=tL (L:=l.length) (i:=i) (i':=n+1) (k:=k) (k':=k+1) (by omega) hnl (by omega) (by omega);omega)
   have hql:q<(a8j k).length:=by simpa[a8j]using hq
   have hqe:(a8j k)[q]=[.int .i64 op]:=by simp[a8j,hqo]
   simp[hx,hn1,hk1];refine aC.mk (hkl:=cE _ _) yG c2L ?_;cases hr2:gJ aJ l f (n+1) (k+1)with
   |none=>rw[hr2]at hR;cases hR;simp[eM,c2K,List.replicate]
   |some z=>obtain⟨b,m⟩:=z;have b3Q:=kQ aJ l f _ _ _ _ hr2;rw[hr2]at hR;simp only at hR;have htw:=wA (G:=G) op a b;simp[eM];refine⟨kV.mk (by kernel_rfl),?_⟩;refine aC.mk yF f1N ?_;simp[hql,hqe];refine aC.mk uX htw ?_;simp;exact bC.mk ⟨(tw op a b,m),b3Q.2,by simp only;omega,g,by simp only;omega,hR⟩ (by simp) (by simp;omega)
end
end Go.Proofs.YtjpodcmhcenjjaaGreatDoor
end
end
section
section
namespace Go.Proofs.YtjpodcmhcenjjaaGreatDoor
open Go Go.VM
variable {G:GT}
section
variable {l:List Tok} {f:Nat}
theorem c2M:VM.Enters prog 211:=.mk func211 rfl
def b7m(s:List UInt8):Option (Int×Bool):=(cmpL.find? λp=>decide (s=p.1)).map (·.2)
theorem d6R{n:Nat}(h:n<l.length):a1Y l n=if l[n].kind=4 then b7m l[n].text else none:=by
 unfold a1Y b7m;by_cases hk:l[n].kind=4
 .simp[a9J h,hk]
 .simp[a9J h,hk]
theorem d6S{n:Nat}(h: ¬n<l.length):a1Y l n=none:=by unfold a1Y;simp[c2F h]
def c6p(l:List Tok)(a:Pr)(n:Nat)(op:Int)(ex:Bool):St:=⟨[.undef,.undef,.ptr 2 0,.undef,.ptr 4 0,.d (.int .i64 0),.ptr 6 0,.d (.int .i64 n),.d (.int .i64 op),.d (.bool ex)]++List.replicate 79 .undef,[(2,.cells [.d (.sl (l.map bJ))]),(4,.cells [.d (.int .i64 0),.d (.str []),.d (.int .i64 0),.d .aD]),(6,.cells ((prD a).map .d))],[]⟩
theorem c6q(hl:zO l)(hA:AtC G l f)(i:Nat)(hi:i<=l.length)(hf:mu l.length i 6<=f+1):
  ∃j,CS prog G 211 [rdD l,.int .i64 i] (eM (a8g (gJ aJ l f) l i) j) none:=by
 have hll:=hl.1;obtain⟨ja,hat⟩:=hA i 7 (by omega) (by omega) (by omega) hi (by unfold mu at hf|-;omega);refine⟨ja,?_⟩;obtain⟨o,ho⟩:∃o,a8g (gJ aJ l f) l i=o:=⟨_,rfl⟩;rw[ho];unfold a8g at ho;refine CS.a4G func211 rfl ntmps211 rfl ?_;refine SW.jW (SW.vk ?_);simp;refine SW.jW (SW.vk ?_);simp;refine aC.mk (hkl:=cE _ _) yG hat ?_;cases hr:gJ aJ l f i 7 with
 |none=>rw[hr]at ho;subst ho;simp[eM];refine SW.vk ?_;simp
 |some q=>
  obtain⟨a,n⟩:=q;have uV:=kQ aJ l f _ _ _ _ hr;rw[hr]at ho;simp only at ho;simp[eM];by_cases aF:n<l.length;rotate_left
  .rw[d6S aF]at ho;subst ho;have hge:l.length<=n:=Nat.le_of_not_lt aF;refine SW.vk ?_;simp[hge,eM]
  have hge: ¬l.length<=n:=by omega
  rw[d6R aF]at ho;obtain⟨t,ht⟩:∃t,l[n]=t:=⟨_,rfl⟩;rw[ht]at ho;by_cases hk:t.kind=4;rotate_left
  .rw[if_neg hk]at ho;subst ho;refine SW.vk ?_;simp[hge,aF,ht,bJ];simp[hk,eM]
  rw[if_pos hk]at ho;refine SW.jW (SW.vk ?_);simp[hge,aF,ht,bJ];simp[hk];refine SW.jW (SW.vk ?_);simp;cases hc:b7m t.text with
  |none=>rw[hc]at ho;simp only at ho;subst ho;simp[b7m,cmpL]at hc;obtain⟨e1,e2,e3,e4,e5,e6⟩:=hc;refine SW.jW (SW.vk ?_);simp[aF,ht,bJ,e1,e2,e3,e4,e5,e6,eM]
  |some c=>
   obtain⟨op,ex⟩:=c;rw[hc]at ho;simp only at ho;refine mE (c6p l a n op ex) (SW.vk ?_) ?_
   .simp[aF,ht,bJ];by_cases e1:t.text=[61]
    .obtain⟨rfl,rfl⟩:10=op/\false=ex:=by simpa[b7m,cmpL,e1]using hc
     simp[e1,c6p,List.replicate]
    by_cases e2:t.text=[33,61]
    .obtain⟨rfl,rfl⟩:11=op/\false=ex:=by simpa[b7m,cmpL,e2]using hc
     simp[e2,c6p,List.replicate]
    by_cases e3:t.text=[60]
    .obtain⟨rfl,rfl⟩:12=op/\false=ex:=by simpa[b7m,cmpL,e3]using hc
     simp[e3,aF,ht,bJ];refine⟨kV.mk (by kernel_rfl),?_⟩;simp[e3,aF,ht,bJ,c6p,List.replicate]
    by_cases e4:t.text=[62]
    .obtain⟨rfl,rfl⟩:12=op/\true=ex:=by simpa[b7m,cmpL,e4]using hc
     simp[e4,aF,ht,bJ];refine⟨kV.mk (by kernel_rfl),?_⟩;simp[e4,aF,ht,bJ,c6p,List.replicate]
    by_cases e5:t.text=[60,61]
    .obtain⟨rfl,rfl⟩:13=op/\false=ex:=by simpa[b7m,cmpL,e5]using hc
     simp[e5,aF,ht,bJ];refine⟨kV.mk (by kernel_rfl),?_⟩;simp[e5,aF,ht,bJ,c6p,List.replicate]
    by_cases e6:t.text=[62,61]
    .obtain⟨rfl,rfl⟩:13=op/\true=ex:=by simpa[b7m,cmpL,e6]using hc
     simp[e6,aF,ht,bJ];refine⟨kV.mk (by kernel_rfl),?_⟩;simp[e6,aF,ht,bJ,c6p,List.replicate]
    simp[b7m,cmpL,e1,e2,e3,e4,e5,e6]at hc
   have hn1:=bA (show n<9223372036854775807 by omega);obtain⟨jb,c2L⟩:=hA (n+1) 7 (by omega) (by omega) (by omega) aF (by have:=tL (L:=l.length) (i:=i) (i':=n+1) (k:=6) (k':=7) (by omega) aF (by omega) (by omega);omega)
   refine SW.vk ?_;simp[c6p,List.replicate,hn1];refine aC.mk (hkl:=cE _ _) yG c2L ?_;cases hr2:gJ aJ l f (n+1) 7 with
   |none=>rw[hr2]at ho;simp only at ho;subst ho;simp[eM]
   |some z=>
    obtain⟨b,m⟩:=z;rw[hr2]at ho;simp only at ho;subst ho;cases ex with
    |false=>simp[eM];refine aC.mk uX (wA op a b) ?_;simp
    |true=>simp[eM];refine aC.mk uX (wA op b a) ?_;simp
end
end Go.Proofs.YtjpodcmhcenjjaaGreatDoor
end
section
namespace Go.Proofs.YtjpodcmhcenjjaaGreatDoor
open Go Go.VM
variable {G:GT}
section
variable {l:List Tok} {f:Nat}
theorem e5a{L i k f:Nat}(h:mu L i k<=f+1)(hk:k+1<=10):mu L i (k+1)<=f:=by have:=b7i (L:=L) (i:=i) (show k<k+1 by omega) hk;omega
theorem c6r:VM.Enters prog 212:=.mk func212 rfl
theorem f1O(hl:zO l)(hA:AtC G l f)(hC:CmC G l f)(hP:PrC G l f):AtC G l (f+1):=by
 have hll:=hl.1;intro i k h1 h9 h6 hi hf;obtain rfl|rfl|rfl|rfl|rfl|rfl|rfl|rfl:k=1\/k=2\/k=3\/k=4\/k=5\/k=7\/k=8\/k=9:=by omega
 .skip
  obtain⟨j,hc⟩:=a6Y hl hA i 1 (by omega) hi hf;refine⟨j,?_⟩;have he:gJ aJ l (f+1) i 1=(gJ aJ l f i (1+1)).map λq=>eG (gJ aJ l f) l 1 l.length q.1 q.2:=rfl;rw[he];refine CS.aX func198 rfl ntmps198 rfl ?_;simp;refine aC.mk (hkl:=cE _ _) a3W hc ?_;cases (gJ aJ l f i (1+1)).map λq=>eG (gJ aJ l f) l 1 l.length q.1 q.2 with
  |none=>simp[eM]
  |some q=>obtain⟨p,n⟩:=q;simp[eM]
 .obtain⟨ja,hat⟩:=hA i 3 (by omega) (by omega) (by omega) hi (by unfold mu at hf|-;omega);refine⟨ja,?_⟩;obtain⟨o,ho⟩:∃o,b2x (gJ aJ l f) l i=o:=⟨_,rfl⟩;have he:gJ aJ l (f+1) i 2=o:=ho;rw[he];unfold b2x at ho;refine CS.aX func198 rfl ntmps198 rfl ?_;simp;refine aC.mk (hkl:=cE _ _) yG hat ?_;cases hr:gJ aJ l f i 3 with
  |none=>rw[hr]at ho;subst ho;simp[eM]
  |some q=>
   obtain⟨a,n⟩:=q;have uV:=kQ aJ l f _ _ _ _ hr;rw[hr]at ho;simp only at ho;have hsg:=rC (G:=G) l n [61,62] (by omega);simp[eM];refine aC.mk bX hsg ?_;cases hd:oM l n [61,62]with
   |false=>rw[if_neg (by simp[hd])]at ho;subst ho;simp[eM]
   |true=>
    rw[if_pos hd]at ho;have hnl:=mD hd;have hn1:=bA (show n<9223372036854775807 by omega);obtain⟨jb,c2L⟩:=hA (n+1) 2 (by omega) (by omega) (by omega) hnl (by have:=tL (L:=l.length) (i:=i) (i':=n+1) (k:=2) (k':=2) (by omega) hnl (by omega) (by omega);omega)
    simp[hn1];refine aC.mk (hkl:=cE _ _) yG c2L ?_;cases hr2:gJ aJ l f (n+1) 2 with
    |none=>rw[hr2]at ho;subst ho;simp[eM]
    |some z=>obtain⟨b,m⟩:=z;rw[hr2]at ho;subst ho;simp[eM];refine aC.mk uX (wA 17 a b) ?_;simp
 .skip
  obtain⟨j,hc⟩:=a6Y hl hA i 3 (by omega) hi hf;refine⟨j,?_⟩;have he:gJ aJ l (f+1) i 3=(gJ aJ l f i (3+1)).map λq=>eG (gJ aJ l f) l 3 l.length q.1 q.2:=rfl;rw[he];refine CS.aX func198 rfl ntmps198 rfl ?_;simp;refine aC.mk (hkl:=cE _ _) a3W hc ?_;cases (gJ aJ l f i (3+1)).map λq=>eG (gJ aJ l f) l 3 l.length q.1 q.2 with
  |none=>simp[eM]
  |some q=>obtain⟨p,n⟩:=q;simp[eM]
 .skip
  obtain⟨j,hc⟩:=a6Y hl hA i 4 (by omega) hi hf;refine⟨j,?_⟩;have he:gJ aJ l (f+1) i 4=(gJ aJ l f i (4+1)).map λq=>eG (gJ aJ l f) l 4 l.length q.1 q.2:=rfl;rw[he];refine CS.aX func198 rfl ntmps198 rfl ?_;simp;refine aC.mk (hkl:=cE _ _) a3W hc ?_;cases (gJ aJ l f i (4+1)).map λq=>eG (gJ aJ l f) l 4 l.length q.1 q.2 with
  |none=>simp[eM]
  |some q=>obtain⟨p,n⟩:=q;simp[eM]
 .skip
  have hsg:=rC (G:=G) l i [33] (by omega);cases hd:oM l i [33]with
  |true=>
   have vJ:=mD hd;have hi1:=bA (show i<9223372036854775807 by omega);obtain⟨ja,hat⟩:=hA (i+1) 5 (by omega) (by omega) (by omega) vJ (by have:=tL (L:=l.length) (i:=i) (i':=i+1) (k:=5) (k':=5) (by omega) vJ (by omega) (by omega);omega)
   refine⟨⟨0,[],0,[]⟩,?_⟩;have he:gJ aJ l (f+1) i 5=(gJ aJ l f (i+1) 5).map λq=>((⟨14,[],0,[q.1]⟩:Pr),q.2):=by
    show(if oM l i [33]=true then _ else _)=_
    rw[if_pos hd]
   rw[he];rw[hd]at hsg;refine CS.aX func198 rfl ntmps198 rfl ?_;simp;refine aC.mk bX hsg ?_;simp[hi1];refine aC.mk (hkl:=cE _ _) yG hat ?_;cases gJ aJ l f (i+1) 5 with
   |none=>simp[eM]
   |some q=>obtain⟨p,n⟩:=q;simp[eM,rg1,dE]
  |false=>
   obtain⟨j,hc⟩:=hC i hi (e5a hf (by omega));refine⟨j,?_⟩;have he:gJ aJ l (f+1) i 5=gJ aJ l f i (5+1):=by
    show(if oM l i [33]=true then _ else _)=_
    rw[if_neg (by simp[hd])]
   rw[he];rw[hd]at hsg;refine CS.aX func198 rfl ntmps198 rfl ?_;simp;refine aC.mk bX hsg ?_;simp;refine aC.mk (hkl:=cE _ _) c2M hc ?_;cases gJ aJ l f i (5+1)with
   |none=>simp[eM]
   |some q=>obtain⟨p,n⟩:=q;simp[eM]
 .skip
  obtain⟨j,hc⟩:=a6Y hl hA i 7 (by omega) hi hf;refine⟨j,?_⟩;have he:gJ aJ l (f+1) i 7=(gJ aJ l f i (7+1)).map λq=>eG (gJ aJ l f) l 7 l.length q.1 q.2:=rfl;rw[he];refine CS.aX func198 rfl ntmps198 rfl ?_;simp;refine aC.mk (hkl:=cE _ _) a3W hc ?_;cases (gJ aJ l f i (7+1)).map λq=>eG (gJ aJ l f) l 7 l.length q.1 q.2 with
  |none=>simp[eM]
  |some q=>obtain⟨p,n⟩:=q;simp[eM]
 .skip
  obtain⟨j,hc⟩:=a6Y hl hA i 8 (by omega) hi hf;refine⟨j,?_⟩;have he:gJ aJ l (f+1) i 8=(gJ aJ l f i (8+1)).map λq=>eG (gJ aJ l f) l 8 l.length q.1 q.2:=rfl;rw[he];refine CS.aX func198 rfl ntmps198 rfl ?_;simp;refine aC.mk (hkl:=cE _ _) a3W hc ?_;cases (gJ aJ l f i (8+1)).map λq=>eG (gJ aJ l f) l 8 l.length q.1 q.2 with
  |none=>simp[eM]
  |some q=>obtain⟨p,n⟩:=q;simp[eM]
 .skip
  have hsg:=rC (G:=G) l i [45] (by omega);cases hd:oM l i [45]with
  |true=>
   have vJ:=mD hd;have hi1:=bA (show i<9223372036854775807 by omega);obtain⟨ja,hat⟩:=hA (i+1) 9 (by omega) (by omega) (by omega) vJ (by have:=tL (L:=l.length) (i:=i) (i':=i+1) (k:=9) (k':=9) (by omega) vJ (by omega) (by omega);omega)
   refine⟨⟨0,[],0,[]⟩,?_⟩;have he:gJ aJ l (f+1) i 9=(gJ aJ l f (i+1) 9).map λq=>((⟨9,[],0,[q.1]⟩:Pr),q.2):=by
    show(if oM l i [45]=true then _ else _)=_
    rw[if_pos hd]
   rw[he];rw[hd]at hsg;refine CS.aX func198 rfl ntmps198 rfl ?_;simp;refine aC.mk bX hsg ?_;simp[hi1];refine aC.mk (hkl:=cE _ _) yG hat ?_;cases gJ aJ l f (i+1) 9 with
   |none=>simp[eM]
   |some q=>obtain⟨p,n⟩:=q;simp[eM,rg1,dE]
  |false=>
   obtain⟨j,hc⟩:=hP i hi (e5a hf (by omega));refine⟨j,?_⟩;have he:gJ aJ l (f+1) i 9=gJ aJ l f i (9+1):=by
    show(if oM l i [45]=true then _ else _)=_
    rw[if_neg (by simp[hd])]
   rw[he];rw[hd]at hsg;refine CS.aX func198 rfl ntmps198 rfl ?_;simp;refine aC.mk bX hsg ?_;simp;refine aC.mk (hkl:=cE _ _) c6r hc ?_;cases gJ aJ l f i (9+1)with
   |none=>simp[eM]
   |some q=>obtain⟨p,n⟩:=q;simp[eM]
end
end Go.Proofs.YtjpodcmhcenjjaaGreatDoor
end
section
namespace Go.Proofs.YtjpodcmhcenjjaaGreatDoor
open Go Go.VM
variable {G:GT}
section
variable {l:List Tok} {f:Nat}
def a9N(rd:Nat->Nat->Option (Pr×Nat))(l:List Tok)(i:Nat):Option (Pr×Nat):=match vF aJ l i with
 |none=>none
 |some (s,n)=>(match tK rd l n with
  |some (ks,m)=>some (⟨4,s,0,ks⟩,m)
  |none=>some (⟨3,s,0,[]⟩,n))
theorem a7X{L i n f:Nat}(hf:mu L i 10<=f+1)(hn:i<n)(hl:n<=L):(L-n)*12+10<=f:=by unfold mu at hf;omega
theorem d2Q:VM.Enters prog 232:=.mk func232 rfl
theorem d2R(hG:G 1=some eK)(hl:zO l)(hA:AtC G l f)(i:Nat)(hi:i<=l.length)(hf:mu l.length i 10<=f+1):
  CS prog G 232 [rdD l,.int .i64 i] (eM (a9N (gJ aJ l f) l i) ⟨0,[],0,[]⟩) none:=by
 have hll:=hl.1;have hnm:=c6l (G:=G) hG l i hl hi;obtain⟨o,ho⟩:∃o,a9N (gJ aJ l f) l i=o:=⟨_,rfl⟩;rw[ho];unfold a9N at ho;refine CS.aX func232 rfl ntmps232 rfl ?_;simp;refine aC.mk (hkl:=a1h _) a7W hnm ?_;cases hn:vF aJ l i with
 |none=>rw[hn]at ho;subst ho;simp[b2z,eM]
 |some q=>
  obtain⟨s,n⟩:=q;have uV:=qZ hn;rw[hn]at ho;simp only at ho;have hli:=c6o (G:=G) hl hA n (a7X hf uV.1 uV.2);simp[b2z];refine aC.mk (hkl:=a4Y _) b2A hli ?_;cases hL:tK (gJ aJ l f) l n with
  |none=>rw[hL]at ho;subst ho;simp[b9b,eM]
  |some z=>obtain⟨ks,m⟩:=z;rw[hL]at ho;subst ho;simp[b9b,eM]
theorem c9h(hG:G 1=some eK)(hl:zO l)(hA:AtC G l f):PrC G l (f+1):=by
 have hll:=hl.1;intro i hi hf;obtain⟨o,ho⟩:∃o,yC aJ (gJ aJ l f) l i=o:=⟨_,rfl⟩;have he:gJ aJ l (f+1) i 10=o:=ho;rw[he];unfold yC at ho;by_cases aF:i<l.length;rotate_left
 .rw[List.getElem?_eq_none (by omega)]at ho;subst ho;have hge:l.length<=i:=Nat.le_of_not_lt aF;refine⟨⟨0,[],0,[]⟩,?_⟩;refine CS.aX func212 rfl ntmps212 rfl ?_;simp[hge,eM]
 have hge: ¬l.length<=i:=by omega
 rw[g1a aF]at ho;obtain⟨t,ht⟩:∃t,l[i]=t:=⟨_,rfl⟩;rw[ht]at ho;simp only at ho;have hi1:=bA (show i<9223372036854775807 by omega);have hi2:IntKind.i64.wrap ((i:Int)+2)=((i+2:Nat):Int):=by rw[wrap64 (by omega)];simp
 have hi3:IntKind.i64.wrap ((i:Int)+3)=((i+3:Nat):Int):=by rw[wrap64 (by omega)];simp
 have hi4:IntKind.i64.wrap ((i:Int)+4)=((i+4:Nat):Int):=by rw[wrap64 (by omega)];simp
 by_cases k3:t.kind=3
 .rw[if_pos k3]at ho;subst ho;refine⟨⟨0,[],0,[]⟩,?_⟩;refine CS.aX func212 rfl ntmps212 rfl ?_;simp[hge,aF,ht,bJ];simp[k3,hi1,eM]
 rw[if_neg k3]at ho;by_cases kt:t.kind=1/\t.text=[116,114,117,101]
 .rw[if_pos kt]at ho;subst ho;refine⟨⟨0,[],0,[]⟩,?_⟩;refine CS.aX func212 rfl ntmps212 rfl ?_;simp[hge,aF,ht,bJ];simp[kt.1,kt.2,hi1,eM]
 rw[if_neg kt]at ho;by_cases kf:t.kind=1/\t.text=[102,97,108,115,101]
 .rw[if_pos kf]at ho;subst ho;refine⟨⟨0,[],0,[]⟩,?_⟩;refine CS.aX func212 rfl ntmps212 rfl ?_;simp[hge,aF,ht,bJ];simp[kf.1,kf.2,hi1,eM]
 rw[if_neg kf]at ho;have hk:t.kind=1-> ¬t.text=[116,114,117,101]/\ ¬t.text=[102,97,108,115,101]:=λh=>⟨λe=>kt ⟨h,e⟩,λe=>kf ⟨h,e⟩⟩;have hsq:=rC (G:=G) l i [63] (by omega);have hsp:=rC (G:=G) l i [40] (by omega);cases hq:oM l i [63]with
 |true=>
  rw[if_pos hq]at ho;rw[hq]at hsq;have hnm:=c6l (G:=G) hG l (i+1) hl aF;cases hn:vF aJ l (i+1)with
  |none=>
   rw[hn]at ho hnm;subst ho;refine⟨⟨0,[],0,[]⟩,?_⟩;refine CS.aX func212 rfl ntmps212 rfl ?_;simp[hge,aF,ht,bJ];simp[k3];rcases Classical.em (t.kind=1)with k1|k1
   case' inl=>simp[k1,(hk k1).1,(hk k1).2]
   case' inr=>simp[k1]
   all_goals
    refine aC.mk bX hsq ?_;simp[hi1];refine aC.mk (hkl:=a1h _) a7W hnm ?_;simp[b2z,eM]
  |some q=>
   obtain⟨s,n⟩:=q;have uV:=qZ hn;rw[hn]at ho hnm;simp only at ho;have hli:=c6o (G:=G) hl hA n (a7X hf (by omega) uV.2);cases hL:tK (gJ aJ l f) l n with
   |none=>
    rw[hL]at ho hli;subst ho;refine⟨⟨5,s,0,[]⟩,?_⟩;refine CS.aX func212 rfl ntmps212 rfl ?_;simp[hge,aF,ht,bJ];simp[k3];rcases Classical.em (t.kind=1)with k1|k1
    case' inl=>simp[k1,(hk k1).1,(hk k1).2]
    case' inr=>simp[k1]
    all_goals
     refine aC.mk bX hsq ?_;simp[hi1];refine aC.mk (hkl:=a1h _) a7W hnm ?_;simp[b2z];refine aC.mk (hkl:=a4Y _) b2A hli ?_;simp[b9b,eM]
   |some z=>
    obtain⟨ks,m⟩:=z;rw[hL]at ho hli;subst ho;refine⟨⟨0,[],0,[]⟩,?_⟩;refine CS.aX func212 rfl ntmps212 rfl ?_;simp[hge,aF,ht,bJ];simp[k3];rcases Classical.em (t.kind=1)with k1|k1
    case' inl=>simp[k1,(hk k1).1,(hk k1).2]
    case' inr=>simp[k1]
    all_goals
     refine aC.mk bX hsq ?_;simp[hi1];refine aC.mk (hkl:=a1h _) a7W hnm ?_;simp[b2z];refine aC.mk (hkl:=a4Y _) b2A hli ?_;simp[b9b,eM]
 |false=>
 rw[if_neg (by simp[hq])]at ho;rw[hq]at hsq;cases hp:oM l i [40]with
 |false=>
  rw[if_neg (by simp[hp])]at ho;rw[hp]at hsp;have hnd:=d2R hG hl hA i hi hf;have hx:a9N (gJ aJ l f) l i=o:=ho;rw[hx]at hnd;refine⟨⟨0,[],0,[]⟩,?_⟩;refine CS.aX func212 rfl ntmps212 rfl ?_;simp[hge,aF,ht,bJ];simp[k3];rcases Classical.em (t.kind=1)with k1|k1
  case' inl=>simp[k1,(hk k1).1,(hk k1).2]
  case' inr=>simp[k1]
  all_goals
   refine aC.mk bX hsq ?_;simp;refine aC.mk bX hsp ?_;simp;refine aC.mk (hkl:=cE _ _) d2Q hnd ?_;cases o with
   |none=>simp[eM]
   |some q=>obtain⟨p,n⟩:=q;simp[eM]
 |true=>
 rw[if_pos hp]at ho;rw[hp]at hsp;have hsm:=rC (G:=G) l (i+1) [45] (by omega);have hsc:=rC (G:=G) l (i+3) [41] (by omega);by_cases a4z:oM l (i+1) [45]=true/\kdB l (i+2) 3=true/\oM l (i+3) [41]=true
 .rw[if_pos a4z]at ho;subst ho;obtain⟨n1,n2,n3⟩:=a4z;have h2:=b7e n2;rw[a9K h2]at n2;rw[d6K h2];obtain⟨u,hu⟩:∃u,l[i+2]=u:=⟨_,rfl⟩;rw[hu]at n2|-;have ku:u.kind=3:=of_decide_eq_true n2;rw[n1]at hsm;rw[n3]at hsc;have h2':(i:Int)+2<(l.length:Int):=by omega
  have hnn:(0:Int)<=(i:Int)+2:=by omega
  have htn:((i:Int)+2).toNat=i+2:=by omega
  refine⟨⟨0,[],0,[]⟩,?_⟩;refine CS.aX func212 rfl ntmps212 rfl ?_;simp[hge,aF,ht,bJ];simp[k3];rcases Classical.em (t.kind=1)with k1|k1
  case' inl=>simp[k1,(hk k1).1,(hk k1).2]
  case' inr=>simp[k1]
  all_goals
   refine aC.mk bX hsq ?_;simp;refine aC.mk bX hsp ?_;simp[hi1];refine aC.mk bX hsm ?_;simp[hi2,h2,h2',hnn,htn,hu,ku,bJ,hi3];refine aC.mk bX hsc ?_;simp[hi2,h2,h2',hnn,htn,hu,ku,bJ,hi4,eM]
 .rw[if_neg a4z]at ho;obtain⟨jp,hat⟩:=hA (i+1) 1 (by omega) (by omega) (by omega) aF (by have:=tL (L:=l.length) (i:=i) (i':=i+1) (k:=10) (k':=1) (by omega) aF (by omega) (by omega);omega)
  refine⟨⟨0,[],0,[]⟩,?_⟩;have tail:∀n:Nat,CS prog G 209 [rdD l,.int .i64 n,.str [41]] (.d (.bool (oM l n [41]))) none:=λn=>rC (G:=G) l n [41] (by omega);cases n1:oM l (i+1) [45]with
  |false=>
   rw[n1]at hsm;refine CS.aX func212 rfl ntmps212 rfl ?_;simp[hge,aF,ht,bJ];simp[k3];rcases Classical.em (t.kind=1)with k1|k1
   case' inl=>simp[k1,(hk k1).1,(hk k1).2]
   case' inr=>simp[k1]
   all_goals
    refine aC.mk bX hsq ?_;simp;refine aC.mk bX hsp ?_;simp[hi1];refine aC.mk bX hsm ?_;simp[hi1];refine aC.mk (hkl:=cE _ _) yG hat ?_;cases hr:gJ aJ l f (i+1) 1 with
    |none=>rw[hr]at ho;subst ho;simp[eM]
    |some q=>
     obtain⟨p,n⟩:=q;have uV:=kQ aJ l f _ _ _ _ hr;have rI:=tail n;rw[hr]at ho;simp only at ho;simp[eM];refine aC.mk bX rI ?_;cases hc:oM l n [41]with
     |false=>rw[if_neg (by simp[hc])]at ho;subst ho;simp[eM]
     |true=>rw[if_pos hc]at ho;subst ho;have hn1:=bA (show n<9223372036854775807 by omega);simp[hn1,eM]
  |true=>
  rw[n1]at hsm;have hnn:(0:Int)<=(i:Int)+2:=by omega
  have htn:((i:Int)+2).toNat=i+2:=by omega
  by_cases h2:i+2<l.length;rotate_left
  .have h2': ¬(i:Int)+2<(l.length:Int):=by omega
   refine CS.aX func212 rfl ntmps212 rfl ?_;simp[hge,aF,ht,bJ];simp[k3];rcases Classical.em (t.kind=1)with k1|k1
   case' inl=>simp[k1,(hk k1).1,(hk k1).2]
   case' inr=>simp[k1]
   all_goals
    refine aC.mk bX hsq ?_;simp;refine aC.mk bX hsp ?_;simp[hi1];refine aC.mk bX hsm ?_;simp[hi1,hi2,h2'];refine aC.mk (hkl:=cE _ _) yG hat ?_;cases hr:gJ aJ l f (i+1) 1 with
    |none=>rw[hr]at ho;subst ho;simp[eM]
    |some q=>
     obtain⟨p,n⟩:=q;have uV:=kQ aJ l f _ _ _ _ hr;have rI:=tail n;rw[hr]at ho;simp only at ho;simp[eM];refine aC.mk bX rI ?_;cases hc:oM l n [41]with
     |false=>rw[if_neg (by simp[hc])]at ho;subst ho;simp[eM]
     |true=>rw[if_pos hc]at ho;subst ho;have hn1:=bA (show n<9223372036854775807 by omega);simp[hn1,eM]
  have h2':(i:Int)+2<(l.length:Int):=by omega
  obtain⟨u,hu⟩:∃u,l[i+2]=u:=⟨_,rfl⟩;by_cases ku:u.kind=3;rotate_left
  .skip
   refine CS.aX func212 rfl ntmps212 rfl ?_;simp[hge,aF,ht,bJ];simp[k3];rcases Classical.em (t.kind=1)with k1|k1
   case' inl=>simp[k1,(hk k1).1,(hk k1).2]
   case' inr=>simp[k1]
   all_goals
    refine aC.mk bX hsq ?_;simp;refine aC.mk bX hsp ?_;simp[hi1];refine aC.mk bX hsm ?_;simp[hi1,hi2,h2,h2',hnn,htn,hu,ku,bJ];refine aC.mk (hkl:=cE _ _) yG hat ?_;cases hr:gJ aJ l f (i+1) 1 with
    |none=>rw[hr]at ho;subst ho;simp[eM]
    |some q=>
     obtain⟨p,n⟩:=q;have uV:=kQ aJ l f _ _ _ _ hr;have rI:=tail n;rw[hr]at ho;simp only at ho;simp[eM];refine aC.mk bX rI ?_;cases hc:oM l n [41]with
     |false=>rw[if_neg (by simp[hc])]at ho;subst ho;simp[eM]
     |true=>rw[if_pos hc]at ho;subst ho;have hn1:=bA (show n<9223372036854775807 by omega);simp[hn1,eM]
  have n3:oM l (i+3) [41]=false:=by
   cases n3:oM l (i+3) [41]with
   |false=>rfl
   |true=>exact absurd ⟨n1,by rw[a9K h2,hu];simp[ku],n3⟩ a4z
  rw[n3]at hsc;refine CS.aX func212 rfl ntmps212 rfl ?_;simp[hge,aF,ht,bJ];simp[k3];rcases Classical.em (t.kind=1)with k1|k1
  case' inl=>simp[k1,(hk k1).1,(hk k1).2]
  case' inr=>simp[k1]
  all_goals
   refine aC.mk bX hsq ?_;simp;refine aC.mk bX hsp ?_;simp[hi1];refine aC.mk bX hsm ?_;simp[hi2,h2,h2',hnn,htn,hu,ku,bJ,hi3];refine aC.mk bX hsc ?_;simp[hi1];refine aC.mk (hkl:=cE _ _) yG hat ?_;cases hr:gJ aJ l f (i+1) 1 with
   |none=>rw[hr]at ho;subst ho;simp[eM]
   |some q=>
    obtain⟨p,n⟩:=q;have uV:=kQ aJ l f _ _ _ _ hr;have rI:=tail n;rw[hr]at ho;simp only at ho;simp[eM];refine aC.mk bX rI ?_;cases hc:oM l n [41]with
    |false=>rw[if_neg (by simp[hc])]at ho;subst ho;simp[eM]
    |true=>rw[if_pos hc]at ho;subst ho;have hn1:=bA (show n<9223372036854775807 by omega);simp[hn1,eM]
end
end Go.Proofs.YtjpodcmhcenjjaaGreatDoor
end
end
section
section
namespace Go.Proofs.YtjpodcmhcenjjaaGreatDoor
def Nod(rd:Nat->Nat->Option (Pr×Nat)):Prop:=∀i k p n,rd i k=some (p,n)->bM p+i<=n
theorem c9i(op:Int)(a b:Pr):bM (tw op a b)=bM a+bM b+1:=by simp[tw,bM,dM];omega
theorem d0R(op:Int)(a:Pr):bM ⟨op,[],0,[a]⟩=bM a+1:=by simp[bM,dM];omega
theorem a6Z(op:Int)(s:List UInt8)(n:Int):bM ⟨op,s,n,[]⟩=1:=by simp[bM,dM]
theorem d0S(op:Int)(s:List UInt8)(ks:List Pr):bM ⟨op,s,0,ks⟩=dM ks+1:=by simp[bM];omega
section
variable {kw:List UInt8->Bool} {rd:Nat->Nat->Option (Pr×Nat)} {l:List Tok}
theorem c0M(h:Nod rd)(k:Nat):∀(g:Nat) (a:Pr) (n i:Nat),bM a+i<=n->bM (eG rd l k g a n).1+i<=(eG rd l k g a n).2
 |0,a,n,i,hn=>hn
 |g+1,a,n,i,hn=>by
  rw[eG];split
  .exact hn
  .split
   .exact hn
   .rename_i op _ _ b m hr;have h1:=h _ _ _ _ hr;exact c0M h k g (tw op a b) m i (by rw[c9i];omega)
theorem c6s(h:Nod rd):∀(g i:Nat) (acc ks:List Pr) (m b:Nat),dM acc+b<=i->mZ rd l g i acc=some (ks,m)->dM ks+b+1<=m
 |0,_,_,_,_,_,_,hr=>by cases hr
 |g+1,i,acc,ks,m,b,hb,hr=>by
  rw[mZ]at hr;split at hr
  .cases hr
  .rename_i p n hp;have h1:=h _ _ _ _ hp;have h2:dM (acc++[p])=dM acc+bM p:=by rw[b2m];simp[dM]
   split at hr
   .cases hr;omega
   .split at hr
    .exact c6s h g n _ ks m b (by omega) hr
    .cases hr
theorem c6t(h:Nod rd){i m:Nat}{ks:List Pr}(hr:tK rd l i=some (ks,m)):dM ks+i+1<=m:=by
 unfold tK at hr;split at hr
 .exact c6s h _ _ _ _ _ _ (by simp[dM]) hr
 .cases hr
theorem d6T(h:Nod rd){i n:Nat}{p:Pr}(hr:yC kw rd l i=some (p,n)):bM p+i<=n:=by
 unfold yC at hr;split at hr
 .cases hr
 .split at hr
  .cases hr;rw[a6Z];omega
  split at hr
  .cases hr;rw[a6Z];omega
  split at hr
  .cases hr;rw[a6Z];omega
  split at hr
  .split at hr
   .cases hr
   .rename_i s m hn;have h1:=qZ hn;rw[g0V]at hr;obtain⟨⟨ks,q⟩,hq,he⟩:=hr;have h2:=c6t h hq;cases he;rw[d0S];simp only at *;omega
  split at hr
  .split at hr
   .cases hr;rw[a6Z];omega
   .split at hr
    .cases hr
    .rename_i q m hq;have h1:=h _ _ _ _ hq;split at hr
     .cases hr;omega
     .cases hr
  .split at hr
   .cases hr
   .rename_i s m hn;have h1:=qZ hn;split at hr
    .rename_i ks q hq;have h2:=c6t h hq;cases hr;rw[d0S];omega
    .cases hr;rw[a6Z];omega
theorem e8e(h:Nod rd){i k n:Nat}{p:Pr}(hr:atG kw rd l i k=some (p,n)):bM p+i<=n:=by
 unfold atG at hr;split at hr
 .unfold b2x at hr;split at hr
  .cases hr
  .rename_i a m ha;have h1:=h _ _ _ _ ha;split at hr
   .split at hr
    .rename_i b q hb;have h2:=h _ _ _ _ hb;cases hr;rw[c9i];omega
    .cases hr;exact h1
   .cases hr;exact h1
 .split at hr
  .rw[g0V]at hr;obtain⟨⟨a,m⟩,ha,he⟩:=hr;have h1:=h _ _ _ _ ha;cases he;rw[d0R];simp only;omega
  .exact h _ _ _ _ hr
 .unfold a8g at hr;split at hr
  .cases hr
  .rename_i a m ha;have h1:=h _ _ _ _ ha;split at hr
   .cases hr;exact h1
   .split at hr
    .cases hr;exact h1
    .rename_i b q hb;have h2:=h _ _ _ _ hb;cases hr;split<;>rw[c9i]<;>omega
 .split at hr
  .rw[g0V]at hr;obtain⟨⟨a,m⟩,ha,he⟩:=hr;have h1:=h _ _ _ _ ha;cases he;rw[d0R];simp only;omega
  .exact h _ _ _ _ hr
 .exact d6T h hr
 .rw[g0V]at hr;obtain⟨⟨a,m⟩,ha,he⟩:=hr;have h1:=h _ _ _ _ ha;have h2:=c0M (l:=l) h k l.length a m i h1;simp only at he;rw[he]at h2;exact h2
end
theorem c2N(kw:List UInt8->Bool)(l:List Tok):∀f,Nod (gJ kw l f)
 |0=>λ_ _ _ _ h=>by cases h
 |f+1=>λ_ _ _ _ h=>e8e (c2N kw l f) h
end Go.Proofs.YtjpodcmhcenjjaaGreatDoor
end
section
namespace Go.Proofs.YtjpodcmhcenjjaaGreatDoor
theorem d6U(s:List UInt8):(tX s).length<=s.length:=by
 unfold tX;cases h:cU.find? λt=>t.isPrefixOf s with
 |none=>simp
 |some t=>have h1:t.isPrefixOf s=true:=List.find?_some (p:=λt:List UInt8=>t.isPrefixOf s) h;exact(List.isPrefixOf_iff_prefix.1 h1).length_le
theorem d2S(num:List UInt8->Int×Bool)(c:UInt8)(r:List UInt8):(firstT num (c::r)).2.1.length<=r.length+1:=by
 have h1:∀p:UInt8->Bool,((c::r).takeWhile p).length<=r.length+1:=λp=>(List.takeWhile_sublist p).length_le;have h2:(tX (c::r)).length<=r.length+1:=d6U (c::r)
 show(if smU c then _ else _:Int×List UInt8×Int×Bool).2.1.length<=_
 split
 .exact h1 _
 split
 .exact h1 _
 split
 .exact h1 _
 split
 .simp
 .exact h2
theorem wK(num:List UInt8->Int×Bool):∀(s:List UInt8) (k:Nat) (ln:Int) (cm:Bool) (l:List Tok),mH num s k ln cm=.ok l->1<=l.length/\l.length<=s.length+1/\txS l<=2*(s.length-k)+1
 |[],k,ln,cm,l,h=>by cases k<;>(simp[mH]at h;subst h;simp[txS])
 |c::r,k+1,ln,cm,l,h=>by rw[mH]at h;obtain⟨h1,h2,h3⟩:=wK num r k ln cm l h;simp only[List.length_cons];omega
 |c::r,0,ln,cm,l,h=>by
  rw[mH]at h;simp only[List.length_cons];split at h
  .obtain⟨h1,h2,h3⟩:=wK num r 0 (ln+1) false l h;omega
  split at h
  .obtain⟨h1,h2,h3⟩:=wK num r 0 ln cm l h;omega
  split at h
  .obtain⟨h1,h2,h3⟩:=wK num r 0 ln true l h;omega
  split at h
  .generalize hT:(firstT num (c::r)).2.1=T at h;split at h
   .rename_i l' hl';obtain⟨h1,h2,h3⟩:=wK num r (T.length-1) ln false l' hl';cases h;have hTl:T.length<=r.length+1:=by rw[<-hT];exact d2S num c r
    simp only[List.length_cons,txS];omega
   .cases h
  .cases h
end Go.Proofs.YtjpodcmhcenjjaaGreatDoor
end
section
namespace Go.Proofs.YtjpodcmhcenjjaaGreatDoor
open Go Go.VM
variable {G:GT}
theorem b7n(hG:G 1=some eK){l:List Tok}(hl:zO l):∀f,AtC G l f/\CmC G l f/\PrC G l f
 |0=>⟨λi k _ h9 _ hi h=>by unfold mu at h;omega,λi hi h=>by unfold mu at h;omega,λi hi h=>by unfold mu at h;omega⟩
 |f+1=>by obtain⟨hA,hC,hP⟩:=b7n hG hl f;exact⟨f1O hl hA hC hP,λi hi h=>c6q hl hA i hi h,c9h hG hl hA⟩
def a5w(l:List Tok):Option (Pr×Nat):=gJ aJ l (mu l.length 0 1) 0 1
theorem e8f(hG:G 1=some eK){l:List Tok}(hl:zO l):∃j,CS prog G 198 [rdD l,.int .i64 0,.int .i64 1] (eM (a5w l) j) none:=
 (b7n hG hl _).1 0 1 (by omega) (by omega) (by omega) (by omega) (g1m _)
theorem a3X{l:List Tok}{p:Pr}{n:Nat}(h:a5w l=some (p,n)):0<n/\n<=l.length:=kQ aJ l _ _ _ _ _ h
def b3R(l:List Tok):DV:=match a5w l with
 |none=>.cI [.agg (prD ⟨0,[],0,[]⟩),.int .i64 0,.int .i64 14]
 |some (p,n)=>if a6S p=0 then .cI [.agg (prD p),.int .i64 n,.int .i64 0] else .cI [.agg (prD ⟨0,[],0,[]⟩),.int .i64 0,.int .i64 (a6S p)]
theorem b1x:VM.Enters prog 186:=.mk func186 rfl
theorem b2B(hG:G 1=some eK)(l:List Tok)(hl:zO l)(hn:∀p n,a5w l=some (p,n)->bM p<=1000000):CS prog G 186 [.sl (l.map bJ)] (b3R l) none:=by
 obtain⟨j,hat⟩:=e8f hG hl;obtain⟨o,ho⟩:∃o,a5w l=o:=⟨_,rfl⟩;rw[ho]at hat hn;unfold b3R;rw[ho];refine CS.aX func186 rfl ntmps186 rfl ?_;simp;refine aC.mk (hkl:=cE _ _) yG hat ?_;cases o with
 |none=>simp[eM]
 |some q=>
  obtain⟨p,n⟩:=q;have hck:=b8V hG p (hn p n rfl);simp[eM];refine aC.mk b6O hck ?_;by_cases h0:a6S p=0
  .simp[h0]
  .simp[h0]
end Go.Proofs.YtjpodcmhcenjjaaGreatDoor
end
section
namespace Go.Proofs.YtjpodcmhcenjjaaGreatDoor
open Go Go.VM
variable {G:GT}
theorem c6u{s:List UInt8}{l:List Tok}(h:mH jC s 0 1 false=.ok l)(hs:s.length<=40000):zO l/\1<=l.length:=by obtain⟨h1,h2,h3⟩:=wK jC s 0 1 false l h;exact⟨⟨by omega,by omega⟩,h1⟩
theorem b2C{l:List Tok}{p:Pr}{n:Nat}(h:a5w l=some (p,n)):bM p<=l.length:=by have h1:=c2N aJ l _ _ _ _ _ h;have h2:=a3X h;omega
end Go.Proofs.YtjpodcmhcenjjaaGreatDoor
end
end
namespace Go.Proofs.YtjpodcmhcenjjaaGreatDoor
section
def rdQ(l:List Tok)(i e:Nat):kJ Pr:=match a5w ((l.take e).drop (min i e))with
 |none=>.bad (aG l i).line 14
 |some (p,n)=>if a6S p=0 then .ok p (i+n) else .bad (aG l i).line (a6S p)
end
section
theorem d0T{num:List UInt8->Int×Bool}{l:List Tok}{ln:Int}(h:OkT num l ln):∀t∈l,TkW t/\(t.kind≠4->a9I t=0):=by
 induction h with
 |fin ln l hl=>intro t ht;simp at ht;subst ht;exact⟨.inl rfl,λ_=>by simp[a9I]⟩
 |cons t r ln h1 h2 h3 ih=>
  intro u hu;rcases List.mem_cons.1 hu with rfl|hu
  .obtain⟨k,x,n,ln'⟩:=u;simp only at h2;cases x with
   |nil=>simp[firstT]at h2
   |cons c s=>
    have hp:(smU c=true\/caU c=true\/dgU c=true)->a9I ⟨k,c::s,n,ln'⟩=0:=λh=>by
     have h40:c≠40/\c≠41:=by
      constructor
      .rintro rfl
       revert h
       decide
      .rintro rfl
       revert h
       decide
     simp[a9I,h40.1,h40.2]
    simp only[firstT]at h2;split at h2
    .rename_i a1;simp only[Prod.mk.injEq]at h2;exact⟨.inr (.inr (.inl ⟨h2.1.symm,a1⟩)),λ_=>hp (.inl a1)⟩
    .rename_i a1;split at h2
     .rename_i a2;simp only[Prod.mk.injEq]at h2;exact⟨.inr (.inr (.inr (.inl ⟨h2.1.symm,a2⟩))),λ_=>hp (.inr (.inl a2))⟩
     .rename_i a2;split at h2
      .rename_i a3;simp only[Prod.mk.injEq]at h2;exact⟨.inr (.inl h2.1.symm),λ_=>hp (.inr (.inr a3))⟩
      .split at h2
       .simp at h2
       .simp only[Prod.mk.injEq]at h2;exact⟨.inr (.inr (.inr (.inr ⟨h2.1.symm,Bool.eq_false_iff.2 a1,Bool.eq_false_iff.2 a2⟩))),λhk=>absurd h2.1.symm hk⟩
  .exact ih u hu
section
variable {l:List Tok}
theorem d0U:∀(g:Nat) (d:Int) (i:Nat),i<=l.length->i<=pE l g d i/\pE l g d i<=l.length
 |0,d,i,h=>⟨h,g1m _⟩
 |g+1,d,i,h=>by
  unfold pE;split
  .rename_i hi;have h1:=λd=>d0U g d (i+1) hi
   repeat' split
   .have:=h1 (d+1);omega
   .have:=h1 (d-1);omega
   .omega
   .have:=h1 d;omega
  .omega
theorem b1y:∀(g g':Nat) (d:Int) (i:Nat),l.length<g+i->l.length<g'+i->pE l g d i=pE l g' d i
 |0,0,d,i,_,_=>rfl
 |0,g'+1,d,i,h,_=>by unfold pE;rw[if_neg (by omega)]
 |g+1,0,d,i,_,h=>by
  show pE l (g+1) d i=l.length
  unfold pE;rw[if_neg (by omega)]
 |g+1,g'+1,d,i,h,h'=>by unfold pE;rw[b1y g g' (d+1) (i+1) (by omega) (by omega),b1y g g' (d-1) (i+1) (by omega) (by omega),b1y g g' d (i+1) (by omega) (by omega)]
theorem d6V(g:Nat)(d:Int)(i:Nat):pE l (g+1) d i=if i<l.length then(if cV (aG l i) [40] then pE l g (d+1) (i+1) else if cV (aG l i) [41] then pE l g (d-1) (i+1) else if cV (aG l i) [61]&&decide (d<=0) then i else pE l g d (i+1)) else l.length:=rfl
variable (hW:WfD l)
include hW
theorem e2B{i:Nat}(hi:i<l.length):a2p l i=if cV (aG l i) [40] then 1 else if cV (aG l i) [41] then -1 else 0:=by
 have hg:l[i]? =some (aG l i):=by
  unfold aG;rw[if_pos hi,List.getD_eq_getElem?_getD,g1a hi]
  rfl
 have h:=hW i _ hg;unfold a2p;rw[hg];generalize aG l i=t at h|-;simp only;by_cases h4:t.kind=4
 .simp[a9I,cV,h4]
 .have hp:=h h4;have h40:t.text≠[40]:=λe=>by simp[a9I,e]at hp
  have h41:t.text≠[41]:=λe=>by simp[a9I,e]at hp
  simp[cV,h40,h41,hp]
theorem b1z:∀(n g:Nat) (d:Int) (i:Nat),i+n<=pE l g d i->i+n<=l.length->n<=g->pE l g d i=pE l (g-n) (d+par l i (i+n)) (i+n)
 |0,g,d,i,_,_,_=>by rw[Nat.add_zero,yD,Int.add_zero,Nat.sub_zero]
 |n+1,g,d,i,h,hl,hg=>by
  obtain⟨g,rfl⟩:∃k,g=k+1:=⟨g-1,by omega⟩;have hi:i<l.length:=by omega
  have e1:par l i (i+(n+1))=a2p l i+par l (i+1) (i+1+n):=by rw[kR (by omega),show i+1+n=i+(n+1) by omega]
  rw[e1,e2B hW hi,show g+1-(n+1)=g-n by omega,show i+(n+1)=i+1+n by omega];rw[d6V g d i,if_pos hi]at h|-;by_cases p1:cV (aG l i) [40]=true
  .rw[if_pos p1]at h|-;rw[b1z n g (d+1) (i+1) (by omega) (by omega) (by omega),if_pos p1,Int.add_assoc]
  rw[if_neg p1]at h|-;by_cases p2:cV (aG l i) [41]=true
  .rw[if_pos p2]at h|-;rw[b1z n g (d-1) (i+1) (by omega) (by omega) (by omega),if_neg p1,if_pos p2, <- Int.add_assoc]
   rfl
  rw[if_neg p2]at h|-;by_cases p3:(cV (aG l i) [61]&&decide (d<=0))=true
  .rw[if_pos p3]at h;omega
  rw[if_neg p3]at h|-;rw[b1z n g d (i+1) (by omega) (by omega) (by omega),if_neg p1,if_neg p2,Int.zero_add]
theorem e2C(i:Nat)(p:Pr)(k:Nat)(hi:i<l.length)(h:rdQ l i (pE l (l.length+1) 0 i)=.ok p k)(hk:k<l.length)(hs:cV (aG l k) [44]=true):pE l (l.length+1) 0 (k+1)=pE l (l.length+1) 0 i:=by
 have hge:=d0U (l:=l) (l.length+1) 0 i (by omega);obtain⟨e,he⟩:∃e,pE l (l.length+1) 0 i=e:=⟨_,rfl⟩;rw[he]at h hge|-;unfold rdQ at h;rw[show min i e=i by omega]at h;split at h
 .cases h
 .rename_i q n hr;split at h
  .cases h;have ha:=a3X hr;have hll:((l.take e).drop i).length<=e-i:=by simp;omega
   have hb:=d0Q aJ (hW.part e i) _ _ _ _ _ hr;rw[d6J l e i n (by omega)]at hb;have h1:=b1z hW n (l.length+1) 0 i (by rw[he];omega) (by omega) (by omega);rw[he,hb]at h1;rw[h1];obtain⟨g,hg⟩:∃g,l.length+1-n=g+1:=⟨l.length-n,by omega⟩;rw[hg]
   conv=>rhs;rw[d6V]
   have eU:∀x:List UInt8,x≠[44]->cV (aG l (i+n)) x=false:=λx hx=>by unfold cV at hs|-;simp only[g0W,decide_eq_true_eq]at hs;rw[hs.2];simp[show ¬ [44]=x from λe=>hx e.symm]
   rw[if_pos hk,eU [40] (by decide),eU [41] (by decide),eU [61] (by decide)];simp only[Bool.false_eq_true,if_false,Bool.false_and];exact b1y _ _ _ _ (by omega) (by omega)
  .cases h
end
end
section
open Go Go.VM
variable {G:GT}
theorem a0J:VM.Enters prog 272:=.mk func272 rfl
theorem b1A:VM.Enters prog 282:=.mk func282 rfl
section
variable {aE:List Tok->Nat->Nat->kJ Pr} {l:List Tok} (hV:pY G aE l)
include hV
section
variable {ty:bE Ty} {low:Nat} (oW:∀i,low<=i->i<l.length->sJ G 39 [] l i (ty i) a1e) (qW:aB l 1 ty) (ity:∀i t j,i<l.length->ty i=.ok t j->TyI t i j)
include oW qW ity
theorem d2T(i:Nat)(cC:low<=i+1)(hi:i<l.length):sJ G 39 [] l i (yY aJ aZ aE l ty i) a1e:=by
 have hl:=hV.len;obtain⟨j0,rfl⟩:∃j0,j0=i:=⟨_,rfl⟩;have p0:j0<=j0/\j0<l.length:=⟨g1m _,hi⟩;have ht:=dA (G:=G) l j0 j0 0 (by omega) (by omega) (by intro e;subst e;simp at hi) (by omega);refine oZ.bL func39 rfl ntmps39 rfl (by simp) ?_;intro Q Q0;unfold yY at Q0;simp;refine sY Q0 p0 b3J (b6S hV j0 hi) (aB.base hV.fin) λo j1 x1 Q1 p1=>?_;cases o with
 |some t=>obtain⟨op,nm,args,ns,p,ps⟩:=t;simp;exact Q1.ok _ j1 _ _ rfl (.inr rfl) (by simp)
 |none=>
 have hj:=wQ x1;subst hj;simp only at Q1;simp[mO,eY];refine pA (ds:=[.int .i64 0]) bZ ht ?_;cases hti:qJ (aG l j1)with
 |true=>
  rw[hti,if_pos rfl]at Q1;have hk:(aG l j1).kind=2:=by simpa[qJ]using hti
  generalize aG l j1=T at hk|-;obtain⟨k,x,n,ln⟩:=T;simp only at hk;subst hk;simp[bJ];refine rdX (ds:=[]) c5V (c8U hV oW (qW.le (by omega)) ity j1 cC p1.2) (λt j h=>?_) (λn e h=>Q1.bad n e _ h);simp;exact Q1.ok t j _ _ h (.inr rfl) (by simp)
 |false=>
  rw[hti,if_neg (by decide)]at Q1;have hk: ¬(aG l j1).kind=2:=by simpa[qJ]using hti
  generalize aG l j1=T at hk|-;obtain⟨k,x,n,ln⟩:=T;simp only at hk;simp[bJ,hk];have hb:=kX (G:=G) l j1 [123] p1.2 (by omega);refine pA (ds:=[.str [123]]) gZ hb ?_;cases hs:aH l j1 [123]with
  |true=>rw[hs,if_pos rfl]at Q1;simp;refine rdX (ds:=[]) a6T (a8G hV oW (qW.le (by omega)) ity j1 cC p1.2) (λt j h=>?_) (λn e h=>Q1.bad n e _ h);simp;exact Q1.ok t j _ _ h (.inr rfl) (by simp)
  |false=>rw[hs,if_neg (by decide)]at Q1;simp;refine rdX (ds:=[]) c8V (d2H hV oW qW j1 cC p1.2) (λt j h=>?_) (λn e h=>Q1.bad n e _ h);simp;exact Q1.ok t j _ _ h (.inr rfl) (by simp)
end
theorem b7o(op:Int)(nm:Nm)(args:List Ty)(ns:List Nm)(ps:List Pr){i j:Nat}(h:i<=j):TyI ⟨op,nm,args,ns,eY,ps⟩ i j:=by refine⟨λ_=>rfl,?_⟩;simp[eY,bM,dM];omega
theorem d0V{p q:Pr}{s r:Pr×Bool}(hp:p.op≠0)(hs:s.1.op≠0)(h:b6P p s=some r):r.1.op≠0:=by
 unfold b6P at h;split at h
 .cases h;exact hs
 split at h
 .cases h
 split at h
 .cases h;simp
 .cases h;exact hp
theorem c2O(b:Bool):(a4V b).op≠0:=by cases b<;>simp[a4V,a1c,a4U]
theorem e2D{a b:Pr}(ha:a.op≠0)(hb:b.op≠0):(aZ a b).op≠0:=by
 unfold aZ b4s;cases h1:b6P a (a4V true,false)with
 |none=>exact c2O hV false
 |some s=>
  have k1:=d0V hV (q:=a) ha (c2O hV true) h1;simp only[b4s];cases h2:b6P b s with
  |none=>exact c2O hV false
  |some r=>exact d0V hV (q:=b) hb k1 h2
theorem d6W{a b:Pr}:bM (aZ a b)<=bM a+bM b+1:=by
 have pos:∀p:Pr,1<=bM p:=λp=>by cases p;simp[bM]
 have ha:=pos a;have hb:=pos b;unfold aZ b4s;cases h1:b6P a (a4V true,false)with
 |none=>simp only[b6Q];omega
 |some s=>
  have k1:bM s.1<=bM a/\(s.2=false->bM s.1=1):=by
   unfold b6P at h1;split at h1
   .cases h1;simp only[b6Q];exact⟨ha,λ_=>trivial⟩
   split at h1
   .cases h1
   simp only[Bool.false_eq_true,if_false,g1c]at h1;subst h1;exact⟨g1m _,λh=>by cases h⟩
  simp only[b4s];cases h2:b6P b s with
  |none=>simp only[b6Q];omega
  |some r=>
   simp only;unfold b6P at h2;split at h2
   .cases h2;omega
   split at h2
   .cases h2
   split at h2
   .cases h2;simp only[b6R];omega
   .cases h2;simp only;omega
omit hV in
theorem cH{α β:Type}{x:bE α}{f:α->bE β}{i j:Nat}{b:β}(h:(x >>=f) i=.ok b j):∃a k,x i=.ok a k/\f a k=.ok b j:=by
 rw[dN]at h;cases hx:x i with
 |bad n e=>rw[hx]at h;cases h
 |ok a k=>rw[hx]at h;exact⟨a,k,rfl,h⟩
theorem d2U{ty:bE Ty}(i:Nat)(t:Ty)(j:Nat)(h:vX aJ aZ aE l ty i=.ok t j):t.pred=eY:=by
 unfold vX at h;obtain⟨nm,k1,_,h⟩:=cH h;obtain⟨args,k2,_,h⟩:=cH h;obtain⟨b,k3,_,h⟩:=cH h;cases b with
 |true=>rw[if_pos rfl]at h;obtain⟨ps,k4,_,h⟩:=cH h;obtain⟨_,k5,_,h⟩:=cH h;cases h;rfl
 |false=>rw[if_neg (by decide)]at h;cases h;rfl
theorem c6v{ty:bE Ty}(qW:aB l 1 ty)(ity:∀i t j,i<l.length->ty i=.ok t j->TyI t i j)(i:Nat)(t:Ty)(j:Nat)(hi:i<l.length)(h:xU aZ aE l ty i=.ok t j):TyI t i j:=by
 unfold xU at h;obtain⟨_,k1,h1,h⟩:=cH h;obtain⟨t1,k2,h2,h⟩:=cH h;have a1:=aB.exp hV.fin _ _ i _ k1 hi h1;have a2:=qW k1 t1 k2 a1.2 h2;have i2:=ity k1 t1 k2 a1.2 h2;split at h
 .unfold eH at h;cases h
 obtain⟨_,k3,h3,h⟩:=cH h;obtain⟨p,k4,h4,h⟩:=cH h;obtain⟨_,k5,h5,h⟩:=cH h;have a3:=aB.exp hV.fin _ _ k2 _ k3 a2.2 h3;have a4:=hV.kL.pred k3 p k4 a3.2 h4;have a5:=aB.exp hV.fin _ _ k4 _ k5 a4.2 h5;have hp:=hV.nod k3 _ p k4 a3.2 h4;cases h;unfold TyI at i2|-;simp only;by_cases hz:t1.pred.op=0
 .rw[if_pos hz];exact⟨λh=>(hp.2 h).elim,by omega⟩
 .rw[if_neg hz];have hn:=d6W hV (a:=t1.pred) (b:=p);exact⟨λh=>(e2D hV hz hp.2 h).elim,by omega⟩
theorem d6X{ty:bE Ty}(qW:aB l 1 ty)(ity:∀i t j,i<l.length->ty i=.ok t j->TyI t i j)(i:Nat)(t:Ty)(j:Nat)(hi:i<l.length)(h:xV aJ l ty i=.ok t j):TyI t i j:=by
 have uV:=aB.d2d (kw:=aJ) hV.fin (qW.le (by omega)) hV.kL.pred i t j hi h;unfold xV at h;obtain⟨_,k1,h1,h⟩:=cH h;obtain⟨⟨ns,ts⟩,k2,h2,h⟩:=cH h;obtain⟨_,k3,h3,h⟩:=cH h;have a1:=aB.exp hV.fin _ _ i _ k1 hi h1;simp only at h2 h3 h;have hI:∀(x:bE (List Nm×List Ty)),(∀(I:List Nm×List Ty->Nat->Prop),I ([],[]) k1->(∀a p b q,p<l.length->k1<=p->I a p->(a6U l ty a p=.ok b q\/a5v ty a p=.ok b q)->I b q/\q<l.length/\k1<=q)->(∀a p,I a p->I a (p+1))->x k1=.ok (ns,ts) k2->I (ns,ts) k2/\k2<l.length)->x k1=.ok (ns,ts) k2->(∀t∈ts,(t.pred.op=0->t.pred=a9G)/\bM t.pred+k1<=k2+1)/\k2<l.length:=λx hx yJ=>by
  refine hx (λa p=>∀t∈a.2,(t.pred.op=0->t.pred=a9G)/\bM t.pred+k1<=p+1) (by simp) (λa p b q hp hk ha hab=>?_) (λa p ha t ht=>by have:=ha t ht;exact⟨this.1,by omega⟩) yJ;have key:∀t q',∀p',p<=p'->p'<l.length->ty p'=.ok t q'->(t.pred.op=0->t.pred=a9G)/\bM t.pred+k1<=q'+1/\q'<l.length/\p<=q':=λt q' p' h1 h2 h3=>by have b1:=ity p' t q' h2 h3;have b2:=qW p' t q' h2 h3;exact⟨b1.1,by have:=b1.2;omega,b2.2,by omega⟩
  rcases hab with hab|hab
  .obtain⟨w,m1,e1,hab⟩:=cH hab;obtain⟨_,m2,e2,hab⟩:=cH hab;obtain⟨t',m3,e3,hab⟩:=cH hab;have c1:=aB.word (kw:=aJ) hV.fin p w m1 hp e1;have c2:=aB.exp hV.fin _ _ m1 _ m2 c1.2 e2;have c3:=key t' m3 m2 (by omega) c2.2 e3;cases hab;refine⟨λt ht=>?_,c3.2.2.1,by omega⟩;simp only[List.mem_append,g1d]at ht;rcases ht with ht|rfl
   .have:=ha t ht;exact⟨this.1,by omega⟩
   .exact⟨c3.1,c3.2.1⟩
  .obtain⟨t',m3,e3,hab⟩:=cH hab;have c3:=key t' m3 p (g1m _) hp e3;cases hab;refine⟨λt ht=>?_,c3.2.2.1,by omega⟩;simp only[List.mem_append,g1d]at ht;rcases ht with ht|rfl
   .have:=ha t ht;exact⟨this.1,by omega⟩
   .exact⟨c3.1,c3.2.1⟩
 have hA:(∀t∈ts,(t.pred.op=0->t.pred=a9G)/\bM t.pred+k1<=k2+1)/\k2<l.length:=by
  split at h2
  .refine hI _ (λI h0 hs hm hx=>?_) h2;have:=uD hV (one:=a6U l ty) (λa p=>k1<=p/\I a p) (λa p b q hp ha hab=>by have:=hs a p b q hp ha.1 ha.2 (.inl hab);exact⟨⟨this.2.2,this.1⟩,this.2.1⟩) (λa p h=>⟨by omega,hm a p h.2⟩) _ _ _ _ _ a1.2 ⟨g1m _,h0⟩ hx
   exact⟨this.1.2,this.2⟩
  .refine hI _ (λI h0 hs hm hx=>?_) h2;have:=uD hV (one:=a5v ty) (λa p=>k1<=p/\I a p) (λa p b q hp ha hab=>by have:=hs a p b q hp ha.1 ha.2 (.inr hab);exact⟨⟨this.2.2,this.1⟩,this.2.1⟩) (λa p h=>⟨by omega,hm a p h.2⟩) _ _ _ _ _ a1.2 ⟨g1m _,h0⟩ hx
   exact⟨this.1.2,this.2⟩
 have a3:=aB.exp hV.fin _ _ k2 _ k3 hA.2 h3;split at h
 .rename_i hc;simp only[g0W,decide_eq_true_eq]at hc;obtain⟨t',rfl⟩:=List.length_eq_one_iff.1 hc.1.2;cases h;have:=hA.1 t' (by simp);simp only[List.headD_cons];exact⟨this.1,by omega⟩
 .obtain⟨_,k4,h4,h⟩:=cH h;obtain⟨t',k5,h5,h⟩:=cH h;cases h;exact b7o hV _ _ _ _ _ (by omega)
theorem d6Y{ty:bE Ty}(qW:aB l 1 ty)(ity:∀i t j,i<l.length->ty i=.ok t j->TyI t i j)(i:Nat)(t:Ty)(j:Nat)(hi:i<l.length)(h:yY aJ aZ aE l ty i=.ok t j):TyI t i j:=by
 have uV:=aB.d2e (kw:=aJ) (andP:=aZ) hV.fin (qW.le (by omega)) hV.kL.pred i t j hi h;unfold yY at h;rw[dN]at h;cases hb:gO aJ l i with
 |bad n e=>rw[hb]at h;cases h
 |ok o k=>
  rw[hb]at h;cases o with
  |some t'=>
   simp only[jG]at h;cases h;unfold gO at hb
   repeat' split at hb
   all_goals first|(cases hb;exact b7o hV _ _ _ _ _ (by omega))|cases hb
  |none=>
   have:=wQ hb;subst this;simp only at h;split at h
   .have hp:=d2U hV _ t j h;obtain⟨op,nm,args,ns,p,ps⟩:=t;simp only at hp;subst hp;exact b7o hV _ _ _ _ _ (by omega)
   .split at h
    .exact c6v hV qW ity _ t j hi h
    .exact d6X hV qW ity _ t j hi h
theorem b1B:∀n i t j,i<l.length->yZ aJ aZ aE l n i=.ok t j->TyI t i j
 |0,i,t,j,_,h=>by unfold yZ at h;cases h
 |n+1,i,t,j,hi,h=>d6Y hV (aB.b0J hV.fin hV.kL.pred n) (b1B n) i t j hi h
theorem b7p:∀n i,i<l.length->l.length<n+i->sJ G 39 [] l i (yZ aJ aZ aE l n i) a1e
 |0,i,hi,h=>by omega
 |n+1,i,hi,h=>d2T hV (ty:=yZ aJ aZ aE l n) (low:=i+1) (λi' h1 h2=>b7p n i' h2 (by omega)) (aB.b0J hV.fin hV.kL.pred n) (b1B hV n) i (g1m _) hi
theorem pI(i:Nat)(hi:i<l.length):sJ G 39 [] l i (jI aJ aZ aE l i) a1e:=b7p hV _ i hi (by omega)
theorem kM:aB l 1 (jI aJ aZ aE l):=aB.typ hV.fin hV.kL.pred
theorem d2V(i:Nat)(t:Ty)(j:Nat)(hi:i<l.length)(h:jI aJ aZ aE l i=.ok t j):TyI t i j:=b1B hV _ i t j hi h
theorem c2P(i:Nat)(hi:i<l.length):sJ G 124 [] l i (kW aJ aZ aE l (jI aJ aZ aE l) i) a1e:=b3L hV (low:=0) (λi _ h=>pI hV i h) ((kM hV).le (by omega)) (d2V hV) i (by omega) hi
def a3s(out:List Ty):List (Nat×bD):=[(100001,.cells [.d (.sl (out.map tyC))]),(100002,.cells [.ptr 100000 0])]
abbrev d6Z:List (TypeId×List VM.Loc):=[(45,[.c 100001 0])]
abbrev c2Q(aE:List Tok->Nat->Nat->kJ Pr)(l:List Tok)(out:List Ty):bE (List Ty):=do let t <- jI aJ aZ aE l;pure (out++[t])
theorem c9j:a1W l K3 [.ptr 100001 0,.ptr 100002 0] a3s d6Z:=by
 constructor
 all_goals intros
 all_goals first
  |rfl
  |simp[a3s,aL,aQ,aW,aV,bH,getKey,aR,bF,cX,rk,dD,bS, *]
theorem b7q(out:List Ty):aB l 1 (c2Q aE l out):=(kM hV).bl λ_=>aB.bY _
theorem c6w(a:List Ty)(i:Nat)(b:List Ty)(j:Nat)(hi:i<l.length)(h:a.length<=i)(hx:c2Q aE l a i=.ok b j):b.length<=j:=by obtain⟨t,k,h1,h2⟩:=cH hx;have:=kM hV i t k hi h1;cases h2;simp;omega
theorem b4w(out:List Ty)(i:Nat)(hi:i<l.length)(uJ:out.length<=i):oZ G 282 [.ptr 100001 0,.ptr 100002 0] (a3s out) d6Z l i (c2Q aE l out i) (λ_=>.cI []) a3s:=by
 have hl:=hV.len;obtain⟨j0,rfl⟩:∃j0,j0=i:=⟨_,rfl⟩;have p0:j0<=j0/\j0<l.length:=⟨g1m _,hi⟩;refine oZ.bL func282 rfl ntmps282 rfl (by simp) ?_;intro Q Q0;simp[a3s];refine b0X 5 (t:=28) (e:=45) (s:=2) (z:=6) (r:=7) (p:=8) (q:=5) (x:=4) (b:=0) [] 2 [1] (a5K 0 3 4) (kD (jI aJ aZ aE l j0)) rfl rfl rfl rfl (by kernel_rfl) (by kernel_rfl) rfl ?_;simp
 repeat' apply And.intro
 all_goals
  refine qK Q0 p0 dF ((pI hV j0 p0.2)) (kM hV) λt j1 x1 Q1 p1=>cJ.mk ?_;simp;refine⟨_,_,_,_,_,by simp,rfl,rfl,?_,rfl,rfl,?_,by simp,rfl,rfl,rfl,?_⟩
  .intro c hc
   first
    |(obtain⟨y,_,rfl⟩:=List.mem_map.1 hc
      rw[bV]
      rfl)
    |(simp only[g1d]at hc
      subst hc
      rfl)
  .simp<;>omega
  exact Q1.ok _ j1 .normal _ rfl (.inl rfl) (by simp[a3s,bV])
theorem a2a(i:Nat)(hi:i<l.length):sJ G 272 [] l i (rY aJ aZ aE l i) (λts=>.d (.sl (ts.map tyC))):=by
 have hl:=hV.len;obtain⟨j0,rfl⟩:∃j0,j0=i:=⟨_,rfl⟩;have p0:j0<=j0/\j0<l.length:=⟨g1m _,hi⟩;refine oZ.bL func272 rfl ntmps272 rfl (by simp) ?_;intro Q Q0;unfold rY at Q0;simp;cases hs:aH l j0 [91]with
 |false=>have Q1:=Q0.step (kZ hs);rw[if_neg (by decide)]at Q1;refine zH hs p0 ?_;simp;exact Q1.ok _ j0 _ _ rfl (.inr rfl) (by simp)
 |true=>
  have Q1:=Q0.step (kY hs);rw[if_pos rfl]at Q1;refine rdT hs p0 hV.fin λp1=>?_;obtain⟨j1,sL⟩:∃j1,j0+1=j1:=⟨_,rfl⟩;rw[sL]at Q1 p1|-;simp;have jS:=gP hV [44] (c2Q aE l) (λout i=>out.length<=i) 0 b1A (c9j hV) (λa=>(b7q hV a).le (by omega)) (λa i _ hi h=>b4w hV a i hi h) (c6w hV) (λa i h=>by omega) [] j1 (by omega) p1.2 (by simp);refine dO.mk (a1a eA jS [(100000,100000),(100001,3),(100002,1)] (λa j hx=>?_) ?_ ?_ ?_ rfl rfl (λws j2 x2=>?_) (λn e yJ=>Q1.fail yJ _))
  .simp[a3s,aL,aQ,aW,aV,bH,getKey]
  .simp[a3s,aL,aQ,aW,aV,bH,getKey]
  .simp[aR,bF,rk]
  .simp[a3s,aR,bF,rk,cX,dD]
  .have Q2:=Q1.step x2;have p2:=aB.list hV.fin (b7q hV) [] j1 ws j2 p1.2 x2;simp[bG,a3s,aR,bF,rk,cX,dD,bS,kC,gM,dX];refine dZ Q2 p2 hV.fin λu3 j3 x3 Q3 p3=>?_;simp;exact Q3.ok _ j3 _ _ rfl (.inr rfl) (by simp)
end
end
section
open Go Go.VM
variable {G:GT}
abbrev yL(e:cG):List D:=[.int .i64 e.op,.str e.name,.int .i64 e.n,.sl (e.kids.map a0Y),.sl (e.params.map a4F),.sl (e.alts.map b0K),.sl (e.types.map tyC)]
abbrev gQ:cG->DV:=λe=>.d (.agg (yL e))
@[simp] theorem f3l(o:Int)(ks:List cG):(cD o ks).op=o:=rfl
@[simp] theorem e9E(o:Int)(ks:List cG):(cD o ks).name=[]:=rfl
@[simp] theorem f5B(o:Int)(ks:List cG):(cD o ks).n=0:=rfl
@[simp] theorem e9F(o:Int)(ks:List cG):(cD o ks).kids=ks:=rfl
@[simp] theorem e5b(o:Int)(ks:List cG):(cD o ks).params=[]:=rfl
@[simp] theorem e9G(o:Int)(ks:List cG):(cD o ks).alts=[]:=rfl
@[simp] theorem e8g(o:Int)(ks:List cG):(cD o ks).types=[]:=rfl
theorem cS:VM.Enters prog 68:=.mk func68 rfl
theorem cM:VM.Enters prog 34:=.mk func34 rfl
theorem a9O:VM.Enters prog 168:=.mk func168 rfl
theorem yH:VM.Enters prog 247:=.mk func247 rfl
theorem a2T:VM.Enters prog 72:=.mk func72 rfl
theorem b9c:VM.Enters prog 121:=.mk func121 rfl
theorem c9k:VM.Enters prog 67:=.mk func67 rfl
theorem b7r:VM.Enters prog 271:=.mk func271 rfl
theorem a7a(o:Int)(ks:List cG):CS prog G 68 [.int .i64 o,.sl (ks.map a0Y)] (.d (.agg (yL (cD o ks)))) none:=by refine CS.res (r':=.d (.agg [.int .i64 o,.str [],.int .i64 0,.sl (ks.map a0Y),.aD,.aD,.aD])) ?_ (by simp);refine CS.aX func68 rfl ntmps68 rfl ?_;simp
theorem d2W(o:Int)(a:cG):CS prog G 68 [.int .i64 o,.sl [yL a]] (.d (.agg [.int .i64 o,.str [],.int .i64 0,.sl [a0Y a],.aD,.aD,.aD])) none:=by rw[bT];refine CS.aX func68 rfl ntmps68 rfl ?_;simp
theorem a7Y(o:Int)(a:cG):CS prog G 68 [.int .i64 o,.sl [yL a]] (.d (.agg (yL (cD o [a])))) none:=by
 have:=a7a (G:=G) o [a]
 rwa[List.map_cons,List.map_nil,bT]at this
theorem oB(o:Int)(a b:cG):CS prog G 68 [.int .i64 o,.sl [yL a,yL b]] (.d (.agg (yL (cD o [a,b])))) none:=by
 have:=a7a (G:=G) o [a,b]
 rwa[List.map_cons,List.map_cons,List.map_nil,bT a,bT b]at this
theorem d2X(o:Int)(a b c:cG):CS prog G 68 [.int .i64 o,.sl [yL a,yL b,yL c]] (.d (.agg (yL (cD o [a,b,c])))) none:=by
 have:=a7a (G:=G) o [a,b,c]
 rwa[List.map_cons,List.map_cons,List.map_cons,List.map_nil,bT a,bT b,bT c]at this
theorem c6x{α β γ:Type}(x:bE α)(f:α->bE β)(g:β->bE γ)(i:Nat):((x >>=f) >>=g) i=(x >>=λa=>f a >>=g) i:=by
 rw[dN,dN,dN];cases x i with
 |ok a j=>simp only[dN]
 |bad n e=>rfl
theorem tG.assoc{α β γ:Type}{Q:Exit->St->Prop}{rs:List ResultVar}{l:List Tok}{enc:γ->DV}{Y:γ->List (Nat×bD)}{own:List (TypeId×List VM.Loc)}{x:bE α}{f:α->bE β}{g:β->bE γ}{i:Nat}(h:tG Q rs l enc Y own (((x >>=f) >>=g) i)):tG Q rs l enc Y own ((x >>=λa=>f a >>=g) i):=by rwa[c6x]at h
theorem CH.drop{P:Program}{f:FuncId}{s0:St}{d:DV}{H1:List (Nat×bD)}{own1:List (TypeId×List VM.Loc)}(h:CH P G f s0 ⟨[d],H1,own1⟩):CH P G f s0 ⟨[d],H1,[]⟩:=λbase R μ args w hr=>(h base R μ args w hr).mono λe w' ⟨v,R',μ',he,gD,hs⟩=>⟨v,R',μ',he,⟨gD.defers,gD.size,gD.tmps,gD.jR,gD.inj,λc hc=>(by cases hc),by obtain⟨vs,rO⟩:=gD.own;obtain⟨vs',hv',_⟩:=a6i gD [] own1 vs ⟨rO.len,rO.one,rO.apart⟩ rfl;exact⟨vs',hv'.len,λi c v hc hv=>⟨(hv'.one i c v hc hv).eC,(hv'.one i c v hc hv).own,(hv'.one i c v hc hv).keys⟩,hv'.apart⟩,gD.vL,gD.qP,gD.base,gD.pass⟩,hs⟩
abbrev RdO(G:GT){α:Type}(f:FuncId)(ds:List D)(l:List Tok)(i:Nat)(e:TypeId)(r:kJ α)(enc:α->DV):Prop:=CX prog G f ⟨.ptr 100000 0::ds.map .d,rH l i,[]⟩ (rdE l enc (λ_=>[]) [(e,[.t 0])] r)
theorem RdO.m{α:Type}{f:FuncId}{ds:List D}{l:List Tok}{i:Nat}{e:TypeId}{r:kJ α}{enc:α->DV}(h:RdO G f ds l i e r enc):sJ G f ds l i r enc:=by
 cases r with
 |ok a j=>exact CH.drop h
 |bad n x=>exact h
section
variable {β:Type} {Q:Exit->St->Prop} {rs:List ResultVar} {l:List Tok} {i:Nat} {enc:β->DV} {e:TypeId} {r:kJ β}
theorem RdO.bL{f:FuncId}{fn:Func}{c:Code}{k:Nat}{ds:List D}(hf:prog.funcs[f]? =some fn)(hb:fn.body=some c)(hn:fn.ntmps=k)(hrs:fn.results.toList=rs)(h:∀Q:Exit->St->Prop,tG Q rs l enc (λ_=>[]) [(e,[.t 0])] r->XK prog G [.code c] .normal ⟨.ptr 100000 0::ds.map .d++List.replicate (k-(.ptr 100000 0::ds.map .d:List DV).length) (.cI []),rH l i,[]⟩ Q):RdO G f ds l i e r enc:=by
 refine CX.b6t hf hb hn hrs rfl λQ h1 h2=>SW.xk (h Q ⟨λa j e s hr he hs=>?_,λn e s hr=>?_⟩)
 .subst hr;exact h1 _ _ _ e s rfl he hs
 .subst hr;exact h2 _ s rfl
end
section
variable {aE:List Tok->Nat->Nat->kJ Pr} {l:List Tok} (hV:pY G aE l)
include hV
section
variable {ex:Nat->bE cG} {low:Nat} (hex:∀i,low<=i->i<l.length->sJ G 34 [] l i (ex 0 i) gQ) (eV:∀k,aB l 1 (ex k))
include hex eV
def a8K(out:List cG):List (Nat×bD):=[(100001,.cells [.d (.sl (out.map a0Y))]),(100002,.cells [.ptr 100000 0])]
abbrev e5c:List (TypeId×List VM.Loc):=[(30,[.c 100001 0])]
abbrev c6y(ex:Nat->bE cG)(out:List cG):bE (List cG):=do let e <- ex 0;pure (out++[e])
omit hex eV in
theorem d2Y:a1W l K3 [.ptr 100001 0,.ptr 100002 0] a8K e5c:=by
 constructor
 all_goals intros
 all_goals first
  |rfl
  |simp[a8K,aL,aQ,aW,aV,bH,getKey,aR,bF,cX,rk,dD,bS, *]
omit hex in
theorem b2D(out:List cG):aB l 1 (c6y ex out):=(eV 0).bl λ_=>aB.bY _
omit hex in
theorem b7s(a:List cG)(i:Nat)(b:List cG)(j:Nat)(hi:i<l.length)(h:a.length<=i)(hx:c6y ex a i=.ok b j):b.length<=j:=by obtain⟨t,k,h1,h2⟩:=cH hx;have:=eV 0 i t k hi h1;cases h2;simp;omega
theorem c6z(out:List cG)(i:Nat)(cC:low<=i)(hi:i<l.length)(uJ:out.length<=i):oZ G 121 [.ptr 100001 0,.ptr 100002 0] (a8K out) e5c l i (c6y ex out i) (λ_=>.cI []) a8K:=by
 have hl:=hV.len;obtain⟨j0,rfl⟩:∃j0,j0=i:=⟨_,rfl⟩;have p0:j0<=j0/\j0<l.length:=⟨g1m _,hi⟩;refine oZ.bL func121 rfl ntmps121 rfl (by simp) ?_;intro Q Q0;simp[a8K];refine b0X 5 (t:=25) (e:=30) (s:=2) (z:=6) (r:=7) (p:=8) (q:=5) (x:=4) (b:=0) [] 2 [1] (a5K 0 3 4) (kD (ex 0 j0)) rfl rfl rfl rfl (by kernel_rfl) (by kernel_rfl) rfl ?_;simp
 repeat' apply And.intro
 all_goals
  refine qK Q0 p0 cM ((hex j0 cC p0.2)) (eV 0) λt j1 x1 Q1 p1=>cJ.mk ?_;simp;refine⟨_,_,_,_,_,by simp,rfl,rfl,?_,rfl,rfl,?_,by simp,rfl,rfl,rfl,?_⟩
  .intro c hc
   first
    |(obtain⟨y,_,rfl⟩:=List.mem_map.1 hc
      rw[bT]
      rfl)
    |(simp only[g1d]at hc
      subst hc
      rfl)
  .simp<;>omega
  exact Q1.ok _ j1 .normal _ rfl (.inl rfl) (by simp[a8K,bT])
theorem b7t(i:Nat)(cC:low<=i+1)(hi:i<l.length):RdO G 72 [] l i 30 (jH l ex i) (λes=>.d (.sl (es.map a0Y))):=by
 have hl:=hV.len;obtain⟨j0,rfl⟩:∃j0,j0=i:=⟨_,rfl⟩;have p0:j0<=j0/\j0<l.length:=⟨g1m _,hi⟩;refine RdO.bL func72 rfl ntmps72 rfl ?_;intro Q Q0;unfold jH at Q0;simp;refine dZ Q0 p0 hV.fin λu1 j1 x1 Q1 p1=>?_;simp;have jS:=gP hV [44] (c6y ex) (λout i=>out.length<=i) low b9c (d2Y hV) (λa=>(b2D hV eV a).le (by omega)) (λa i sE hi h=>c6z hV hex eV a i sE hi h) (b7s hV eV) (λa i h=>by omega) [] j1 (by omega) p1.2 (by simp);refine dO.mk (a1a eA jS [(100000,100000),(100001,3),(100002,1)] (λa j hx=>?_) ?_ ?_ ?_ rfl rfl (λws j2 x2=>?_) (λn e yJ=>Q1.fail yJ _))
 .simp[a8K,aL,aQ,aW,aV,bH,getKey]
 .simp[a8K,aL,aQ,aW,aV,bH,getKey]
 .simp[aR,bF,rk]
 .simp[a8K,aR,bF,rk,cX,dD]
 .have Q2:=Q1.step x2;have p2:=aB.list hV.fin (λa=>b2D hV eV a) [] j1 ws j2 p1.2 x2;simp[bG,a8K,aR,bF,rk,cX,dD,bS,kC,gM,dX];refine dZ Q2 p2 hV.fin λu3 j3 x3 Q3 p3=>?_;simp;exact Q3.ok _ j3 _ _ rfl (.inr rfl) (by simp)
theorem a9P(i:Nat)(cC:low<=i+1)(hi:i<l.length):sJ G 72 [] l i (jH l ex i) (λes=>.d (.sl (es.map a0Y))):=(b7t hV hex eV i cC hi).m
theorem c0N(op:Int)(i:Nat)(cC:low<=i+1)(hi:i<l.length):sJ G 271 [.int .i64 op] l i (a1Q l ex op i) gQ:=by have hl:=hV.len;obtain⟨j0,rfl⟩:∃j0,j0=i:=⟨_,rfl⟩;have p0:j0<=j0/\j0<l.length:=⟨g1m _,hi⟩;refine oZ.bL func271 rfl ntmps271 rfl (by simp) ?_;intro Q Q0;unfold a1Q at Q0;simp;refine dZ Q0 p0 hV.fin λu1 j1 x1 Q1 p1=>?_;simp;refine sY Q1 p1 cM ((hex j1 (by omega) p1.2)) (eV 0) λe j2 x2 Q2 p2=>?_;simp;refine dZ Q2 p2 hV.fin λu3 j3 x3 Q3 p3=>?_;simp;refine mG.mk cS (a7Y op e) ?_;simp;exact Q3.ok _ j3 _ _ rfl (.inr rfl) (by simp)
theorem d2Z(i:Nat)(cC:low<=i+1)(hi:i<l.length):sJ G 67 [] l i (a3j aJ aZ aE l ex i) gQ:=by
 have hl:=hV.len;obtain⟨j0,rfl⟩:∃j0,j0=i:=⟨_,rfl⟩;have p0:j0<=j0/\j0<l.length:=⟨g1m _,hi⟩;refine oZ.bL func67 rfl ntmps67 rfl (by simp) ?_;intro Q Q0;unfold a3j at Q0;simp;refine sY Q0 p0 dG (dT hV.kw l j0 p0.2 (by omega)) (aB.word hV.fin) λnm j1 x1 Q1 p1=>?_;simp;cases hs:aH l j1 [58]with
 |false=>
  have Q2:=Q1.step (kZ hs);rw[if_neg (by decide)]at Q2;refine zH hs p1 ?_;simp;have Q1:=Q2.step (jG _ _);refine dZ Q1 p1 hV.fin λu4 j4 x4 Q4 p4=>?_;simp;refine sY Q4 p4 cM ((hex j4 (by omega) p4.2)) (eV 0) λx j5 x5 Q5 p5=>?_;simp;refine dZ Q5 p5 hV.fin λu6 j6 x6 Q6 p6=>?_;simp;refine gC [1] 2 [] (.op 0 (.call [3,4,5] .none) (.call [0,3,4,5] .none)) (kD (ex 0 j6)) (by kernel_rfl) (by kernel_rfl) ?_;simp;refine⟨?_,?_⟩
  all_goals
   refine qK Q6 p6 cM ((hex j6 (by omega) p6.2)) (eV 0) λy j7 x7 Q7 p7=>cJ.mk ?_;simp;exact Q7.ok _ j7 _ _ rfl (.inr rfl) (by simp[bT,bV])
 |true=>
  have Q2:=Q1.step (kY hs);rw[if_pos rfl]at Q2;refine rdT hs p1 hV.fin λp2=>?_;obtain⟨j2,tY⟩:∃j2,j1+1=j2:=⟨_,rfl⟩;rw[tY]at Q2 p2|-;simp;have Q2:=Q2.assoc;refine sY Q2 p2 dF ((pI hV j2 p2.2)) (kM hV) λt j3 x3 Q3 p3=>?_;simp;have Q3:=Q3.step (jG _ _);refine dZ Q3 p3 hV.fin λu4 j4 x4 Q4 p4=>?_;simp;refine sY Q4 p4 cM ((hex j4 (by omega) p4.2)) (eV 0) λx j5 x5 Q5 p5=>?_;simp;refine dZ Q5 p5 hV.fin λu6 j6 x6 Q6 p6=>?_;simp;refine gC [1] 2 [] (.op 0 (.call [3,4,5] .none) (.call [0,3,4,5] .none)) (kD (ex 0 j6)) (by kernel_rfl) (by kernel_rfl) ?_;simp;refine⟨?_,?_⟩
  all_goals
   refine qK Q6 p6 cM ((hex j6 (by omega) p6.2)) (eV 0) λy j7 x7 Q7 p7=>cJ.mk ?_;simp;exact Q7.ok _ j7 _ _ rfl (.inr rfl) (by simp[bT,bV])
end
end
end
section
open Go Go.VM
variable {G:GT}
theorem b1C:VM.Enters prog 136:=.mk func136 rfl
theorem b7u:VM.Enters prog 174:=.mk func174 rfl
theorem c2R:VM.Enters prog 152:=.mk func152 rfl
theorem b4x:VM.Enters prog 153:=.mk func153 rfl
abbrev f1P(b:uO):List D:=.str b.name::.sl (b.vars.map pQ)::(prD b.hyp++prD b.goal)
theorem d0W(b:uO):c8A b=f1P b:=by
 rw[c8A,dE,dE]
 rfl
section
variable {aE:List Tok->Nat->Nat->kJ Pr} {l:List Tok} (hV:pY G aE l)
include hV
def a3t(out:List psV):List (Nat×bD):=[(100001,.cells [.ptr 100000 0]),(100002,.cells [.d (.sl (out.map pQ))])]
abbrev d7a:List (TypeId×List VM.Loc):=[(181,[.c 100002 0])]
abbrev c2S(l:List Tok)(out:List psV):bE (List psV):=do
 let c <- gT l
 let w <- bW aJ l
 pure (out++[(c,w)])
theorem c9l:a1W l K3 [.ptr 100001 0,.ptr 100002 0] a3t d7a:=by
 constructor
 all_goals intros
 all_goals first
  |rfl
  |simp[a3t,aL,aQ,aW,aV,bH,getKey,aR,bF,cX,rk,dD,bS, *]
theorem b7v(out:List psV):aB l 1 (c2S l out):=(aB.title hV.fin).bl λ_=>((aB.word hV.fin).le (by omega)).bl λ_=>aB.bY _
theorem c6A(a:List psV)(i:Nat)(b:List psV)(j:Nat)(hi:i<l.length)(h:a.length<=i)(hx:c2S l a i=.ok b j):b.length<=j:=by have h1:=b7v hV a i b j hi hx;obtain⟨_,_,_,hx⟩:=cH hx;obtain⟨_,_,_,hx⟩:=cH hx;cases hx;simp;omega
theorem c2T(out:List psV)(i:Nat)(hi:i<l.length)(uJ:out.length<=i):oZ G 174 [.ptr 100001 0,.ptr 100002 0] (a3t out) d7a l i (c2S l out i) (λ_=>.cI []) a3t:=by
 have hl:=hV.len;obtain⟨j0,rfl⟩:∃j0,j0=i:=⟨_,rfl⟩;have p0:j0<=j0/\j0<l.length:=⟨g1m _,hi⟩;refine oZ.bL func174 rfl ntmps174 rfl (by simp) ?_;intro Q Q0;simp[a3t];refine sY Q0 p0 kG (mR l j0 p0.2 (by omega)) (aB.title hV.fin) λc j1 x1 Q1 p1=>?_;simp;refine gC [1] 3 [2] (.op 0 (.call [4,5,6,7] .none) (.call [0,4,5,6,7] .none)) (kD (bW aJ l j1)) (by kernel_rfl) (by kernel_rfl) ?_;simp;refine⟨?_,?_⟩
 all_goals
  refine qK Q1 p1 dG (dT hV.kw l j1 p1.2 (by omega)) (aB.word hV.fin) λw j2 x2 Q2 p2=>cJ.mk ?_;simp;refine cK (by first|omega|(simp[pQ];omega)) ?_;simp;exact Q2.ok _ j2 _ _ rfl (.inl rfl) (by simp[a3t,a7P hV])
theorem b3S(i:Nat)(hi:i<l.length):sJ G 136 [] l i (zU aJ l i) (λws=>.d (.sl (ws.map pQ))):=by
 have hl:=hV.len;refine oZ.bL func136 rfl ntmps136 rfl (by simp) ?_;intro Q Q0;unfold zU at Q0;simp;have jS:=gP hV [44] (c2S l) (λout i=>out.length<=i) 0 b7u (c9l hV) (λa=>(b7v hV a).le (by omega)) (λa i _ hi h=>c2T hV a i hi h) (c6A hV) (λa i h=>by omega) [] i (by omega) hi (by simp);refine dO.mk (a1a eA jS [(100000,100000),(100001,1),(100002,3)] (λa j hx=>?_) ?_ ?_ ?_ rfl rfl (λws j2 yJ=>?_) (λn e yJ=>Q0.bad n e _ yJ))
 .simp[a3t,aL,aQ,aW,aV,bH,getKey]
 .simp[a3t,aL,aQ,aW,aV,bH,getKey]
 .simp[aR,bF,rk]
 .simp[a3t,aR,bF,rk,cX,dD]
 .simp[bG,a3t,aR,bF,rk,cX,dD,bS,kC,gM,dX];exact Q0.ok _ j2 _ _ yJ (.inr rfl) (by simp)
theorem c6B(i:Nat)(hi:i<l.length):sJ G 152 [] l i (a0W aJ aE l i) (λb=>.d (.agg (f1P b))):=by have hl:=hV.len;obtain⟨j0,rfl⟩:∃j0,j0=i:=⟨_,rfl⟩;have p0:j0<=j0/\j0<l.length:=⟨g1m _,hi⟩;refine oZ.bL func152 rfl ntmps152 rfl (by simp) ?_;intro Q Q0;unfold a0W at Q0;simp;refine sY Q0 p0 dG (dT hV.kw l j0 p0.2 (by omega)) (aB.word hV.fin) λnm j1 x1 Q1 p1=>?_;simp;refine dZ Q1 p1 hV.fin λu2 j2 x2 Q2 p2=>?_;simp;refine sY Q2 p2 a2P ((a4T hV false j2 p2.2)) ((aB.vars hV.fin false)) λvs j3 x3 Q3 p3=>?_;simp;refine dZ Q3 p3 hV.fin λu4 j4 x4 Q4 p4=>?_;simp;refine sY Q4 p4 rM (uC hV j4 p4.2) (hV.kL.pred) λp j5 x5 Q5 p5=>?_;simp;refine dZ Q5 p5 hV.fin λu6 j6 x6 Q6 p6=>?_;simp;refine sY Q6 p6 rM (uC hV j6 p6.2) (hV.kL.pred) λq j7 x7 Q7 p7=>?_;simp;refine dZ Q7 p7 hV.fin λu8 j8 x8 Q8 p8=>?_;simp;exact Q8.ok _ j8 _ _ rfl (.inr rfl) (by simp)
omit hV in
theorem a3Y(t:Tok):(bJ t).length=4:=rfl
theorem e8i{g:Nat}{d:Int}{i:Nat}(hi:i<l.length)(h:cV (aG l i) [40]=true):pE l (g+1) d i=pE l g (d+1) (i+1):=by rw[pE,if_pos hi,if_pos h]
theorem e8j{g:Nat}{d:Int}{i:Nat}(hi:i<l.length)(h0:cV (aG l i) [40]=false)(h:cV (aG l i) [41]=true):pE l (g+1) d i=pE l g (d-1) (i+1):=by rw[pE,if_pos hi,if_neg (by rw[h0];decide),if_pos h]
theorem e8k{g:Nat}{d:Int}{i:Nat}(hi:i<l.length)(h0:cV (aG l i) [40]=false)(h1:cV (aG l i) [41]=false):pE l (g+1) d i=if cV (aG l i) [61]&&decide (d<=0) then i else pE l g d (i+1):=by rw[pE,if_pos hi,if_neg (by rw[h0];decide),if_neg (by rw[h1];decide)]
theorem e8l{g:Nat}{d:Int}{i:Nat}(hi: ¬i<l.length):pE l (g+1) d i=l.length:=by rw[pE,if_neg hi]
theorem b4T:∀(g:Nat) (d:Int) (i:Nat),pE l g d i<=l.length
 |0,d,i=>by unfold pE;omega
 |g+1,d,i=>by
  unfold pE;split
  .split
   .exact b4T g _ _
   .split
    .exact b4T g _ _
    .split
     .omega
     .exact b4T g _ _
  .omega
theorem b7w(i:Nat)(hi:i<l.length):CH prog G 153 ⟨[.ptr 100000 0],rH l i,[]⟩ ⟨[.d (.int .i64 (pE l (l.length+1) 0 i))],rH l i,[]⟩:=by
 have hl:=hV.len;generalize hR:pE l (l.length+1) 0 i=R;refine CH.aX func153 rfl ntmps153 rfl (by simp) ?_;simp;refine SW.eX (ι:={x:Int×Nat×Nat//i<=x.2.1/\x.2.1<=l.length/\l.length<x.2.2+x.2.1/\(-(x.2.1:Int)<=x.1/\x.1<=x.2.1)/\pE l x.2.2 x.1 x.2.1=R}) (λx=>[(3,.d (.int .i64 x.1.1)),(4,.d (.int .i64 x.1.2.1))]) (λ_=>rH l i) (λ_=>[]) (λx=>l.length-x.1.2.1) ⟨(0,i,l.length+1),g1m _,by simp only;omega,by simp only;omega,by simp only;omega,hR⟩ (by simp) ?_;rintro⟨⟨d,k,g⟩,h1,h2,h3,h4,hp⟩;simp only at h1 h2 h3 h4 hp;obtain⟨g,rfl⟩:∃k,g=k+1:=⟨g-1,by omega⟩;by_cases hk:k<l.length
 .have hT:aG l k=l[k]:=by simp[aG,hk]
  have hw:=bA (show k<9223372036854775807 by omega);have hd1:IntKind.i64.wrap (d+1)=d+1:=wrap64 (by omega);have hd2:IntKind.i64.wrap (d-1)=d-1:=wrap64 (by omega);simp[hk,a3Y];refine aC.mk oE (pF l[k] [40]) ?_;cases e1:cV l[k] [40]with
  |true=>rw[e8i hV hk (by rw[hT];exact e1)]at hp;simp[hd1,hw];exact bC.mk ⟨(d+1,k+1,g),by simp only;omega,by simp only;omega,by simp only;omega,by simp only;omega,hp⟩ (by simp) (by simp;omega)
  |false=>
   simp[hk,a3Y];refine aC.mk oE (pF l[k] [41]) ?_;cases e2:cV l[k] [41]with
   |true=>rw[e8j hV hk (by rw[hT];exact e1) (by rw[hT];exact e2)]at hp;simp[hd2,hw];exact bC.mk ⟨(d-1,k+1,g),by simp only;omega,by simp only;omega,by simp only;omega,by simp only;omega,hp⟩ (by simp) (by simp;omega)
   |false=>
    rw[e8k hV hk (by rw[hT];exact e1) (by rw[hT];exact e2),hT]at hp;simp[hk,a3Y];refine aC.mk oE (pF l[k] [61]) ?_;cases e3:cV l[k] [61]with
    |true=>
     by_cases hd:d<=0
     .rw[e3,if_pos (by simp[hd])]at hp;subst hp;simp[hd]
     .rw[e3,if_neg (by simp[hd])]at hp;simp[hd,hw];exact bC.mk ⟨(d,k+1,g),by simp only;omega,by simp only;omega,by simp only;omega,by simp only;omega,hp⟩ (by simp) (by simp;omega)
    |false=>rw[e3,if_neg (by simp)]at hp;simp[hw];exact bC.mk ⟨(d,k+1,g),by simp only;omega,by simp only;omega,by simp only;omega,by simp only;omega,hp⟩ (by simp) (by simp;omega)
 .rw[e8l hV hk]at hp;subst hp;simp[hk,a3Y]
end
end
end Go.Proofs.YtjpodcmhcenjjaaGreatDoor
