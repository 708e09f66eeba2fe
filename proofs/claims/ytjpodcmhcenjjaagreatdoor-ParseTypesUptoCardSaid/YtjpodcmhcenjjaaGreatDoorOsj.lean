/- Lemmas that the law of this claim needs (PwJ PwK PwL PwM ZR PuD ZS ZT ZW PrO). No condition. -/
import Derived.Test.YtjpodcmhcenjjaaGreatDoorOsa
import Derived.Test.YtjpodcmhcenjjaaGreatDoorOsc
import Derived.Test.YtjpodcmhcenjjaaGreatDoorOsd
import Derived.Test.YtjpodcmhcenjjaaGreatDoorOse
import Derived.Test.YtjpodcmhcenjjaaGreatDoorOsf
import Derived.Test.YtjpodcmhcenjjaaGreatDoorOsg
import Derived.Test.YtjpodcmhcenjjaaGreatDoorOsh
import Derived.Test.YtjpodcmhcenjjaaGreatDoorOsi
set_option linter.unusedVariables false
set_option linter.unusedSimpArgs false
set_option linter.unusedSectionVars false
set_option maxRecDepth 100000
set_option maxHeartbeats 64000000
open Go.Proofs.Tryz
namespace Go.Proofs.YtjpodcmhcenjjaaGreatDoor
section
open Go Go.VM
variable {G:GT}
section
variable {α β:Type} {l:List Tok}
theorem b5l{c:Nm}{one:α->RM α}{P:α->Prop}(h:∀a s,P a->P (one a s).1):∀(g:Nat) (a:α) (s:jK),P a->P (tM l c one g a s).1
 |0,a,s,hp=>hp
 |g+1,a,s,hp=>by
  unfold tM;split
  .split
   .exact b5l h g _ _ (h a s hp)
   .exact h a s hp
  .exact hp
end
def RmP{α:Type}(P:α->Prop)(x:RM α):Prop:=∀s,P (x s).1
section
variable {α β:Type} {P:β->Prop} {R:α->Prop} {x:RM α} {f:α->RM β}
theorem RmP.zO(hf:∀a,RmP P (f a)):RmP P (x >>=f):=λs=>hf _ _
theorem RmP.c6C(hx:RmP R x)(hf:∀a,R a->RmP P (f a)):RmP P (x >>=f):=λs=>hf _ (hx s) _
theorem RmP.bE{b:β}(h:P b):RmP P (pure b):=λs=>h
theorem RmP.ite{c:Bool}{x y:RM β}(hx:RmP P x)(hy:RmP P y):RmP P (if c then x else y):=by
 cases c
 .exact hy
 .exact hx
end
theorem d0k(a b:Pr):bH (bQ a b)<=bH a+bH b+1:=by
 have pos:∀p:Pr,1<=bH p:=λp=>by cases p;simp[bH]
 have ha:=pos a;have hb:=pos b;rw[<-c8v];have e1:bH a3L=1:=by simp[a3L,bH,cW]
 have e2:bH a0d=1:=by simp[a0d,bH,cW]
 have ht:rX a0d=true:=by decide
 simp only[b7l,ht,if_true]
 repeat' split
 all_goals try simp only[b5f,e1,e2]
 all_goals omega
theorem a5N:VM.Enters prog 95:=.mk func95 rfl
theorem b2M:VM.Enters prog 144:=.mk func144 rfl
theorem xN:VM.Enters prog 54:=.mk func54 rfl
section
variable {aI:List Tok->Nat->Nat->kN Pr} {l:List Tok} (hV:a1V G aI l)
include hV
theorem b5m(e:Nat)(s:jK):bH (qU aI l e s).1<=20001:=by
 have h1:bH eA=1:=by simp[eA,bH,cW]
 unfold qU;split
 .cases h:aI l s.pl e with
  |ok p j=>exact hV.nod _ _ _ _ h
  |bad n x=>simp only[h1];omega
 .simp only[h1];omega
theorem b8Q:∀(n:Nat) (s:jK),bH (a8f aU bQ aI l n s).1.pred<=n*20003+1
 |0,s=>by
  show bH eA<=_
  have h1:bH eA=1:=by simp[eA,bH,cW]
  omega
 |n+1,s=>by
  have h1:bH eA=1:=by simp[eA,bH,cW]
  have ih:=b8Q n
  show bH (a3D aU bQ aI l (a8f aU bQ aI l n) s).1.pred<=_
  generalize a8f aU bQ aI l n=ty at ih;have z:bH eA<=(n+1)*20003+1:=by omega
  have hR:RmP (λt:Ty=>bH t.pred<=(n+1)*20003+1) (a5B bQ aI l ty):=by
   unfold a5B;refine RmP.zO λ_=>RmP.zO λ_=>RmP.zO λ_=>RmP.c6C (R:=λt:Ty=>bH t.pred<=n*20003+1) ih λt ht=>RmP.zO λ_=>RmP.c6C (R:=λp:Pr=>bH p<=20001) (λs=>b5m hV _ s) λp hp=>RmP.zO λ_=>RmP.bE ?_
   show bH (if _=0 then _ else _)<=_
   split
   .omega
   .exact Nat.le_trans (d0k _ _) (by omega)
  have hF:RmP (λt:Ty=>bH t.pred<=(n+1)*20003+1) (xH aU l ty):=by
   unfold xH;refine RmP.zO λ_=>RmP.zO λnamed=>RmP.c6C (R:=λp:List Nm×List Ty=>∀t∈p.2,bH t.pred<=(n+1)*20003+1) (λs=>b5l (P:=λp:List Nm×List Ty=>∀t∈p.2,bH t.pred<=(n+1)*20003+1) (λa s ha=>?_) _ _ _ (λt ht=>by cases ht)) λp hp=>?_
   .have h2:∀(ns:List Nm) (t:Ty),bH t.pred<=n*20003+1->∀u∈(ns,a.2++[t]).2,bH u.pred<=(n+1)*20003+1:=λns t ht u hu=>by
     simp only[List.mem_append,f7O]at hu;rcases hu with hu|rfl
     .exact ha u hu
     .omega
    have h3:RmP (λp:List Nm×List Ty=>∀t∈p.2,bH t.pred<=(n+1)*20003+1) (if named then(wC aU l >>=λw=>gO l [58] >>=λ_=>ty >>=λt=>pure (a.1++[w],a.2++[t])) else ty >>=λt=>pure (a.1,a.2++[t])):=RmP.ite (RmP.zO λw=>RmP.zO λ_=>RmP.c6C (R:=λt:Ty=>bH t.pred<=n*20003+1) ih λt ht=>RmP.bE (h2 _ t ht)) (RmP.c6C (R:=λt:Ty=>bH t.pred<=n*20003+1) ih λt ht=>RmP.bE (h2 _ t ht));exact h3 s
   .obtain⟨ns,ts⟩:=p;refine RmP.zO λ_=>RmP.zO λc=>RmP.ite (RmP.bE ?_) (RmP.zO λ_=>RmP.zO λt=>RmP.bE z);cases ts with
    |nil=>exact z
    |cons t r=>exact hp t (List.mem_cons_self ..)
  have hD:∀nm,RmP (λt:Ty=>bH t.pred<=(n+1)*20003+1) (a3C aU bQ aI l ty nm):=λnm=>by unfold a3C;exact RmP.zO λ_=>RmP.zO λ_=>RmP.ite (RmP.zO λ_=>RmP.zO λ_=>RmP.bE z) (RmP.bE z)
  have hP:bH (cM aU l s).1.1.pred<=(n+1)*20003+1:=by
   unfold cM;split
   .exact z
   .split
    .exact z
    .show bH (Ty.pred (if _ then _ else _))<=_
     repeat' split
     all_goals exact z
  unfold a3D
  repeat' split
  .exact hR s
  .exact hF s
  .exact hD _ _
  .exact hP
  .exact z
  .exact z
theorem b5n{s s1:jK}{p:Pr}(hv:pU l s)(h:a8d aI l s=(p,s1)):RfP l 0 s s1:=(cS.pred (low:=0) hV.nz).sB hV.sB.pred hv (λ_=>Nat.zero_le _) h
omit hV in
theorem b8R(hE:jJ l){s s1:jK}{p:Ty×Bool}(hv:pU l s)(h:cM aU l s=(p,s1)):pU l s1:=λh1=>by
 unfold cM at h;split at h
 .rename_i hw;cases h;simp only at h1;unfold xG mL at hw;rw[if_pos ⟨h1,hv h1⟩]at hw;simp only[f7H,decide_eq_true_eq]at hw;exact oQ hE (hv h1) (by have:=hw.1;simp only[Nat.add_zero]at this;omega)
 .split at h
  .cases h;exact hv h1
  .rename_i hw;cases h;simp only at h1;unfold a9E mL at hw;rw[if_pos ⟨h1,hv h1⟩]at hw;simp only[Bool.not_eq_true,Bool.not_eq_false',decide_eq_true_eq]at hw;exact oQ hE (hv h1) (by simp only[Nat.add_zero]at hw;omega)
omit hV in
theorem c4a{s s1:jK}{p:Ty×Bool}(hv:pU l s)(h:cM aU l s=(p,s1))(h1:s1.er=0):s.er=0/\s.pl<=s1.pl:=by
 unfold cM at h
 repeat' split at h
 all_goals
  cases h;exact⟨h1,by simp⟩
section
variable {x:aZ Ty} {ty:RM Ty} {low:Nat} (hM:cS l (low+1) x ty) (ax:aB l 1 x) (kH:∀s,pU l s->(s.er=0->low+1<=s.pl)->qV G 54 [] l s (ty s) zL) (nty:∀s,bH (ty s).1.pred<=430000000)
include hM ax kH nty
theorem a7m(s:jK)(hv:pU l s)(gW:s.er=0->low<=s.pl):qV G 95 [] l s (a5B bQ aI l ty s) zL:=by
 have hl:=hV.len;obtain⟨s0,rfl⟩:∃s0,s0=s:=⟨_,rfl⟩;have v0:=hv;refine qV.bS func95 rfl ntmps95 rfl ?_;intro Q Q0;unfold a5B at Q0;simp;refine rfM Q0 v0 hV.fin λu1 s1 h1 Q1 p1 v1=>?_;simp;refine uC b4P (b8A (by omega) [118] s1 v1) (λc x hx=>?_);cases hx;simp;refine uC sP (a0X (by omega) (b4O l [118] s1) s1 v1) (λu2 s2 h2=>?_);have Q2:=Q1.step (x:=b8z l [118]) h2;have p2:=b8P hV.fin v1 h2;have v2:=pU.next p2;simp;refine rfM Q2 v2 hV.fin λu3 s3 h3 Q3 p3 v3=>?_;simp;have l3:s3.er=0->low+1<=s3.pl:=λh=>by have:=((RfP.tr p1 p2).tr p3) h;have:=gW this.1;omega
 refine uC xN (kH s3 v3 l3) (λt s4 h4=>?_);have Q4:=Q3.step h4;have p4:=hM.sB ax v3 l3 h4;have v4:=pU.next p4;have n4:bH t.pred<=430000000:=by
  have:=nty s3
  rwa[h4]at this
 have htk:∀B,B=(gI l 0 [124] s4&& !decide (t.op=6))->qV G 91 [.bool B] l s4 (a5A l (λs=>gI l 0 [124] s&& !decide (t.op=6)) s4) (λt=>.d (.str t)):=λB hB=>by subst hB;exact a0X (by omega) _ s4 v4
 have htp:∀ {a s1},a5A l (λs=>gI l 0 [124] s&& !decide (t.op=6)) s4=(a,s1)->RfP l 1 s4 s1:=λ{a s1} h=>a3N hV.fin (λhb=>by unfold gI at hb;simp only[f7H,decide_eq_true_eq]at hb;omega) v4 h
 have hT:=λ(h:gI l 0 [124] s4=true) (h2: ¬t.op=6)=>htk true (by simp[h,h2]);have hF:=λ(h:gI l 0 [124] s4=false)=>htk false (by simp only[h];rfl);have hS:=λ(h:gI l 0 [124] s4=true) (h2:t.op=6)=>htk false (by simp[h,h2]);obtain⟨op,nm,args,ns,p,ps⟩:=t;simp only at htk htp hT hF hS Q4 n4;have h3:(gI l 0 [124] s4=true/\op=6)\/(gI l 0 [124] s4=true/\ ¬op=6)\/(gI l 0 [124] s4=false/\True):=by
  rcases Bool.eq_false_or_eq_true (gI l 0 [124] s4)with h|h
  .by_cases h6:op=6
   .exact .inl ⟨h,h6⟩
   .exact .inr (.inl ⟨h,h6⟩)
  .exact .inr (.inr ⟨h,trivial⟩)
 simp;refine uC gT (mU hV [124] s4 v4) (λb x hx=>?_);cases hx;rcases h3 with⟨hs,e6⟩|⟨hs,e6⟩|⟨hs,e6⟩
 all_goals
  rw[hs];simp[e6]
  first
   |refine uC sP (hS hs e6) (λu5 s5 h5=>?_)
   |refine uC sP (hT hs e6) (λu5 s5 h5=>?_)
   |refine uC sP (hF hs) (λu5 s5 h5=>?_)
  have Q5:=Q4.step h5;have p5:=htp h5;have v5:=pU.next p5;simp;refine rfG Q5 v5 b2j (b5j hV s5 v5) (b5n hV) λq s6 h6 Q6 p6 v6=>?_;have n6:bH q<=20001:=by
   have:=b5m hV l.length s5
   rwa[show qU aI l l.length s5=(q,s6) from h6]at this
  by_cases hz:p.op=0
  .simp only[if_pos hz]at Q6;simp[hz];refine rfM Q6 v6 hV.fin λu7 s7 h7 Q7 p7 v7=>?_;simp;exact Q7.ok _ _ (.inr rfl) (by simp[e6])
  .simp only[if_neg hz]at Q6;have ha:=d0j (G:=G) p q (by omega) (by omega);rw[cN,cN]at ha;simp[hz];refine mQ.mk c6M ha ?_;simp;refine rfM Q6 v6 hV.fin λu7 s7 h7 Q7 p7 v7=>?_;simp;exact Q7.ok _ _ (.inr rfl) (by simp[e6])
theorem b5o(s:jK)(hv:pU l s)(gW:s.er=0->low<=s.pl):qV G 144 [] l s (a8e aU bQ aI l ty s) zL:=by
 have hl:=hV.len;have hr:=a7m hV hM ax kH nty s hv gW;have hp:=c3Z hV s hv;obtain⟨s0,rfl⟩:∃s0,s0=s:=⟨_,rfl⟩;have v0:=hv;refine qV.bS func144 rfl ntmps144 rfl ?_;intro Q Q0;unfold a8e at Q0;simp;refine uC gT (mU hV [123] s0 v0) (λb x hx=>?_);cases hx;cases h1:gI l 0 [123] s0 with
 |true=>have Q0:=Q0.ifp h1;simp;refine uC a5N hr (λt s1 h1=>?_);have Q0:=Q0.eq h1;simp;exact Q0.ok _ _ (.inr rfl) (by simp)
 |false=>
 have Q0:=Q0.wP (by rw[h1];decide);simp;refine uC vC (xI (by omega) [40] s0 v0) (λb s1 hh=>?_);rcases a9Q hV.fin hh with⟨h2,rfl,e2,e3,e4,v1⟩|⟨h2,rfl,rfl⟩
 .have Q0:=Q0.ifp h2;have l1:s1.er=0->low+1<=s1.pl:=λ_=>by rw[e4];exact Nat.succ_le_succ (gW e3)
  rw[<-e2]at Q0;simp;refine uC xN (kH s1 v1 l1) (λt s2 h2=>?_);have Q2:=Q0.step h2;have v2:=pU.next (hM.sB ax v1 l1 h2);obtain⟨op,nm,args,ns,p,ps⟩:=t;simp;refine rfM Q2 v2 hV.fin λu3 s3 h3 Q3 p3 v3=>?_;simp;exact Q3.ok _ _ (.inr rfl) (by simp)
 .have Q0:=Q0.wP (by rw[h2];decide);simp;refine uC a9N hp (λp s2 h3=>?_);rw[h3]at Q0;obtain⟨⟨op,nm,args,ns,q,ps⟩,ok⟩:=p;simp only at Q0;have v2:=b8R hV.fin v0 h3;cases ok with
  |true=>rw[if_pos rfl]at Q0;simp;exact Q0.ok _ _ (.inr rfl) (by simp)
  |false=>rw[if_neg (by decide)]at Q0;simp;refine uC yQ (a3F (by omega) s2 v2) (λu s3 h4=>?_);cases h4;simp;exact Q0.ok _ _ (.inr rfl) (by simp)
end
end
end
section
open Go Go.VM
variable {G:GT}
theorem c4b:VM.Enters prog 99:=.mk func99 rfl
section
variable {aI:List Tok->Nat->Nat->kN Pr} {l:List Tok} (hV:a1V G aI l)
include hV
section
variable {x:aZ Ty} {ty:RM Ty} {low:Nat} (hM:cS l (low+1) x ty) (ax:aB l 1 x) (kH:∀s,pU l s->(s.er=0->low+1<=s.pl)->qV G 54 [] l s (ty s) zL) (nty:∀s,bH (ty s).1.pred<=430000000)
include hM ax kH nty
abbrev e8K(aI:List Tok->Nat->Nat->kN Pr)(l:List Tok)(ty:RM Ty)(out:List Ty):RM (List Ty):=do let t <- a8e aU bQ aI l ty;pure (out++[t])
abbrev e8L(aI:List Tok->Nat->Nat->kN Pr)(l:List Tok)(out:List Pr):RM (List Pr):=do
 let _ <- b8z l [118]
 gO l [46]
 let p <- a8d aI l
 pure (out++[p])
abbrev d4a(l:List Tok)(s:jK):Bool:=xG aU l 0 s||(a9E l s||(gI l 0 [123] s||gI l 0 [40] s))
omit hV hM ax kH nty in
theorem d9B(l:List Tok)(s:jK)(hs:s.er≠0):d4a l s=false:=by
 unfold d4a;rw[c0t hs,c0u hs,yB hs,yB hs]
 rfl
def b5p(nm:Nm)(args:List Ty)(ps:D):List (Nat×aW):=[(3,.cells [.d (.int .i64 4),.d (.str nm),.d (.sl (args.map tyC)),.d .aF,.d (.int .i64 0),.d (.str []),.d (.int .i64 0),.d .aF,.d ps]),(4,.cells [.d (.int .i64 0),.d (.str []),.d .aF,.d .aF,.d (.int .i64 0),.d (.str []),.d (.int .i64 0),.d .aF,.d .aF])]
theorem c6O(nm:Nm)(s:jK)(hv:pU l s)(gW:s.er=0->low<=s.pl):qV G 99 [.agg (e5e 4 nm)] l s (a3C aU bQ aI l ty nm s) zL:=by
 have hl:=hV.len;have hA:=cS.e8p (kw:=aU) (andP:=bQ) hV.fin hV.tkw hV.sB hV.nz hM ax;have aA:=aB.zF (kw:=aU) (andP:=bQ) hV.fin (ax.le (by omega:0<=1)) hV.sB.pred;refine qV.bS func99 rfl ntmps99 rfl ?_;intro Q Q0;unfold a3C at Q0;simp;refine d9t (d4a l) (d9B l) (e8K aI l ty) (λa=>a.length) (λ_=>True) (λ_=>[]) (λa s=>b5p nm a .aF++rfH l s) (λ_=>[(45,[.c 3 2])]) (l.length+2) [] s (by omega) hv (by simp) trivial (by simp[b5p]) ?_ ?_
 .intro a s0 e0 i0 bs la _ hc R hR;have v0:pU l s0:=λ_=>i0;have l0:s0.er=0->low<=s0.pl:=λ_=>Nat.le_trans (gW bs.1) bs.2;simp[b5p];refine uC yR (a5M hV s0 v0) (λb x hx=>?_);cases hx;rcases Bool.eq_false_or_eq_true (xG aU l 0 s0)with w1|w1
  all_goals
   rw[w1];simp
  case' inr=>
   refine uC a3E (a5D (by omega) s0 v0) (λb x hx=>?_);cases hx;rcases Bool.eq_false_or_eq_true (a9E l s0)with w2|w2
   all_goals
    rw[w2];simp
  case' inr.refl.inr=>
   refine uC gT (mU hV [123] s0 v0) (λb x hx=>?_);cases hx;rcases Bool.eq_false_or_eq_true (gI l 0 [123] s0)with w3|w3
   all_goals
    rw[w3];simp
  case' inr.refl.inr.refl.inr=>
   have w4:gI l 0 [40] s0=true:=by simpa[w1,w2,w3]using hc
   refine uC gT (mU hV [40] s0 v0) (λb x hx=>?_);cases hx;rw[w4];simp
  all_goals
   refine gH [0] 3 [2] (.op 1 (.call [4,5,6,7] .none) (.call [1,4,5,6,7] .none)) true (by kernel_rfl) (by kernel_rfl) ?_;simp;refine⟨?_,?_⟩
   all_goals
    refine rfZ b2M (b5o hV hM ax kH nty s0 v0 l0) (λt s1 h1=>?_);have p1:RfP l _ s0 s1:=hA.sB aA v0 l0 h1;have v1:=pU.next p1;refine cI.mk ?_;simp
   all_goals
    refine cF (by first|omega|(simp[bU];omega)|exact⟨λx hx=>by obtain⟨y,_,rfl⟩:=List.mem_map.1 hx;first|rfl|(rw[bU];rfl),by omega⟩|exact⟨rfl,by omega⟩) ?_;simp;refine hR _ (a++[t]) s1 (by simp only[rW,h1];rfl) (by simp[b5p,bU]) (λh=>?_) (by simp) trivial;have:=(p1) h;omega
 .intro a s1 hc rT la _ v1 hy R;have Q1:=Q0.step (x:=c6B l (d4a l) (e8K aI l ty) []) hy;simp only[d4a,Bool.or_eq_false_iff]at hc;obtain⟨w1,w2,w3,w4⟩:=hc;simp[b5p];refine uC yR (a5M hV s1 v1) (λb x hx=>?_);cases hx;rw[w1];simp;refine uC a3E (a5D (by omega) s1 v1) (λb x hx=>?_);cases hx;rw[w2];simp;refine uC gT (mU hV [123] s1 v1) (λb x hx=>?_);cases hx;rw[w3];simp;refine uC gT (mU hV [40] s1 v1) (λb x hx=>?_);cases hx;rw[w4];simp;refine uC vC (xI (by omega) [60] s1 v1) (λb2 s2 h2=>?_);have Q2:=Q1.step h2;have p2:=c6N hV.fin v1 h2;have v2:=pU.next p2;rcases a9Q hV.fin h2 with⟨_,rfl,_,_,_,_⟩|⟨_,rfl,rfl⟩
  .rw[if_pos rfl]at Q2;simp;refine d3K hV.fin [44] (e8L aI l) (λa=>a.length) (λ_=>True) 5 (λ_=>[]) (λb s=>b5p nm a (.sl (b.map qH))++rfH l s) (λ_=>[(43,[.c 3 8])]) (l.length+2) [] s2 (by omega) v2 rfl trivial (by simp[b5p]) ?_ ?_
   .intro b s0 e0 i0 bs lb _ R hR;have v0:pU l s0:=λ_=>i0;simp[b5p,e0];refine uC b4P (b8A (by omega) [118] s0 v0) (λc x hx=>?_);cases hx;simp;refine uC sP (a0X (by omega) (b4O l [118] s0) s0 v0) (λu1 s1 h1=>?_);have h1:b8z l [118] s0=(u1,s1):=h1;have p1:RfP l 1 s0 s1:=b8P hV.fin v0 h1;have v1:=pU.next p1;simp;refine rfN [46] v1 hV.fin λu2 s2 h2 p2 v2=>?_;simp;refine gH [0] 3 [2] (.op 1 (.call [4,5,6,7] .none) (.call [1,4,5,6,7] .none)) true (by kernel_rfl) (by kernel_rfl) ?_;simp;refine⟨?_,?_⟩
    all_goals
     refine rfZ b2j (b5j hV s2 v2) (λp s3 h3=>?_);have p3:RfP l _ s2 s3:=b5n hV v2 h3;have v3:=pU.next p3;refine cI.mk ?_;simp
    all_goals
     refine cF (by first|omega|(simp[cN];omega)|exact⟨λx hx=>by obtain⟨y,_,rfl⟩:=List.mem_map.1 hx;first|rfl|(rw[cN];rfl),by omega⟩|exact⟨rfl,by omega⟩) ?_;simp;refine uC vC (xI (by omega) [44] s3 v3) (λbh sh hh=>?_);simp;refine hR _ (b++[p]) s3 (by simp only[rW,h1,h2,h3];rfl) (by rw[hh];simp[b5p,cN]) (λh=>?_) (by simp) trivial;have:=((p1.tr p2).tr p3) h;omega
   ·
    intro a s1 m hm rT la hJ v1 hy R;have hm':m=false\/(m=true/\ ¬s1.er=0):=by
     cases m
     .exact .inl rfl
     .rcases hm with h|h
      .cases h
      .exact .inr ⟨rfl,h⟩
    have Q3:=Q2.step (x:=a8c l [44] (e8L aI l) []) hy;rcases hm' with rfl|⟨rfl,h⟩
    all_goals
     first
      |simp[b5p,h]
      |simp[b5p]
     refine rfM Q3 v1 hV.fin λu4 s4 h4 Q4 p4 v4=>?_;simp;exact Q4.ok _ _ (.inr rfl) (by simp[tU,eA])
  .rw[if_neg (by decide)]at Q2;simp;exact Q2.ok _ _ (.inr rfl) (by simp[tU,eA])
end
end
end
section
open Go Go.VM
variable {G:GT}
theorem b7o:VM.Enters prog 96:=.mk func96 rfl
section
variable {aI:List Tok->Nat->Nat->kN Pr} {l:List Tok} (hV:a1V G aI l)
include hV
section
variable {x:aZ Ty} {ty:RM Ty} {low:Nat} (hM:cS l (low+1) x ty) (ax:aB l 1 x) (kH:∀s,pU l s->(s.er=0->low+1<=s.pl)->qV G 54 [] l s (ty s) zL) (nty:∀s,bH (ty s).1.pred<=430000000)
include hM ax kH
abbrev e2b(l:List Tok)(ty:RM Ty)(named:Bool)(out:List Nm×List Ty):RM (List Nm×List Ty):=if named then(do
 let w <- wC aU l
 gO l [58]
 let t <- ty
 pure (out.1++[w],out.2++[t])) else(do
 let t <- ty
 pure (out.1,out.2++[t]))
def c4c(ns:List Nm)(ts:List Ty):List (Nat×aW):=[(2,.cells [.d (.int .i64 0),.d (.str []),.d .aF,.d .aF,.d (.int .i64 0),.d (.str []),.d (.int .i64 0),.d .aF,.d .aF]),(3,.cells [.d (.int .i64 6),.d (.str []),.d (.sl (ts.map tyC)),.d (.sl (strs ns)),.d (.int .i64 0),.d (.str []),.d (.int .i64 0),.d .aF,.d .aF])]
theorem c0G(s:jK)(hv:pU l s)(gW:s.er=0->low<=s.pl):qV G 96 [] l s (xH aU l ty s) zL:=by
 have hl:=hV.len;obtain⟨s0,rfl⟩:∃s0,s0=s:=⟨_,rfl⟩;have v0:=hv;refine qV.a1I func96 rfl ntmps96 rfl ?_;intro Q Q0;unfold xH at Q0;refine SW.jZ (SW.xk ?_);simp;refine SW.jZ (SW.xk ?_);simp;refine rfM Q0 v0 hV.fin λu1 s1 h1 Q1 p1 v1=>?_;have l1:s1.er=0->low+1<=s1.pl:=λh=>by have:=p1 h;have:=gW this.1;omega
 simp;refine SW.jZ (SW.xk ?_);simp;obtain⟨named,hnm⟩:∃b,(xG aU l 0 s1&&gI l 1 [58] s1)=b:=⟨_,rfl⟩;have Q1:=Q1.step (show c9P (λs=>xG aU l 0 s&&gI l 1 [58] s) s1=(named,s1) by rw[<-hnm];rfl);refine SW.f1A [(4,.d (.bool named))] ([(2,.cells [.d (.int .i64 0),.d (.str []),.d .aF,.d .aF,.d (.int .i64 0),.d (.str []),.d (.int .i64 0),.d .aF,.d .aF]),(3,.cells [.d (.int .i64 6),.d (.str []),.d .aF,.d .aF,.d (.int .i64 0),.d (.str []),.d (.int .i64 0),.d .aF,.d .aF])]++rfH l s1) [] (SW.xk ?_) (SW.xk ?_)
 .have hw:(xG aU l 0 s1=true/\gI l 1 [58] s1=named)\/(xG aU l 0 s1=false/\named=false):=by
   cases h:xG aU l 0 s1
   .exact .inr ⟨rfl,by rw[<-hnm,h];rfl⟩
   .exact .inl ⟨rfl,by rw[<-hnm,h];rfl⟩
  simp;refine uC yR (a5M hV s1 v1) (λb x hx=>?_);cases hx;rcases hw with⟨w1,w2⟩|⟨w1,w2⟩
  .rw[w1];simp;have hsg:qV G 92 [.int .i64 1,.str [58]] l s1 (gI l 1 [58] s1,s1) (λb=>.d (.bool b)):=a3G (by omega) 1 [58] s1 v1 (by omega);refine uC gT hsg (λb x hx=>?_);cases hx;simp[w2]
  .rw[w1];simp[w2]
 simp;refine d3K hV.fin [44] (e2b l ty named) (λa=>a.2.length) (λa=>a.1.length<=a.2.length) 5 (λ_=>[]) (λa s=>c4c a.1 a.2++rfH l s) (λ_=>[(45,[.c 3 2]),(9,[.c 3 3])]) (l.length+2) ([],[]) s1 (by omega) v1 rfl (by simp) (by simp[c4c,strs]) ?_ ?_
 .rintro⟨ns,ts⟩ s0 e0 i0 bs la hJ R hR;simp only at la hJ;have v0:pU l s0:=λ_=>i0;have l0:s0.er=0->low+1<=s0.pl:=λ_=>Nat.le_trans (l1 bs.1) bs.2;cases named with
  |false=>
   simp[c4c,e0];refine gH [0] 3 [2] (.op 1 (.call [4,5,6,7] .none) (.call [1,4,5,6,7] .none)) true (by kernel_rfl) (by kernel_rfl) ?_;simp;refine⟨?_,?_⟩
   all_goals
    refine rfZ xN (kH s0 v0 l0) (λt s1 h1=>?_);have p1:RfP l _ s0 s1:=hM.sB ax v0 l0 h1;have v1:=pU.next p1;refine cI.mk ?_;simp
   all_goals
    refine cF (by first|omega|(simp[bU];omega)|exact⟨λx hx=>by obtain⟨y,_,rfl⟩:=List.mem_map.1 hx;first|rfl|(rw[bU];rfl),by omega⟩|exact⟨rfl,by omega⟩) ?_;simp;have ho:(ty >>=λt=>pure (ns,ts++[t]):RM (List Nm×List Ty)) s0=((ns,ts++[t]),s1):=by
     rw[rW,h1]
     rfl
    refine uC vC (xI (by omega) [44] s1 v1) (λbh sh hh=>?_);simp;refine hR _ (ns,ts++[t]) s1 ho (by rw[hh];simp[c4c,bU]) (λh=>?_) (by simp) (Nat.le_trans hJ (by simp));have:=(p1) h;omega
  |true=>
   simp[c4c,e0];refine gH [0] 3 [2] (.op 1 (.call [4,5,6,7] .none) (.call [1,4,5,6,7] .none)) true (by kernel_rfl) (by kernel_rfl) ?_;simp;refine⟨?_,?_⟩
   all_goals
    refine rfZ a5C (a8h (by omega) s0 v0) (λw s1 h1=>?_);have p1:RfP l _ s0 s1:=a8n hV.fin v0 h1;have v1:=pU.next p1;refine cI.mk ?_;simp
   all_goals
    refine cF (by first|omega|(simp[strs];omega)|exact⟨λx hx=>by obtain⟨y,_,rfl⟩:=List.mem_map.1 hx;first|rfl|(rw[strs];rfl),by omega⟩|exact⟨rfl,by omega⟩) ?_;simp;refine rfN [58] v1 hV.fin λu2 s2 h2 p2 v2=>?_;have l2:s2.er=0->low+1<=s2.pl:=λh=>by have:=(RfP.tr p1 p2) h;have:=l0 this.1;omega
    simp;refine gH [0] 3 [2] (.op 1 (.call [4,5,6,7] .none) (.call [1,4,5,6,7] .none)) true (by kernel_rfl) (by kernel_rfl) ?_;simp;refine⟨?_,?_⟩
    all_goals
     refine rfZ xN (kH s2 v2 l2) (λt s3 h3=>?_);have p3:RfP l _ s2 s3:=hM.sB ax v2 l2 h3;have v3:=pU.next p3;refine cI.mk ?_;simp
    all_goals
     refine cF (by first|omega|(simp[bU];omega)|exact⟨λx hx=>by obtain⟨y,_,rfl⟩:=List.mem_map.1 hx;first|rfl|(rw[bU];rfl),by omega⟩|exact⟨rfl,by omega⟩) ?_;simp;have ho:(wC aU l >>=λw=>gO l [58] >>=λ_=>ty >>=λt=>pure (ns++[w],ts++[t]):RM (List Nm×List Ty)) s0=((ns++[w],ts++[t]),s3):=by
      rw[rW,h1,rW,h2,rW,h3]
      rfl
     refine uC vC (xI (by omega) [44] s3 v3) (λbh sh hh=>?_);simp;refine hR _ (ns++[w],ts++[t]) s3 ho (by rw[hh];simp[c4c,bU,strs]) (λh=>?_) (by simp) (by simpa using hJ);have:=((p1.tr p2).tr p3) h;omega
 .rintro⟨ns,ts⟩ s2 m hm rT la hJ v2 hy R;have hm':m=false\/(m=true/\ ¬s2.er=0):=by
   cases m
   .exact .inl rfl
   .rcases hm with h|h
    .cases h
    .exact .inr ⟨rfl,h⟩
  have Q2:=Q1.step (x:=a8c l [44] (e2b l ty named) ([],[])) hy;simp only at Q2 la hJ;have l2':s2.er=0->low+1<=s2.pl:=λh=>Nat.le_trans (l1 (rT h).1) (rT h).2;rcases hm' with rfl|⟨rfl,h⟩
  all_goals
   first
    |simp[c4c,h]
    |simp[c4c]
   refine rfM Q2 v2 hV.fin λu3 s3 h3 Q3 p3 v3=>?_;simp;obtain⟨c,hc⟩:∃c,(decide (ts.length=1)&&(!named&& !gI l 0 [45,62] s3))=c:=⟨_,rfl⟩;have Q3:=Q3.step (show c9P (λs=>decide (ts.length=1)&&(!named&& !gI l 0 [45,62] s)) s3=(c,s3) by rw[<-hc];rfl);cases c with
   |true=>simp only[f7H,decide_eq_true_eq,Bool.not_eq_true']at hc;obtain⟨e1,e2,e3⟩:=hc;rw[if_pos rfl]at Q3;obtain⟨t,rfl⟩:∃t,ts=[t]:=List.length_eq_one_iff.1 e1;simp[e2];refine uC gT (mU hV [45,62] s3 v3) (λb x hx=>?_);cases hx;rw[e3];simp[bU];exact Q3.ok _ _ (.inr rfl) (by simp)
   |false=>
    rw[if_neg (by decide)]at Q3;have h4:(ts.length=1/\named=false/\gI l 0 [45,62] s3=true)\/(ts.length=1/\named=true)\/ ¬ts.length=1:=by
     by_cases h1:ts.length=1
     .cases named
      .exact .inl ⟨h1,rfl,by simpa[h1]using hc⟩
      .exact .inr (.inl ⟨h1,rfl⟩)
     .exact .inr (.inr h1)
    rcases h4 with⟨e1,e2,e3⟩|⟨e1,e2⟩|e1
    case' inl=>simp[e1,e2];refine uC gT (mU hV [45,62] s3 v3) (λb x hx=>?_);cases hx;rw[e3];simp
    case' inr.inl=>simp[e1,e2]
    case' inr.inr=>simp[e1]
    all_goals
     refine rfM Q3 v3 hV.fin λu4 s4 h4 Q4 p4 v4=>?_;have l4:s4.er=0->low+1<=s4.pl:=λh=>by have:=p4 h;have:=p3 this.1;have:=l2' this.1;omega
     simp;refine gH [0] 3 [2] (.op 1 (.call [4,5,6,7] .none) (.call [1,4,5,6,7] .none)) true (by kernel_rfl) (by kernel_rfl) ?_;simp;refine⟨?_,?_⟩
     all_goals
      refine rfZ xN (kH s4 v4 l4) (λt s5 h5=>?_);have Q5:=Q4.step h5;refine cI.mk ?_;simp;refine cF (by first|omega|(simp[bU];omega)|exact⟨λx hx=>by obtain⟨y,_,rfl⟩:=List.mem_map.1 hx;first|rfl|(rw[bU];rfl),by omega⟩|exact⟨rfl,by omega⟩) ?_;simp;exact Q5.ok _ _ (.inr rfl) (by simp[bU,tU,eA])
end
end
end
section
open Go Go.VM
variable {G:GT}
section
variable {aI:List Tok->Nat->Nat->kN Pr} {l:List Tok} (hV:a1V G aI l)
include hV
omit hV in
theorem b0V{l:List Tok}(s:jK)(hs:s.er≠0):qV G 54 [] l s (mW,s) zL:=by obtain⟨i,e,ln⟩:=s;refine qV.bS func54 rfl ntmps54 rfl ?_;intro Q Q0;simp[hs];exact Q0.ok _ _ (.inr rfl) (by simp[mW,eA])
omit hV in
theorem c6P{s s1:jK}{t:Ty}(h:cM aU l s=((t,false),s1)):t=mW:=by
 unfold cM at h;split at h
 .cases h
 .split at h
  .cases h;rfl
  .cases h
section
variable {x:aZ Ty} {ty:RM Ty} {low:Nat} (hM:cS l (low+1) x ty) (ax:aB l 1 x) (kH:∀s,pU l s->(s.er=0->low+1<=s.pl)->qV G 54 [] l s (ty s) zL) (nty:∀s,bH (ty s).1.pred<=430000000)
include hM ax kH nty
theorem c6Q(s:jK)(hv:pU l s)(gW:s.er=0->low<=s.pl):qV G 54 [] l s (a3D aU bQ aI l ty s) zL:=by
 have hl:=hV.len;by_cases he:s.er=0;rotate_left
 .have:=b0V (G:=G) (l:=l) s he;unfold a3D
  rwa[if_neg he]
 have hr:=a7m hV hM ax kH nty s hv gW;have hf:=c0G hV hM ax kH s hv gW;have hp:=a9O hV s hv;obtain⟨s0,rfl⟩:∃s0,s0=s:=⟨_,rfl⟩;have v0:=hv;refine qV.bS func54 rfl ntmps54 rfl ?_;intro Q Q0;unfold a3D at Q0;have Q0:=Q0.ifp he;simp[he];refine uC (hH:=by simp[he]) gT (mU hV [123] s0 v0) (λb x hx=>?_);cases hx;cases h1:gI l 0 [123] s0 with
 |true=>have Q0:=Q0.ifp h1;simp;refine uC a5N hr (λt s1 h1=>?_);have Q0:=Q0.eq h1;simp;exact Q0.ok _ _ (.inr rfl) (by simp)
 |false=>
 have Q0:=Q0.wP (by rw[h1];decide);simp;refine uC gT (mU hV [40] s0 v0) (λb x hx=>?_);cases hx;cases h2:gI l 0 [40] s0 with
 |true=>have Q0:=Q0.ifp h2;simp;refine uC b7o hf (λt s1 h1=>?_);have Q0:=Q0.eq h1;simp;exact Q0.ok _ _ (.inr rfl) (by simp)
 |false=>
 have Q0:=Q0.wP (by rw[h2];decide);simp;have a1K:=a9P (l:=l) s0;refine uC a9N hp (λp s2 h3=>?_);rw[h3]at Q0 a1K;obtain⟨t,ok⟩:=p;simp only at Q0 a1K;have v2:=b8R hV.fin v0 h3;cases ok with
 |false=>have ht:=c6P h3;subst ht;rw[if_neg (by decide)]at Q0;simp[mW];refine uC yQ (a3F (by omega) s2 v2) (λu s3 h4=>?_);cases h4;simp;exact Q0.ok _ _ (.inr rfl) (by simp[mW,eA])
 |true=>
  rw[if_pos rfl]at Q0;simp;by_cases h4:t.op=4
  .rw[if_pos h4]at Q0;have l2:s2.er=0->low<=s2.pl:=λh=>by have h5:=c4a v0 h3 h;have:=gW he;omega
   have hd:=c6O hV hM ax kH nty t.name s2 v2 l2;simp[h4];refine uC c4b hd (λu s3 h5=>?_);have Q0:=Q0.eq h5;simp;exact Q0.ok _ _ (.inr rfl) (by simp)
  .rw[if_neg h4]at Q0;simp[h4];exact Q0.ok _ _ (.inr rfl) (by rw[a1K];simp[tU,eA])
end
theorem b5q:∀(n low:Nat),l.length<n+low->n<=l.length+2->∀s,pU l s->(s.er=0->low<=s.pl)->qV G 54 [] l s (a8f aU bQ aI l n s) zL
 |0,low,h,_,s,hv,gW=>by
  have he:s.er≠0:=λh0=>by have:=hv h0;have:=gW h0;omega
  exact b0V s he
 |n+1,low,h,hn,s,hv,gW=>c6Q hV (cS.a7W hV.fin hV.tkw hV.sB hV.nz n (low+1) (by omega)) (aB.a7W hV.fin hV.sB.pred n) (λs=>b5q n (low+1) (by omega) (by omega) s) (λs=>by have:=b8Q hV n s;have:=hV.len;omega) s hv gW
theorem d0l(s:jK)(hv:pU l s):qV G 54 [] l s (d3I aU bQ aI l s) zL:=b5q hV (l.length+2) 0 (by omega) (by omega) s hv (λ_=>by omega)
end
end
end Go.Proofs.YtjpodcmhcenjjaaGreatDoor
section
section
namespace Go.Proofs.YtjpodcmhcenjjaaGreatDoor
def mF(l:List Tok)(i:Nat)(s:List UInt8):Bool:=match l[i]? with
 |some t=>decide (t.kind=4)&&decide (t.text=s)
 |none=>false
def kdB(l:List Tok)(i:Nat)(k:Int):Bool:=match l[i]? with
 |some t=>decide (t.kind=k)
 |none=>false
def wtB(l:List Tok)(i:Nat):Bool:=kdB l i 1||kdB l i 2
def txA(l:List Tok)(i:Nat):List UInt8:=((l[i]?).map (·.text)).getD []
def nmA(l:List Tok)(i:Nat):Int:=((l[i]?).map (·.n)).getD 0
def tw(op:Int)(a b:Pr):Pr:=⟨op,[],0,[a,b]⟩
def pP(l:List Tok):Nat->Nat->List UInt8->List UInt8×Nat
 |0,i,s=>(s,i)
 |f+1,i,s=>
  if mF l i [46]=true then
   if wtB l (i+1)=true then pP l f (i+2) (s++[46]++txA l (i+1))
   else if kdB l (i+1) 3=true then
    if wtB l (i+2)=true then pP l f (i+3) (s++[46]++txA l (i+1)++txA l (i+2)) else pP l f (i+2) (s++[46]++txA l (i+1))
   else(s,i)
  else(s,i)
def opL:Nat->List (Int×List UInt8)
 |1=>[(18,[60,61,62])]
 |3=>[(16,[124,124])]
 |4=>[(15,[38,38])]
 |7=>[(6,[43]),(7,[45])]
 |8=>[(8,[42])]
 |_=>[]
def a9R(l:List Tok)(n k:Nat):Option Int:=((opL k).find? λp=>mF l n p.2).map (·.1)
def cmpL:List (List UInt8×Int×Bool):=[([61],10,false),([33,61],11,false),([60],12,false),([62],12,true),([60,61],13,false),([62,61],13,true)]
def a1a(l:List Tok)(n:Nat):Option (Int×Bool):=(cmpL.find? λp=>mF l n p.1).map (·.2)
section
variable (kw:List UInt8->Bool) (rd:Nat->Nat->Option (Pr×Nat)) (l:List Tok)
def b5r(i:Nat):Bool:=wtB l i&&(!kw (txA l i)||decide (txA l i=[118])||decide (txA l i=[116,97,103])||decide (txA l i=[118,97,108]))
def tL(i:Nat):Option (List UInt8×Nat):=if b5r kw l i=true then some (pP l l.length (i+1) (txA l i)) else none
def dL(k:Nat):Nat->Pr->Nat->Pr×Nat
 |0,a,n=>(a,n)
 |g+1,a,n=>match a9R l n k with
  |none=>(a,n)
  |some op=>match rd (n+1) (k+1)with
   |none=>(a,n)
   |some (b,m)=>dL k g (tw op a b) m
def mE:Nat->Nat->List Pr->Option (List Pr×Nat)
 |0,_,_=>none
 |g+1,i,acc=>match rd (i+1) 1 with
  |none=>none
  |some (p,n)=>if mF l n [41]=true then some (acc++[p],n+1) else if mF l n [44]=true then mE g n (acc++[p]) else none
def rZ(i:Nat):Option (List Pr×Nat):=if mF l i [40]=true then mE rd l l.length i [] else none
def wE(i:Nat):Option (Pr×Nat):=match l[i]? with
 |none=>none
 |some t=>
  if t.kind=3 then some (⟨1,[],t.n,[]⟩,i+1)
  else if t.kind=1/\t.text=[116,114,117,101] then some (⟨2,[],1,[]⟩,i+1)
  else if t.kind=1/\t.text=[102,97,108,115,101] then some (⟨2,[],0,[]⟩,i+1)
  else if mF l i [63]=true then(match tL kw l (i+1)with
   |none=>none
   |some (s,n)=>(rZ rd l n).map λq=>(⟨5,s,0,q.1⟩,q.2))
  else if mF l i [40]=true then
   if mF l (i+1) [45]=true/\kdB l (i+2) 3=true/\mF l (i+3) [41]=true then some (⟨1,[],IntKind.i64.wrap (-nmA l (i+2)),[]⟩,i+4)
   else(match rd (i+1) 1 with
    |none=>none
    |some (p,n)=>if mF l n [41]=true then some (p,n+1) else none)
  else(match tL kw l i with
   |none=>none
   |some (s,n)=>(match rZ rd l n with
    |some (ks,m)=>some (⟨4,s,0,ks⟩,m)
    |none=>some (⟨3,s,0,[]⟩,n)))
def a7X(i:Nat):Option (Pr×Nat):=match rd i 7 with
 |none=>none
 |some (a,n)=>(match a1a l n with
  |none=>some (a,n)
  |some (op,ex)=>(match rd (n+1) 7 with
   |none=>some (a,n)
   |some (b,m)=>some (if ex=true then tw op b a else tw op a b,m)))
def b0W(i:Nat):Option (Pr×Nat):=match rd i 3 with
 |none=>none
 |some (a,n)=>if mF l n [61,62]=true then(match rd (n+1) 2 with
  |some (b,m)=>some (tw 17 a b,m)
  |none=>some (a,n)) else some (a,n)
def atG(i k:Nat):Option (Pr×Nat):=
 match k with
 |2=>b0W rd l i
 |5=>if mF l i [33]=true then(rd (i+1) 5).map λq=>(⟨14,[],0,[q.1]⟩,q.2) else rd i 6
 |6=>a7X rd l i
 |9=>if mF l i [45]=true then(rd (i+1) 9).map λq=>(⟨9,[],0,[q.1]⟩,q.2) else rd i 10
 |10=>wE kw rd l i
 |k=>(rd i (k+1)).map λq=>dL rd l k l.length q.1 q.2
end
def eK(kw:List UInt8->Bool)(l:List Tok):Nat->Nat->Nat->Option (Pr×Nat)
 |0,_,_=>none
 |f+1,i,k=>atG kw (eK kw l f) l i k
theorem kB{l:List Tok}{i:Nat}{s:List UInt8}(h:mF l i s=true):i<l.length:=by
 unfold mF at h;split at h
 .rename_i t ht;exact(f7I.1 ht).1
 .cases h
theorem b5s{l:List Tok}{i:Nat}{k:Int}(h:kdB l i k=true):i<l.length:=by
 unfold kdB at h;split at h
 .rename_i t ht;exact(f7I.1 ht).1
 .cases h
theorem a2k{l:List Tok}{i:Nat}(h:wtB l i=true):i<l.length:=by unfold wtB at h;rw[f7T]at h;rcases h with h|h<;>exact b5s h
theorem xO{l:List Tok}:∀(f i:Nat) (s:List UInt8),i<=l.length->i<=(pP l f i s).2/\(pP l f i s).2<=l.length
 |0,i,s,h=>⟨f7X _,h⟩
 |f+1,i,s,h=>by
  rw[pP];split
  .rename_i h1;have:=kB h1;split
   .rename_i h2;have:=a2k h2;have:=xO (l:=l) f (i+2) (s++[46]++txA l (i+1)) (by omega);omega
   .split
    .rename_i h3;have:=b5s h3;split
     .rename_i h4;have:=a2k h4;have:=xO (l:=l) f (i+3) (s++[46]++txA l (i+1)++txA l (i+2)) (by omega);omega
     .have:=xO (l:=l) f (i+2) (s++[46]++txA l (i+1)) (by omega);omega
    .exact⟨f7X _,h⟩
  .exact⟨f7X _,h⟩
theorem pQ{kw:List UInt8->Bool}{l:List Tok}{i n:Nat}{s:List UInt8}(h:tL kw l i=some (s,n)):i<n/\n<=l.length:=by
 unfold tL at h;split at h
 .rename_i hb;unfold b5r at hb;rw[f7H]at hb;have h1:=a2k hb.1;have h2:=xO (l:=l) l.length (i+1) (txA l i) (by omega);rw[f7N]at h;rw[h]at h2;simp only at h2;omega
 .cases h
def Adv(l:List Tok)(rd:Nat->Nat->Option (Pr×Nat)):Prop:=∀i k p n,rd i k=some (p,n)->i<n/\n<=l.length
section
variable {kw:List UInt8->Bool} {rd rd':Nat->Nat->Option (Pr×Nat)} {l:List Tok}
theorem a6A(h:Adv l rd)(k:Nat):∀(g:Nat) (a:Pr) (n:Nat),n<=l.length->n<=(dL rd l k g a n).2/\(dL rd l k g a n).2<=l.length
 |0,a,n,hn=>⟨f7X _,hn⟩
 |g+1,a,n,hn=>by
  rw[dL];split
  .exact⟨f7X _,hn⟩
  .split
   .exact⟨f7X _,hn⟩
   .rename_i op _ _ b m hr;have h1:=h _ _ _ _ hr;have h2:=a6A h k g (tw op a b) m h1.2;omega
theorem a9S(h:Adv l rd):∀(g i:Nat) (acc ks:List Pr) (m:Nat),mE rd l g i acc=some (ks,m)->i<m/\m<=l.length
 |0,_,_,_,_,hr=>by cases hr
 |g+1,i,acc,ks,m,hr=>by
  rw[mE]at hr;split at hr
  .cases hr
  .rename_i p n hp;have h1:=h _ _ _ _ hp;split at hr
   .rename_i hs;have:=kB hs;cases hr;omega
   .split at hr
    .have:=a9S h g n _ ks m hr;omega
    .cases hr
theorem a9T(h:Adv l rd){i m:Nat}{ks:List Pr}(hr:rZ rd l i=some (ks,m)):i<m/\m<=l.length:=by
 unfold rZ at hr;split at hr
 .exact a9S h _ _ _ _ _ hr
 .cases hr
theorem d4b(h:Adv l rd){i n:Nat}{p:Pr}(hr:wE kw rd l i=some (p,n)):i<n/\n<=l.length:=by
 unfold wE at hr;split at hr
 .cases hr
 .rename_i t ht;have tY:=(f7I.1 ht).1;split at hr
  .cases hr;omega
  split at hr
  .cases hr;omega
  split at hr
  .cases hr;omega
  split at hr
  .split at hr
   .cases hr
   .rename_i s m hn;have h1:=pQ hn;rw[f7G]at hr;obtain⟨⟨ks,q⟩,hq,he⟩:=hr;have h2:=a9T h hq;cases he;simp only at *;omega
  split at hr
  .split at hr
   .rename_i hc;have:=kB hc.2.2;cases hr;omega
   .split at hr
    .cases hr
    .rename_i q m hq;have h1:=h _ _ _ _ hq;split at hr
     .rename_i hs;have:=kB hs;cases hr;omega
     .cases hr
  .split at hr
   .cases hr
   .rename_i s m hn;have h1:=pQ hn;split at hr
    .rename_i ks q hq;have h2:=a9T h hq;cases hr;omega
    .cases hr;omega
theorem d4c(h:Adv l rd){i k n:Nat}{p:Pr}(hr:atG kw rd l i k=some (p,n)):i<n/\n<=l.length:=by
 unfold atG at hr;split at hr
 .unfold b0W at hr;split at hr
  .cases hr
  .rename_i a m ha;have h1:=h _ _ _ _ ha;split at hr
   .split at hr
    .rename_i b q hb;have h2:=h _ _ _ _ hb;cases hr;omega
    .cases hr;exact h1
   .cases hr;exact h1
 .split at hr
  .rw[f7G]at hr;obtain⟨⟨a,m⟩,ha,he⟩:=hr;have h1:=h _ _ _ _ ha;cases he;simp only;omega
  .exact h _ _ _ _ hr
 .unfold a7X at hr;split at hr
  .cases hr
  .rename_i a m ha;have h1:=h _ _ _ _ ha;split at hr
   .cases hr;exact h1
   .split at hr
    .cases hr;exact h1
    .rename_i b q hb;have h2:=h _ _ _ _ hb;cases hr;omega
 .split at hr
  .rw[f7G]at hr;obtain⟨⟨a,m⟩,ha,he⟩:=hr;have h1:=h _ _ _ _ ha;cases he;simp only;omega
  .exact h _ _ _ _ hr
 .exact d4b h hr
 .rw[f7G]at hr;obtain⟨⟨a,m⟩,ha,he⟩:=hr;have h1:=h _ _ _ _ ha;have h2:=a6A (k:=k) h l.length a m h1.2;have h3:(dL rd l k l.length a m).2=n:=by rw[he]
  omega
end
theorem jN(kw:List UInt8->Bool)(l:List Tok):∀f,Adv l (eK kw l f)
 |0=>λ_ _ _ _ h=>by cases h
 |f+1=>λ_ _ _ _ h=>d4c (jN kw l f) h
end Go.Proofs.YtjpodcmhcenjjaaGreatDoor
end
section
namespace Go.Proofs.YtjpodcmhcenjjaaGreatDoor
theorem b0X{l:List Tok}{n k:Nat}{op:Int}(h:a9R l n k=some op):n<l.length/\1<=k/\k<=8:=by unfold a9R at h;rw[f7G]at h;obtain⟨p,hp,_⟩:=h;have hs:mF l n p.2=true:=List.find?_some (p:=λp:Int×List UInt8=>mF l n p.2) hp;refine⟨kB hs,?_⟩;have hm:=List.mem_of_find?_eq_some hp;unfold opL at hm;split at hm<;>first|omega|cases hm
theorem b5t{l:List Tok}{n:Nat}{q:Int×Bool}(h:a1a l n=some q):n<l.length:=by unfold a1a at h;rw[f7G]at h;obtain⟨p,hp,_⟩:=h;have hs:mF l n p.1=true:=List.find?_some (p:=λp:List UInt8×Int×Bool=>mF l n p.1) hp;exact kB hs
section
variable {kw:List UInt8->Bool} {rd rd':Nat->Nat->Option (Pr×Nat)} {l:List Tok}
theorem b2k(hA:Adv l rd){i k:Nat}(h:∀i' k',1<=k'->k'<=10->i<i'->i'<=l.length->rd i' k'=rd' i' k'):∀(g:Nat) (a:Pr) (n:Nat),i<=n->dL rd l k g a n=dL rd' l k g a n
 |0,_,_,_=>rfl
 |g+1,a,n,hn=>by
  rw[dL,dL];cases ho:a9R l n k with
  |none=>rfl
  |some op=>
   obtain⟨h1,h2,h3⟩:=b0X ho;rw[<-h (n+1) (k+1) (by omega) (by omega) (by omega) (by omega)];cases hr:rd (n+1) (k+1)with
   |none=>rfl
   |some q=>obtain⟨b,m⟩:=q;have:=hA _ _ _ _ hr;exact b2k hA h g _ m (by omega)
theorem b5u(hA:Adv l rd){i:Nat}(h:∀i' k',1<=k'->k'<=10->i<i'->i'<=l.length->rd i' k'=rd' i' k'):∀(g n:Nat) (acc:List Pr),i<=n->n<l.length->mE rd l g n acc=mE rd' l g n acc
 |0,_,_,_,_=>rfl
 |g+1,n,acc,hn,hl=>by
  rw[mE,mE, <- h (n+1) 1 (by omega) (by omega) (by omega) (by omega)];cases hr:rd (n+1) 1 with
  |none=>rfl
  |some q=>
   obtain⟨p,m⟩:=q;have:=hA _ _ _ _ hr;simp only;split
   .rfl
   .split
    .rename_i hs;exact b5u hA h g m _ (by omega) (kB hs)
    .rfl
theorem b5v(hA:Adv l rd){i n:Nat}(h:∀i' k',1<=k'->k'<=10->i<i'->i'<=l.length->rd i' k'=rd' i' k')(hn:i<=n):rZ rd l n=rZ rd' l n:=by
 unfold rZ;split
 .rename_i hs;exact b5u hA h _ _ _ hn (kB hs)
 .rfl
theorem c6R(hA:Adv l rd){i:Nat}(h:∀i' k',1<=k'->k'<=10->i<i'->i'<=l.length->rd i' k'=rd' i' k'):wE kw rd l i=wE kw rd' l i:=by
 unfold wE;cases ht:l[i]? with
 |none=>rfl
 |some t=>
  simp only;split
  .rfl
  split
  .rfl
  split
  .rfl
  split
  .cases hn:tL kw l (i+1)with
   |none=>rfl
   |some q=>have:=pQ (s:=q.1) (n:=q.2) hn;simp only;rw[b5v hA h (by omega)]
  split
  .rename_i hs;have:=kB hs;split
   .rfl
   .rw[h (i+1) 1 (by omega) (by omega) (by omega) (by omega)]
  .cases hn:tL kw l i with
   |none=>rfl
   |some q=>have:=pQ (s:=q.1) (n:=q.2) hn;simp only;rw[b5v hA h (by omega)]
theorem d4d(hA:Adv l rd){i k:Nat}(hk:1<=k/\k<=10)(h:∀i' k',1<=k'->k'<=10->i<i'->i'<=l.length->rd i' k'=rd' i' k')(h0:∀k',k<k'->k'<=10->rd i k'=rd' i k'):atG kw rd l i k=atG kw rd' l i k:=by
 unfold atG;split
 .unfold b0W;rw[<-h0 3 (by omega) (by omega)];cases hr:rd i 3 with
  |none=>rfl
  |some q=>
   obtain⟨a,n⟩:=q;have:=hA _ _ _ _ hr;simp only;split
   .rename_i hs;have:=kB hs;rw[h (n+1) 2 (by omega) (by omega) (by omega) (by omega)]
   .rfl
 .split
  .rename_i hs;have:=kB hs;rw[h (i+1) 5 (by omega) (by omega) (by omega) (by omega)]
  .exact h0 6 (by omega) (by omega)
 .unfold a7X;rw[<-h0 7 (by omega) (by omega)];cases hr:rd i 7 with
  |none=>rfl
  |some q=>
   obtain⟨a,n⟩:=q;have:=hA _ _ _ _ hr;simp only;cases hc:a1a l n with
   |none=>rfl
   |some c=>have:=b5t hc;simp only;rw[h (n+1) 7 (by omega) (by omega) (by omega) (by omega)]
 .split
  .rename_i hs;have:=kB hs;rw[h (i+1) 9 (by omega) (by omega) (by omega) (by omega)]
  .exact h0 10 (by omega) (by omega)
 .exact c6R hA h
 .rename_i wN hx5 hx6 hx9 f2t;have eF:k≠10:=λe=>f2t e;rw[<-h0 (k+1) (by omega) (by omega)];cases hr:rd i (k+1)with
  |none=>rfl
  |some q=>obtain⟨a,n⟩:=q;have:=hA _ _ _ _ hr;simp only[Option.map_some];rw[b2k hA h l.length a n (by omega)]
end
def mu(L i k:Nat):Nat:=(L+1-i)*12+(11-k)
theorem sA{L i i' k k':Nat}(hi:i<i')(hl:i'<=L)(hk:1<=k')(hk2:k<=10):mu L i' k'<mu L i k:=by unfold mu;omega
theorem b5w{L i k k':Nat}(h:k<k')(hk:k'<=10):mu L i k'<mu L i k:=by unfold mu;omega
theorem b5x(kw:List UInt8->Bool)(l:List Tok):∀(f f' i k:Nat),1<=k->k<=10->i<=l.length->mu l.length i k<=f->mu l.length i k<=f'->eK kw l f i k=eK kw l f' i k
 |0,_,i,k,_,h2,hi,h,_=>by unfold mu at h;omega
 |_+1,0,i,k,_,h2,hi,_,h=>by unfold mu at h;omega
 |f+1,f'+1,i,k,h1,h2,hi,h,h'=>by
  rw[eK,eK];exact d4d (jN kw l f) ⟨h1,h2⟩ (λi' k' q1 q2 q3 q4=>by
   have:=sA (k:=k) q3 q4 q1 h2;exact b5x kw l f f' i' k' q1 q2 q4 (by omega) (by omega)) (λk' q1 q2=>by
   have:=b5w (L:=l.length) (i:=i) q1 q2;exact b5x kw l f f' i k' (by omega) q2 hi (by omega) (by omega))
theorem c8w(kw:List UInt8->Bool)(l:List Tok):∀(f f' i:Nat) (p:Pr) (m:Nat),i<=l.length->mu l.length i 2<=f->eK kw l f i 2=some (p,m)->mF l m [61,62]=true->mu l.length (m+1) 2<=f'->eK kw l f' (m+1) 2=none
 |0,_,_,_,_,_,_,h,_,_=>by cases h
 |f+1,f',i,p,m,hi,hf,h,hs,hf'=>by
  have h0:b0W (eK kw l f) l i=some (p,m):=h;unfold b0W at h0;split at h0
  .cases h0
  .rename_i a n ha;have hA:=jN kw l f _ _ _ _ ha;split at h0
   .rename_i hs1;have hl:=kB hs1;have hm1:=sA (L:=l.length) (i:=i) (i':=n+1) (k:=2) (k':=2) (by omega) (by omega) (by omega) (by omega);split at h0
    .rename_i b q hb;cases h0;exact c8w kw l f f' (n+1) b m (by omega) (by omega) hb hs hf'
    .rename_i hb;cases h0;rw[<-hb];exact b5x kw l f' f (m+1) 2 (by omega) (by omega) (by omega) hf' (by omega)
   .rename_i hs1;cases h0;exact absurd hs hs1
end Go.Proofs.YtjpodcmhcenjjaaGreatDoor
end
section
namespace Go.Proofs.YtjpodcmhcenjjaaGreatDoor
def frN(op:Int):Option (Nat×Nat×Nat×List UInt8):=
 if op=18 then some (1,1,2,[60,61,62]) else if op=17 then some (2,3,2,[61,62]) else if op=16 then some (3,3,4,[124,124]) else if op=15 then some (4,4,5,[38,38])
 else if op=10 then some (6,7,7,[61]) else if op=11 then some (6,7,7,[33,61]) else if op=12 then some (6,7,7,[60]) else if op=13 then some (6,7,7,[60,61])
 else if op=6 then some (7,7,8,[43]) else if op=7 then some (7,7,8,[45]) else if op=8 then some (8,8,9,[42]) else none
structure Out (α:Type) where
 sg:List UInt8->List α
 nm:List UInt8->List α
 nu:Nat->List α
 bo:Bool->List α
 sp:List α
def e8M(ln:Int)(s:List UInt8):Tok:=⟨4,s,0,ln⟩
end Go.Proofs.YtjpodcmhcenjjaaGreatDoor
end
section
namespace Go.Proofs.YtjpodcmhcenjjaaGreatDoor
def RR(kw:List UInt8->Bool)(l:List Tok)(i k:Nat):Option (Pr×Nat):=eK kw l (mu l.length i k) i k
end Go.Proofs.YtjpodcmhcenjjaaGreatDoor
end
section
namespace Go.Proofs.YtjpodcmhcenjjaaGreatDoor
inductive WfP (N:List UInt8->Prop):Pr->Prop
 |int (n:Int): -1000000000000<=n->n<=1000000000000->WfP N ⟨1,[],n,[]⟩
 |boo (n:Int):n=0\/n=1->WfP N ⟨2,[],n,[]⟩
 |var (s:List UInt8):N s->WfP N ⟨3,s,0,[]⟩
 |app (s:List UInt8) (ks:List Pr):N s->ks≠[]->(∀k∈ks,WfP N k)->WfP N ⟨4,s,0,ks⟩
 |hole (s:List UInt8) (ks:List Pr):N s->ks≠[]->(∀k∈ks,WfP N k)->WfP N ⟨5,s,0,ks⟩
 |neg (a:Pr):WfP N a->WfP N ⟨9,[],0,[a]⟩
 |not (a:Pr):WfP N a->WfP N ⟨14,[],0,[a]⟩
 |two (op:Int) (lv l r:Nat) (s:List UInt8) (a b:Pr):frN op=some (lv,l,r,s)->WfP N a->WfP N b->WfP N ⟨op,[],0,[a,b]⟩
end Go.Proofs.YtjpodcmhcenjjaaGreatDoor
end
section
namespace Go.Proofs.YtjpodcmhcenjjaaGreatDoor
section
variable {num:List UInt8->Int×Bool} {ln:Int}
end
end Go.Proofs.YtjpodcmhcenjjaaGreatDoor
end
end
namespace Go.Proofs.YtjpodcmhcenjjaaGreatDoor
section
def a8o(t:Tok):Int:=if t.text=[40] then 1 else if t.text=[41] then -1 else 0
def a1s(l:List Tok)(i:Nat):Int:=match l[i]? with
 |some t=>a8o t
 |none=>0
def a6N(l:List Tok):Nat->Nat->Int
 |_,0=>0
 |i,m+1=>a1s l i+a6N l (i+1) m
def par(l:List Tok)(i j:Nat):Int:=a6N l i (j-i)
section
variable {l:List Tok}
theorem wF(i:Nat):par l i i=0:=by
 unfold par;rw[Nat.sub_self]
 rfl
theorem jO{i j:Nat}(h:i<j):par l i j=a1s l i+par l (i+1) j:=by
 unfold par;rw[show j-i=(j-(i+1))+1 by omega]
 rfl
theorem c4f:∀(m i n:Nat),a6N l i (m+n)=a6N l i m+a6N l (i+m) n
 |0,i,n=>by simp[a6N]
 |m+1,i,n=>by rw[show m+1+n=(m+n)+1 by omega,a6N,a6N,c4f m (i+1) n,show i+1+m=i+(m+1) by omega];omega
theorem a0g{i j k:Nat}(h1:i<=j)(h2:j<=k):par l i k=par l i j+par l j k:=by unfold par;have:=c4f (l:=l) (j-i) i (k-j);rw[show j-i+(k-j)=k-i by omega,show i+(j-i)=j by omega]at this;exact this
theorem wG{i:Nat}:par l i (i+1)=a1s l i:=by rw[jO (by omega),wF];omega
def WfD(l:List Tok):Prop:=∀(i:Nat) (t:Tok),l[i]? =some t->t.kind≠4->a8o t=0
theorem uP{i:Nat}{s:List UInt8}(h:mF l i s=true):a1s l i=a8o ⟨4,s,0,0⟩:=by
 unfold mF at h;unfold a1s;cases ht:l[i]? with
 |none=>rw[ht]at h;cases h
 |some t=>rw[ht]at h;simp only[f7H,decide_eq_true_eq]at h;simp only[a8o,h.2]
theorem c0H(hW:WfD l){i:Nat}{k:Int}(hk:k≠4)(h:kdB l i k=true):a1s l i=0:=by
 unfold kdB at h;unfold a1s;cases ht:l[i]? with
 |none=>rfl
 |some t=>rw[ht]at h;simp only[decide_eq_true_eq]at h;exact hW i t ht (by omega)
theorem c6S(hW:WfD l){i:Nat}(h:wtB l i=true):a1s l i=0:=by
 unfold wtB at h;rw[f7T]at h;rcases h with h|h
 .exact c0H hW (by decide) h
 .exact c0H hW (by decide) h
theorem a6B(hW:WfD l):∀(g i:Nat) (s:List UInt8),i<=l.length->par l i (pP l g i s).2=0
 |0,i,s,_=>wF i
 |g+1,i,s,hi=>by
  rw[pP];split
  .rename_i h1;have d1:a1s l i=0:=uP h1;have l1:=kB h1;split
   .rename_i h2;have d2:=c6S hW h2;have l2:=a2k h2;have h3:=a6B hW g (i+2) (s++[46]++txA l (i+1)) (by omega);have h4:=xO (l:=l) g (i+2) (s++[46]++txA l (i+1)) (by omega);rw[jO (by omega),jO (by omega),d1,d2,h3]
    rfl
   .split
    .rename_i h3;have d3:=c0H hW (by decide) h3;have l3:=b5s h3;split
     .rename_i h4;have d4:=c6S hW h4;have l4:=a2k h4;have h5:=a6B hW g (i+3) (s++[46]++txA l (i+1)++txA l (i+2)) (by omega);have h6:=xO (l:=l) g (i+3) (s++[46]++txA l (i+1)++txA l (i+2)) (by omega);rw[jO (by omega),jO (by omega),jO (by omega),d1,d3,d4,h5]
      rfl
     .have h5:=a6B hW g (i+2) (s++[46]++txA l (i+1)) (by omega);have h6:=xO (l:=l) g (i+2) (s++[46]++txA l (i+1)) (by omega);rw[jO (by omega),jO (by omega),d1,d3,h5]
      rfl
    .exact wF i
  .exact wF i
variable {kw:List UInt8->Bool} {rd:Nat->Nat->Option (Pr×Nat)}
theorem b5y(hW:WfD l){i n:Nat}{s:List UInt8}(h:tL kw l i=some (s,n)):par l i n=0:=by
 have ha:=pQ h;unfold tL at h;split at h
 .rename_i hb;unfold b5r at hb;rw[f7H]at hb;have d1:=c6S hW hb.1;have l1:=a2k hb.1;have h2:=a6B hW l.length (i+1) (txA l i) (by omega);rw[f7N]at h;rw[h]at h2;simp only at h2;rw[jO ha.1,d1,h2]
  rfl
 .cases h
def RdB(l:List Tok)(rd:Nat->Nat->Option (Pr×Nat)):Prop:=∀i k p n,rd i k=some (p,n)->par l i n=0
variable (hW:WfD l) (hA:Adv l rd) (hB:RdB l rd)
include hW hA hB
theorem e5f{n k:Nat}{op:Int}(ho:a9R l n k=some op):a1s l n=0:=by unfold a9R at ho;rw[f7G]at ho;obtain⟨p,hp,_⟩:=ho;have hs:mF l n p.2=true:=List.find?_some (p:=λp:Int×List UInt8=>mF l n p.2) hp;rw[uP hs];have hm:=List.mem_of_find?_eq_some hp;unfold opL at hm;split at hm<;>simp at hm<;>(try rcases hm with rfl|rfl)<;>(try subst hm)<;>rfl
theorem d9C{n:Nat}{q:Int×Bool}(hc:a1a l n=some q):a1s l n=0:=by unfold a1a at hc;rw[f7G]at hc;obtain⟨p,hp,_⟩:=hc;have hs:mF l n p.1=true:=List.find?_some (p:=λp:List UInt8×Int×Bool=>mF l n p.1) hp;rw[uP hs];have hm:=List.mem_of_find?_eq_some hp;simp[cmpL]at hm;rcases hm with rfl|rfl|rfl|rfl|rfl|rfl<;>rfl
theorem b8S(k:Nat):∀(g:Nat) (a:Pr) (n:Nat),n<=l.length->par l n (dL rd l k g a n).2=0
 |0,a,n,hn=>wF n
 |g+1,a,n,hn=>by
  rw[dL];split
  .exact wF n
  .rename_i op ho;split
   .exact wF n
   .rename_i b m hr;have h1:=hA _ _ _ _ hr;have h2:=a6A hA k g (tw op a b) m h1.2;rw[jO (by omega),e5f hW hA hB ho,a0g (j:=m) (by omega) (by omega),hB _ _ _ _ hr,b8S k g (tw op a b) m h1.2]
    rfl
theorem c4g:∀(g i:Nat) (acc ks:List Pr) (m:Nat),mE rd l g i acc=some (ks,m)->par l (i+1) m= -1
 |0,_,_,_,_,hr=>by cases hr
 |g+1,i,acc,ks,m,hr=>by
  rw[mE]at hr;split at hr
  .cases hr
  .rename_i p n hp;have h1:=hA _ _ _ _ hp;split at hr
   .rename_i hs;cases hr;rw[a0g (j:=n) (by omega) (by omega),hB _ _ _ _ hp,wG,uP hs]
    rfl
   .split at hr
    .rename_i hs;have h2:=a9S hA g n _ ks m hr;have h3:=c4g g n _ ks m hr;rw[a0g (j:=n) (by omega) (by omega),hB _ _ _ _ hp,jO h2.1,uP hs,h3]
     rfl
    .cases hr
theorem c4h{i m:Nat}{ks:List Pr}(hr:rZ rd l i=some (ks,m)):par l i m=0:=by
 unfold rZ at hr;split at hr
 .rename_i hs;have h2:=a9S hA _ _ _ _ _ hr;rw[jO h2.1,uP hs,c4g hW hA hB _ _ _ _ _ hr]
  rfl
 .cases hr
theorem d4e{i n:Nat}{p:Pr}(hr:wE kw rd l i=some (p,n)):par l i n=0:=by
 unfold wE at hr;split at hr
 .cases hr
 .rename_i t ht;have d0:t.kind≠4->a1s l i=0:=λhk=>by unfold a1s;rw[ht];exact hW i t ht hk
  split at hr
  .cases hr;rw[wG];exact d0 (by omega)
  split at hr
  .cases hr;rw[wG];exact d0 (by omega)
  split at hr
  .cases hr;rw[wG];exact d0 (by omega)
  split at hr
  .rename_i hq;split at hr
   .cases hr
   .rename_i s m hn;have h1:=pQ hn;rw[f7G]at hr;obtain⟨⟨ks,q⟩,hq2,he⟩:=hr;have h2:=a9T hA hq2;cases he;simp only at *;rw[jO (by omega),uP hq,a0g (j:=m) (by omega) (by omega),b5y hW hn,c4h hW hA hB hq2]
    rfl
  split at hr
  .rename_i hp;split at hr
   .rename_i hc;cases hr;rw[jO (by omega),jO (by omega),jO (by omega),wG,uP hp,uP hc.1,c0H hW (by decide) hc.2.1,uP hc.2.2]
    rfl
   .split at hr
    .cases hr
    .rename_i q m hq;have h1:=hA _ _ _ _ hq;split at hr
     .rename_i hs;cases hr;rw[jO (by omega),a0g (j:=m) (by omega) (by omega),wG,uP hp,hB _ _ _ _ hq,uP hs]
      rfl
     .cases hr
  .split at hr
   .cases hr
   .rename_i s m hn;have h1:=pQ hn;split at hr
    .rename_i ks q hq;have h2:=a9T hA hq;cases hr;rw[a0g (j:=m) (by omega) (by omega),b5y hW hn,c4h hW hA hB hq]
     rfl
    .cases hr;exact b5y hW hn
theorem e5g{i k n:Nat}{p:Pr}(hr:atG kw rd l i k=some (p,n)):par l i n=0:=by
 have ha:=d4c hA hr;unfold atG at hr;split at hr
 .unfold b0W at hr;split at hr
  .cases hr
  .rename_i a m hm;have h1:=hA _ _ _ _ hm;split at hr
   .rename_i hs;split at hr
    .rename_i b q hb;have h2:=hA _ _ _ _ hb;cases hr;rw[a0g (j:=m) (by omega) (by omega),hB _ _ _ _ hm,jO (by omega),uP hs,hB _ _ _ _ hb]
     rfl
    .cases hr;exact hB _ _ _ _ hm
   .cases hr;exact hB _ _ _ _ hm
 .split at hr
  .rename_i hs;rw[f7G]at hr;obtain⟨⟨a,m⟩,hm,he⟩:=hr;cases he;simp only at *;rw[jO (by omega),uP hs,hB _ _ _ _ hm]
   rfl
  .exact hB _ _ _ _ hr
 .unfold a7X at hr;split at hr
  .cases hr
  .rename_i a m hm;have h1:=hA _ _ _ _ hm;split at hr
   .cases hr;exact hB _ _ _ _ hm
   .rename_i op ex hc;split at hr
    .cases hr;exact hB _ _ _ _ hm
    .rename_i b q hb;have h2:=hA _ _ _ _ hb;cases hr;rw[a0g (j:=m) (by omega) (by omega),hB _ _ _ _ hm,jO (by omega),d9C hW hA hB hc,hB _ _ _ _ hb]
     rfl
 .split at hr
  .rename_i hs;rw[f7G]at hr;obtain⟨⟨a,m⟩,hm,he⟩:=hr;cases he;simp only at *;rw[jO (by omega),uP hs,hB _ _ _ _ hm]
   rfl
  .exact hB _ _ _ _ hr
 .exact d4e hW hA hB hr
 .rw[f7G]at hr;obtain⟨⟨a,m⟩,hm,he⟩:=hr;have h1:=hA _ _ _ _ hm;have h2:=a6A (k:=k) hA l.length a m h1.2;have h3:=b8S hW hA hB k l.length a m h1.2;have h4:(dL rd l k l.length a m).2=n:=by rw[he]
  rw[h4]at h2 h3;rw[a0g (j:=m) (by omega) (by omega),hB _ _ _ _ hm,h3]
  rfl
end
theorem c8y(kw:List UInt8->Bool){l:List Tok}(hW:WfD l):∀f,RdB l (eK kw l f)
 |0=>λ_ _ _ _ h=>by cases h
 |f+1=>λ_ _ _ _ h=>e5g hW (jN kw l f) (c8y kw hW f) h
theorem b8T(l:List Tok)(k:Nat):∀(m i:Nat),a6N (l.drop k) i m=a6N l (k+i) m
 |0,i=>rfl
 |m+1,i=>by rw[a6N,a6N,b8T l k m (i+1)];unfold a1s;rw[f8a,show k+(i+1)=k+i+1 by omega]
theorem b8U(l:List Tok)(e:Nat):∀(m i:Nat),i+m<=e->a6N (l.take e) i m=a6N l i m
 |0,i,_=>rfl
 |m+1,i,h=>by rw[a6N,a6N,b8U l e m (i+1) (by omega)];unfold a1s;rw[List.getElem?_take,if_pos (by omega)]
theorem d4f(l:List Tok)(e k n:Nat)(h:k+n<=e):par ((l.take e).drop k) 0 n=par l k (k+n):=by unfold par;rw[b8T,Nat.sub_zero,Nat.add_zero,b8U l e n k h,show k+n-k=n by omega]
theorem WfD.part{l:List Tok}(h:WfD l)(e k:Nat):WfD ((l.take e).drop k):=λi t ht=>by
 rw[f8a,List.getElem?_take]at ht;split at ht
 .exact h _ t ht
 .cases ht
end
end Go.Proofs.YtjpodcmhcenjjaaGreatDoor
section
section
namespace Go.Proofs.YtjpodcmhcenjjaaGreatDoor
open Go Go.VM
variable {G:GT}
theorem rg1:List.range 1=[0]:=rfl
theorem rg2:List.range 2=[0,1]:=rfl
theorem rg3:List.range 3=[0,1,2]:=rfl
abbrev rdD(l:List Tok):D:=.agg [.sl (l.map bG)]
theorem a8p{l:List Tok}{i:Nat}(h:i<l.length)(s:List UInt8):mF l i s=(decide (l[i].kind=4)&&decide (l[i].text=s)):=by simp[mF,h]
theorem c0I{l:List Tok}{i:Nat}(h: ¬i<l.length)(s:List UInt8):mF l i s=false:=by unfold mF;rw[List.getElem?_eq_none (by omega)]
theorem a8q{l:List Tok}{i:Nat}(h:i<l.length)(k:Int):kdB l i k=decide (l[i].kind=k):=by simp[kdB,h]
theorem c6T{l:List Tok}{i:Nat}(h: ¬i<l.length)(k:Int):kdB l i k=false:=by unfold kdB;rw[List.getElem?_eq_none (by omega)]
theorem a5O{l:List Tok}{i:Nat}(h:i<l.length):txA l i=l[i].text:=by simp[txA,h]
theorem d4g{l:List Tok}{i:Nat}(h:i<l.length):nmA l i=l[i].n:=by simp[nmA,h]
theorem bO:VM.Enters prog 209:=.mk func209 rfl
theorem pR(l:List Tok)(i:Nat)(s:List UInt8)(hl:l.length<=900000000):CS prog G 209 [rdD l,.int .i64 i,.str s] (.d (.bool (mF l i s))) none:=by
 refine CS.aR func209 rfl ntmps209 rfl ?_;by_cases aE:i<l.length
 .rw[a8p aE];obtain⟨t,ht⟩:∃t,l[i]=t:=⟨_,rfl⟩;rw[ht];simp[aE,ht,bG];by_cases h1:t.kind=4
  .by_cases h2:t.text=s<;>simp[h1,h2,aE,ht,bG]
  .simp[h1,aE,ht,bG]
 .rw[c0I aE];simp[aE]
theorem tF:VM.Enters prog 210:=.mk func210 rfl
theorem uD(op:Int)(a b:Pr):CS prog G 210 [.int .i64 op,.agg (zP a),.agg (zP b)] (.d (.agg (zP (tw op a b)))) none:=by refine CS.aR func210 rfl ntmps210 rfl ?_;simp[tw,rg2,cN]
def a6O(k:Nat):List (List D):=(opL k).map λp=>[.int .i64 p.1]
theorem wH:VM.Enters prog 234:=.mk func234 rfl
theorem a4E(k:Nat):CS prog G 234 [.int .i64 k] (.d (.sl (a6O k))) none:=by
 refine CS.aR func234 rfl ntmps234 rfl ?_
 match k with
 |0=>simp[a6O,opL,rg1,rg2]
 |1=>simp[a6O,opL,rg1,rg2]
 |2=>simp[a6O,opL,rg1,rg2]
 |3=>simp[a6O,opL,rg1,rg2]
 |4=>simp[a6O,opL,rg1,rg2]
 |5=>simp[a6O,opL,rg1,rg2]
 |6=>simp[a6O,opL,rg1,rg2]
 |7=>simp[a6O,opL,rg1,rg2]
 |8=>simp[a6O,opL,rg1,rg2]
 |k+9=>
  have h1: ¬(k:Int)+9=1:=by omega
  have h3: ¬(k:Int)+9=3:=by omega
  have h4: ¬(k:Int)+9=4:=by omega
  have h7: ¬(k:Int)+9=7:=by omega
  have h8: ¬(k:Int)+9=8:=by omega
  simp[a6O,opL,h1,h3,h4,h7,h8]
def frm(op:Int):Option (Int×Int×Int×List UInt8):=
 if op=18 then some (1,1,2,[60,61,62]) else if op=17 then some (2,3,2,[61,62]) else if op=16 then some (3,3,4,[124,124]) else if op=15 then some (4,4,5,[38,38])
 else if op=10 then some (6,7,7,[61]) else if op=11 then some (6,7,7,[33,61]) else if op=12 then some (6,7,7,[60]) else if op=13 then some (6,7,7,[60,61])
 else if op=6 then some (7,7,8,[43]) else if op=7 then some (7,7,8,[45]) else if op=8 then some (8,8,9,[42]) else none
def a9U:Option (Int×Int×Int×List UInt8)->DV
 |some (a,b,c,s)=>.bY [.agg [.int .i64 a,.int .i64 b,.int .i64 c,.str s],.bool true]
 |none=>.bY [.agg [.int .i64 0,.int .i64 0,.int .i64 0,.str []],.bool false]
theorem a8r:VM.Enters prog 236:=.mk func236 rfl
theorem a9V(op:Int):CS prog G 236 [.int .i64 op] (a9U (frm op)) none:=by
 refine CS.aR func236 rfl ntmps236 rfl ?_;simp;by_cases h18:op=18
 .simp[h18,frm,a9U]
 by_cases h17:op=17
 .simp[h17,frm,a9U]
 by_cases h16:op=16
 .simp[h16,frm,a9U]
 by_cases h15:op=15
 .simp[h15,frm,a9U]
 by_cases h10:op=10
 .simp[h10,frm,a9U]
 by_cases h11:op=11
 .simp[h11,frm,a9U]
 by_cases h12:op=12
 .simp[h12,frm,a9U]
 by_cases h13:op=13
 .simp[h13,frm,a9U]
 by_cases h6:op=6
 .simp[h6,frm,a9U]
 by_cases h7:op=7
 .simp[h7,frm,a9U]
 by_cases h8:op=8
 .simp[h8,frm,a9U]
 simp[h18,h17,h16,h15,h10,h11,h12,h13,h6,h7,h8,frm,a9U]
end Go.Proofs.YtjpodcmhcenjjaaGreatDoor
end
section
namespace Go.Proofs.YtjpodcmhcenjjaaGreatDoor
open Go Go.VM
variable {G:GT}
theorem d9D(k:Nat):∀p∈opL k,∃a b c,frm p.1=some (a,b,c,p.2):=by unfold opL;split<;>simp[frm]
abbrev d4h(l:List Tok)(n:Nat):List (Nat×aW):=[(100000,.cells [.d (.sl (l.map bG))]),(100001,.cells [.d (.int .i64 n)])]
theorem c6U:VM.Enters prog 235:=.mk func235 rfl
theorem d0q(l:List Tok)(n:Nat)(hl:l.length<=900000000){op a b c:Int}{s:List UInt8}(h:frm op=some (a,b,c,s)):CH prog G 235 ⟨[.d (.int .i64 op),.ptr 100000 0,.ptr 100001 0],d4h l n,[]⟩ ⟨[.d (.bool (mF l n s))],d4h l n,[]⟩:=by have h1:=a9V (G:=G) op;rw[h,a9U]at h1;have h2:=pR (G:=G) l n s hl;refine CH.aR func235 rfl ntmps235 rfl (by simp) ?_;simp;refine aD.mk a8r h1 ?_;simp;refine aD.mk bO h2 ?_;simp
def ixO(l:List Tok)(n:Nat):List (Int×List UInt8)->Nat->Int
 |[],_=> -1
 |p::r,i=>if mF l n p.2=true then(i:Int) else ixO l n r (i+1)
theorem d4i{l:List Tok}{n:Nat}{o:List (Int×List UInt8)}{i:Nat}(h:i<o.length):ixO l n (o.drop i) i=if mF l n o[i].2=true then(i:Int) else ixO l n (o.drop (i+1)) (i+1):=by rw[f7U h,ixO]
theorem d4j:VM.Enters prog 233:=.mk func233 rfl
theorem d9E(l:List Tok)(n:Nat)(o:List (Int×List UInt8))(ho:∀p∈o,∃a b c,frm p.1=some (a,b,c,p.2))(hl:l.length<=900000000)(hol:o.length<=10):
  CH prog G 233 ⟨[.d (.sl (o.map λp=>[.int .i64 p.1])),.clo 235 [.ptr 100000 0,.ptr 100001 0]],d4h l n,[]⟩ ⟨[.d (.int .i64 (ixO l n o 0))],d4h l n,[]⟩:=by
 obtain⟨r,hr⟩:∃r,ixO l n o 0=r:=⟨_,rfl⟩;rw[hr];refine CH.aR func233 rfl ntmps233 rfl (by simp) ?_;simp;refine SW.eE (ι:={i:Nat//i<=o.length/\ixO l n (o.drop i) i=r}) (λi=>[(8,.d (.int .i64 i.1))]) (λ_=>d4h l n) (λ_=>[]) (λi=>o.length-i.1) ⟨0,by simpa using hr⟩ (by simp) ?_;rintro⟨i,hi,hR⟩
 try simp only at hi hR
 by_cases aE:i<o.length
 .have hw:=aY (show i<9223372036854775807 by omega);obtain⟨q,hq⟩:∃q,o[i]=q:=⟨_,rfl⟩;obtain⟨a,b,c,hf⟩:=ho o[i] (List.getElem_mem aE);rw[d4i aE]at hR;rw[hq]at hf hR;have hc:=d0q (G:=G) l n hl hf;simp[aE,hq];refine eY.ro c6U hc [(100000,100000),(100001,100001)] (by simp) (by simp) (by simp) (by simp) (by simp) ?_;cases hs:mF l n q.2
  .rw[if_neg (by simp[hs])]at hR;simp;exact aX.mk ⟨i+1,aE,hR⟩ (by simp[hw]) (by simp;omega)
  .rw[if_pos hs]at hR;simp[hR]
 .have:i=o.length:=by omega
  subst this;rw[List.drop_length,ixO]at hR;simp[<-hR]
end Go.Proofs.YtjpodcmhcenjjaaGreatDoor
end
section
namespace Go.Proofs.YtjpodcmhcenjjaaGreatDoor
open Go Go.VM
variable {G:GT}
theorem d4k:VM.Enters prog 265:=.mk func265 rfl
theorem d9F(xs:List (List UInt8))(sep:List UInt8)(hl:xs.length<=140737488355328)(hj:(Lib.join xs sep).length<=140737488355328):CS prog G 265 [.sl (xs.map λs=>[.str s]),.str sep] (.d (.str (Lib.join xs sep))) none:=
 d8O strings_Join_none strings_Join hl hj
theorem b8V:∀xs:List (List UInt8),Lib.join xs []=xs.flatten
 |[]=>rfl
 |x::r=>by rw[Lib.join_cons,Lib.joinTail];simp
theorem mG:VM.Enters prog 248:=.mk func248 rfl
theorem a1b(xs:List (List UInt8))(hl:xs.length<=1000000)(hj:xs.flatten.length<=900000000):CS prog G 248 [.sl (xs.map λs=>[.str s])] (.d (.str xs.flatten)) none:=by have h:=d9F (G:=G) xs [] (by omega) (by rw[b8V];omega);rw[b8V]at h;refine CS.aR func248 rfl ntmps248 rfl ?_;simp;refine aD.mk d4k h ?_;simp
theorem d9G(a b:List UInt8)(h:(a++b).length<=900000000):CS prog G 248 [.sl [[.str a],[.str b]]] (.d (.str (a++b))) none:=by have:=a1b (G:=G) [a,b] (by simp) (by simpa using h);simpa using this
theorem d9H(a b c:List UInt8)(h:(a++(b++c)).length<=900000000):CS prog G 248 [.sl [[.str a],[.str b],[.str c]]] (.d (.str (a++(b++c)))) none:=by have:=a1b (G:=G) [a,b,c] (by simp) (by simpa using h);simpa using this
def txS:List Tok->Nat
 |[]=>0
 |t::r=>t.text.length+1+txS r
theorem c0J:∀a b:List Tok,txS (a++b)=txS a+txS b
 |[],b=>by simp[txS]
 |t::a,b=>by rw[List.cons_append,txS,txS,c0J a b];omega
theorem a5P{l:List Tok}{i:Nat}(h:i<l.length):txS (l.take (i+1))=txS (l.take i)+(l[i].text.length+1):=by rw[f7W h,c0J];simp[txS]
theorem e5h(l:List Tok)(i:Nat):txS (l.take i)<=txS l:=by have:=c0J (l.take i) (l.drop i);rw[List.take_append_drop]at this;omega
def xP(l:List Tok):Prop:=l.length<=50000/\txS l<=900000
theorem a8s{l:List Tok}{j:Nat}{s:List UInt8}(hs:s.length<=txS (l.take j))(h1:j+1<l.length):(s++([46]++(l[j+1]).text)).length<=txS (l.take (j+2)):=by have q1:=a5P (l:=l) (i:=j) (by omega);have q2:txS (l.take (j+2))=txS (l.take (j+1))+((l[j+1]).text.length+1):=a5P h1;simp only[List.length_append,List.length_cons,List.length_nil];omega
theorem b2l{l:List Tok}{j:Nat}{s:List UInt8}(hs:s.length<=txS (l.take (j+2)))(h1:j+2<l.length):(s++(l[j+2]).text).length<=txS (l.take (j+3)):=by have q2:txS (l.take (j+3))=txS (l.take (j+2))+((l[j+2]).text.length+1):=a5P h1;simp only[List.length_append];omega
theorem xP.le{l:List Tok}(h:xP l){i n:Nat}(hn:n<=txS (l.take i)):n<=900000000:=by have h1:=e5h l i;have h2:=h.2;omega
theorem c0K{l:List Tok}{i:Nat}(h:i<l.length):wtB l i=(decide (l[i].kind=1)||decide (l[i].kind=2)):=by simp[wtB,a8q h]
theorem c0L{l:List Tok}{i:Nat}(h: ¬i<l.length):wtB l i=false:=by simp[wtB,c6T h]
theorem b5z{l:List Tok}{f i:Nat}{s:List UInt8}(h:mF l i [46]=false):pP l f i s=(s,i):=by
 cases f with
 |zero=>rfl
 |succ f=>rw[pP,if_neg (by simp[h])]
def b0Y:Option (List UInt8×Nat)->DV
 |some (s,n)=>.bY [.str s,.int .i64 n]
 |none=>.bY [.str [],.int .i64 (-1)]
theorem a0h(o):oG (b0Y o)=true:=by
 cases o with
 |none=>rfl
 |some q=>obtain⟨a,b⟩:=q;rfl
theorem kC{P:Program}{x y:Code}{st:St}{Q:Exit->St->Prop}(st':St)(h1:SW P G x st λe s=>match e with
  | .normal=>uN s st'
  |e=>Q e s)(h2:SW P G y st' Q):SW P G (.seq x y) st Q:=SW.jZ λbase R μ a w hr=>
 wp_mono (h1 base R μ a w hr) λe a1 w1 ⟨s,R1,μ1,q1,q2,q3⟩=>by
  cases e with
  |normal=>exact⟨s,R1,μ1,λbase R μ a w hr=>h2 base R μ a w (hr.a0H q1),q2,q3⟩
  |_=>exact⟨s,R1,μ1,q1,q2,q3⟩
theorem a6C:VM.Enters prog 230:=.mk func230 rfl
theorem c4j(hG:G 1=some dP)(l:List Tok)(i:Nat)(hl:xP l)(hi:i<=l.length):CS prog G 230 [rdD l,.int .i64 i] (b0Y (tL aU l i)) none:=by
 have hll:=hl.1;obtain⟨o,ho⟩:∃o,tL aU l i=o:=⟨_,rfl⟩;rw[ho];refine CS.a5p func230 rfl ntmps230 rfl ?_;refine SW.jZ (SW.vk ?_);simp;by_cases aE:i<l.length;rotate_left
 .have hge:l.length<=i:=Nat.le_of_not_lt aE;have:o=none:=by rw[<-ho];simp[tL,b5r,c0L aE]
  subst this;refine SW.jZ (SW.vk ?_);simp[hge,b0Y]
 have hge: ¬l.length<=i:=by omega
 unfold tL b5r at ho;rw[c0K aE,a5O aE]at ho;obtain⟨t,ht⟩:∃t,l[i]=t:=⟨_,rfl⟩;rw[ht]at ho;by_cases hw:t.kind=1\/t.kind=2;rotate_left
 .have k1: ¬t.kind=1:=λh=>hw (.inl h);have k2: ¬t.kind=2:=λh=>hw (.inr h);have:o=none:=by rw[<-ho];simp[k1,k2]
  subst this;refine SW.jZ (SW.vk ?_);simp[hge,aE,ht,bG];simp[k1,k2,aE,ht,bG,b0Y]
 have hwd:(decide (t.kind=1)||decide (t.kind=2))=true:=by simpa using hw
 rw[hwd,Bool.true_and]at ho;refine kC ⟨[.d (rdD l),.d (.int .i64 i),.ptr 2 0,.undef,.d (.str []),.d (.int .i64 0)]++List.replicate 125 .undef,[(2,.cells [.d (.sl (l.map bG))])],[]⟩ (SW.vk ?_) ?_
 .simp[hge,aE,ht,bG];by_cases k1:t.kind=1
  .simp[k1,aE,ht,bG,List.replicate]
  .have k2:=hw.resolve_left k1;simp[k1,k2,aE,ht,bG,List.replicate]
 refine SW.jZ (SW.vk ?_);simp[aE,ht,bG,List.replicate];cases mP:(!aU t.text||decide (t.text=[118])||decide (t.text=[116,97,103])||decide (t.text=[118,97,108]))
 .have:o=none:=by rw[<-ho];simp[mP]
  subst this;simp at mP;obtain⟨⟨⟨q1,q2⟩,q3⟩,q4⟩:=mP;refine SW.jZ (SW.vk ?_);simp;refine aD.mk xU (zX hG t.text) ?_;simp[q1,q2,q3,q4,b0Y]
 rw[if_pos mP]at ho;refine kC ⟨[.d (rdD l),.d (.int .i64 i),.ptr 2 0,.undef,.d (.str []),.d (.int .i64 0),.d (.str t.text)]++List.replicate 124 .undef,[(2,.cells [.d (.sl (l.map bG))])],[]⟩ (SW.vk ?_) ?_
 .simp;refine aD.mk xU (zX hG t.text) ?_;by_cases q1:aU t.text=true
  .by_cases q2:t.text=[118]
   .rw[q2]at q1;simp[q1,q2,List.replicate]
   .by_cases q3:t.text=[116,97,103]
    .rw[q3]at q1;simp[q1,q3,List.replicate]
    .have q4:t.text=[118,97,108]:=by simpa[q1,q2,q3]using mP
     rw[q4]at q1;simp[q1,q4,List.replicate]
  .simp[q1,List.replicate]
 obtain⟨rs,rn,hrr⟩:∃rs rn,pP l l.length (i+1) t.text=(rs,rn):=⟨_,_,rfl⟩;rw[hrr]at ho;subst ho;have hw1:=aY (show i<9223372036854775807 by omega);refine SW.vk ?_;simp[hw1,List.replicate];refine SW.eE (ι:={p:Nat×List UInt8//p.1<=l.length/\p.2.length<=txS (l.take p.1)/\∃f,l.length<=f+p.1/\pP l f p.1 p.2=(rs,rn)}) (λp=>[(1,.d (.int .i64 p.1.1)),(6,.d (.str p.1.2))]) (λ_=>[(2,.cells [.d (.sl (l.map bG))])]) (λ_=>[]) (λp=>l.length-p.1.1) ⟨(i+1,t.text),aE,by have:=a5P aE;rw[ht]at this;simp only;omega,l.length,by omega,hrr⟩ (by simp) ?_;rintro⟨⟨j,s⟩,hj,hs,f,hf,hp⟩;simp only at hj hs hf hp;have hsg:=pR (G:=G) l j [46] (by omega);have qW:=aY (show j<9223372036854775807 by omega);have sM:IntKind.i64.wrap ((j:Int)+2)=((j+2:Nat):Int):=by rw[wrap64 (by omega)];simp
 have hj3:IntKind.i64.wrap ((j:Int)+2+1)=((j+3:Nat):Int):=by rw[wrap64 (by omega)];omega
 simp;refine aD.mk bO hsg ?_;cases hd:mF l j [46]with
 |false=>rw[b5z hd]at hp;cases hp;simp[b0Y]
 |true=>
  have hjl:=kB hd;obtain⟨f,rfl⟩:∃g,f=g+1:=⟨f-1,by omega⟩;rw[pP,if_pos hd]at hp;simp[qW];by_cases sS:j+1<l.length;rotate_left
  .rw[if_neg (by rw[c0L sS];simp),if_neg (by rw[c6T sS];simp)]at hp;cases hp;simp[sS,b0Y]
  obtain⟨u,hu⟩:∃u,l[j+1]=u:=⟨_,rfl⟩;have hgr:=a8s hs sS;rw[hu]at hgr;rw[c0K sS,a8q sS,a5O sS,hu]at hp;have d4l:=d9H (G:=G) s [46] u.text (hl.le hgr);simp[qW,sS,hu,bG];by_cases k1:u.kind=1
  .simp[k1]at hp;simp[k1,qW,sS,hu,bG,rg3];refine aD.mk mG d4l ?_;simp[sM,k1];exact aX.mk ⟨(j+2,s++([46]++u.text)),sS,hgr,f,by omega,by simpa using hp⟩ (by simp[sM]) (by simp;omega)
  by_cases k2:u.kind=2
  .simp[k2]at hp;simp[k1,k2,qW,sS,hu,bG,rg3];refine aD.mk mG d4l ?_;simp[sM,k2];exact aX.mk ⟨(j+2,s++([46]++u.text)),sS,hgr,f,by omega,by simpa using hp⟩ (by simp[sM]) (by simp;omega)
  by_cases k3:u.kind=3;rotate_left
  .simp[k1,k2,k3]at hp;obtain⟨rfl,rfl⟩:=hp;simp[k1,k2,k3,b0Y]
  simp[k3]at hp;simp[k1,k2,k3,qW,sS,hu,bG,rg3];refine aD.mk mG d4l ?_;simp[sM,k3];by_cases a4r:j+2<l.length;rotate_left
  .rw[if_neg (by rw[c0L a4r];simp)]at hp;have a9W: ¬(j:Int)+2<(l.length:Int):=by omega
   simp[a9W];exact aX.mk ⟨(j+2,s++([46]++u.text)),sS,hgr,f,by omega,by simpa using hp⟩ (by simp[sM]) (by simp;omega)
  have a9W:(j:Int)+2<(l.length:Int):=by omega
  have hnn:(0:Int)<=(j:Int)+2:=by omega
  have htn:((j:Int)+2).toNat=j+2:=by omega
  obtain⟨v,hv⟩:∃v,l[j+2]=v:=⟨_,rfl⟩;have c4k:=b2l hgr a4r;rw[hv]at c4k;rw[c0K a4r,a5O a4r,hv]at hp;have c6V:=d9G (G:=G) (s++([46]++u.text)) v.text (hl.le c4k);simp at c6V;simp[a9W,a4r,hnn,htn,hv,bG];by_cases m1:v.kind=1
  .simp[m1]at hp;simp[m1,a4r,a9W,hnn,htn,hv,bG,rg2];refine aD.mk mG c6V ?_;simp[hj3];exact aX.mk ⟨(j+3,s++([46]++u.text)++v.text),a4r,c4k,f,by omega,by simpa using hp⟩ (by simp[hj3]) (by simp;omega)
  by_cases m2:v.kind=2
  .simp[m2]at hp;simp[m1,m2,a4r,a9W,hnn,htn,hv,bG,rg2];refine aD.mk mG c6V ?_;simp[hj3];exact aX.mk ⟨(j+3,s++([46]++u.text)++v.text),a4r,c4k,f,by omega,by simpa using hp⟩ (by simp[hj3]) (by simp;omega)
  simp[m1,m2]at hp;simp[m1,m2,a4r,a9W,hnn,htn,hv,bG];exact aX.mk ⟨(j+2,s++([46]++u.text)),sS,hgr,f,by omega,by simpa using hp⟩ (by simp[sM]) (by simp;omega)
end Go.Proofs.YtjpodcmhcenjjaaGreatDoor
end
section
namespace Go.Proofs.YtjpodcmhcenjjaaGreatDoor
open Go Go.VM
variable {G:GT}
def dS:Option (Pr×Nat)->Pr->DV
 |some (p,n),_=>.bY [.agg (zP p),.int .i64 n]
 |none,j=>.bY [.agg (zP j),.int .i64 (-1)]
def b7p:Option (List Pr×Nat)->DV
 |some (ks,n)=>.bY [.sl (ks.map qH),.int .i64 n]
 |none=>.bY [.sl [],.int .i64 (-1)]
theorem bW(o)(j):oG (dS o j)=true:=by
 cases o with
 |none=>rfl
 |some q=>obtain⟨a,b⟩:=q;rfl
theorem a3P(o):oG (b7p o)=true:=by
 cases o with
 |none=>rfl
 |some q=>obtain⟨a,b⟩:=q;rfl
theorem c4l(l:List Pr):∀x:List D,x∈l.map qH->x.length=4:=λx hx=>by
 obtain⟨p,_,rfl⟩:=List.mem_map.1 hx;rw[cN]
 rfl
section
variable {l:List Tok} {f:Nat}
def AtC(G:GT)(l:List Tok)(f:Nat):Prop:=∀i k,1<=k->k<=9->k≠6->i<=l.length->mu l.length i k<=f->∃j,CS prog G 198 [rdD l,.int .i64 i,.int .i64 k] (dS (eK aU l f i k) j) none
def CmC(G:GT)(l:List Tok)(f:Nat):Prop:=∀i,i<=l.length->mu l.length i 6<=f->∃j,CS prog G 211 [rdD l,.int .i64 i] (dS (eK aU l f i 6) j) none
def PrC(G:GT)(l:List Tok)(f:Nat):Prop:=∀i,i<=l.length->mu l.length i 10<=f->∃j,CS prog G 212 [rdD l,.int .i64 i] (dS (eK aU l f i 10) j) none
theorem wI:VM.Enters prog 198:=.mk func198 rfl
theorem b0Z:VM.Enters prog 231:=.mk func231 rfl
theorem d4m{L n:Nat}(h:n<L):mu L (n+1) 1=(L-n)*12+10:=by unfold mu;omega
theorem c4m(hl:xP l)(hA:AtC G l f)(n:Nat)(hf:(l.length-n)*12+10<=f):CS prog G 231 [rdD l,.int .i64 n] (b7p (rZ (eK aU l f) l n)) none:=by
 have hll:=hl.1;obtain⟨o,ho⟩:∃o,rZ (eK aU l f) l n=o:=⟨_,rfl⟩;rw[ho];unfold rZ at ho;have hsg:=pR (G:=G) l n [40] (by omega);refine CS.aR func231 rfl ntmps231 rfl ?_;simp;refine aD.mk bO hsg ?_;cases hd:mF l n [40]with
 |false=>rw[if_neg (by simp[hd])]at ho;subst ho;simp[b7p]
 |true=>
  have hnl:=kB hd;rw[if_pos hd]at ho;simp;refine SW.eE (ι:={p:Nat×List Pr//p.1<l.length/\(l.length-p.1)*12+10<=f/\p.2.length<=p.1/\∃g,l.length<=g+p.1/\mE (eK aU l f) l g p.1 p.2=o}) (λp=>[(1,.d (.int .i64 p.1.1)),(6,.d (.sl (p.1.2.map qH)))]) (λ_=>[(2,.cells [.d (.sl (l.map bG))])]) (λ_=>[(43,[.t 6])]) (λp=>l.length-p.1.1) ⟨(n,[]),hnl,hf,by simp,l.length,by omega,ho⟩ (by simp) ?_;rintro⟨⟨i,acc⟩,hi,hf,hal,g,hg,hR⟩;simp only at hi hf hal hg hR;have hi1:=aY (show i<9223372036854775807 by omega);obtain⟨g,rfl⟩:∃h,g=h+1:=⟨g-1,by omega⟩;rw[mE]at hR;obtain⟨jk,hat⟩:=hA (i+1) 1 (by omega) (by omega) (by omega) hi (by rw[d4m hi];exact hf);simp[hi1];refine aD.mk (hkl:=bW _ _) wI hat ?_;cases hr:eK aU l f (i+1) 1 with
  |none=>rw[hr]at hR;simp only at hR;subst hR;simp[dS,b7p]
  |some q=>
   obtain⟨p,m⟩:=q;have tD:=jN aU l f _ _ _ _ hr;rw[hr]at hR;simp only at hR;have hm1:=aY (show m<9223372036854775807 by omega);have hs1:=pR (G:=G) l m [41] (by omega);have hs2:=pR (G:=G) l m [44] (by omega);have e8O:=c4l acc;have yV:acc.map qH++[zP p]=(acc++[p]).map qH:=by simp[cN]
   simp[dS];have jG:(acc.length+1)*57<=140737488355328:=by omega
   simp[jG];refine aD.mk bO hs1 ?_;cases hd1:mF l m [41]with
   |true=>rw[if_pos hd1]at hR;subst hR;simp[hm1,b7p,cN]
   |false=>
    rw[if_neg (by simp[hd1])]at hR;simp;refine aD.mk bO hs2 ?_;cases hd2:mF l m [44]with
    |false=>rw[if_neg (by simp[hd2])]at hR;subst hR;simp[b7p]
    |true=>
     rw[if_pos hd2]at hR;have hml:=kB hd2;have hmu:(l.length-m)*12+10<=f:=by omega
     have hac:(acc++[p]).length<=m:=by simp;omega
     simp;exact aX.mk ⟨(m,acc++[p]),hml,hmu,hac,g,by omega,hR⟩ (by simp[cN]) (by simp;omega)
theorem a2N:VM.Enters prog 213:=.mk func213 rfl
theorem d9J{l:List Tok}{n k:Nat}:(match a9R l n k with
  |none=>ixO l n (opL k) 0= -1
  |some op=>∃(q:Nat) (h:q<(opL k).length),ixO l n (opL k) 0=q/\(opL k)[q].1=op):=by
 have gen:∀(o:List (Int×List UInt8)) (i:Nat),(match (o.find? λp=>mF l n p.2).map (·.1)with
   |none=>ixO l n o i= -1
   |some op=>∃(q:Nat) (h:q<o.length),ixO l n o i=((q+i:Nat):Int)/\o[q].1=op):=by
  intro o
  induction o with
  |nil=>intro i;rfl
  |cons p r ih=>
   intro i;rw[List.find?_cons,ixO];cases hs:mF l n p.2 with
   |true=>exact⟨0,by simp,by simp,rfl⟩
   |false=>
    have:=ih (i+1);simp only[Bool.false_eq_true,if_false];cases ho:(r.find? λp=>mF l n p.2).map (·.1)with
    |none=>rw[ho]at this;exact this
    |some op=>rw[ho]at this;obtain⟨q,hq,h1,h2⟩:=this;exact⟨q+1,by simpa using hq,by rw[h1];congr 1;omega,by simpa using h2⟩
 have:=gen (opL k) 0;unfold a9R;cases ho:((opL k).find? λp=>mF l n p.2).map (·.1)with
 |none=>rw[ho]at this;exact this
 |some op=>rw[ho]at this;simpa using this
theorem d9K(k:Nat):(opL k).length<=2:=by unfold opL;split<;>simp
def c0N(p:Pr)(z:Int):St:=⟨List.replicate 6 .undef++[.ptr 6 0,.d (.int .i64 0),.ptr 8 0,.ptr 9 0]++List.replicate 41 .undef,[(6,.cells [.d (.int .i64 0),.d (.str []),.d (.int .i64 0),.d .aF]),(8,.cells ((zP p).map .d)),(9,.cells [.d (.int .i64 z)])],[]⟩
theorem a5Q(hl:xP l)(hA:AtC G l f)(i k:Nat)(hk:1<=k/\k<=8/\k≠5)(hi:i<=l.length)(hf:mu l.length i k<=f+1):
  ∃j,CS prog G 213 [rdD l,.int .i64 i,.int .i64 k] (dS ((eK aU l f i (k+1)).map λq=>dL (eK aU l f) l k l.length q.1 q.2) j) none:=by
 have hll:=hl.1;obtain⟨ja,hat⟩:=hA i (k+1) (by omega) (by omega) (by omega) hi (by unfold mu at hf|-;omega);refine⟨ja,?_⟩;obtain⟨o,ho⟩:∃o,((eK aU l f i (k+1)).map λq=>dL (eK aU l f) l k l.length q.1 q.2)=o:=⟨_,rfl⟩;rw[ho];have e8Q:=a4E (G:=G) k;have hk1:=aY (show k<9223372036854775807 by omega);refine CS.a5p func213 rfl ntmps213 rfl ?_;refine SW.jZ (SW.vk ?_);simp;refine SW.jZ (SW.vk ?_);simp[hk1];refine aD.mk (hkl:=bW _ _) wI hat ?_;cases hr:eK aU l f i (k+1)with
 |none=>
  rw[hr]at ho;subst ho;simp[dS];refine kC (c0N ja (-1)) (SW.vk ?_) ?_;rotate_left
  .skip
   refine SW.jZ (c3q (by kernel_rfl) (by kernel_rfl) rfl rfl rfl rfl ⟨?_,?_⟩)
   .simp[c0N,List.replicate];refine SW.vk ?_;simp
   .simp[c0N,List.replicate];refine SW.vk ?_;simp
  simp;refine SW.eE (ι:={x:Unit//True}) (λ_=>[]) (λ_=>[(3,.cells [.d (.sl (l.map bG))]),(6,.cells [.d (.int .i64 0),.d (.str []),.d (.int .i64 0),.d .aF]),(8,.cells ((zP ja).map .d)),(9,.cells [.d (.int .i64 (-1))])]) (λ_=>[]) (λ_=>0) ⟨(),trivial⟩ (by simp) ?_;rintro⟨_,_⟩;simp[c0N,List.replicate]
 |some q=>
  obtain⟨a,n⟩:=q;have tD:=jN aU l f _ _ _ _ hr;rw[hr]at ho;simp only[Option.map_some]at ho;obtain⟨⟨rp,rn⟩,hZ⟩:∃r,dL (eK aU l f) l k l.length a n=r:=⟨_,rfl⟩;rw[hZ]at ho;subst ho;simp[dS];refine kC (c0N rp rn) (SW.vk ?_) ?_;rotate_left
  .skip
   refine SW.jZ (c3q (by kernel_rfl) (by kernel_rfl) rfl rfl rfl rfl ⟨?_,?_⟩)
   .simp[c0N,List.replicate];refine SW.vk ?_;simp
   .simp[c0N,List.replicate];refine SW.vk ?_;simp
  simp;refine SW.eE (ι:={p:Pr×Nat//p.2<=l.length/\i<p.2/\∃g,l.length<=g+p.2/\dL (eK aU l f) l k g p.1 p.2=(rp,rn)}) (λ_=>[]) (λp=>[(3,.cells [.d (.sl (l.map bG))]),(6,.cells [.d (.int .i64 0),.d (.str []),.d (.int .i64 0),.d .aF]),(8,.cells ((zP p.1.1).map .d)),(9,.cells [.d (.int .i64 p.1.2)])]) (λ_=>[]) (λp=>l.length-p.1.2) ⟨(a,n),tD.2,tD.1,l.length,by omega,hZ⟩ (by simp) ?_;rintro⟨⟨a,n⟩,hn,vI,g,hg,hR⟩;simp only at hn vI hg hR;have hcx:=d9E (G:=G) l n (opL k) (d9D k) (by omega) (by have:=d9K k;omega);have hix:=d9J (l:=l) (n:=n) (k:=k);have hn1:=aY (show n<9223372036854775807 by omega)
  change CH _ _ _ ⟨[.d (.sl (a6O k)),_],_,_⟩ _ at hcx
  simp;refine aD.mk wH e8Q ?_;simp;refine eY.ro d4j hcx [(100000,3),(100001,9)] (by simp) (by simp) (by simp) (by simp) (by simp) ?_;cases tO:a9R l n k with
  |none=>
   rw[tO]at hix;simp only at hix;have:(a,n)=(rp,rn):=by
    rw[<-hR];cases g with
    |zero=>rfl
    |succ g=>rw[dL,tO]
   cases this;simp[hix,c0N,List.replicate]
  |some op=>
   rw[tO]at hix;obtain⟨q,hq,hx,hqo⟩:=hix;obtain⟨hnl,_,_⟩:=b0X tO;obtain⟨g,rfl⟩:∃h,g=h+1:=⟨g-1,by omega⟩;rw[dL,tO]at hR;obtain⟨jb,c0O⟩:=hA (n+1) (k+1) (by omega) (by omega) (by omega) hnl (by have:=sA (L:=l.length) (i:=i) (i':=n+1) (k:=k) (k':=k+1) (by omega) hnl (by omega) (by omega);omega)
   have hql:q<(a6O k).length:=by simpa[a6O]using hq
   have hqe:(a6O k)[q]=[.int .i64 op]:=by simp[a6O,hqo]
   simp[hx,hn1,hk1];refine aD.mk (hkl:=bW _ _) wI c0O ?_;cases zC:eK aU l f (n+1) (k+1)with
   |none=>rw[zC]at hR;cases hR;simp[dS,c0N,List.replicate]
   |some z=>obtain⟨b,m⟩:=z;have b2m:=jN aU l f _ _ _ _ zC;rw[zC]at hR;simp only at hR;have htw:=uD (G:=G) op a b;simp[dS];refine⟨kL.mk (by kernel_rfl),?_⟩;refine aD.mk wH e8Q ?_;simp[hql,hqe];refine aD.mk tF htw ?_;simp;exact aX.mk ⟨(tw op a b,m),b2m.2,by simp only;omega,g,by simp only;omega,hR⟩ (by simp) (by simp;omega)
end
end Go.Proofs.YtjpodcmhcenjjaaGreatDoor
end
end
section
section
namespace Go.Proofs.YtjpodcmhcenjjaaGreatDoor
open Go Go.VM
variable {G:GT}
section
variable {l:List Tok} {f:Nat}
theorem c0P:VM.Enters prog 211:=.mk func211 rfl
def b5A(s:List UInt8):Option (Int×Bool):=(cmpL.find? λp=>decide (s=p.1)).map (·.2)
theorem d4n{n:Nat}(h:n<l.length):a1a l n=if l[n].kind=4 then b5A l[n].text else none:=by
 unfold a1a b5A;by_cases hk:l[n].kind=4
 .simp[a8p h,hk]
 .simp[a8p h,hk]
theorem d4o{n:Nat}(h: ¬n<l.length):a1a l n=none:=by unfold a1a;simp[c0I h]
def c4n(l:List Tok)(a:Pr)(n:Nat)(op:Int)(ex:Bool):St:=⟨[.undef,.undef,.ptr 2 0,.undef,.ptr 4 0,.d (.int .i64 0),.ptr 6 0,.d (.int .i64 n),.d (.int .i64 op),.d (.bool ex)]++List.replicate 79 .undef,[(2,.cells [.d (.sl (l.map bG))]),(4,.cells [.d (.int .i64 0),.d (.str []),.d (.int .i64 0),.d .aF]),(6,.cells ((zP a).map .d))],[]⟩
theorem c4o(hl:xP l)(hA:AtC G l f)(i:Nat)(hi:i<=l.length)(hf:mu l.length i 6<=f+1):
  ∃j,CS prog G 211 [rdD l,.int .i64 i] (dS (a7X (eK aU l f) l i) j) none:=by
 have hll:=hl.1;obtain⟨ja,hat⟩:=hA i 7 (by omega) (by omega) (by omega) hi (by unfold mu at hf|-;omega);refine⟨ja,?_⟩;obtain⟨o,ho⟩:∃o,a7X (eK aU l f) l i=o:=⟨_,rfl⟩;rw[ho];unfold a7X at ho;refine CS.a5p func211 rfl ntmps211 rfl ?_;refine SW.jZ (SW.vk ?_);simp;refine SW.jZ (SW.vk ?_);simp;refine aD.mk (hkl:=bW _ _) wI hat ?_;cases hr:eK aU l f i 7 with
 |none=>rw[hr]at ho;subst ho;simp[dS];refine SW.vk ?_;simp
 |some q=>
  obtain⟨a,n⟩:=q;have tD:=jN aU l f _ _ _ _ hr;rw[hr]at ho;simp only at ho;simp[dS];by_cases aE:n<l.length;rotate_left
  .rw[d4o aE]at ho;subst ho;have hge:l.length<=n:=Nat.le_of_not_lt aE;refine SW.vk ?_;simp[hge,dS]
  have hge: ¬l.length<=n:=by omega
  rw[d4n aE]at ho;obtain⟨t,ht⟩:∃t,l[n]=t:=⟨_,rfl⟩;rw[ht]at ho;by_cases hk:t.kind=4;rotate_left
  .rw[if_neg hk]at ho;subst ho;refine SW.vk ?_;simp[hge,aE,ht,bG];simp[hk,dS]
  rw[if_pos hk]at ho;refine SW.jZ (SW.vk ?_);simp[hge,aE,ht,bG];simp[hk];refine SW.jZ (SW.vk ?_);simp;cases hc:b5A t.text with
  |none=>rw[hc]at ho;simp only at ho;subst ho;simp[b5A,cmpL]at hc;obtain⟨e1,e2,e3,e4,e5,e6⟩:=hc;refine SW.jZ (SW.vk ?_);simp[aE,ht,bG,e1,e2,e3,e4,e5,e6,dS]
  |some c=>
   obtain⟨op,ex⟩:=c;rw[hc]at ho;simp only at ho;refine kC (c4n l a n op ex) (SW.vk ?_) ?_
   .simp[aE,ht,bG];by_cases e1:t.text=[61]
    .obtain⟨rfl,rfl⟩:10=op/\false=ex:=by simpa[b5A,cmpL,e1]using hc
     simp[e1,c4n,List.replicate]
    by_cases e2:t.text=[33,61]
    .obtain⟨rfl,rfl⟩:11=op/\false=ex:=by simpa[b5A,cmpL,e2]using hc
     simp[e2,c4n,List.replicate]
    by_cases e3:t.text=[60]
    .obtain⟨rfl,rfl⟩:12=op/\false=ex:=by simpa[b5A,cmpL,e3]using hc
     simp[e3,aE,ht,bG];refine⟨kL.mk (by kernel_rfl),?_⟩;simp[e3,aE,ht,bG,c4n,List.replicate]
    by_cases e4:t.text=[62]
    .obtain⟨rfl,rfl⟩:12=op/\true=ex:=by simpa[b5A,cmpL,e4]using hc
     simp[e4,aE,ht,bG];refine⟨kL.mk (by kernel_rfl),?_⟩;simp[e4,aE,ht,bG,c4n,List.replicate]
    by_cases e5:t.text=[60,61]
    .obtain⟨rfl,rfl⟩:13=op/\false=ex:=by simpa[b5A,cmpL,e5]using hc
     simp[e5,aE,ht,bG];refine⟨kL.mk (by kernel_rfl),?_⟩;simp[e5,aE,ht,bG,c4n,List.replicate]
    by_cases e6:t.text=[62,61]
    .obtain⟨rfl,rfl⟩:13=op/\true=ex:=by simpa[b5A,cmpL,e6]using hc
     simp[e6,aE,ht,bG];refine⟨kL.mk (by kernel_rfl),?_⟩;simp[e6,aE,ht,bG,c4n,List.replicate]
    simp[b5A,cmpL,e1,e2,e3,e4,e5,e6]at hc
   have hn1:=aY (show n<9223372036854775807 by omega);obtain⟨jb,c0O⟩:=hA (n+1) 7 (by omega) (by omega) (by omega) aE (by have:=sA (L:=l.length) (i:=i) (i':=n+1) (k:=6) (k':=7) (by omega) aE (by omega) (by omega);omega)
   refine SW.vk ?_;simp[c4n,List.replicate,hn1];refine aD.mk (hkl:=bW _ _) wI c0O ?_;cases zC:eK aU l f (n+1) 7 with
   |none=>rw[zC]at ho;simp only at ho;subst ho;simp[dS]
   |some z=>
    obtain⟨b,m⟩:=z;rw[zC]at ho;simp only at ho;subst ho;cases ex with
    |false=>simp[dS];refine aD.mk tF (uD op a b) ?_;simp
    |true=>simp[dS];refine aD.mk tF (uD op b a) ?_;simp
end
end Go.Proofs.YtjpodcmhcenjjaaGreatDoor
end
section
namespace Go.Proofs.YtjpodcmhcenjjaaGreatDoor
open Go Go.VM
variable {G:GT}
section
variable {l:List Tok} {f:Nat}
theorem e2d{L i k f:Nat}(h:mu L i k<=f+1)(hk:k+1<=10):mu L i (k+1)<=f:=by have:=b5w (L:=L) (i:=i) (show k<k+1 by omega) hk;omega
theorem c4p:VM.Enters prog 212:=.mk func212 rfl
theorem e8R(hl:xP l)(hA:AtC G l f)(hC:CmC G l f)(hP:PrC G l f):AtC G l (f+1):=by
 have hll:=hl.1;intro i k h1 h9 h6 hi hf;obtain rfl|rfl|rfl|rfl|rfl|rfl|rfl|rfl:k=1\/k=2\/k=3\/k=4\/k=5\/k=7\/k=8\/k=9:=by omega
 .skip
  obtain⟨j,hc⟩:=a5Q hl hA i 1 (by omega) hi hf;refine⟨j,?_⟩;have he:eK aU l (f+1) i 1=(eK aU l f i (1+1)).map λq=>dL (eK aU l f) l 1 l.length q.1 q.2:=rfl;rw[he];refine CS.aR func198 rfl ntmps198 rfl ?_;simp;refine aD.mk (hkl:=bW _ _) a2N hc ?_;cases (eK aU l f i (1+1)).map λq=>dL (eK aU l f) l 1 l.length q.1 q.2 with
  |none=>simp[dS]
  |some q=>obtain⟨p,n⟩:=q;simp[dS]
 .obtain⟨ja,hat⟩:=hA i 3 (by omega) (by omega) (by omega) hi (by unfold mu at hf|-;omega);refine⟨ja,?_⟩;obtain⟨o,ho⟩:∃o,b0W (eK aU l f) l i=o:=⟨_,rfl⟩;have he:eK aU l (f+1) i 2=o:=ho;rw[he];unfold b0W at ho;refine CS.aR func198 rfl ntmps198 rfl ?_;simp;refine aD.mk (hkl:=bW _ _) wI hat ?_;cases hr:eK aU l f i 3 with
  |none=>rw[hr]at ho;subst ho;simp[dS]
  |some q=>
   obtain⟨a,n⟩:=q;have tD:=jN aU l f _ _ _ _ hr;rw[hr]at ho;simp only at ho;have hsg:=pR (G:=G) l n [61,62] (by omega);simp[dS];refine aD.mk bO hsg ?_;cases hd:mF l n [61,62]with
   |false=>rw[if_neg (by simp[hd])]at ho;subst ho;simp[dS]
   |true=>
    rw[if_pos hd]at ho;have hnl:=kB hd;have hn1:=aY (show n<9223372036854775807 by omega);obtain⟨jb,c0O⟩:=hA (n+1) 2 (by omega) (by omega) (by omega) hnl (by have:=sA (L:=l.length) (i:=i) (i':=n+1) (k:=2) (k':=2) (by omega) hnl (by omega) (by omega);omega)
    simp[hn1];refine aD.mk (hkl:=bW _ _) wI c0O ?_;cases zC:eK aU l f (n+1) 2 with
    |none=>rw[zC]at ho;subst ho;simp[dS]
    |some z=>obtain⟨b,m⟩:=z;rw[zC]at ho;subst ho;simp[dS];refine aD.mk tF (uD 17 a b) ?_;simp
 .skip
  obtain⟨j,hc⟩:=a5Q hl hA i 3 (by omega) hi hf;refine⟨j,?_⟩;have he:eK aU l (f+1) i 3=(eK aU l f i (3+1)).map λq=>dL (eK aU l f) l 3 l.length q.1 q.2:=rfl;rw[he];refine CS.aR func198 rfl ntmps198 rfl ?_;simp;refine aD.mk (hkl:=bW _ _) a2N hc ?_;cases (eK aU l f i (3+1)).map λq=>dL (eK aU l f) l 3 l.length q.1 q.2 with
  |none=>simp[dS]
  |some q=>obtain⟨p,n⟩:=q;simp[dS]
 .skip
  obtain⟨j,hc⟩:=a5Q hl hA i 4 (by omega) hi hf;refine⟨j,?_⟩;have he:eK aU l (f+1) i 4=(eK aU l f i (4+1)).map λq=>dL (eK aU l f) l 4 l.length q.1 q.2:=rfl;rw[he];refine CS.aR func198 rfl ntmps198 rfl ?_;simp;refine aD.mk (hkl:=bW _ _) a2N hc ?_;cases (eK aU l f i (4+1)).map λq=>dL (eK aU l f) l 4 l.length q.1 q.2 with
  |none=>simp[dS]
  |some q=>obtain⟨p,n⟩:=q;simp[dS]
 .skip
  have hsg:=pR (G:=G) l i [33] (by omega);cases hd:mF l i [33]with
  |true=>
   have tY:=kB hd;have hi1:=aY (show i<9223372036854775807 by omega);obtain⟨ja,hat⟩:=hA (i+1) 5 (by omega) (by omega) (by omega) tY (by have:=sA (L:=l.length) (i:=i) (i':=i+1) (k:=5) (k':=5) (by omega) tY (by omega) (by omega);omega)
   refine⟨⟨0,[],0,[]⟩,?_⟩;have he:eK aU l (f+1) i 5=(eK aU l f (i+1) 5).map λq=>((⟨14,[],0,[q.1]⟩:Pr),q.2):=by
    show(if mF l i [33]=true then _ else _)=_
    rw[if_pos hd]
   rw[he];rw[hd]at hsg;refine CS.aR func198 rfl ntmps198 rfl ?_;simp;refine aD.mk bO hsg ?_;simp[hi1];refine aD.mk (hkl:=bW _ _) wI hat ?_;cases eK aU l f (i+1) 5 with
   |none=>simp[dS]
   |some q=>obtain⟨p,n⟩:=q;simp[dS,rg1,cN]
  |false=>
   obtain⟨j,hc⟩:=hC i hi (e2d hf (by omega));refine⟨j,?_⟩;have he:eK aU l (f+1) i 5=eK aU l f i (5+1):=by
    show(if mF l i [33]=true then _ else _)=_
    rw[if_neg (by simp[hd])]
   rw[he];rw[hd]at hsg;refine CS.aR func198 rfl ntmps198 rfl ?_;simp;refine aD.mk bO hsg ?_;simp;refine aD.mk (hkl:=bW _ _) c0P hc ?_;cases eK aU l f i (5+1)with
   |none=>simp[dS]
   |some q=>obtain⟨p,n⟩:=q;simp[dS]
 .skip
  obtain⟨j,hc⟩:=a5Q hl hA i 7 (by omega) hi hf;refine⟨j,?_⟩;have he:eK aU l (f+1) i 7=(eK aU l f i (7+1)).map λq=>dL (eK aU l f) l 7 l.length q.1 q.2:=rfl;rw[he];refine CS.aR func198 rfl ntmps198 rfl ?_;simp;refine aD.mk (hkl:=bW _ _) a2N hc ?_;cases (eK aU l f i (7+1)).map λq=>dL (eK aU l f) l 7 l.length q.1 q.2 with
  |none=>simp[dS]
  |some q=>obtain⟨p,n⟩:=q;simp[dS]
 .skip
  obtain⟨j,hc⟩:=a5Q hl hA i 8 (by omega) hi hf;refine⟨j,?_⟩;have he:eK aU l (f+1) i 8=(eK aU l f i (8+1)).map λq=>dL (eK aU l f) l 8 l.length q.1 q.2:=rfl;rw[he];refine CS.aR func198 rfl ntmps198 rfl ?_;simp;refine aD.mk (hkl:=bW _ _) a2N hc ?_;cases (eK aU l f i (8+1)).map λq=>dL (eK aU l f) l 8 l.length q.1 q.2 with
  |none=>simp[dS]
  |some q=>obtain⟨p,n⟩:=q;simp[dS]
 .skip
  have hsg:=pR (G:=G) l i [45] (by omega);cases hd:mF l i [45]with
  |true=>
   have tY:=kB hd;have hi1:=aY (show i<9223372036854775807 by omega);obtain⟨ja,hat⟩:=hA (i+1) 9 (by omega) (by omega) (by omega) tY (by have:=sA (L:=l.length) (i:=i) (i':=i+1) (k:=9) (k':=9) (by omega) tY (by omega) (by omega);omega)
   refine⟨⟨0,[],0,[]⟩,?_⟩;have he:eK aU l (f+1) i 9=(eK aU l f (i+1) 9).map λq=>((⟨9,[],0,[q.1]⟩:Pr),q.2):=by
    show(if mF l i [45]=true then _ else _)=_
    rw[if_pos hd]
   rw[he];rw[hd]at hsg;refine CS.aR func198 rfl ntmps198 rfl ?_;simp;refine aD.mk bO hsg ?_;simp[hi1];refine aD.mk (hkl:=bW _ _) wI hat ?_;cases eK aU l f (i+1) 9 with
   |none=>simp[dS]
   |some q=>obtain⟨p,n⟩:=q;simp[dS,rg1,cN]
  |false=>
   obtain⟨j,hc⟩:=hP i hi (e2d hf (by omega));refine⟨j,?_⟩;have he:eK aU l (f+1) i 9=eK aU l f i (9+1):=by
    show(if mF l i [45]=true then _ else _)=_
    rw[if_neg (by simp[hd])]
   rw[he];rw[hd]at hsg;refine CS.aR func198 rfl ntmps198 rfl ?_;simp;refine aD.mk bO hsg ?_;simp;refine aD.mk (hkl:=bW _ _) c4p hc ?_;cases eK aU l f i (9+1)with
   |none=>simp[dS]
   |some q=>obtain⟨p,n⟩:=q;simp[dS]
end
end Go.Proofs.YtjpodcmhcenjjaaGreatDoor
end
section
namespace Go.Proofs.YtjpodcmhcenjjaaGreatDoor
open Go Go.VM
variable {G:GT}
section
variable {l:List Tok} {f:Nat}
def a8t(rd:Nat->Nat->Option (Pr×Nat))(l:List Tok)(i:Nat):Option (Pr×Nat):=match tL aU l i with
 |none=>none
 |some (s,n)=>(match rZ rd l n with
  |some (ks,m)=>some (⟨4,s,0,ks⟩,m)
  |none=>some (⟨3,s,0,[]⟩,n))
theorem a6D{L i n f:Nat}(hf:mu L i 10<=f+1)(hn:i<n)(hl:n<=L):(L-n)*12+10<=f:=by unfold mu at hf;omega
theorem d0s:VM.Enters prog 232:=.mk func232 rfl
theorem d0t(hG:G 1=some dP)(hl:xP l)(hA:AtC G l f)(i:Nat)(hi:i<=l.length)(hf:mu l.length i 10<=f+1):
  CS prog G 232 [rdD l,.int .i64 i] (dS (a8t (eK aU l f) l i) ⟨0,[],0,[]⟩) none:=by
 have hll:=hl.1;have hnm:=c4j (G:=G) hG l i hl hi;obtain⟨o,ho⟩:∃o,a8t (eK aU l f) l i=o:=⟨_,rfl⟩;rw[ho];unfold a8t at ho;refine CS.aR func232 rfl ntmps232 rfl ?_;simp;refine aD.mk (hkl:=a0h _) a6C hnm ?_;cases hn:tL aU l i with
 |none=>rw[hn]at ho;subst ho;simp[b0Y,dS]
 |some q=>
  obtain⟨s,n⟩:=q;have tD:=pQ hn;rw[hn]at ho;simp only at ho;have hli:=c4m (G:=G) hl hA n (a6D hf tD.1 tD.2);simp[b0Y];refine aD.mk (hkl:=a3P _) b0Z hli ?_;cases hL:rZ (eK aU l f) l n with
  |none=>rw[hL]at ho;subst ho;simp[b7p,dS]
  |some z=>obtain⟨ks,m⟩:=z;rw[hL]at ho;subst ho;simp[b7p,dS]
theorem c6W(hG:G 1=some dP)(hl:xP l)(hA:AtC G l f):PrC G l (f+1):=by
 have hll:=hl.1;intro i hi hf;obtain⟨o,ho⟩:∃o,wE aU (eK aU l f) l i=o:=⟨_,rfl⟩;have he:eK aU l (f+1) i 10=o:=ho;rw[he];unfold wE at ho;by_cases aE:i<l.length;rotate_left
 .rw[List.getElem?_eq_none (by omega)]at ho;subst ho;have hge:l.length<=i:=Nat.le_of_not_lt aE;refine⟨⟨0,[],0,[]⟩,?_⟩;refine CS.aR func212 rfl ntmps212 rfl ?_;simp[hge,dS]
 have hge: ¬l.length<=i:=by omega
 rw[f7L aE]at ho;obtain⟨t,ht⟩:∃t,l[i]=t:=⟨_,rfl⟩;rw[ht]at ho;simp only at ho;have hi1:=aY (show i<9223372036854775807 by omega);have hi2:IntKind.i64.wrap ((i:Int)+2)=((i+2:Nat):Int):=by rw[wrap64 (by omega)];simp
 have hi3:IntKind.i64.wrap ((i:Int)+3)=((i+3:Nat):Int):=by rw[wrap64 (by omega)];simp
 have hi4:IntKind.i64.wrap ((i:Int)+4)=((i+4:Nat):Int):=by rw[wrap64 (by omega)];simp
 by_cases k3:t.kind=3
 .rw[if_pos k3]at ho;subst ho;refine⟨⟨0,[],0,[]⟩,?_⟩;refine CS.aR func212 rfl ntmps212 rfl ?_;simp[hge,aE,ht,bG];simp[k3,hi1,dS]
 rw[if_neg k3]at ho;by_cases kt:t.kind=1/\t.text=[116,114,117,101]
 .rw[if_pos kt]at ho;subst ho;refine⟨⟨0,[],0,[]⟩,?_⟩;refine CS.aR func212 rfl ntmps212 rfl ?_;simp[hge,aE,ht,bG];simp[kt.1,kt.2,hi1,dS]
 rw[if_neg kt]at ho;by_cases kf:t.kind=1/\t.text=[102,97,108,115,101]
 .rw[if_pos kf]at ho;subst ho;refine⟨⟨0,[],0,[]⟩,?_⟩;refine CS.aR func212 rfl ntmps212 rfl ?_;simp[hge,aE,ht,bG];simp[kf.1,kf.2,hi1,dS]
 rw[if_neg kf]at ho;have hk:t.kind=1-> ¬t.text=[116,114,117,101]/\ ¬t.text=[102,97,108,115,101]:=λh=>⟨λe=>kt ⟨h,e⟩,λe=>kf ⟨h,e⟩⟩;have hsq:=pR (G:=G) l i [63] (by omega);have hsp:=pR (G:=G) l i [40] (by omega);cases hq:mF l i [63]with
 |true=>
  rw[if_pos hq]at ho;rw[hq]at hsq;have hnm:=c4j (G:=G) hG l (i+1) hl aE;cases hn:tL aU l (i+1)with
  |none=>
   rw[hn]at ho hnm;subst ho;refine⟨⟨0,[],0,[]⟩,?_⟩;refine CS.aR func212 rfl ntmps212 rfl ?_;simp[hge,aE,ht,bG];simp[k3];rcases Classical.em (t.kind=1)with k1|k1
   case' inl=>simp[k1,(hk k1).1,(hk k1).2]
   case' inr=>simp[k1]
   all_goals
    refine aD.mk bO hsq ?_;simp[hi1];refine aD.mk (hkl:=a0h _) a6C hnm ?_;simp[b0Y,dS]
  |some q=>
   obtain⟨s,n⟩:=q;have tD:=pQ hn;rw[hn]at ho hnm;simp only at ho;have hli:=c4m (G:=G) hl hA n (a6D hf (by omega) tD.2);cases hL:rZ (eK aU l f) l n with
   |none=>
    rw[hL]at ho hli;subst ho;refine⟨⟨5,s,0,[]⟩,?_⟩;refine CS.aR func212 rfl ntmps212 rfl ?_;simp[hge,aE,ht,bG];simp[k3];rcases Classical.em (t.kind=1)with k1|k1
    case' inl=>simp[k1,(hk k1).1,(hk k1).2]
    case' inr=>simp[k1]
    all_goals
     refine aD.mk bO hsq ?_;simp[hi1];refine aD.mk (hkl:=a0h _) a6C hnm ?_;simp[b0Y];refine aD.mk (hkl:=a3P _) b0Z hli ?_;simp[b7p,dS]
   |some z=>
    obtain⟨ks,m⟩:=z;rw[hL]at ho hli;subst ho;refine⟨⟨0,[],0,[]⟩,?_⟩;refine CS.aR func212 rfl ntmps212 rfl ?_;simp[hge,aE,ht,bG];simp[k3];rcases Classical.em (t.kind=1)with k1|k1
    case' inl=>simp[k1,(hk k1).1,(hk k1).2]
    case' inr=>simp[k1]
    all_goals
     refine aD.mk bO hsq ?_;simp[hi1];refine aD.mk (hkl:=a0h _) a6C hnm ?_;simp[b0Y];refine aD.mk (hkl:=a3P _) b0Z hli ?_;simp[b7p,dS]
 |false=>
 rw[if_neg (by simp[hq])]at ho;rw[hq]at hsq;cases hp:mF l i [40]with
 |false=>
  rw[if_neg (by simp[hp])]at ho;rw[hp]at hsp;have hnd:=d0t hG hl hA i hi hf;have hx:a8t (eK aU l f) l i=o:=ho;rw[hx]at hnd;refine⟨⟨0,[],0,[]⟩,?_⟩;refine CS.aR func212 rfl ntmps212 rfl ?_;simp[hge,aE,ht,bG];simp[k3];rcases Classical.em (t.kind=1)with k1|k1
  case' inl=>simp[k1,(hk k1).1,(hk k1).2]
  case' inr=>simp[k1]
  all_goals
   refine aD.mk bO hsq ?_;simp;refine aD.mk bO hsp ?_;simp;refine aD.mk (hkl:=bW _ _) d0s hnd ?_;cases o with
   |none=>simp[dS]
   |some q=>obtain⟨p,n⟩:=q;simp[dS]
 |true=>
 rw[if_pos hp]at ho;rw[hp]at hsp;have hsm:=pR (G:=G) l (i+1) [45] (by omega);have hsc:=pR (G:=G) l (i+3) [41] (by omega);by_cases a3p:mF l (i+1) [45]=true/\kdB l (i+2) 3=true/\mF l (i+3) [41]=true
 .rw[if_pos a3p]at ho;subst ho;obtain⟨n1,n2,n3⟩:=a3p;have h2:=b5s n2;rw[a8q h2]at n2;rw[d4g h2];obtain⟨u,hu⟩:∃u,l[i+2]=u:=⟨_,rfl⟩;rw[hu]at n2|-;have ku:u.kind=3:=of_decide_eq_true n2;rw[n1]at hsm;rw[n3]at hsc;have h2':(i:Int)+2<(l.length:Int):=by omega
  have hnn:(0:Int)<=(i:Int)+2:=by omega
  have htn:((i:Int)+2).toNat=i+2:=by omega
  refine⟨⟨0,[],0,[]⟩,?_⟩;refine CS.aR func212 rfl ntmps212 rfl ?_;simp[hge,aE,ht,bG];simp[k3];rcases Classical.em (t.kind=1)with k1|k1
  case' inl=>simp[k1,(hk k1).1,(hk k1).2]
  case' inr=>simp[k1]
  all_goals
   refine aD.mk bO hsq ?_;simp;refine aD.mk bO hsp ?_;simp[hi1];refine aD.mk bO hsm ?_;simp[hi2,h2,h2',hnn,htn,hu,ku,bG,hi3];refine aD.mk bO hsc ?_;simp[hi2,h2,h2',hnn,htn,hu,ku,bG,hi4,dS]
 .rw[if_neg a3p]at ho;obtain⟨jp,hat⟩:=hA (i+1) 1 (by omega) (by omega) (by omega) aE (by have:=sA (L:=l.length) (i:=i) (i':=i+1) (k:=10) (k':=1) (by omega) aE (by omega) (by omega);omega)
  refine⟨⟨0,[],0,[]⟩,?_⟩;have tail:∀n:Nat,CS prog G 209 [rdD l,.int .i64 n,.str [41]] (.d (.bool (mF l n [41]))) none:=λn=>pR (G:=G) l n [41] (by omega);cases n1:mF l (i+1) [45]with
  |false=>
   rw[n1]at hsm;refine CS.aR func212 rfl ntmps212 rfl ?_;simp[hge,aE,ht,bG];simp[k3];rcases Classical.em (t.kind=1)with k1|k1
   case' inl=>simp[k1,(hk k1).1,(hk k1).2]
   case' inr=>simp[k1]
   all_goals
    refine aD.mk bO hsq ?_;simp;refine aD.mk bO hsp ?_;simp[hi1];refine aD.mk bO hsm ?_;simp[hi1];refine aD.mk (hkl:=bW _ _) wI hat ?_;cases hr:eK aU l f (i+1) 1 with
    |none=>rw[hr]at ho;subst ho;simp[dS]
    |some q=>
     obtain⟨p,n⟩:=q;have tD:=jN aU l f _ _ _ _ hr;have qO:=tail n;rw[hr]at ho;simp only at ho;simp[dS];refine aD.mk bO qO ?_;cases hc:mF l n [41]with
     |false=>rw[if_neg (by simp[hc])]at ho;subst ho;simp[dS]
     |true=>rw[if_pos hc]at ho;subst ho;have hn1:=aY (show n<9223372036854775807 by omega);simp[hn1,dS]
  |true=>
  rw[n1]at hsm;have hnn:(0:Int)<=(i:Int)+2:=by omega
  have htn:((i:Int)+2).toNat=i+2:=by omega
  by_cases h2:i+2<l.length;rotate_left
  .have h2': ¬(i:Int)+2<(l.length:Int):=by omega
   refine CS.aR func212 rfl ntmps212 rfl ?_;simp[hge,aE,ht,bG];simp[k3];rcases Classical.em (t.kind=1)with k1|k1
   case' inl=>simp[k1,(hk k1).1,(hk k1).2]
   case' inr=>simp[k1]
   all_goals
    refine aD.mk bO hsq ?_;simp;refine aD.mk bO hsp ?_;simp[hi1];refine aD.mk bO hsm ?_;simp[hi1,hi2,h2'];refine aD.mk (hkl:=bW _ _) wI hat ?_;cases hr:eK aU l f (i+1) 1 with
    |none=>rw[hr]at ho;subst ho;simp[dS]
    |some q=>
     obtain⟨p,n⟩:=q;have tD:=jN aU l f _ _ _ _ hr;have qO:=tail n;rw[hr]at ho;simp only at ho;simp[dS];refine aD.mk bO qO ?_;cases hc:mF l n [41]with
     |false=>rw[if_neg (by simp[hc])]at ho;subst ho;simp[dS]
     |true=>rw[if_pos hc]at ho;subst ho;have hn1:=aY (show n<9223372036854775807 by omega);simp[hn1,dS]
  have h2':(i:Int)+2<(l.length:Int):=by omega
  obtain⟨u,hu⟩:∃u,l[i+2]=u:=⟨_,rfl⟩;by_cases ku:u.kind=3;rotate_left
  .skip
   refine CS.aR func212 rfl ntmps212 rfl ?_;simp[hge,aE,ht,bG];simp[k3];rcases Classical.em (t.kind=1)with k1|k1
   case' inl=>simp[k1,(hk k1).1,(hk k1).2]
   case' inr=>simp[k1]
   all_goals
    refine aD.mk bO hsq ?_;simp;refine aD.mk bO hsp ?_;simp[hi1];refine aD.mk bO hsm ?_;simp[hi1,hi2,h2,h2',hnn,htn,hu,ku,bG];refine aD.mk (hkl:=bW _ _) wI hat ?_;cases hr:eK aU l f (i+1) 1 with
    |none=>rw[hr]at ho;subst ho;simp[dS]
    |some q=>
     obtain⟨p,n⟩:=q;have tD:=jN aU l f _ _ _ _ hr;have qO:=tail n;rw[hr]at ho;simp only at ho;simp[dS];refine aD.mk bO qO ?_;cases hc:mF l n [41]with
     |false=>rw[if_neg (by simp[hc])]at ho;subst ho;simp[dS]
     |true=>rw[if_pos hc]at ho;subst ho;have hn1:=aY (show n<9223372036854775807 by omega);simp[hn1,dS]
  have n3:mF l (i+3) [41]=false:=by
   cases n3:mF l (i+3) [41]with
   |false=>rfl
   |true=>exact absurd ⟨n1,by rw[a8q h2,hu];simp[ku],n3⟩ a3p
  rw[n3]at hsc;refine CS.aR func212 rfl ntmps212 rfl ?_;simp[hge,aE,ht,bG];simp[k3];rcases Classical.em (t.kind=1)with k1|k1
  case' inl=>simp[k1,(hk k1).1,(hk k1).2]
  case' inr=>simp[k1]
  all_goals
   refine aD.mk bO hsq ?_;simp;refine aD.mk bO hsp ?_;simp[hi1];refine aD.mk bO hsm ?_;simp[hi2,h2,h2',hnn,htn,hu,ku,bG,hi3];refine aD.mk bO hsc ?_;simp[hi1];refine aD.mk (hkl:=bW _ _) wI hat ?_;cases hr:eK aU l f (i+1) 1 with
   |none=>rw[hr]at ho;subst ho;simp[dS]
   |some q=>
    obtain⟨p,n⟩:=q;have tD:=jN aU l f _ _ _ _ hr;have qO:=tail n;rw[hr]at ho;simp only at ho;simp[dS];refine aD.mk bO qO ?_;cases hc:mF l n [41]with
    |false=>rw[if_neg (by simp[hc])]at ho;subst ho;simp[dS]
    |true=>rw[if_pos hc]at ho;subst ho;have hn1:=aY (show n<9223372036854775807 by omega);simp[hn1,dS]
end
end Go.Proofs.YtjpodcmhcenjjaaGreatDoor
end
end
section
section
namespace Go.Proofs.YtjpodcmhcenjjaaGreatDoor
def Nod(rd:Nat->Nat->Option (Pr×Nat)):Prop:=∀i k p n,rd i k=some (p,n)->bH p+i<=n
theorem c6X(op:Int)(a b:Pr):bH (tw op a b)=bH a+bH b+1:=by simp[tw,bH,cW];omega
theorem c8z(op:Int)(a:Pr):bH ⟨op,[],0,[a]⟩=bH a+1:=by simp[bH,cW];omega
theorem a5R(op:Int)(s:List UInt8)(n:Int):bH ⟨op,s,n,[]⟩=1:=by simp[bH,cW]
theorem c8A(op:Int)(s:List UInt8)(ks:List Pr):bH ⟨op,s,0,ks⟩=cW ks+1:=by simp[bH];omega
section
variable {kw:List UInt8->Bool} {rd:Nat->Nat->Option (Pr×Nat)} {l:List Tok}
theorem b8W(h:Nod rd)(k:Nat):∀(g:Nat) (a:Pr) (n i:Nat),bH a+i<=n->bH (dL rd l k g a n).1+i<=(dL rd l k g a n).2
 |0,a,n,i,hn=>hn
 |g+1,a,n,i,hn=>by
  rw[dL];split
  .exact hn
  .split
   .exact hn
   .rename_i op _ _ b m hr;have h1:=h _ _ _ _ hr;exact b8W h k g (tw op a b) m i (by rw[c6X];omega)
theorem c4q(h:Nod rd):∀(g i:Nat) (acc ks:List Pr) (m b:Nat),cW acc+b<=i->mE rd l g i acc=some (ks,m)->cW ks+b+1<=m
 |0,_,_,_,_,_,_,hr=>by cases hr
 |g+1,i,acc,ks,m,b,hb,hr=>by
  rw[mE]at hr;split at hr
  .cases hr
  .rename_i p n hp;have h1:=h _ _ _ _ hp;have h2:cW (acc++[p])=cW acc+bH p:=by rw[b0L];simp[cW]
   split at hr
   .cases hr;omega
   .split at hr
    .exact c4q h g n _ ks m b (by omega) hr
    .cases hr
theorem c4r(h:Nod rd){i m:Nat}{ks:List Pr}(hr:rZ rd l i=some (ks,m)):cW ks+i+1<=m:=by
 unfold rZ at hr;split at hr
 .exact c4q h _ _ _ _ _ _ (by simp[cW]) hr
 .cases hr
theorem d4p(h:Nod rd){i n:Nat}{p:Pr}(hr:wE kw rd l i=some (p,n)):bH p+i<=n:=by
 unfold wE at hr;split at hr
 .cases hr
 .split at hr
  .cases hr;rw[a5R];omega
  split at hr
  .cases hr;rw[a5R];omega
  split at hr
  .cases hr;rw[a5R];omega
  split at hr
  .split at hr
   .cases hr
   .rename_i s m hn;have h1:=pQ hn;rw[f7G]at hr;obtain⟨⟨ks,q⟩,hq,he⟩:=hr;have h2:=c4r h hq;cases he;rw[c8A];simp only at *;omega
  split at hr
  .split at hr
   .cases hr;rw[a5R];omega
   .split at hr
    .cases hr
    .rename_i q m hq;have h1:=h _ _ _ _ hq;split at hr
     .cases hr;omega
     .cases hr
  .split at hr
   .cases hr
   .rename_i s m hn;have h1:=pQ hn;split at hr
    .rename_i ks q hq;have h2:=c4r h hq;cases hr;rw[c8A];omega
    .cases hr;rw[a5R];omega
theorem e5j(h:Nod rd){i k n:Nat}{p:Pr}(hr:atG kw rd l i k=some (p,n)):bH p+i<=n:=by
 unfold atG at hr;split at hr
 .unfold b0W at hr;split at hr
  .cases hr
  .rename_i a m ha;have h1:=h _ _ _ _ ha;split at hr
   .split at hr
    .rename_i b q hb;have h2:=h _ _ _ _ hb;cases hr;rw[c6X];omega
    .cases hr;exact h1
   .cases hr;exact h1
 .split at hr
  .rw[f7G]at hr;obtain⟨⟨a,m⟩,ha,he⟩:=hr;have h1:=h _ _ _ _ ha;cases he;rw[c8z];simp only;omega
  .exact h _ _ _ _ hr
 .unfold a7X at hr;split at hr
  .cases hr
  .rename_i a m ha;have h1:=h _ _ _ _ ha;split at hr
   .cases hr;exact h1
   .split at hr
    .cases hr;exact h1
    .rename_i b q hb;have h2:=h _ _ _ _ hb;cases hr;split<;>rw[c6X]<;>omega
 .split at hr
  .rw[f7G]at hr;obtain⟨⟨a,m⟩,ha,he⟩:=hr;have h1:=h _ _ _ _ ha;cases he;rw[c8z];simp only;omega
  .exact h _ _ _ _ hr
 .exact d4p h hr
 .rw[f7G]at hr;obtain⟨⟨a,m⟩,ha,he⟩:=hr;have h1:=h _ _ _ _ ha;have h2:=b8W (l:=l) h k l.length a m i h1;simp only at he;rw[he]at h2;exact h2
end
theorem c0Q(kw:List UInt8->Bool)(l:List Tok):∀f,Nod (eK kw l f)
 |0=>λ_ _ _ _ h=>by cases h
 |f+1=>λ_ _ _ _ h=>e5j (c0Q kw l f) h
end Go.Proofs.YtjpodcmhcenjjaaGreatDoor
end
section
namespace Go.Proofs.YtjpodcmhcenjjaaGreatDoor
theorem d4q(s:List UInt8):(sL s).length<=s.length:=by
 unfold sL;cases h:cE.find? λt=>t.isPrefixOf s with
 |none=>simp
 |some t=>have h1:t.isPrefixOf s=true:=List.find?_some (p:=λt:List UInt8=>t.isPrefixOf s) h;exact(List.isPrefixOf_iff_prefix.1 h1).length_le
theorem d0u(num:List UInt8->Int×Bool)(c:UInt8)(r:List UInt8):(firstT num (c::r)).2.1.length<=r.length+1:=by
 have h1:∀p:UInt8->Bool,((c::r).takeWhile p).length<=r.length+1:=λp=>(List.takeWhile_sublist p).length_le;have h2:(sL (c::r)).length<=r.length+1:=d4q (c::r)
 show(if smU c then _ else _:Int×List UInt8×Int×Bool).2.1.length<=_
 split
 .exact h1 _
 split
 .exact h1 _
 split
 .exact h1 _
 split
 .simp
 .exact h2
theorem uQ(num:List UInt8->Int×Bool):∀(s:List UInt8) (k:Nat) (ln:Int) (cm:Bool) (l:List Tok),kE num s k ln cm=.ok l->1<=l.length/\l.length<=s.length+1/\txS l<=2*(s.length-k)+1
 |[],k,ln,cm,l,h=>by cases k<;>(simp[kE]at h;subst h;simp[txS])
 |c::r,k+1,ln,cm,l,h=>by rw[kE]at h;obtain⟨h1,h2,h3⟩:=uQ num r k ln cm l h;simp only[List.length_cons];omega
 |c::r,0,ln,cm,l,h=>by
  rw[kE]at h;simp only[List.length_cons];split at h
  .obtain⟨h1,h2,h3⟩:=uQ num r 0 (ln+1) false l h;omega
  split at h
  .obtain⟨h1,h2,h3⟩:=uQ num r 0 ln cm l h;omega
  split at h
  .obtain⟨h1,h2,h3⟩:=uQ num r 0 ln true l h;omega
  split at h
  .generalize hT:(firstT num (c::r)).2.1=T at h;split at h
   .rename_i l' hl';obtain⟨h1,h2,h3⟩:=uQ num r (T.length-1) ln false l' hl';cases h;have hTl:T.length<=r.length+1:=by rw[<-hT];exact d0u num c r
    simp only[List.length_cons,txS];omega
   .cases h
  .cases h
end Go.Proofs.YtjpodcmhcenjjaaGreatDoor
end
section
namespace Go.Proofs.YtjpodcmhcenjjaaGreatDoor
open Go Go.VM
variable {G:GT}
theorem b5B(hG:G 1=some dP){l:List Tok}(hl:xP l):∀f,AtC G l f/\CmC G l f/\PrC G l f
 |0=>⟨λi k _ h9 _ hi h=>by unfold mu at h;omega,λi hi h=>by unfold mu at h;omega,λi hi h=>by unfold mu at h;omega⟩
 |f+1=>by obtain⟨hA,hC,hP⟩:=b5B hG hl f;exact⟨e8R hl hA hC hP,λi hi h=>c4o hl hA i hi h,c6W hG hl hA⟩
def a4n(l:List Tok):Option (Pr×Nat):=eK aU l (mu l.length 0 1) 0 1
theorem e5k(hG:G 1=some dP){l:List Tok}(hl:xP l):∃j,CS prog G 198 [rdD l,.int .i64 0,.int .i64 1] (dS (a4n l) j) none:=
 (b5B hG hl _).1 0 1 (by omega) (by omega) (by omega) (by omega) (f7X _)
theorem a2O{l:List Tok}{p:Pr}{n:Nat}(h:a4n l=some (p,n)):0<n/\n<=l.length:=jN aU l _ _ _ _ _ h
def b2n(l:List Tok):DV:=match a4n l with
 |none=>.bY [.agg (zP ⟨0,[],0,[]⟩),.int .i64 0,.int .i64 14]
 |some (p,n)=>if a5J p=0 then .bY [.agg (zP p),.int .i64 n,.int .i64 0] else .bY [.agg (zP ⟨0,[],0,[]⟩),.int .i64 0,.int .i64 (a5J p)]
theorem a9X:VM.Enters prog 186:=.mk func186 rfl
theorem b1a(hG:G 1=some dP)(l:List Tok)(hl:xP l)(hn:∀p n,a4n l=some (p,n)->bH p<=1000000):CS prog G 186 [.sl (l.map bG)] (b2n l) none:=by
 obtain⟨j,hat⟩:=e5k hG hl;obtain⟨o,ho⟩:∃o,a4n l=o:=⟨_,rfl⟩;rw[ho]at hat hn;unfold b2n;rw[ho];refine CS.aR func186 rfl ntmps186 rfl ?_;simp;refine aD.mk (hkl:=bW _ _) wI hat ?_;cases o with
 |none=>simp[dS]
 |some q=>
  obtain⟨p,n⟩:=q;have hck:=b7j hG p (hn p n rfl);simp[dS];refine aD.mk b5c hck ?_;by_cases h0:a5J p=0
  .simp[h0]
  .simp[h0]
end Go.Proofs.YtjpodcmhcenjjaaGreatDoor
end
section
namespace Go.Proofs.YtjpodcmhcenjjaaGreatDoor
open Go Go.VM
variable {G:GT}
theorem c4s{s:List UInt8}{l:List Tok}(h:kE gB s 0 1 false=.ok l)(hs:s.length<=40000):xP l/\1<=l.length:=by obtain⟨h1,h2,h3⟩:=uQ gB s 0 1 false l h;exact⟨⟨by omega,by omega⟩,h1⟩
theorem b1b{l:List Tok}{p:Pr}{n:Nat}(h:a4n l=some (p,n)):bH p<=l.length:=by have h1:=c0Q aU l _ _ _ _ _ h;have h2:=a2O h;omega
end Go.Proofs.YtjpodcmhcenjjaaGreatDoor
end
end
namespace Go.Proofs.YtjpodcmhcenjjaaGreatDoor
section
def rdQ(l:List Tok)(i e:Nat):kN Pr:=match a4n ((l.take e).drop (min i e))with
 |none=>.bad (aK l i).line 14
 |some (p,n)=>if a5J p=0 then .ok p (i+n) else .bad (aK l i).line (a5J p)
end
end Go.Proofs.YtjpodcmhcenjjaaGreatDoor
