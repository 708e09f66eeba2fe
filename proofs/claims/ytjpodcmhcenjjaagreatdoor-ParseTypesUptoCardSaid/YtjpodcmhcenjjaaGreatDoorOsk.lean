/- Lemmas that the law of this claim needs (PwN PsL PsM PsR PsS PsN PsU PsO PsP). No condition. -/
import Derived.Test.YtjpodcmhcenjjaaGreatDoorOsa
import Derived.Test.YtjpodcmhcenjjaaGreatDoorOsd
import Derived.Test.YtjpodcmhcenjjaaGreatDoorOsh
import Derived.Test.YtjpodcmhcenjjaaGreatDoorOsi
import Derived.Test.YtjpodcmhcenjjaaGreatDoorOsj
set_option linter.unusedVariables false
set_option linter.unusedSimpArgs false
set_option linter.unusedSectionVars false
set_option maxRecDepth 100000
set_option maxHeartbeats 64000000
open Go.Proofs.Tryz
namespace Go.Proofs.YtjpodcmhcenjjaaGreatDoor
section
theorem c8B{num:List UInt8->Int×Bool}{l:List Tok}{ln:Int}(h:OkT num l ln):∀t∈l,TkW t/\(t.kind≠4->a8o t=0):=by
 induction h with
 |fin ln l hl=>intro t ht;simp at ht;subst ht;exact⟨.inl rfl,λ_=>by simp[a8o]⟩
 |cons t r ln h1 h2 h3 ih=>
  intro u hu;rcases List.mem_cons.1 hu with rfl|hu
  .obtain⟨k,x,n,ln'⟩:=u;simp only at h2;cases x with
   |nil=>simp[firstT]at h2
   |cons c s=>
    have hp:(smU c=true\/caU c=true\/dgU c=true)->a8o ⟨k,c::s,n,ln'⟩=0:=λh=>by
     have h40:c≠40/\c≠41:=by
      constructor
      .rintro rfl
       revert h
       decide
      .rintro rfl
       revert h
       decide
     simp[a8o,h40.1,h40.2]
    simp only[firstT]at h2;split at h2
    .rename_i a1;simp only[Prod.mk.injEq]at h2;exact⟨.inr (.inr (.inl ⟨h2.1.symm,a1⟩)),λ_=>hp (.inl a1)⟩
    .rename_i a1;split at h2
     .rename_i a2;simp only[Prod.mk.injEq]at h2;exact⟨.inr (.inr (.inr (.inl ⟨h2.1.symm,a2⟩))),λ_=>hp (.inr (.inl a2))⟩
     .rename_i a2;split at h2
      .rename_i a3;simp only[Prod.mk.injEq]at h2;exact⟨.inr (.inl h2.1.symm),λ_=>hp (.inr (.inr a3))⟩
      .split at h2
       .simp at h2
       .simp only[Prod.mk.injEq]at h2;exact⟨.inr (.inr (.inr (.inr ⟨h2.1.symm,Bool.eq_false_iff.2 a1,Bool.eq_false_iff.2 a2⟩))),λhk=>absurd h2.1.symm hk⟩
  .exact ih u hu
section
variable {l:List Tok}
theorem c8C:∀(g:Nat) (d:Int) (i:Nat),i<=l.length->i<=mK l g d i/\mK l g d i<=l.length
 |0,d,i,h=>⟨h,f7X _⟩
 |g+1,d,i,h=>by
  unfold mK;split
  .rename_i hi;have h1:=λd=>c8C g d (i+1) hi
   repeat' split
   .have:=h1 (d+1);omega
   .have:=h1 (d-1);omega
   .omega
   .have:=h1 d;omega
  .omega
theorem a9Y:∀(g g':Nat) (d:Int) (i:Nat),l.length<g+i->l.length<g'+i->mK l g d i=mK l g' d i
 |0,0,d,i,_,_=>rfl
 |0,g'+1,d,i,h,_=>by unfold mK;rw[if_neg (by omega)]
 |g+1,0,d,i,_,h=>by
  show mK l (g+1) d i=l.length
  unfold mK;rw[if_neg (by omega)]
 |g+1,g'+1,d,i,h,h'=>by unfold mK;rw[a9Y g g' (d+1) (i+1) (by omega) (by omega),a9Y g g' (d-1) (i+1) (by omega) (by omega),a9Y g g' d (i+1) (by omega) (by omega)]
theorem d4r(g:Nat)(d:Int)(i:Nat):mK l (g+1) d i=if i<l.length then(if cK (aK l i) [40] then mK l g (d+1) (i+1) else if cK (aK l i) [41] then mK l g (d-1) (i+1) else if cK (aK l i) [61]&&decide (d<=0) then i else mK l g d (i+1)) else l.length:=rfl
variable (hW:WfD l)
include hW
theorem d9M{i:Nat}(hi:i<l.length):a1s l i=if cK (aK l i) [40] then 1 else if cK (aK l i) [41] then -1 else 0:=by
 have hg:l[i]? =some (aK l i):=by
  unfold aK;rw[if_pos hi,List.getD_eq_getElem?_getD,f7L hi]
  rfl
 have h:=hW i _ hg;unfold a1s;rw[hg];generalize aK l i=t at h|-;simp only;by_cases h4:t.kind=4
 .simp[a8o,cK,h4]
 .have hp:=h h4;have h40:t.text≠[40]:=λe=>by simp[a8o,e]at hp
  have h41:t.text≠[41]:=λe=>by simp[a8o,e]at hp
  simp[cK,h40,h41,hp]
theorem a9Z:∀(n g:Nat) (d:Int) (i:Nat),i+n<=mK l g d i->i+n<=l.length->n<=g->mK l g d i=mK l (g-n) (d+par l i (i+n)) (i+n)
 |0,g,d,i,_,_,_=>by rw[Nat.add_zero,wF,Int.add_zero,Nat.sub_zero]
 |n+1,g,d,i,h,hl,hg=>by
  obtain⟨g,rfl⟩:∃k,g=k+1:=⟨g-1,by omega⟩;have hi:i<l.length:=by omega
  have e1:par l i (i+(n+1))=a1s l i+par l (i+1) (i+1+n):=by rw[jO (by omega),show i+1+n=i+(n+1) by omega]
  rw[e1,d9M hW hi,show g+1-(n+1)=g-n by omega,show i+(n+1)=i+1+n by omega];rw[d4r g d i,if_pos hi]at h|-;by_cases p1:cK (aK l i) [40]=true
  .rw[if_pos p1]at h|-;rw[a9Z n g (d+1) (i+1) (by omega) (by omega) (by omega),if_pos p1,Int.add_assoc]
  rw[if_neg p1]at h|-;by_cases p2:cK (aK l i) [41]=true
  .rw[if_pos p2]at h|-;rw[a9Z n g (d-1) (i+1) (by omega) (by omega) (by omega),if_neg p1,if_pos p2, <- Int.add_assoc]
   rfl
  rw[if_neg p2]at h|-;by_cases p3:(cK (aK l i) [61]&&decide (d<=0))=true
  .rw[if_pos p3]at h;omega
  rw[if_neg p3]at h|-;rw[a9Z n g d (i+1) (by omega) (by omega) (by omega),if_neg p1,if_neg p2,Int.zero_add]
theorem d9N(i:Nat)(p:Pr)(k:Nat)(hi:i<l.length)(h:rdQ l i (mK l (l.length+1) 0 i)=.ok p k)(hk:k<l.length)(hs:cK (aK l k) [44]=true):mK l (l.length+1) 0 (k+1)=mK l (l.length+1) 0 i:=by
 have hge:=c8C (l:=l) (l.length+1) 0 i (by omega);obtain⟨e,he⟩:∃e,mK l (l.length+1) 0 i=e:=⟨_,rfl⟩;rw[he]at h hge|-;unfold rdQ at h;rw[show min i e=i by omega]at h;split at h
 .cases h
 .rename_i q n hr;split at h
  .cases h;have ha:=a2O hr;have hll:((l.take e).drop i).length<=e-i:=by simp;omega
   have hb:=c8y aU (hW.part e i) _ _ _ _ _ hr;rw[d4f l e i n (by omega)]at hb;have h1:=a9Z hW n (l.length+1) 0 i (by rw[he];omega) (by omega) (by omega);rw[he,hb]at h1;rw[h1];obtain⟨g,hg⟩:∃g,l.length+1-n=g+1:=⟨l.length-n,by omega⟩;rw[hg]
   conv=>rhs;rw[d4r]
   have eF:∀x:List UInt8,x≠[44]->cK (aK l (i+n)) x=false:=λx hx=>by unfold cK at hs|-;simp only[f7H,decide_eq_true_eq]at hs;rw[hs.2];simp[show ¬ [44]=x from λe=>hx e.symm]
   rw[if_pos hk,eF [40] (by decide),eF [41] (by decide),eF [61] (by decide)];simp only[Bool.false_eq_true,if_false,Bool.false_and];exact a9Y _ _ _ _ (by omega) (by omega)
  .cases h
end
end
section
open Go Go.VM
variable {G:GT}
theorem zM:VM.Enters prog 272:=.mk func272 rfl
theorem b0a:VM.Enters prog 282:=.mk func282 rfl
section
variable {aI:List Tok->Nat->Nat->kN Pr} {l:List Tok} (hV:oS G aI l)
include hV
section
variable {ty:aZ Ty} {low:Nat} (kH:∀i,low<=i->i<l.length->qT G 39 [] l i (ty i) zL) (mT:aB l 1 ty) (ity:∀i t j,i<l.length->ty i=.ok t j->TyI t i j)
include kH mT ity
theorem d0v(i:Nat)(gW:low<=i+1)(hi:i<l.length):qT G 39 [] l i (xB aU bQ aI l ty i) zL:=by
 have hl:=hV.len;obtain⟨j0,rfl⟩:∃j0,j0=i:=⟨_,rfl⟩;have p0:j0<=j0/\j0<l.length:=⟨f7X _,hi⟩;have ht:=cJ (G:=G) l j0 j0 0 (by omega) (by omega) (by intro e;subst e;simp at hi) (by omega);refine mX.bS func39 rfl ntmps39 rfl (by simp) ?_;intro Q Q0;unfold xB at Q0;simp;refine rP Q0 p0 b2f (b5g hV j0 hi) (aB.base hV.fin) λo j1 x1 Q1 p1=>?_;cases o with
 |some t=>obtain⟨op,nm,args,ns,p,ps⟩:=t;simp;exact Q1.ok _ j1 _ _ rfl (.inr rfl) (by simp)
 |none=>
 have hj:=uY x1;subst hj;simp only at Q1;simp[mW,eA];refine mY (ds:=[.int .i64 0]) bR ht ?_;cases hti:rM (aK l j1)with
 |true=>
  rw[hti,if_pos rfl]at Q1;have hk:(aK l j1).kind=2:=by simpa[rM]using hti
  generalize aK l j1=T at hk|-;obtain⟨k,x,n,ln⟩:=T;simp only at hk;subst hk;simp[bG];refine rdX (ds:=[]) c3V (c6I hV kH (mT.le (by omega)) ity j1 gW p1.2) (λt j h=>?_) (λn e h=>Q1.bad n e _ h);simp;exact Q1.ok t j _ _ h (.inr rfl) (by simp)
 |false=>
  rw[hti,if_neg (by decide)]at Q1;have hk: ¬(aK l j1).kind=2:=by simpa[rM]using hti
  generalize aK l j1=T at hk|-;obtain⟨k,x,n,ln⟩:=T;simp only at hk;simp[bG,hk];have hb:=jS (G:=G) l j1 [123] p1.2 (by omega);refine mY (ds:=[.str [123]]) eV hb ?_;cases hs:aL l j1 [123]with
  |true=>rw[hs,if_pos rfl]at Q1;simp;refine rdX (ds:=[]) a5K (a7k hV kH (mT.le (by omega)) ity j1 gW p1.2) (λt j h=>?_) (λn e h=>Q1.bad n e _ h);simp;exact Q1.ok t j _ _ h (.inr rfl) (by simp)
  |false=>rw[hs,if_neg (by decide)]at Q1;simp;refine rdX (ds:=[]) c6J (d0i hV kH mT j1 gW p1.2) (λt j h=>?_) (λn e h=>Q1.bad n e _ h);simp;exact Q1.ok t j _ _ h (.inr rfl) (by simp)
end
theorem b5C(op:Int)(nm:Nm)(args:List Ty)(ns:List Nm)(ps:List Pr){i j:Nat}(h:i<=j):TyI ⟨op,nm,args,ns,eA,ps⟩ i j:=by refine⟨λ_=>rfl,?_⟩;simp[eA,bH,cW];omega
theorem c8D{p q:Pr}{s r:Pr×Bool}(hp:p.op≠0)(hs:s.1.op≠0)(h:b5d p s=some r):r.1.op≠0:=by
 unfold b5d at h;split at h
 .cases h;exact hs
 split at h
 .cases h
 split at h
 .cases h;simp
 .cases h;exact hp
theorem c0R(b:Bool):(a3M b).op≠0:=by cases b<;>simp[a3M,a0d,a3L]
theorem d9O{a b:Pr}(ha:a.op≠0)(hb:b.op≠0):(bQ a b).op≠0:=by
 unfold bQ b2K;cases h1:b5d a (a3M true,false)with
 |none=>exact c0R hV false
 |some s=>
  have k1:=c8D hV (q:=a) ha (c0R hV true) h1;simp only[b2K];cases h2:b5d b s with
  |none=>exact c0R hV false
  |some r=>exact c8D hV (q:=b) hb k1 h2
theorem d4s{a b:Pr}:bH (bQ a b)<=bH a+bH b+1:=by
 have pos:∀p:Pr,1<=bH p:=λp=>by cases p;simp[bH]
 have ha:=pos a;have hb:=pos b;unfold bQ b2K;cases h1:b5d a (a3M true,false)with
 |none=>simp only[b5e];omega
 |some s=>
  have k1:bH s.1<=bH a/\(s.2=false->bH s.1=1):=by
   unfold b5d at h1;split at h1
   .cases h1;simp only[b5e];exact⟨ha,λ_=>trivial⟩
   split at h1
   .cases h1
   simp only[Bool.false_eq_true,if_false,f7N]at h1;subst h1;exact⟨f7X _,λh=>by cases h⟩
  simp only[b2K];cases h2:b5d b s with
  |none=>simp only[b5e];omega
  |some r=>
   simp only;unfold b5d at h2;split at h2
   .cases h2;omega
   split at h2
   .cases h2
   split at h2
   .cases h2;simp only[b5f];omega
   .cases h2;simp only;omega
omit hV in
theorem bX{α β:Type}{x:aZ α}{f:α->aZ β}{i j:Nat}{b:β}(h:(x >>=f) i=.ok b j):∃a k,x i=.ok a k/\f a k=.ok b j:=by
 rw[cX]at h;cases hx:x i with
 |bad n e=>rw[hx]at h;cases h
 |ok a k=>rw[hx]at h;exact⟨a,k,rfl,h⟩
theorem d0w{ty:aZ Ty}(i:Nat)(t:Ty)(j:Nat)(h:uB aU bQ aI l ty i=.ok t j):t.pred=eA:=by
 unfold uB at h;obtain⟨nm,k1,_,h⟩:=bX h;obtain⟨args,k2,_,h⟩:=bX h;obtain⟨b,k3,_,h⟩:=bX h;cases b with
 |true=>rw[if_pos rfl]at h;obtain⟨ps,k4,_,h⟩:=bX h;obtain⟨_,k5,_,h⟩:=bX h;cases h;rfl
 |false=>rw[if_neg (by decide)]at h;cases h;rfl
theorem c4t{ty:aZ Ty}(mT:aB l 1 ty)(ity:∀i t j,i<l.length->ty i=.ok t j->TyI t i j)(i:Nat)(t:Ty)(j:Nat)(hi:i<l.length)(h:vW bQ aI l ty i=.ok t j):TyI t i j:=by
 unfold vW at h;obtain⟨_,k1,h1,h⟩:=bX h;obtain⟨t1,k2,h2,h⟩:=bX h;have a1:=aB.exp hV.fin _ _ i _ k1 hi h1;have a2:=mT k1 t1 k2 a1.2 h2;have i2:=ity k1 t1 k2 a1.2 h2;split at h
 .unfold dN at h;cases h
 obtain⟨_,k3,h3,h⟩:=bX h;obtain⟨p,k4,h4,h⟩:=bX h;obtain⟨_,k5,h5,h⟩:=bX h;have a3:=aB.exp hV.fin _ _ k2 _ k3 a2.2 h3;have a4:=hV.sB.pred k3 p k4 a3.2 h4;have a5:=aB.exp hV.fin _ _ k4 _ k5 a4.2 h5;have hp:=hV.nod k3 _ p k4 a3.2 h4;cases h;unfold TyI at i2|-;simp only;by_cases hz:t1.pred.op=0
 .rw[if_pos hz];exact⟨λh=>(hp.2 h).elim,by omega⟩
 .rw[if_neg hz];have hn:=d4s hV (a:=t1.pred) (b:=p);exact⟨λh=>(d9O hV hz hp.2 h).elim,by omega⟩
theorem d4t{ty:aZ Ty}(mT:aB l 1 ty)(ity:∀i t j,i<l.length->ty i=.ok t j->TyI t i j)(i:Nat)(t:Ty)(j:Nat)(hi:i<l.length)(h:vX aU l ty i=.ok t j):TyI t i j:=by
 have tD:=aB.c9E (kw:=aU) hV.fin (mT.le (by omega)) hV.sB.pred i t j hi h;unfold vX at h;obtain⟨_,k1,h1,h⟩:=bX h;obtain⟨⟨ns,ts⟩,k2,h2,h⟩:=bX h;obtain⟨_,k3,h3,h⟩:=bX h;have a1:=aB.exp hV.fin _ _ i _ k1 hi h1;simp only at h2 h3 h;have hI:∀(x:aZ (List Nm×List Ty)),(∀(I:List Nm×List Ty->Nat->Prop),I ([],[]) k1->(∀a p b q,p<l.length->k1<=p->I a p->(a5L l ty a p=.ok b q\/a4m ty a p=.ok b q)->I b q/\q<l.length/\k1<=q)->(∀a p,I a p->I a (p+1))->x k1=.ok (ns,ts) k2->I (ns,ts) k2/\k2<l.length)->x k1=.ok (ns,ts) k2->(∀t∈ts,(t.pred.op=0->t.pred=a8l)/\bH t.pred+k1<=k2+1)/\k2<l.length:=λx hx wN=>by
  refine hx (λa p=>∀t∈a.2,(t.pred.op=0->t.pred=a8l)/\bH t.pred+k1<=p+1) (by simp) (λa p b q hp hk ha hab=>?_) (λa p ha t ht=>by have:=ha t ht;exact⟨this.1,by omega⟩) wN;have key:∀t q',∀p',p<=p'->p'<l.length->ty p'=.ok t q'->(t.pred.op=0->t.pred=a8l)/\bH t.pred+k1<=q'+1/\q'<l.length/\p<=q':=λt q' p' h1 h2 h3=>by have b1:=ity p' t q' h2 h3;have b2:=mT p' t q' h2 h3;exact⟨b1.1,by have:=b1.2;omega,b2.2,by omega⟩
  rcases hab with hab|hab
  .obtain⟨w,m1,e1,hab⟩:=bX hab;obtain⟨_,m2,e2,hab⟩:=bX hab;obtain⟨t',m3,e3,hab⟩:=bX hab;have c1:=aB.word (kw:=aU) hV.fin p w m1 hp e1;have c2:=aB.exp hV.fin _ _ m1 _ m2 c1.2 e2;have c3:=key t' m3 m2 (by omega) c2.2 e3;cases hab;refine⟨λt ht=>?_,c3.2.2.1,by omega⟩;simp only[List.mem_append,f7O]at ht;rcases ht with ht|rfl
   .have:=ha t ht;exact⟨this.1,by omega⟩
   .exact⟨c3.1,c3.2.1⟩
  .obtain⟨t',m3,e3,hab⟩:=bX hab;have c3:=key t' m3 p (f7X _) hp e3;cases hab;refine⟨λt ht=>?_,c3.2.2.1,by omega⟩;simp only[List.mem_append,f7O]at ht;rcases ht with ht|rfl
   .have:=ha t ht;exact⟨this.1,by omega⟩
   .exact⟨c3.1,c3.2.1⟩
 have hA:(∀t∈ts,(t.pred.op=0->t.pred=a8l)/\bH t.pred+k1<=k2+1)/\k2<l.length:=by
  split at h2
  .refine hI _ (λI h0 hs hm hx=>?_) h2;have:=sR hV (one:=a5L l ty) (λa p=>k1<=p/\I a p) (λa p b q hp ha hab=>by have:=hs a p b q hp ha.1 ha.2 (.inl hab);exact⟨⟨this.2.2,this.1⟩,this.2.1⟩) (λa p h=>⟨by omega,hm a p h.2⟩) _ _ _ _ _ a1.2 ⟨f7X _,h0⟩ hx
   exact⟨this.1.2,this.2⟩
  .refine hI _ (λI h0 hs hm hx=>?_) h2;have:=sR hV (one:=a4m ty) (λa p=>k1<=p/\I a p) (λa p b q hp ha hab=>by have:=hs a p b q hp ha.1 ha.2 (.inr hab);exact⟨⟨this.2.2,this.1⟩,this.2.1⟩) (λa p h=>⟨by omega,hm a p h.2⟩) _ _ _ _ _ a1.2 ⟨f7X _,h0⟩ hx
   exact⟨this.1.2,this.2⟩
 have a3:=aB.exp hV.fin _ _ k2 _ k3 hA.2 h3;split at h
 .rename_i hc;simp only[f7H,decide_eq_true_eq]at hc;obtain⟨t',rfl⟩:=List.length_eq_one_iff.1 hc.1.2;cases h;have:=hA.1 t' (by simp);simp only[List.headD_cons];exact⟨this.1,by omega⟩
 .obtain⟨_,k4,h4,h⟩:=bX h;obtain⟨t',k5,h5,h⟩:=bX h;cases h;exact b5C hV _ _ _ _ _ (by omega)
theorem d4u{ty:aZ Ty}(mT:aB l 1 ty)(ity:∀i t j,i<l.length->ty i=.ok t j->TyI t i j)(i:Nat)(t:Ty)(j:Nat)(hi:i<l.length)(h:xB aU bQ aI l ty i=.ok t j):TyI t i j:=by
 have tD:=aB.c9F (kw:=aU) (andP:=bQ) hV.fin (mT.le (by omega)) hV.sB.pred i t j hi h;unfold xB at h;rw[cX]at h;cases hb:eO aU l i with
 |bad n e=>rw[hb]at h;cases h
 |ok o k=>
  rw[hb]at h;cases o with
  |some t'=>
   simp only[gF]at h;cases h;unfold eO at hb
   repeat' split at hb
   all_goals first|(cases hb;exact b5C hV _ _ _ _ _ (by omega))|cases hb
  |none=>
   have:=uY hb;subst this;simp only at h;split at h
   .have hp:=d0w hV _ t j h;obtain⟨op,nm,args,ns,p,ps⟩:=t;simp only at hp;subst hp;exact b5C hV _ _ _ _ _ (by omega)
   .split at h
    .exact c4t hV mT ity _ t j hi h
    .exact d4t hV mT ity _ t j hi h
theorem b0b:∀n i t j,i<l.length->zE aU bQ aI l n i=.ok t j->TyI t i j
 |0,i,t,j,_,h=>by unfold zE at h;cases h
 |n+1,i,t,j,hi,h=>d4u hV (aB.a7W hV.fin hV.sB.pred n) (b0b n) i t j hi h
theorem b5D:∀n i,i<l.length->l.length<n+i->qT G 39 [] l i (zE aU bQ aI l n i) zL
 |0,i,hi,h=>by omega
 |n+1,i,hi,h=>d0v hV (ty:=zE aU bQ aI l n) (low:=i+1) (λi' h1 h2=>b5D n i' h2 (by omega)) (aB.a7W hV.fin hV.sB.pred n) (b0b hV n) i (f7X _) hi
theorem oF(i:Nat)(hi:i<l.length):qT G 39 [] l i (kP aU bQ aI l i) zL:=b5D hV _ i hi (by omega)
theorem jF:aB l 1 (kP aU bQ aI l):=aB.typ hV.fin hV.sB.pred
theorem d0x(i:Nat)(t:Ty)(j:Nat)(hi:i<l.length)(h:kP aU bQ aI l i=.ok t j):TyI t i j:=b0b hV _ i t j hi h
theorem c0S(i:Nat)(hi:i<l.length):qT G 124 [] l i (gR aU bQ aI l (kP aU bQ aI l) i) zL:=b2h hV (low:=0) (λi _ h=>oF hV i h) ((jF hV).le (by omega)) (d0x hV) i (by omega) hi
def a2l(out:List Ty):List (Nat×aW):=[(100001,.cells [.d (.sl (out.map tyC))]),(100002,.cells [.ptr 100000 0])]
abbrev d4v:List (TypeId×List VM.Loc):=[(45,[.c 100001 0])]
abbrev c0T(aI:List Tok->Nat->Nat->kN Pr)(l:List Tok)(out:List Ty):aZ (List Ty):=do let t <- kP aU bQ aI l;pure (out++[t])
theorem c6Y:a0Y l K3 [.ptr 100001 0,.ptr 100002 0] a2l d4v:=by
 constructor
 all_goals intros
 all_goals first
  |rfl
  |simp[a2l,aJ,aT,aN,aM,bC,getKey,aQ,bA,cH,rk,cP,bM, *]
theorem b5E(out:List Ty):aB l 1 (c0T aI l out):=(jF hV).bl λ_=>aB.bE _
theorem c4u(a:List Ty)(i:Nat)(b:List Ty)(j:Nat)(hi:i<l.length)(h:a.length<=i)(hx:c0T aI l a i=.ok b j):b.length<=j:=by obtain⟨t,k,h1,h2⟩:=bX hx;have:=jF hV i t k hi h1;cases h2;simp;omega
theorem b2N(out:List Ty)(i:Nat)(hi:i<l.length)(a0B:out.length<=i):mX G 282 [.ptr 100001 0,.ptr 100002 0] (a2l out) d4v l i (c0T aI l out i) (λ_=>.bY []) a2l:=by
 have hl:=hV.len;obtain⟨j0,rfl⟩:∃j0,j0=i:=⟨_,rfl⟩;have p0:j0<=j0/\j0<l.length:=⟨f7X _,hi⟩;refine mX.bS func282 rfl ntmps282 rfl (by simp) ?_;intro Q Q0;simp[a2l];refine a9A 5 (t:=28) (e:=45) (s:=2) (z:=6) (r:=7) (p:=8) (q:=5) (x:=4) (b:=0) [] 2 [1] (a4C 0 3 4) (gX (kP aU bQ aI l j0)) rfl rfl rfl rfl (by kernel_rfl) (by kernel_rfl) rfl ?_;simp
 repeat' apply And.intro
 all_goals
  refine pD Q0 p0 cO ((oF hV j0 p0.2)) (jF hV) λt j1 x1 Q1 p1=>cI.mk ?_;simp;refine⟨_,_,_,_,_,by simp,rfl,rfl,?_,rfl,rfl,?_,by simp,rfl,rfl,rfl,?_⟩
  .intro c hc
   first
    |(obtain⟨y,_,rfl⟩:=List.mem_map.1 hc
      rw[bU]
      rfl)
    |(simp only[f7O]at hc
      subst hc
      rfl)
  .simp<;>omega
  exact Q1.ok _ j1 .normal _ rfl (.inl rfl) (by simp[a2l,bU])
theorem a1c(i:Nat)(hi:i<l.length):qT G 272 [] l i (a1L aU bQ aI l i) (λts=>.d (.sl (ts.map tyC))):=by
 have hl:=hV.len;obtain⟨j0,rfl⟩:∃j0,j0=i:=⟨_,rfl⟩;have p0:j0<=j0/\j0<l.length:=⟨f7X _,hi⟩;refine mX.bS func272 rfl ntmps272 rfl (by simp) ?_;intro Q Q0;unfold a1L at Q0;simp;cases hs:aL l j0 [91]with
 |false=>have Q1:=Q0.step (jU hs);rw[if_neg (by decide)]at Q1;refine xK hs p0 ?_;simp;exact Q1.ok _ j0 _ _ rfl (.inr rfl) (by simp)
 |true=>
  have Q1:=Q0.step (jT hs);rw[if_pos rfl]at Q1;refine rdT hs p0 hV.fin λp1=>?_;obtain⟨j1,qW⟩:∃j1,j0+1=j1:=⟨_,rfl⟩;rw[qW]at Q1 p1|-;simp;have kD:=eP hV [44] (c0T aI l) (λout i=>out.length<=i) 0 b0a (c6Y hV) (λa=>(b5E hV a).le (by omega)) (λa i _ hi h=>b2N hV a i hi h) (c4u hV) (λa i h=>by omega) [] j1 (by omega) p1.2 (by simp);refine dC.mk (a0b dH kD [(100000,100000),(100001,3),(100002,1)] (λa j hx=>?_) ?_ ?_ ?_ rfl rfl (λws j2 x2=>?_) (λn e wN=>Q1.fail wN _))
  .simp[a2l,aJ,aT,aN,aM,bC,getKey]
  .simp[a2l,aJ,aT,aN,aM,bC,getKey]
  .simp[aQ,bA,rk]
  .simp[a2l,aQ,bA,rk,cH,cP]
  .have Q2:=Q1.step x2;have p2:=aB.list hV.fin (b5E hV) [] j1 ws j2 p1.2 x2;simp[bD,a2l,aQ,bA,rk,cH,cP,bM,jA,eZ,dJ];refine dG Q2 p2 hV.fin λu3 j3 x3 Q3 p3=>?_;simp;exact Q3.ok _ j3 _ _ rfl (.inr rfl) (by simp)
end
end
section
open Go Go.VM
variable {G:GT}
abbrev a1d(e:jL):List D:=[.int .i64 e.op,.str e.name,.int .i64 e.n,.sl (e.kids.map a6M),.sl (e.params.map b4z),.sl (e.alts.map c3k),.sl (e.types.map tyC)]
abbrev tX:jL->DV:=λe=>.d (.agg (a1d e))
@[simp] theorem f0e(o:Int)(ks:List jL):(kM o ks).op=o:=rfl
@[simp] theorem e6K(o:Int)(ks:List jL):(kM o ks).name=[]:=rfl
@[simp] theorem f2z(o:Int)(ks:List jL):(kM o ks).n=0:=rfl
@[simp] theorem e6L(o:Int)(ks:List jL):(kM o ks).kids=ks:=rfl
@[simp] theorem e2e(o:Int)(ks:List jL):(kM o ks).params=[]:=rfl
@[simp] theorem e6M(o:Int)(ks:List jL):(kM o ks).alts=[]:=rfl
@[simp] theorem e5l(o:Int)(ks:List jL):(kM o ks).types=[]:=rfl
theorem cD:VM.Enters prog 68:=.mk func68 rfl
theorem cA:VM.Enters prog 34:=.mk func34 rfl
theorem a8u:VM.Enters prog 168:=.mk func168 rfl
theorem wJ:VM.Enters prog 247:=.mk func247 rfl
theorem a1X:VM.Enters prog 72:=.mk func72 rfl
theorem b7q:VM.Enters prog 121:=.mk func121 rfl
theorem c6Z:VM.Enters prog 67:=.mk func67 rfl
theorem b5F:VM.Enters prog 271:=.mk func271 rfl
theorem a5S(o:Int)(ks:List jL):CS prog G 68 [.int .i64 o,.sl (ks.map a6M)] (.d (.agg (a1d (kM o ks)))) none:=by refine CS.res (r':=.d (.agg [.int .i64 o,.str [],.int .i64 0,.sl (ks.map a6M),.aF,.aF,.aF])) ?_ (by simp);refine CS.aR func68 rfl ntmps68 rfl ?_;simp
theorem d0y(o:Int)(a:jL):CS prog G 68 [.int .i64 o,.sl [a1d a]] (.d (.agg [.int .i64 o,.str [],.int .i64 0,.sl [a6M a],.aF,.aF,.aF])) none:=by rw[dX];refine CS.aR func68 rfl ntmps68 rfl ?_;simp
theorem a6E(o:Int)(a:jL):CS prog G 68 [.int .i64 o,.sl [a1d a]] (.d (.agg (a1d (kM o [a])))) none:=by
 have:=a5S (G:=G) o [a]
 rwa[List.map_cons,List.map_nil,dX]at this
theorem kY(o:Int)(a b:jL):CS prog G 68 [.int .i64 o,.sl [a1d a,a1d b]] (.d (.agg (a1d (kM o [a,b])))) none:=by
 have:=a5S (G:=G) o [a,b]
 rwa[List.map_cons,List.map_cons,List.map_nil,dX a,dX b]at this
theorem d0z(o:Int)(a b c:jL):CS prog G 68 [.int .i64 o,.sl [a1d a,a1d b,a1d c]] (.d (.agg (a1d (kM o [a,b,c])))) none:=by
 have:=a5S (G:=G) o [a,b,c]
 rwa[List.map_cons,List.map_cons,List.map_cons,List.map_nil,dX a,dX b,dX c]at this
theorem c4v{α β γ:Type}(x:aZ α)(f:α->aZ β)(g:β->aZ γ)(i:Nat):((x >>=f) >>=g) i=(x >>=λa=>f a >>=g) i:=by
 rw[cX,cX,cX];cases x i with
 |ok a j=>simp only[cX]
 |bad n e=>rfl
theorem rV.assoc{α β γ:Type}{Q:Exit->St->Prop}{rs:List ResultVar}{l:List Tok}{enc:γ->DV}{Y:γ->List (Nat×aW)}{own:List (TypeId×List VM.Loc)}{x:aZ α}{f:α->aZ β}{g:β->aZ γ}{i:Nat}(h:rV Q rs l enc Y own (((x >>=f) >>=g) i)):rV Q rs l enc Y own ((x >>=λa=>f a >>=g) i):=by rwa[c4v]at h
theorem CH.drop{P:Program}{f:FuncId}{s0:St}{d:DV}{H1:List (Nat×aW)}{dM:List (TypeId×List VM.Loc)}(h:CH P G f s0 ⟨[d],H1,dM⟩):CH P G f s0 ⟨[d],H1,[]⟩:=λbase R μ args w hr=>(h base R μ args w hr).mono λe w' ⟨v,R',μ',he,eM,hs⟩=>⟨v,R',μ',he,⟨eM.defers,eM.size,eM.tmps,eM.gY,eM.inj,λc hc=>(by cases hc),by obtain⟨vs,rK⟩:=eM.own;obtain⟨vs',zS,_⟩:=a4Y eM [] dM vs ⟨rK.len,rK.one,rK.apart⟩ rfl;exact⟨vs',zS.len,λi c v hc hv=>⟨(zS.one i c v hc hv).dI,(zS.one i c v hc hv).own,(zS.one i c v hc hv).keys⟩,zS.apart⟩,eM.tQ,eM.pH,eM.base,eM.pass⟩,hs⟩
abbrev RdO(G:GT){α:Type}(f:FuncId)(ds:List D)(l:List Tok)(i:Nat)(e:TypeId)(r:kN α)(enc:α->DV):Prop:=CX prog G f ⟨.ptr 100000 0::ds.map .d,rH l i,[]⟩ (rdE l enc (λ_=>[]) [(e,[.t 0])] r)
theorem RdO.m{α:Type}{f:FuncId}{ds:List D}{l:List Tok}{i:Nat}{e:TypeId}{r:kN α}{enc:α->DV}(h:RdO G f ds l i e r enc):qT G f ds l i r enc:=by
 cases r with
 |ok a j=>exact CH.drop h
 |bad n x=>exact h
section
variable {β:Type} {Q:Exit->St->Prop} {rs:List ResultVar} {l:List Tok} {i:Nat} {enc:β->DV} {e:TypeId} {r:kN β}
theorem RdO.bS{f:FuncId}{fn:Func}{c:Code}{k:Nat}{ds:List D}(hf:prog.funcs[f]? =some fn)(hb:fn.body=some c)(hn:fn.ntmps=k)(hrs:fn.results.toList=rs)(h:∀Q:Exit->St->Prop,rV Q rs l enc (λ_=>[]) [(e,[.t 0])] r->XK prog G [.code c] .normal ⟨.ptr 100000 0::ds.map .d++List.replicate (k-(.ptr 100000 0::ds.map .d:List DV).length) (.bY []),rH l i,[]⟩ Q):RdO G f ds l i e r enc:=by
 refine CX.b4L hf hb hn hrs rfl λQ h1 h2=>SW.xk (h Q ⟨λa j e s hr he hs=>?_,λn e s hr=>?_⟩)
 .subst hr;exact h1 _ _ _ e s rfl he hs
 .subst hr;exact h2 _ s rfl
end
section
variable {aI:List Tok->Nat->Nat->kN Pr} {l:List Tok} (hV:oS G aI l)
include hV
section
variable {ex:Nat->aZ jL} {low:Nat} (hex:∀i,low<=i->i<l.length->qT G 34 [] l i (ex 0 i) tX) (mV:∀k,aB l 1 (ex k))
include hex mV
def a7o(out:List jL):List (Nat×aW):=[(100001,.cells [.d (.sl (out.map a6M))]),(100002,.cells [.ptr 100000 0])]
abbrev e2f:List (TypeId×List VM.Loc):=[(30,[.c 100001 0])]
abbrev c4w(ex:Nat->aZ jL)(out:List jL):aZ (List jL):=do let e <- ex 0;pure (out++[e])
omit hex mV in
theorem d0A:a0Y l K3 [.ptr 100001 0,.ptr 100002 0] a7o e2f:=by
 constructor
 all_goals intros
 all_goals first
  |rfl
  |simp[a7o,aJ,aT,aN,aM,bC,getKey,aQ,bA,cH,rk,cP,bM, *]
omit hex in
theorem b1c(out:List jL):aB l 1 (c4w ex out):=(mV 0).bl λ_=>aB.bE _
omit hex in
theorem b5G(a:List jL)(i:Nat)(b:List jL)(j:Nat)(hi:i<l.length)(h:a.length<=i)(hx:c4w ex a i=.ok b j):b.length<=j:=by obtain⟨t,k,h1,h2⟩:=bX hx;have:=mV 0 i t k hi h1;cases h2;simp;omega
theorem c4x(out:List jL)(i:Nat)(gW:low<=i)(hi:i<l.length)(a0B:out.length<=i):mX G 121 [.ptr 100001 0,.ptr 100002 0] (a7o out) e2f l i (c4w ex out i) (λ_=>.bY []) a7o:=by
 have hl:=hV.len;obtain⟨j0,rfl⟩:∃j0,j0=i:=⟨_,rfl⟩;have p0:j0<=j0/\j0<l.length:=⟨f7X _,hi⟩;refine mX.bS func121 rfl ntmps121 rfl (by simp) ?_;intro Q Q0;simp[a7o];refine a9A 5 (t:=25) (e:=30) (s:=2) (z:=6) (r:=7) (p:=8) (q:=5) (x:=4) (b:=0) [] 2 [1] (a4C 0 3 4) (gX (ex 0 j0)) rfl rfl rfl rfl (by kernel_rfl) (by kernel_rfl) rfl ?_;simp
 repeat' apply And.intro
 all_goals
  refine pD Q0 p0 cA ((hex j0 gW p0.2)) (mV 0) λt j1 x1 Q1 p1=>cI.mk ?_;simp;refine⟨_,_,_,_,_,by simp,rfl,rfl,?_,rfl,rfl,?_,by simp,rfl,rfl,rfl,?_⟩
  .intro c hc
   first
    |(obtain⟨y,_,rfl⟩:=List.mem_map.1 hc
      rw[dX]
      rfl)
    |(simp only[f7O]at hc
      subst hc
      rfl)
  .simp<;>omega
  exact Q1.ok _ j1 .normal _ rfl (.inl rfl) (by simp[a7o,dX])
theorem b5H(i:Nat)(gW:low<=i+1)(hi:i<l.length):RdO G 72 [] l i 30 (qJ l ex i) (λes=>.d (.sl (es.map a6M))):=by
 have hl:=hV.len;obtain⟨j0,rfl⟩:∃j0,j0=i:=⟨_,rfl⟩;have p0:j0<=j0/\j0<l.length:=⟨f7X _,hi⟩;refine RdO.bS func72 rfl ntmps72 rfl ?_;intro Q Q0;unfold qJ at Q0;simp;refine dG Q0 p0 hV.fin λu1 j1 x1 Q1 p1=>?_;simp;have kD:=eP hV [44] (c4w ex) (λout i=>out.length<=i) low b7q (d0A hV) (λa=>(b1c hV mV a).le (by omega)) (λa i rT hi h=>c4x hV hex mV a i rT hi h) (b5G hV mV) (λa i h=>by omega) [] j1 (by omega) p1.2 (by simp);refine dC.mk (a0b dH kD [(100000,100000),(100001,3),(100002,1)] (λa j hx=>?_) ?_ ?_ ?_ rfl rfl (λws j2 x2=>?_) (λn e wN=>Q1.fail wN _))
 .simp[a7o,aJ,aT,aN,aM,bC,getKey]
 .simp[a7o,aJ,aT,aN,aM,bC,getKey]
 .simp[aQ,bA,rk]
 .simp[a7o,aQ,bA,rk,cH,cP]
 .have Q2:=Q1.step x2;have p2:=aB.list hV.fin (λa=>b1c hV mV a) [] j1 ws j2 p1.2 x2;simp[bD,a7o,aQ,bA,rk,cH,cP,bM,jA,eZ,dJ];refine dG Q2 p2 hV.fin λu3 j3 x3 Q3 p3=>?_;simp;exact Q3.ok _ j3 _ _ rfl (.inr rfl) (by simp)
theorem a8v(i:Nat)(gW:low<=i+1)(hi:i<l.length):qT G 72 [] l i (qJ l ex i) (λes=>.d (.sl (es.map a6M))):=(b5H hV hex mV i gW hi).m
theorem b8X(op:Int)(i:Nat)(gW:low<=i+1)(hi:i<l.length):qT G 271 [.int .i64 op] l i (a5k l ex op i) tX:=by have hl:=hV.len;obtain⟨j0,rfl⟩:∃j0,j0=i:=⟨_,rfl⟩;have p0:j0<=j0/\j0<l.length:=⟨f7X _,hi⟩;refine mX.bS func271 rfl ntmps271 rfl (by simp) ?_;intro Q Q0;unfold a5k at Q0;simp;refine dG Q0 p0 hV.fin λu1 j1 x1 Q1 p1=>?_;simp;refine rP Q1 p1 cA ((hex j1 (by omega) p1.2)) (mV 0) λe j2 x2 Q2 p2=>?_;simp;refine dG Q2 p2 hV.fin λu3 j3 x3 Q3 p3=>?_;simp;refine mQ.mk cD (a6E op e) ?_;simp;exact Q3.ok _ j3 _ _ rfl (.inr rfl) (by simp)
theorem d0B(i:Nat)(gW:low<=i+1)(hi:i<l.length):qT G 67 [] l i (a7S aU bQ aI l ex i) tX:=by
 have hl:=hV.len;obtain⟨j0,rfl⟩:∃j0,j0=i:=⟨_,rfl⟩;have p0:j0<=j0/\j0<l.length:=⟨f7X _,hi⟩;refine mX.bS func67 rfl ntmps67 rfl (by simp) ?_;intro Q Q0;unfold a7S at Q0;simp;refine rP Q0 p0 cQ (dD hV.kw l j0 p0.2 (by omega)) (aB.word hV.fin) λnm j1 x1 Q1 p1=>?_;simp;cases hs:aL l j1 [58]with
 |false=>
  have Q2:=Q1.step (jU hs);rw[if_neg (by decide)]at Q2;refine xK hs p1 ?_;simp;have Q1:=Q2.step (gF _ _);refine dG Q1 p1 hV.fin λu4 j4 x4 Q4 p4=>?_;simp;refine rP Q4 p4 cA ((hex j4 (by omega) p4.2)) (mV 0) λx j5 x5 Q5 p5=>?_;simp;refine dG Q5 p5 hV.fin λu6 j6 x6 Q6 p6=>?_;simp;refine gH [1] 2 [] (.op 0 (.call [3,4,5] .none) (.call [0,3,4,5] .none)) (gX (ex 0 j6)) (by kernel_rfl) (by kernel_rfl) ?_;simp;refine⟨?_,?_⟩
  all_goals
   refine pD Q6 p6 cA ((hex j6 (by omega) p6.2)) (mV 0) λy j7 x7 Q7 p7=>cI.mk ?_;simp;exact Q7.ok _ j7 _ _ rfl (.inr rfl) (by simp[dX,bU])
 |true=>
  have Q2:=Q1.step (jT hs);rw[if_pos rfl]at Q2;refine rdT hs p1 hV.fin λp2=>?_;obtain⟨j2,sM⟩:∃j2,j1+1=j2:=⟨_,rfl⟩;rw[sM]at Q2 p2|-;simp;have Q2:=Q2.assoc;refine rP Q2 p2 cO ((oF hV j2 p2.2)) (jF hV) λt j3 x3 Q3 p3=>?_;simp;have Q3:=Q3.step (gF _ _);refine dG Q3 p3 hV.fin λu4 j4 x4 Q4 p4=>?_;simp;refine rP Q4 p4 cA ((hex j4 (by omega) p4.2)) (mV 0) λx j5 x5 Q5 p5=>?_;simp;refine dG Q5 p5 hV.fin λu6 j6 x6 Q6 p6=>?_;simp;refine gH [1] 2 [] (.op 0 (.call [3,4,5] .none) (.call [0,3,4,5] .none)) (gX (ex 0 j6)) (by kernel_rfl) (by kernel_rfl) ?_;simp;refine⟨?_,?_⟩
  all_goals
   refine pD Q6 p6 cA ((hex j6 (by omega) p6.2)) (mV 0) λy j7 x7 Q7 p7=>cI.mk ?_;simp;exact Q7.ok _ j7 _ _ rfl (.inr rfl) (by simp[dX,bU])
end
end
end
section
open Go Go.VM
variable {G:GT}
theorem b0c:VM.Enters prog 136:=.mk func136 rfl
theorem b5I:VM.Enters prog 174:=.mk func174 rfl
theorem c0U:VM.Enters prog 152:=.mk func152 rfl
theorem b2O:VM.Enters prog 153:=.mk func153 rfl
abbrev e8S(b:tB):List D:=.str b.name::.sl (b.vars.map oL)::(zP b.hyp++zP b.goal)
theorem c8E(b:tB):c6o b=e8S b:=by
 rw[c6o,cN,cN]
 rfl
section
variable {aI:List Tok->Nat->Nat->kN Pr} {l:List Tok} (hV:oS G aI l)
include hV
def a2m(out:List psV):List (Nat×aW):=[(100001,.cells [.ptr 100000 0]),(100002,.cells [.d (.sl (out.map oL))])]
abbrev d4w:List (TypeId×List VM.Loc):=[(181,[.c 100002 0])]
abbrev c0V(l:List Tok)(out:List psV):aZ (List psV):=do
 let c <- jB l
 let w <- bL aU l
 pure (out++[(c,w)])
theorem c7a:a0Y l K3 [.ptr 100001 0,.ptr 100002 0] a2m d4w:=by
 constructor
 all_goals intros
 all_goals first
  |rfl
  |simp[a2m,aJ,aT,aN,aM,bC,getKey,aQ,bA,cH,rk,cP,bM, *]
theorem b5J(out:List psV):aB l 1 (c0V l out):=(aB.title hV.fin).bl λ_=>((aB.word hV.fin).le (by omega)).bl λ_=>aB.bE _
theorem c4y(a:List psV)(i:Nat)(b:List psV)(j:Nat)(hi:i<l.length)(h:a.length<=i)(hx:c0V l a i=.ok b j):b.length<=j:=by have h1:=b5J hV a i b j hi hx;obtain⟨_,_,_,hx⟩:=bX hx;obtain⟨_,_,_,hx⟩:=bX hx;cases hx;simp;omega
theorem c0W(out:List psV)(i:Nat)(hi:i<l.length)(a0B:out.length<=i):mX G 174 [.ptr 100001 0,.ptr 100002 0] (a2m out) d4w l i (c0V l out i) (λ_=>.bY []) a2m:=by
 have hl:=hV.len;obtain⟨j0,rfl⟩:∃j0,j0=i:=⟨_,rfl⟩;have p0:j0<=j0/\j0<l.length:=⟨f7X _,hi⟩;refine mX.bS func174 rfl ntmps174 rfl (by simp) ?_;intro Q Q0;simp[a2m];refine rP Q0 p0 jD (kR l j0 p0.2 (by omega)) (aB.title hV.fin) λc j1 x1 Q1 p1=>?_;simp;refine gH [1] 3 [2] (.op 0 (.call [4,5,6,7] .none) (.call [0,4,5,6,7] .none)) (gX (bL aU l j1)) (by kernel_rfl) (by kernel_rfl) ?_;simp;refine⟨?_,?_⟩
 all_goals
  refine pD Q1 p1 cQ (dD hV.kw l j1 p1.2 (by omega)) (aB.word hV.fin) λw j2 x2 Q2 p2=>cI.mk ?_;simp;refine cF (by first|omega|(simp[oL];omega)) ?_;simp;exact Q2.ok _ j2 _ _ rfl (.inl rfl) (by simp[a2m,a6x hV])
theorem b2o(i:Nat)(hi:i<l.length):qT G 136 [] l i (xW aU l i) (λws=>.d (.sl (ws.map oL))):=by
 have hl:=hV.len;refine mX.bS func136 rfl ntmps136 rfl (by simp) ?_;intro Q Q0;unfold xW at Q0;simp;have kD:=eP hV [44] (c0V l) (λout i=>out.length<=i) 0 b5I (c7a hV) (λa=>(b5J hV a).le (by omega)) (λa i _ hi h=>c0W hV a i hi h) (c4y hV) (λa i h=>by omega) [] i (by omega) hi (by simp);refine dC.mk (a0b dH kD [(100000,100000),(100001,1),(100002,3)] (λa j hx=>?_) ?_ ?_ ?_ rfl rfl (λws j2 wN=>?_) (λn e wN=>Q0.bad n e _ wN))
 .simp[a2m,aJ,aT,aN,aM,bC,getKey]
 .simp[a2m,aJ,aT,aN,aM,bC,getKey]
 .simp[aQ,bA,rk]
 .simp[a2m,aQ,bA,rk,cH,cP]
 .simp[bD,a2m,aQ,bA,rk,cH,cP,bM,jA,eZ,dJ];exact Q0.ok _ j2 _ _ wN (.inr rfl) (by simp)
theorem c4z(i:Nat)(hi:i<l.length):qT G 152 [] l i (xX aU aI l i) (λb=>.d (.agg (e8S b))):=by have hl:=hV.len;obtain⟨j0,rfl⟩:∃j0,j0=i:=⟨_,rfl⟩;have p0:j0<=j0/\j0<l.length:=⟨f7X _,hi⟩;refine mX.bS func152 rfl ntmps152 rfl (by simp) ?_;intro Q Q0;unfold xX at Q0;simp;refine rP Q0 p0 cQ (dD hV.kw l j0 p0.2 (by omega)) (aB.word hV.fin) λnm j1 x1 Q1 p1=>?_;simp;refine dG Q1 p1 hV.fin λu2 j2 x2 Q2 p2=>?_;simp;refine rP Q2 p2 a1T ((a3K hV false j2 p2.2)) ((aB.vars hV.fin false)) λvs j3 x3 Q3 p3=>?_;simp;refine dG Q3 p3 hV.fin λu4 j4 x4 Q4 p4=>?_;simp;refine rP Q4 p4 pY (sQ hV j4 p4.2) (hV.sB.pred) λp j5 x5 Q5 p5=>?_;simp;refine dG Q5 p5 hV.fin λu6 j6 x6 Q6 p6=>?_;simp;refine rP Q6 p6 pY (sQ hV j6 p6.2) (hV.sB.pred) λq j7 x7 Q7 p7=>?_;simp;refine dG Q7 p7 hV.fin λu8 j8 x8 Q8 p8=>?_;simp;exact Q8.ok _ j8 _ _ rfl (.inr rfl) (by simp)
omit hV in
theorem a2P(t:Tok):(bG t).length=4:=rfl
theorem e5n{g:Nat}{d:Int}{i:Nat}(hi:i<l.length)(h:cK (aK l i) [40]=true):mK l (g+1) d i=mK l g (d+1) (i+1):=by rw[mK,if_pos hi,if_pos h]
theorem e5o{g:Nat}{d:Int}{i:Nat}(hi:i<l.length)(h0:cK (aK l i) [40]=false)(h:cK (aK l i) [41]=true):mK l (g+1) d i=mK l g (d-1) (i+1):=by rw[mK,if_pos hi,if_neg (by rw[h0];decide),if_pos h]
theorem e5p{g:Nat}{d:Int}{i:Nat}(hi:i<l.length)(h0:cK (aK l i) [40]=false)(h1:cK (aK l i) [41]=false):mK l (g+1) d i=if cK (aK l i) [61]&&decide (d<=0) then i else mK l g d (i+1):=by rw[mK,if_pos hi,if_neg (by rw[h0];decide),if_neg (by rw[h1];decide)]
theorem e5q{g:Nat}{d:Int}{i:Nat}(hi: ¬i<l.length):mK l (g+1) d i=l.length:=by rw[mK,if_neg hi]
theorem b3m:∀(g:Nat) (d:Int) (i:Nat),mK l g d i<=l.length
 |0,d,i=>by unfold mK;omega
 |g+1,d,i=>by
  unfold mK;split
  .split
   .exact b3m g _ _
   .split
    .exact b3m g _ _
    .split
     .omega
     .exact b3m g _ _
  .omega
theorem b5K(i:Nat)(hi:i<l.length):CH prog G 153 ⟨[.ptr 100000 0],rH l i,[]⟩ ⟨[.d (.int .i64 (mK l (l.length+1) 0 i))],rH l i,[]⟩:=by
 have hl:=hV.len;generalize hR:mK l (l.length+1) 0 i=R;refine CH.aR func153 rfl ntmps153 rfl (by simp) ?_;simp;refine SW.eE (ι:={x:Int×Nat×Nat//i<=x.2.1/\x.2.1<=l.length/\l.length<x.2.2+x.2.1/\(-(x.2.1:Int)<=x.1/\x.1<=x.2.1)/\mK l x.2.2 x.1 x.2.1=R}) (λx=>[(3,.d (.int .i64 x.1.1)),(4,.d (.int .i64 x.1.2.1))]) (λ_=>rH l i) (λ_=>[]) (λx=>l.length-x.1.2.1) ⟨(0,i,l.length+1),f7X _,by simp only;omega,by simp only;omega,by simp only;omega,hR⟩ (by simp) ?_;rintro⟨⟨d,k,g⟩,h1,h2,h3,h4,hp⟩;simp only at h1 h2 h3 h4 hp;obtain⟨g,rfl⟩:∃k,g=k+1:=⟨g-1,by omega⟩;by_cases hk:k<l.length
 .have hT:aK l k=l[k]:=by simp[aK,hk]
  have hw:=aY (show k<9223372036854775807 by omega);have hd1:IntKind.i64.wrap (d+1)=d+1:=wrap64 (by omega);have hd2:IntKind.i64.wrap (d-1)=d-1:=wrap64 (by omega);simp[hk,a2P];refine aD.mk mC (oD l[k] [40]) ?_;cases e1:cK l[k] [40]with
  |true=>rw[e5n hV hk (by rw[hT];exact e1)]at hp;simp[hd1,hw];exact aX.mk ⟨(d+1,k+1,g),by simp only;omega,by simp only;omega,by simp only;omega,by simp only;omega,hp⟩ (by simp) (by simp;omega)
  |false=>
   simp[hk,a2P];refine aD.mk mC (oD l[k] [41]) ?_;cases e2:cK l[k] [41]with
   |true=>rw[e5o hV hk (by rw[hT];exact e1) (by rw[hT];exact e2)]at hp;simp[hd2,hw];exact aX.mk ⟨(d-1,k+1,g),by simp only;omega,by simp only;omega,by simp only;omega,by simp only;omega,hp⟩ (by simp) (by simp;omega)
   |false=>
    rw[e5p hV hk (by rw[hT];exact e1) (by rw[hT];exact e2),hT]at hp;simp[hk,a2P];refine aD.mk mC (oD l[k] [61]) ?_;cases e3:cK l[k] [61]with
    |true=>
     by_cases hd:d<=0
     .rw[e3,if_pos (by simp[hd])]at hp;subst hp;simp[hd]
     .rw[e3,if_neg (by simp[hd])]at hp;simp[hd,hw];exact aX.mk ⟨(d,k+1,g),by simp only;omega,by simp only;omega,by simp only;omega,by simp only;omega,hp⟩ (by simp) (by simp;omega)
    |false=>rw[e3,if_neg (by simp)]at hp;simp[hw];exact aX.mk ⟨(d,k+1,g),by simp only;omega,by simp only;omega,by simp only;omega,by simp only;omega,hp⟩ (by simp) (by simp;omega)
 .rw[e5q hV hk]at hp;subst hp;simp[hk,a2P]
end
end
section
open Go Go.VM
variable {G:GT}
theorem a8w:VM.Enters prog 108:=.mk func108 rfl
theorem c0X:VM.Enters prog 154:=.mk func154 rfl
theorem SW.c4A{P:Program}{α:Type}{b c:Code}{st:St}{Q:Exit->St->Prop}(r:kN α)(st':α->Nat->St)(h1:SW P G b st λe s=>match e with
  | .normal=>∃v j,r=.ok v j/\uN s (st' v j)
  |e=>Q e s)(h2:∀v j,r=.ok v j->SW P G c (st' v j) Q):SW P G (.seq b c) st Q:=SW.jZ (SW.mono (λe s h=>by
 cases e with
 |normal=>obtain⟨v,j,hr,hw⟩:=h;exact SW.a0H hw (h2 v j hr)
 |_=>exact h) h1)
structure a1e (Q:Exit->St->Prop) {α:Type} (r0 r:kN α):Prop where
 eq:r0=r
 bad:∀n e s,r0=.bad n e->Q (.panic (a0a (oX n e))) s
section
variable {α β:Type} {Q:Exit->St->Prop} {i j:Nat} {n e:Int} {a:α} {r0:kN β}
theorem a1e.step{x:aZ α}{f:α->aZ β}(h:a1e Q r0 ((x >>=f) i))(hx:x i=.ok a j):a1e Q r0 (f a j):=⟨h.eq.trans (bN hx),h.bad⟩
theorem a1e.fail{x:aZ α}{f:α->aZ β}(h:a1e Q r0 ((x >>=f) i))(hx:x i=.bad n e)(s:St):Q (.panic (a0a (oX n e))) s:=h.bad _ _ _ (h.eq.trans (gQ hx))
end
theorem d0C{α β γ:Type}(x:aZ α)(f:α->aZ β)(g:β->aZ γ):((x >>=f) >>=g)=(x >>=λa=>f a >>=g):=funext λi=>c4v x f g i
section
variable {aI:List Tok->Nat->Nat->kN Pr} {l:List Tok} (hV:oS G aI l)
include hV
abbrev c0Y(s:b8m):List D:=.sl (strs s.vars)::.sl (s.a0P.map oL)::.sl (s.abs.map oL)::.sl (s.bounds.map c6o)::(tyD s.type++[.sl (s.b9V.map qH)])
omit hV in
theorem d9P(s:b8m):d8V s=c0Y s:=by
 rw[d8V,bU]
 rfl
abbrev c8F(l:List Tok):aZ (List Nm):=do
 let b <- cY l [102,111,114,97,108,108]
 if b then do
  let w <- bL aU l
  let ws <- rN l (λi=>jY aU (aK l i)) (zH l) [w]
  aV l [[46]]
  pure ws
 else pure []
abbrev c8G(l:List Tok):aZ (List psV):=do
 let b <- cY l [119,104,101,114,101]
 if b then do
  let ns <- xW aU l
  aV l [[46]]
  pure ns
 else pure []
abbrev c8H(l:List Tok):aZ (List psV):=do
 let b <- cY l [60]
 if b then do
  let ns <- rO aU l false
  aV l [[62],[46]]
  pure ns
 else pure []
abbrev d4x(aI:List Tok->Nat->Nat->kN Pr)(l:List Tok)(out:List tB):aZ (List tB):=do
 aV l [[98,111,117,110,100]]
 let b <- xX aU aI l
 pure (out++[b])
abbrev c4B(aI:List Tok->Nat->Nat->kN Pr)(l:List Tok):aZ (List tB):=rN l (λi=>aL l i [98,111,117,110,100]) (d4x aI l) []
abbrev d0D(aI:List Tok->Nat->Nat->kN Pr)(l:List Tok)(E:Nat)(out:List Pr):aZ (List Pr):=do
 let p <- (λj=>aI l j E:aZ Pr)
 pure (out++[p])
abbrev e2g(aI:List Tok->Nat->Nat->kN Pr)(l:List Tok):aZ (List Pr):=do
 let b <- cY l [109,101,116,114,105,99]
 if b then(λi=>dE l [44] (d0D aI l (mK l (l.length+1) 0 i)) [] i) else pure []
omit hV in
theorem d4y:a4i aU bQ aI l=(do
  let vs <- c8F l
  let ns <- c8G l
  let abs <- c8H l
  let bs <- c4B aI l
  let t <- kP aU bQ aI l
  let ms <- e2g aI l
  pure ⟨vs,ns,abs,bs,t,ms⟩):=by
 unfold a4i;simp only[d0C]
theorem d4z:aB l 0 (c8F l):=(aB.skip hV.fin _).bl λ_=>aB.ite (((aB.word hV.fin).le (by omega)).bl λ_=>(aB.many (λa=>((aB.word hV.fin).le (by omega)).bl λ_=>aB.bE _) _).bl λ_=>((aB.exp hV.fin _ _).le (by omega)).bl λ_=>aB.bE _) (aB.bE _)
theorem a5T:aB l 1 (xW aU l):=aB.a0P hV.fin
theorem d4A:aB l 0 (c8G l):=(aB.skip hV.fin _).bl λ_=>aB.ite (((a5T hV).le (by omega)).bl λ_=>((aB.exp hV.fin _ _).le (by omega)).bl λ_=>aB.bE _) (aB.bE _)
theorem d4B:aB l 0 (c8H l):=(aB.skip hV.fin _).bl λ_=>aB.ite (((aB.vars hV.fin false).le (by omega)).bl λ_=>((aB.exp hV.fin _ _).le (by omega)).bl λ_=>aB.bE _) (aB.bE _)
theorem b2p:aB l 1 (xX aU aI l):=aB.bound hV.fin hV.sB.pred
theorem d4C(out:List tB):aB l 1 (d4x aI l out):=(aB.exp hV.fin _ _).bl λ_=>((b2p hV).le (by omega)).bl λ_=>aB.bE _
theorem d4D:aB l 0 (c4B aI l):=aB.many (λa=>(d4C hV a).le (by omega)) _
theorem b5L(E:Nat):aB l 0 (λj=>aI l j E:aZ Pr):=λi p j hi hx=>hV.sB E i p j hi hx
theorem d4E(E:Nat)(out:List Pr):aB l 0 (d0D aI l E out):=(b5L hV E).bl λ_=>aB.bE _
theorem d0E(E:Nat)(a:List Pr)(i:Nat)(b:List Pr)(j:Nat)(hi:i<l.length)(h:a.length<=i)(hx:d0D aI l E a i=.ok b j):b.length<=j:=by
 obtain⟨p,k,h1,h2⟩:=bX hx;have h3:=(hV.nod i E p k hi h1).1;have pos:1<=bH p:=by cases p;simp[bH]
 cases h2;simp;omega
def b7r(vs:List Nm)(ns abs:List psV)(bs:List tB)(t:Ty)(E:Nat)(out:List Pr):List (Nat×aW):=[(100001,.cells (.d (.sl (strs vs))::.d (.sl (ns.map oL))::.d (.sl (abs.map oL))::.d (.sl (bs.map c6o))::((tyD t).map .d++[.d (.sl (out.map qH))]))),(100002,.cells [.ptr 100000 0]),(100003,.cells [.d (.int .i64 E)])]
abbrev e8T:List (TypeId×List VM.Loc):=[(43,[.c 100001 13])]
theorem d4F(vs:List Nm)(ns abs:List psV)(bs:List tB)(t:Ty)(E:Nat):a0Y l K4 [.ptr 100001 0,.ptr 100002 0,.ptr 100003 0] (b7r vs ns abs bs t E) e8T:=by
 constructor
 all_goals intros
 all_goals first
  |rfl
  |simp[b7r,aJ,aT,aN,aM,bC,getKey,aQ,bA,cH,rk,cP,bM, *]
theorem c7b(vs:List Nm)(ns abs:List psV)(bs:List tB)(t:Ty)(E:Nat)(hE:E<=l.length)(out:List Pr)(i:Nat)(hi:i<l.length)(a0B:out.length<=i):mX G 154 [.ptr 100001 0,.ptr 100002 0,.ptr 100003 0] (b7r vs ns abs bs t E out) e8T l i (d0D aI l E out i) (λ_=>.bY []) (b7r vs ns abs bs t E):=by
 have hl:=hV.len;obtain⟨j0,rfl⟩:∃j0,j0=i:=⟨_,rfl⟩;have p0:j0<=j0/\j0<l.length:=⟨f7X _,hi⟩;refine mX.bS func154 rfl ntmps154 rfl (by simp) ?_;intro Q Q0;simp[b7r];refine dK 7 (t:=41) (e:=43) (T:=68) (s:=4) (z:=9) (r:=10) (p:=11) (q:=8) (x:=7) (b:=12) (y:=0) (fd:=5) [0] 4 [2,3] (a4C 1 5 6) (gX (aI l j0 E)) rfl rfl rfl rfl rfl (by kernel_rfl) (by kernel_rfl) rfl ?_;simp
 repeat' apply And.intro
 all_goals
  refine pD (x:=λj=>aI l j E) (i:=j0) Q0 p0 a7j ((hV.bef j0 E p0.2 hE)) ((b5L hV E)) λq j1 x1 Q1 p1=>cI.mk ?_;simp;refine⟨_,_,_,_,_,_,_,_,_,by simp,rfl,rfl,?_,rfl,rfl,?_,by simp,rfl,rfl,rfl,rfl,by decide,rfl,?_⟩
  .intro c hc
   first
    |(obtain⟨y,_,rfl⟩:=List.mem_map.1 hc
      rw[cN]
      rfl)
    |(simp only[f7O]at hc
      subst hc
      rfl)
  .simp<;>omega
  exact Q1.ok _ j1 .normal _ rfl (.inl rfl) (by simp[b7r,cN])
abbrev d9Q:List DV:=[.d .aF,.d .aF,.d .aF,.d .aF,.d (.int .i64 0),.d (.str []),.d .aF,.d .aF,.d (.int .i64 0),.d (.str []),.d (.int .i64 0),.d .aF,.d .aF,.d .aF]
abbrev d9R(l:List Tok)(a b c d:D)(j:Nat):St:=⟨.ptr 100000 0::.ptr 1 0::.ptr 2 0::.ptr 3 0::List.replicate 76 .undef,[(1,.cells [.ptr 100000 0]),(2,.cells d9Q),(3,.cells [.d a,.d b,.d c,.d d,.d (.int .i64 0),.d (.str []),.d .aF,.d .aF,.d (.int .i64 0),.d (.str []),.d (.int .i64 0),.d .aF,.d .aF,.d .aF]),(100000,rdO l j)],[]⟩
theorem d4G(v:Bool)(i:Nat)(xs:List psV)(j:Nat)(hi:i<l.length)(h:rO aU l v i=.ok xs j):xs.length<=j:=by unfold rO at h;exact(sR hV (one:=b8G l v) (λa p=>a.length<=p) (λa p b q hp ha hab=>by have h1:=b0R hV v a p b q hp hab;have h2:=b8H hV v a p b q hab;omega) (λa p h=>by omega) _ _ _ _ _ hi (by simp) h).1
theorem b1d(i:Nat)(hi:i<l.length):qT G 108 [] l i (a4i aU bQ aI l i) (λs=>.d (.agg (c0Y s))):=by
 have hl:=hV.len;obtain⟨j0,rfl⟩:∃j0,j0=i:=⟨_,rfl⟩;have p0:j0<=j0/\j0<l.length:=⟨f7X _,hi⟩;refine mX.a1I func108 rfl ntmps108 rfl (by simp) ?_;intro Q Q0;rw[d4y]at Q0;refine SW.jZ (SW.xk ?_);simp;refine SW.jZ (SW.xk ?_);simp;refine SW.c4A (c8F l j0) (λvs j=>d9R l (.sl (strs vs)) .aF .aF .aF j) ?_ λvs j1 x1=>?_
 .skip
  have Q0:=a1e.mk (Q:=Q) (r0:=c8F l j0) rfl λn e s h=>Q0.fail h s;refine SW.jZ (SW.xk ?_);simp;cases hs:aL l j0 [102,111,114,97,108,108]with
  |false=>have Q1:=Q0.step (jU hs);rw[if_neg (by decide)]at Q1;refine xK hs p0 ?_;simp;refine SW.b1V rfl (SW.xk ?_);simp;exact⟨_,_,Q1.eq,by simp[List.replicate]⟩
  |true=>
   have Q1:=Q0.step (jT hs);rw[if_pos rfl]at Q1;refine rdT hs p0 hV.fin λp1=>?_;obtain⟨j1,qW⟩:∃j,j0+1=j:=⟨_,rfl⟩;rw[qW]at Q1 p1|-;simp;refine SW.a7f rfl (SW.xk ?_);simp;refine gH [0] 3 [2] (.op 1 (.call [4,5,6,7] .none) (.call [1,4,5,6,7] .none)) (gX (bL aU l j1)) (by kernel_rfl) (by kernel_rfl) ?_;simp;refine⟨?_,?_⟩
   all_goals
    refine rdZ cQ (dD hV.kw l j1 p1.2 (by omega)) (λw j2 x2=>?_) (λn e hx=>by first|exact Q1.fail hx _|(simp;exact Q1.fail hx _)|(simp;exact λs=>Q1.fail hx s));have Q2:=Q1.step x2;have p2:=aB.word hV.fin j1 w j2 p1.2 x2;refine cI.mk ?_;simp;refine SW.yP (ι:={x:List Nm×Nat×Nat//j2<=x.2.1/\x.2.1<l.length/\l.length<x.2.2+x.2.1/\x.1.length<=x.2.1/\dQ (λi=>jY aU (aK l i)) (zH l) x.2.2 x.1 x.2.1=rN l (λi=>jY aU (aK l i)) (zH l) [w] j2}) (λ_=>[]) (λx=>[(1,.cells [.ptr 100000 0]),(2,.cells d9Q),(3,.cells [.d (.sl (strs x.1.1)),.d .aF,.d .aF,.d .aF,.d (.int .i64 0),.d (.str []),.d .aF,.d .aF,.d (.int .i64 0),.d (.str []),.d (.int .i64 0),.d .aF,.d .aF,.d .aF]),(100000,rdO l x.1.2.1)]) (λ_=>[(9,[.c 3 0])]) (λx=>l.length-x.1.2.1) ⟨([w],j2,l.length+2),f7X _,p2.2,by simp only;omega,by simp only[List.length_singleton];omega,rfl⟩ (by simp[strs]) ?_;rintro⟨⟨out,j3,g⟩,hb,hj3,hg,ho,hp⟩;simp only at hb hj3 hg ho hp;obtain⟨g,rfl⟩:∃k,g=k+1:=⟨g-1,by omega⟩;have p3:j2<=j3/\j3<l.length:=⟨hb,hj3⟩;have ht:=cJ (G:=G) l j3 j3 0 (by omega) (by omega) (by intro e;subst e;simp at hi) (by omega);simp;refine mY (i:=j3) (ds:=[.int .i64 0]) bR ht ?_;simp;refine mQ.mk kQ (mR hV.kw (aK l j3)) ?_;cases hc:jY aU (aK l j3)with
    |true=>
     simp;refine gH [0] 3 [2] (.op 1 (.call [4,5,6,7] .none) (.call [1,4,5,6,7] .none)) (gX (bL aU l j3)) (by kernel_rfl) (by kernel_rfl) ?_;simp;refine⟨?_,?_⟩
     all_goals
      refine rdZ (i:=j3) (ds:=[]) cQ (dD hV.kw l j3 hj3 (by omega)) (λw2 j4 x4=>?_) (λn e hx=>?_)
      .have p4:=aB.word (kw:=aU) hV.fin j3 w2 j4 hj3 x4;have h1:zH l out j3=.ok (out++[w2]) j4:=(bN x4).trans rfl;rw[xL hV hc h1]at hp;refine cI.mk ?_;simp;refine cF (by first|omega|(simp;omega)) ?_;simp;exact aX.mk ⟨(out++[w2],j4,g),by simp only;omega,p4.2,by simp only;omega,by simp;omega,hp⟩ (by simp[a0o]) (by simp;omega)
      .have h1:zH l out j3=.bad n e:=gQ hx;rw[rF hV hc h1]at hp;simp
       first|exact Q2.fail hp.symm _|exact λs=>Q2.fail hp.symm s
    |false=>rw[xM hV hc]at hp;have Q3:=Q2.step hp.symm;simp;refine rdX (hw:=by simp[strs]) (ds:=[.sl (strs [[46]])]) kF (mM l [[46]] j3 p3.2 (by omega) hV.fin (by simp)) (λu4 j4 x4=>?_) (λn e hx=>by first|exact Q3.fail hx _|(simp;exact Q3.fail hx _)|(simp;exact λs=>Q3.fail hx s));have Q4:=Q3.step x4;have p4:=aB.exp hV.fin _ _ j3 u4 j4 p3.2 x4;simp;exact⟨_,_,Q4.eq,by simp[List.replicate]⟩
 have Q0:=Q0.step x1;have p1:=d4z hV j0 vs j1 p0.2 x1
 clear p0 x1
 have p0:j1<=j1/\j1<l.length:=⟨f7X _,p1.2⟩
 clear p1 hi
 obtain⟨j0,rfl⟩:∃j,j=j1:=⟨_,rfl⟩;refine SW.c4A (c8G l j0) (λns j=>d9R l (.sl (strs vs)) (.sl (ns.map oL)) .aF .aF j) ?_ λns j1 x1=>?_
 .skip
  have Q0:=a1e.mk (Q:=Q) (r0:=c8G l j0) rfl λn e s h=>Q0.fail h s;refine SW.jZ (SW.xk ?_);simp[List.replicate];cases hs:aL l j0 [119,104,101,114,101]with
  |false=>have Q1:=Q0.step (jU hs);rw[if_neg (by decide)]at Q1;refine xK hs p0 ?_;simp;refine SW.b1V rfl (SW.xk ?_);simp;exact⟨_,_,Q1.eq,by simp[List.replicate]⟩
  |true=>have Q1:=Q0.step (jT hs);rw[if_pos rfl]at Q1;refine rdT hs p0 hV.fin λp1=>?_;obtain⟨j1,qW⟩:∃j,j0+1=j:=⟨_,rfl⟩;rw[qW]at Q1 p1|-;simp;refine SW.a7f rfl (SW.xk ?_);simp;refine rdX b0c ((b2o hV j1 p1.2)) (λns j2 x2=>?_) (λn e hx=>by first|exact Q1.fail hx _|(simp;exact Q1.fail hx _)|(simp;exact λs=>Q1.fail hx s));have Q2:=Q1.step x2;have p2:=a5T hV j1 ns j2 p1.2 x2;simp;refine rdX (hw:=by simp[strs]) (ds:=[.sl (strs [[46]])]) kF (mM l [[46]] j2 p2.2 (by omega) hV.fin (by simp)) (λu3 j3 x3=>?_) (λn e hx=>by first|exact Q2.fail hx _|(simp;exact Q2.fail hx _)|(simp;exact λs=>Q2.fail hx s));have Q3:=Q2.step x3;have p3:=aB.exp hV.fin _ _ j2 u3 j3 p2.2 x3;simp;exact⟨_,_,Q3.eq,by simp[List.replicate]⟩
 have Q0:=Q0.step x1;have p1:=d4A hV j0 ns j1 p0.2 x1
 clear p0 x1
 have p0:j1<=j1/\j1<l.length:=⟨f7X _,p1.2⟩
 clear p1
 obtain⟨j0,rfl⟩:∃j,j=j1:=⟨_,rfl⟩;refine SW.c4A (c8H l j0) (λabs j=>d9R l (.sl (strs vs)) (.sl (ns.map oL)) (.sl (abs.map oL)) .aF j) ?_ λabs j1 x1=>?_
 .skip
  have Q0:=a1e.mk (Q:=Q) (r0:=c8H l j0) rfl λn e s h=>Q0.fail h s;refine SW.jZ (SW.xk ?_);simp[List.replicate];cases hs:aL l j0 [60]with
  |false=>have Q1:=Q0.step (jU hs);rw[if_neg (by decide)]at Q1;refine xK hs p0 ?_;simp;refine SW.b1V rfl (SW.xk ?_);simp;exact⟨_,_,Q1.eq,by simp[List.replicate]⟩
  |true=>
   have Q1:=Q0.step (jT hs);rw[if_pos rfl]at Q1;refine rdT hs p0 hV.fin λp1=>?_;obtain⟨j1,qW⟩:∃j,j0+1=j:=⟨_,rfl⟩;rw[qW]at Q1 p1|-;simp;refine SW.a7f rfl (SW.xk ?_);simp;refine rdX a1T ((a3K hV false j1 p1.2)) (λxs j2 x2=>?_) (λn e hx=>by first|exact Q1.fail hx _|(simp;exact Q1.fail hx _)|(simp;exact λs=>Q1.fail hx s));have Q2:=Q1.step x2;have p2:=(aB.vars hV.fin false) j1 xs j2 p1.2 x2;have hxs:=d4G hV false j1 xs j2 p1.2 x2;simp;refine SW.yP (ι:={k:Nat//k<=xs.length}) (λk=>[(42,.d (.int .i64 k.1))]) (λk=>[(1,.cells [.ptr 100000 0]),(2,.cells d9Q),(3,.cells [.d (.sl (strs vs)),.d (.sl (ns.map oL)),.d (.sl ((xs.take k.1).map oL)),.d .aF,.d (.int .i64 0),.d (.str []),.d .aF,.d .aF,.d (.int .i64 0),.d (.str []),.d (.int .i64 0),.d .aF,.d .aF,.d .aF]),(100000,rdO l j2)]) (λ_=>[(161,[.c 3 2])]) (λk=>xs.length-k.1) ⟨0,Nat.zero_le _⟩ (by simp) ?_;rintro⟨k,hk⟩;by_cases aE:k<xs.length
   .have hg:(xs.map oL)[k]? =some [.str xs[k].1,.str xs[k].2]:=by simp[aE,oL]
    have hw:=aY (show k<9223372036854775807 by omega);have htk:(xs.map oL).take (k+1)=(xs.map oL).take k++[[.str xs[k].1,.str xs[k].2]]:=by rw[f7W (by simpa using aE)];simp[oL]
    simp[aE,hg,oL];refine qZ ⟨λx hx=>d3Q hV xs x (List.mem_of_mem_take hx),by omega⟩ ?_;simp[hw];exact aX.mk ⟨k+1,aE⟩ (by simp[htk]) (by simp;omega)
   .have htk:xs.take k=xs:=List.take_of_length_le (by omega);simp[aE,htk];refine rdX (hw:=by simp[strs]) (ds:=[.sl (strs [[62],[46]])]) kF (mM l [[62],[46]] j2 p2.2 (by omega) hV.fin (by simp)) (λu3 j3 x3=>?_) (λn e hx=>by first|exact Q2.fail hx _|(simp;exact Q2.fail hx _)|(simp;exact λs=>Q2.fail hx s));have Q3:=Q2.step x3;have p3:=aB.exp hV.fin _ _ j2 u3 j3 p2.2 x3;simp;exact⟨_,_,Q3.eq,by simp[List.replicate]⟩
 have Q0:=Q0.step x1;have p1:=d4B hV j0 abs j1 p0.2 x1
 clear p0 x1
 have p0:j1<=j1/\j1<l.length:=⟨f7X _,p1.2⟩
 clear p1
 obtain⟨j0,rfl⟩:∃j,j=j1:=⟨_,rfl⟩;refine SW.c4A (c4B aI l j0) (λbs j=>d9R l (.sl (strs vs)) (.sl (ns.map oL)) (.sl (abs.map oL)) (.sl (bs.map c6o)) j) ?_ λbs j1 x1=>?_
 .skip
  have Q0:=a1e.mk (Q:=Q) (r0:=c4B aI l j0) rfl λn e s h=>Q0.fail h s;refine SW.xk ?_;simp[List.replicate];refine SW.yP (ι:={x:List tB×Nat×Nat//j0<=x.2.1/\x.2.1<l.length/\l.length<x.2.2+x.2.1/\x.1.length<=x.2.1/\dQ (λi=>aL l i [98,111,117,110,100]) (d4x aI l) x.2.2 x.1 x.2.1=c4B aI l j0}) (λ_=>[]) (λx=>[(1,.cells [.ptr 100000 0]),(2,.cells d9Q),(3,.cells [.d (.sl (strs vs)),.d (.sl (ns.map oL)),.d (.sl (abs.map oL)),.d (.sl (x.1.1.map c6o)),.d (.int .i64 0),.d (.str []),.d .aF,.d .aF,.d (.int .i64 0),.d (.str []),.d (.int .i64 0),.d .aF,.d .aF,.d .aF]),(100000,rdO l x.1.2.1)]) (λ_=>[(163,[.c 3 3])]) (λx=>l.length-x.1.2.1) ⟨([],j0,l.length+2),f7X _,p0.2,by simp only;omega,by simp,rfl⟩ (by simp) ?_;rintro⟨⟨out,j3,g⟩,hb,hj3,hg,ho,hp⟩;simp only at hb hj3 hg ho hp;obtain⟨g,rfl⟩:∃k,g=k+1:=⟨g-1,by omega⟩;have p3:j0<=j3/\j3<l.length:=⟨hb,hj3⟩;simp;cases hc:aL l j3 [98,111,117,110,100]with
  |true=>
   have hn:=aH hV.fin hj3 hc;refine rdT hc p3 hV.fin λp4=>?_;simp;refine gH [0] 3 [2] (.op 1 (.call [4,5,6,7] .none) (.call [1,4,5,6,7] .none)) (gX (xX aU aI l (j3+1))) (by kernel_rfl) (by kernel_rfl) ?_;simp;refine⟨?_,?_⟩
   all_goals
    refine rdZ (i:=j3+1) (ds:=[]) c0U (c4z hV (j3+1) hn) (λb j4 x4=>?_) (λn e hx=>?_)
    .have p4:=b2p hV (j3+1) b j4 hn x4;have h0:aV l [[98,111,117,110,100]] j3=.ok () (j3+1):=(c0v hc).trans rfl;have h1:d4x aI l out j3=.ok (out++[b]) j4:=(bN h0).trans ((bN x4).trans rfl);rw[xL hV hc h1]at hp;refine cI.mk ?_;simp;refine cF (by first|omega|exact⟨λx _=>by rw[c8E];rfl,by omega⟩|(simp;omega)) ?_;simp;exact aX.mk ⟨(out++[b],j4,g),by simp only;omega,p4.2,by simp only;omega,by simp;omega,hp⟩ (by simp[c8E]) (by simp;omega)
    .have h0:aV l [[98,111,117,110,100]] j3=.ok () (j3+1):=(c0v hc).trans rfl;have h1:d4x aI l out j3=.bad n e:=(bN h0).trans (gQ hx);rw[rF hV hc h1]at hp;simp
     first|exact Q0.bad _ _ _ hp.symm|exact λs=>Q0.bad _ _ s hp.symm
  |false=>rw[xM hV hc]at hp;refine xK hc p3 ?_;simp;exact⟨_,_,hp.symm,by simp[List.replicate]⟩
 have Q1:=Q0.step x1;have p1:=d4D hV j0 bs j1 p0.2 x1;refine SW.xk ?_;simp[List.replicate];refine rP Q1 p1 cO ((oF hV j1 p1.2)) (jF hV) λt j2 x2 Q2 p2=>?_;simp;cases hs:aL l j2 [109,101,116,114,105,99]with
 |false=>have Q3:=Q2.step (a:=[]) (j:=j2) ((bN (jU hs)).trans rfl);refine xK hs p2 ?_;simp;exact Q3.ok _ j2 _ _ rfl (.inr rfl) (by simp)
 |true=>
  have e1:e2g aI l j2=dE l [44] (d0D aI l (mK l (l.length+1) 0 (j2+1))) [] (j2+1):=(bN (jT hs)).trans rfl;refine rdT hs p2 hV.fin λp3=>?_;obtain⟨j3,hj3⟩:∃j,j2+1=j:=⟨_,rfl⟩;rw[hj3]at e1 p3|-;simp;have heq:=b5K hV j3 p3.2;have hE:=b3m hV (l.length+1) 0 j3;refine mY (ds:=[]) b2O heq ?_;generalize mK l (l.length+1) 0 j3=E at e1 hE|-;simp;have kD:=eP hV [44] (d0D aI l E) (λout i=>out.length<=i) 0 c0X (d4F hV vs ns abs bs t E) (λa=>d4E hV E a) (λa i _ hi h=>c7b hV vs ns abs bs t E hE a i hi h) (d0E hV E) (λa i h=>by omega) [] j3 (by omega) p3.2 (by simp);refine dC.mk (a0b dH kD [(100000,100000),(100001,3),(100002,1),(100003,6)] (λa j hx=>?_) ?_ ?_ ?_ rfl rfl (λms j4 x4=>?_) (λn e wN=>Q2.fail (e1.trans wN) _))
  .simp[b7r,aJ,aT,aN,aM,bC,getKey]
  .simp[b7r,aJ,aT,aN,aM,bC,getKey]
  .simp[aQ,bA,rk]
  .simp[b7r,aQ,bA,rk,cH,cP]
  .have Q4:=Q2.step (e1.trans x4);simp[bD,b7r,aQ,bA,rk,cH,cP,bM,jA,eZ,dJ];exact Q4.ok _ j4 _ _ rfl (.inr rfl) (by simp)
end
end
section
open Go Go.VM
variable {G:GT}
theorem c0Z:VM.Enters prog 69:=.mk func69 rfl
theorem b5M:VM.Enters prog 115:=.mk func115 rfl
theorem b7s:VM.Enters prog 70:=.mk func70 rfl
theorem b2P:VM.Enters prog 118:=.mk func118 rfl
theorem b3n(a:Nm×List Nm×jL):c3k a=[.str a.1,.sl (strs a.2.1),.int .i64 a.2.2.op,.str a.2.2.name,.int .i64 a.2.2.n,.sl (a.2.2.kids.map a6M),.sl (a.2.2.params.map b4z),.sl (a.2.2.alts.map c3k),.sl (a.2.2.types.map tyC)]:=by rw[c3k,dX]
theorem a6F(p:Nm×Ty):b4z p=.str p.1::tyD p.2:=by rw[b4z,bU]
abbrev b5N:=Nm×List Nm×jL
section
variable {aI:List Tok->Nat->Nat->kN Pr} {l:List Tok} (hV:oS G aI l)
include hV
section
variable {ex:Nat->aZ jL} {low:Nat} (hex:∀i,low<=i->i<l.length->qT G 34 [] l i (ex 0 i) tX) (mV:∀k,aB l 1 (ex k))
include hex mV
def a1f(e:jL)(out:List b5N):List (Nat×aW):=[(100001,.cells [.ptr 100000 0]),(100002,.cells [.d (.int .i64 9),.d (.str []),.d (.int .i64 0),.d (.sl [a6M e]),.d (.sl []),.d (.sl (out.map c3k)),.d (.sl [])])]
abbrev d4H:List (TypeId×List VM.Loc):=[(91,[.c 100002 5])]
abbrev d9S(l:List Tok)(ex:Nat->aZ jL)(out:List b5N):aZ (List b5N):=do
 let c <- jB l
 let ns <- (λi=>if aL l i [40] then gG aU l i else .ok [] i:aZ (List Nm))
 aV l [[45,62]]
 let b <- ex 0
 pure (out++[(c,ns,b)])
omit hex mV in
theorem c7c(e:jL):a0Y l K3 [.ptr 100001 0,.ptr 100002 0] (a1f e) d4H:=by
 constructor
 all_goals intros
 all_goals first
  |rfl
  |simp[a1f,aJ,aT,aN,aM,bC,getKey,aQ,bA,cH,rk,cP,bM, *]
omit hex in
theorem b5O(out:List b5N):aB l 1 (d9S l ex out):=by
 refine(aB.title hV.fin).bl λ_=>aB.bl (λi b j hi h=>?_) λ_=>((aB.exp hV.fin _ _).le (by omega)).bl λ_=>((mV 0).le (by omega)).bl λ_=>aB.bE _;split at h
 .exact((aB.words hV.fin).le (by omega)) _ _ _ hi h
 .cases h;omega
omit hex in
theorem d0F(a:List b5N)(i:Nat)(b:List b5N)(j:Nat)(hi:i<l.length)(h:a.length<=i)(hx:d9S l ex a i=.ok b j):b.length<=j:=by have h1:=b5O hV mV a i b j hi hx;obtain⟨_,_,_,hx⟩:=bX hx;obtain⟨_,_,_,hx⟩:=bX hx;obtain⟨_,_,_,hx⟩:=bX hx;obtain⟨_,_,_,hx⟩:=bX hx;cases hx;simp;omega
theorem c1a(e:jL)(out:List b5N)(i:Nat)(gW:low<=i)(hi:i<l.length)(a0B:out.length<=i):mX G 115 [.ptr 100001 0,.ptr 100002 0] (a1f e out) d4H l i (d9S l ex out i) (λ_=>.bY []) (a1f e):=by
 have hl:=hV.len;obtain⟨j0,rfl⟩:∃j0,j0=i:=⟨_,rfl⟩;have p0:j0<=j0/\j0<l.length:=⟨f7X _,hi⟩;refine mX.bS func115 rfl ntmps115 rfl (by simp) ?_;intro Q Q0;simp[a1f];refine rP Q0 p0 jD (kR l j0 p0.2 (by omega)) (aB.title hV.fin) λc j1 x1 Q1 p1=>?_;simp;have hb:=jS (G:=G) l j1 [40] p1.2 (by omega);refine mY (ds:=[.str [40]]) eV hb ?_;cases hs:aL l j1 [40]with
 |false=>
  have Q1:=Q1.step (a:=[]) (j:=j1) (by simp[hs]);simp;refine dG Q1 p1 hV.fin λu4 j4 x4 Q4 p4=>?_;simp;refine rP Q4 p4 cA ((hex j4 (by omega) p4.2)) (mV 0) λb j5 x5 Q5 p5=>?_;simp;refine a1O (m:=5) (t:=27) (e:=91) (T:=30) (s:=18) (z:=21) (r:=22) (p:=23) (q:=20) (x:=19) (b:=24) (y:=1) (fd:=5) rfl rfl rfl rfl rfl (by kernel_rfl) (by kernel_rfl) rfl rfl ?_;simp;refine⟨_,_,_,_,_,_,_,_,_,by simp,rfl,rfl,?_,rfl,rfl,?_,by simp,rfl,rfl,rfl,rfl,by decide,rfl,?_⟩
  .intro c hc
   first
    |(obtain⟨y,_,rfl⟩:=List.mem_map.1 hc
      rw[b3n]
      rfl)
    |(simp only[f7O]at hc
      subst hc
      rfl)
  .simp<;>omega
  exact Q5.ok _ j5 .normal _ rfl (.inl rfl) (by simp[a1f,b3n,xE])
 |true=>
  have e1:(λi=>if aL l i [40] then gG aU l i else .ok [] i:aZ (List Nm)) j1=gG aU l j1:=by simp[hs]
  simp;refine rdX a3J (a5F hV j1 p1.2) (λns j3 x3=>?_) (λn e hx=>by first|exact Q1.fail (e1.trans hx) _|(simp;exact Q1.fail (e1.trans hx) _)|(simp;exact λs=>Q1.fail (e1.trans hx) s));have Q3:=Q1.step (e1.trans x3);have p3:=aB.words hV.fin j1 ns j3 p1.2 x3;simp;refine dG Q3 p3 hV.fin λu4 j4 x4 Q4 p4=>?_;simp;refine rP Q4 p4 cA ((hex j4 (by omega) p4.2)) (mV 0) λb j5 x5 Q5 p5=>?_;simp;refine a1O (m:=5) (t:=27) (e:=91) (T:=30) (s:=18) (z:=21) (r:=22) (p:=23) (q:=20) (x:=19) (b:=24) (y:=1) (fd:=5) rfl rfl rfl rfl rfl (by kernel_rfl) (by kernel_rfl) rfl rfl ?_;simp;refine⟨_,_,_,_,_,_,_,_,_,by simp,rfl,rfl,?_,rfl,rfl,?_,by simp,rfl,rfl,rfl,rfl,by decide,rfl,?_⟩
  .intro c hc
   first
    |(obtain⟨y,_,rfl⟩:=List.mem_map.1 hc
      rw[b3n]
      rfl)
    |(simp only[f7O]at hc
      subst hc
      rfl)
  .simp<;>omega
  exact Q5.ok _ j5 .normal _ rfl (.inl rfl) (by simp[a1f,b3n,xE])
theorem c4C(i:Nat)(gW:low<=i)(hi:i<l.length):qT G 69 [] l i (a0Q aU l ex i) tX:=by
 have hl:=hV.len;obtain⟨j0,rfl⟩:∃j0,j0=i:=⟨_,rfl⟩;have p0:j0<=j0/\j0<l.length:=⟨f7X _,hi⟩;refine mX.bS func69 rfl ntmps69 rfl (by simp) ?_;intro Q Q0;unfold a0Q at Q0;simp;refine rP Q0 p0 cA ((hex j0 gW p0.2)) (mV 0) λe j1 x1 Q1 p1=>?_;simp;refine mQ.mk cD (d0y 9 e) ?_;simp;refine dG Q1 p1 hV.fin λu2 j2 x2 Q2 p2=>?_;simp;have kD:=eP hV [59] (d9S l ex) (λout i=>out.length<=i) low b5M (c7c hV e) (λa=>(b5O hV mV a).le (by omega)) (λa i rT hi h=>c1a hV hex mV e a i rT hi h) (d0F hV mV) (λa i h=>by omega) [] j2 (by omega) p2.2 (by simp);refine dC.mk (a0b dH kD [(100000,100000),(100001,1),(100002,3)] (λa j hx=>?_) ?_ ?_ ?_ rfl rfl (λws j3 x3=>?_) (λn e wN=>Q2.fail wN _))
 .simp[a1f,aJ,aT,aN,aM,bC,getKey]
 .simp[a1f,aJ,aT,aN,aM,bC,getKey]
 .simp[aQ,bA,rk]
 .simp[a1f,aQ,bA,rk,cH,cP]
 .have Q3:=Q2.step x3;have p3:=aB.list hV.fin (λa=>b5O hV mV a) [] j2 ws j3 p2.2 x3;simp[bD,a1f,aQ,bA,rk,cH,cP,bM,jA,eZ,dJ];refine dG Q3 p3 hV.fin λu4 j4 x4 Q4 p4=>?_;simp;exact Q4.ok _ j4 _ _ rfl (.inr rfl) (by simp)
end
def b5P(out:List (Nm×Ty)):List (Nat×aW):=[(100001,.cells [.ptr 100000 0]),(100002,.cells [.d (.int .i64 6),.d (.str []),.d (.int .i64 0),.d (.sl []),.d (.sl (out.map b4z)),.d (.sl []),.d (.sl [])])]
abbrev e8U:List (TypeId×List VM.Loc):=[(135,[.c 100002 4])]
abbrev d9T(aI:List Tok->Nat->Nat->kN Pr)(l:List Tok)(out:List (Nm×Ty)):aZ (List (Nm×Ty)):=do
 let w <- bL aU l
 let b <- cY l [58]
 let t <- (if b then kP aU bQ aI l else pure mW)
 pure (out++[(w,t)])
theorem d4I:a0Y l K3 [.ptr 100001 0,.ptr 100002 0] b5P e8U:=by
 constructor
 all_goals intros
 all_goals first
  |rfl
  |simp[b5P,aJ,aT,aN,aM,bC,getKey,aQ,bA,cH,rk,cP,bM, *]
theorem b5Q(out:List (Nm×Ty)):aB l 1 (d9T aI l out):=(aB.word hV.fin).bl λ_=>(aB.skip hV.fin _).bl λ_=>aB.bl (aB.ite ((jF hV).le (by omega)) (aB.bE _)) λ_=>aB.bE _
theorem d0G(a:List (Nm×Ty))(i:Nat)(b:List (Nm×Ty))(j:Nat)(hi:i<l.length)(h:a.length<=i)(hx:d9T aI l a i=.ok b j):b.length<=j:=by have h1:=b5Q hV a i b j hi hx;obtain⟨_,_,_,hx⟩:=bX hx;obtain⟨_,_,_,hx⟩:=bX hx;obtain⟨_,_,_,hx⟩:=bX hx;cases hx;simp;omega
theorem c7d(out:List (Nm×Ty))(i:Nat)(hi:i<l.length)(a0B:out.length<=i):mX G 118 [.ptr 100001 0,.ptr 100002 0] (b5P out) e8U l i (d9T aI l out i) (λ_=>.bY []) b5P:=by
 have hl:=hV.len;obtain⟨j0,rfl⟩:∃j0,j0=i:=⟨_,rfl⟩;have p0:j0<=j0/\j0<l.length:=⟨f7X _,hi⟩;refine mX.bS func118 rfl ntmps118 rfl (by simp) ?_;intro Q Q0;simp[b5P];refine rP Q0 p0 cQ (dD hV.kw l j0 p0.2 (by omega)) (aB.word hV.fin) λc j1 x1 Q1 p1=>?_;simp;cases hs:aL l j1 [58]with
 |false=>
  have Q2:=Q1.step (jU hs);rw[if_neg (by decide)]at Q2;refine xK hs p1 ?_;simp;have Q3:=Q2.step (gF _ _);refine qZ ⟨rfl,f7K.2 λc hc=>?_,?_⟩ ?_
  .obtain⟨y,_,rfl⟩:=List.mem_map.1 hc;rw[a6F]
   rfl
  .have hb:prog.bytesOf 135<=1000:=by decide
   rw[List.length_map]
   calc (out.length+1)*(prog.bytesOf 135+1)<=50001*1001:=Nat.mul_le_mul (by omega) (by omega)
    _<=140737488355328:=by decide
  simp;exact Q3.ok _ j1 .normal _ rfl (.inl rfl) (by simp[b5P,a6F,mW,eA,xE])
 |true=>
  have Q2:=Q1.step (jT hs);rw[if_pos rfl]at Q2;refine rdT hs p1 hV.fin λp2=>?_;obtain⟨j2,sM⟩:∃j2,j1+1=j2:=⟨_,rfl⟩;rw[sM]at Q2 p2|-;simp;refine rP Q2 p2 cO ((oF hV j2 p2.2)) (jF hV) λt j3 x3 Q3 p3=>?_;simp;refine qZ ⟨rfl,f7K.2 λc hc=>?_,?_⟩ ?_
  .obtain⟨y,_,rfl⟩:=List.mem_map.1 hc;rw[a6F]
   rfl
  .have hb:prog.bytesOf 135<=1000:=by decide
   rw[List.length_map]
   calc (out.length+1)*(prog.bytesOf 135+1)<=50001*1001:=Nat.mul_le_mul (by omega) (by omega)
    _<=140737488355328:=by decide
  simp;exact Q3.ok _ j3 .normal _ rfl (.inl rfl) (by simp[b5P,a6F,xE])
section
variable {ex:Nat->aZ jL} {low:Nat} (hex:∀i,low<=i->i<l.length->qT G 34 [] l i (ex 0 i) tX) (mV:∀k,aB l 1 (ex k))
include hex mV
theorem c1b(i:Nat)(gW:low<=i)(hi:i<l.length):qT G 70 [] l i (a7T aU bQ aI l ex i) tX:=by
 have hl:=hV.len;obtain⟨j0,rfl⟩:∃j0,j0=i:=⟨_,rfl⟩;have p0:j0<=j0/\j0<l.length:=⟨f7X _,hi⟩;refine mX.bS func70 rfl ntmps70 rfl (by simp) ?_;intro Q Q0;unfold a7T at Q0;simp;refine dG Q0 p0 hV.fin λu1 j1 x1 Q1 p1=>?_;simp;have kD:=eP hV [44] (d9T aI l) (λout i=>out.length<=i) 0 b2P (d4I hV) (λa=>(b5Q hV a).le (by omega)) (λa i rT hi h=>c7d hV a i hi h) (d0G hV) (λa i h=>by omega) [] j1 (by omega) p1.2 (by simp);refine dC.mk (a0b dH kD [(100000,100000),(100001,1),(100002,3)] (λa j hx=>?_) ?_ ?_ ?_ rfl rfl (λws j2 x2=>?_) (λn e wN=>Q1.fail wN _))
 .simp[b5P,aJ,aT,aN,aM,bC,getKey]
 .simp[b5P,aJ,aT,aN,aM,bC,getKey]
 .simp[aQ,bA,rk]
 .simp[b5P,aQ,bA,rk,cH,cP]
 .have Q2:=Q1.step x2;have p2:=aB.list hV.fin (λa=>b5Q hV a) [] j1 ws j2 p1.2 x2;simp[bD,b5P,aQ,bA,rk,cH,cP,bM,jA,eZ,dJ];refine dG Q2 p2 hV.fin λu3 j3 x3 Q3 p3=>?_;simp;refine rP Q3 p3 cA ((hex j3 (by omega) p3.2)) (mV 0) λe j4 x4 Q4 p4=>?_;simp;exact Q4.ok _ j4 _ _ rfl (.inr rfl) (by simp[dX])
end
end
end
section
open Go Go.VM
variable {G:GT}
theorem b2Q:VM.Enters prog 79:=.mk func79 rfl
theorem a1Y:VM.Enters prog 133:=.mk func133 rfl
theorem a6P:VM.Enters prog 134:=.mk func134 rfl
section
variable {aI:List Tok->Nat->Nat->kN Pr} {l:List Tok} (hV:oS G aI l)
include hV
def b7t(nm:Nm)(out:List Nm×List Ty):List (Nat×aW):=[(100001,.cells [.d (.str nm),.d (.sl (strs out.1)),.d (.sl (out.2.map tyC))]),(100002,.cells [.ptr 100000 0])]
abbrev e8V:List (TypeId×List VM.Loc):=[(9,[.c 100001 1]),(45,[.c 100001 2])]
abbrev d9U(aI:List Tok->Nat->Nat->kN Pr)(l:List Tok)(out:List Nm×List Ty):aZ (List Nm×List Ty):=do
 let w <- bL aU l
 aV l [[58]]
 let t <- kP aU bQ aI l
 pure (out.1++[w],out.2++[t])
theorem d4J(nm:Nm):a0Y l K3 [.ptr 100001 0,.ptr 100002 0] (b7t nm) e8V:=by
 constructor
 all_goals intros
 all_goals first
  |rfl
  |simp[b7t,aJ,aT,aN,aM,bC,getKey,aQ,bA,cH,rk,cP,bM, *]
theorem b5R(out:List Nm×List Ty):aB l 1 (d9U aI l out):=(aB.word hV.fin).bl λ_=>((aB.exp hV.fin _ _).le (by omega)).bl λ_=>((jF hV).le (by omega)).bl λ_=>aB.bE _
theorem d0H(a:List Nm×List Ty)(i:Nat)(b:List Nm×List Ty)(j:Nat)(hi:i<l.length)(h:a.1.length<=i/\a.2.length<=i)(hx:d9U aI l a i=.ok b j):b.1.length<=j/\b.2.length<=j:=by have h1:=b5R hV a i b j hi hx;have h2:=b8O a i b j hx;omega
theorem c7e(nm:Nm)(out:List Nm×List Ty)(i:Nat)(hi:i<l.length)(a0B:out.1.length<=i/\out.2.length<=i):mX G 134 [.ptr 100001 0,.ptr 100002 0] (b7t nm out) e8V l i (d9U aI l out i) (λ_=>.bY []) (b7t nm):=by
 have hl:=hV.len;obtain⟨j0,rfl⟩:∃j0,j0=i:=⟨_,rfl⟩;have p0:j0<=j0/\j0<l.length:=⟨f7X _,hi⟩;refine mX.bS func134 rfl ntmps134 rfl (by simp) ?_;intro Q Q0;simp[b7t];refine gH [0] 3 [2] (.op 1 (.call [4,5,6,7] .none) (.call [1,4,5,6,7] .none)) (gX (bL aU l j0)) (by kernel_rfl) (by kernel_rfl) ?_;simp;refine⟨?_,?_⟩
 all_goals
  refine pD Q0 p0 cQ (dD hV.kw l j0 p0.2 (by omega)) (aB.word hV.fin) λw j1 x1 Q1 p1=>cI.mk ?_;simp;refine cF (by omega) ?_;simp;refine dG Q1 p1 hV.fin λu2 j2 x2 Q2 p2=>?_;simp;refine dK 6 (t:=28) (e:=45) (T:=147) (s:=13) (z:=17) (r:=18) (p:=19) (q:=16) (x:=15) (b:=20) (y:=0) (fd:=2) [0] 3 [2] (a4C 1 4 5) (gX (kP aU bQ aI l j2)) rfl rfl rfl rfl rfl (by kernel_rfl) (by kernel_rfl) rfl ?_;simp
  repeat' apply And.intro
  all_goals
   refine pD Q2 p2 cO ((oF hV j2 p2.2)) (jF hV) λt j3 x3 Q3 p3=>cI.mk ?_;simp;refine⟨_,_,_,_,_,_,_,_,_,by simp,rfl,rfl,?_,rfl,rfl,?_,by simp,rfl,rfl,rfl,rfl,by decide,rfl,?_⟩
   .intro c hc
    first
     |(obtain⟨y,_,rfl⟩:=List.mem_map.1 hc
       rw[bU]
       rfl)
     |(simp only[f7O]at hc
       subst hc
       rfl)
   .simp<;>omega
   exact Q3.ok _ j3 .normal _ rfl (.inl rfl) (by simp[b7t,bU,a0o])
def a8x(nm:Nm)(vs:List Nm)(ps:List psV)(out:List a7b):List (Nat×aW):=[(100001,.cells [.ptr 100000 0]),(100002,.cells [.d (.str nm),.d (.sl (strs vs)),.d (.sl (ps.map oL)),.d (.sl (out.map b8n))])]
abbrev e8W:List (TypeId×List VM.Loc):=[(147,[.c 100002 3])]
abbrev d0I(aI:List Tok->Nat->Nat->kN Pr)(l:List Tok)(out:List a7b):aZ (List a7b):=do
 let c <- b1R aU bQ aI l
 pure (out++[c])
theorem d0J:aB l 1 (b1R aU bQ aI l):=aB.con hV.fin hV.sB.pred
theorem b5S(out:List a7b):aB l 1 (d0I aI l out):=(d0J hV).bl λ_=>aB.bE _
theorem b8Y(a:List a7b)(i:Nat)(b:List a7b)(j:Nat)(hi:i<l.length)(h:a.length<=i)(hx:d0I aI l a i=.ok b j):b.length<=j:=by have h1:=b5S hV a i b j hi hx;obtain⟨_,_,_,hx⟩:=bX hx;cases hx;simp;omega
theorem c4D(nm:Nm)(vs:List Nm)(ps:List psV):a0Y l K3 [.ptr 100001 0,.ptr 100002 0] (a8x nm vs ps) e8W:=by
 constructor
 all_goals intros
 all_goals first
  |rfl
  |simp[a8x,aJ,aT,aN,aM,bC,getKey,aQ,bA,cH,rk,cP,bM, *]
theorem b5T(nm:Nm)(vs:List Nm)(ps:List psV)(out:List a7b)(i:Nat)(hi:i<l.length)(a0B:out.length<=i):mX G 133 [.ptr 100001 0,.ptr 100002 0] (a8x nm vs ps out) e8W l i (d0I aI l out i) (λ_=>.bY []) (a8x nm vs ps):=by
 have hl:=hV.len;obtain⟨j0,rfl⟩:∃j0,j0=i:=⟨_,rfl⟩;have p0:j0<=j0/\j0<l.length:=⟨f7X _,hi⟩;refine mX.bS func133 rfl ntmps133 rfl (by simp) ?_;intro Q Q0;unfold d0I b1R at Q0;have Q0:=Q0.assoc;simp[a8x];refine rP Q0 p0 jD (kR l j0 p0.2 (by omega)) (aB.title hV.fin) λc j1 x1 Q1 p1=>?_;have Q1:=Q1.assoc;simp;cases hs:aL l j1 [40]with
 |false=>have Q2:=Q1.step (jU hs);rw[if_neg (by decide)]at Q2;have Q2:=Q2.step (gF _ _);refine xK hs p1 ?_;simp;refine qZ ⟨λx _=>rfl,by omega⟩ ?_;simp;exact Q2.ok _ j1 .normal _ rfl (.inl rfl) (by simp[a8x,b8n,xE])
 |true=>
  have Q2:=Q1.step (jT hs);rw[if_pos rfl]at Q2;refine rdT hs p1 hV.fin λp2=>?_;obtain⟨j2,sM⟩:∃j,j1+1=j:=⟨_,rfl⟩;rw[sM]at Q2 p2|-;have Q2:=Q2.assoc;simp;have kD:=eP hV [44] (d9U aI l) (λout i=>out.1.length<=i/\out.2.length<=i) 0 a6P (d4J hV c) (λa=>(b5R hV a).le (by omega)) (λa i rT hi h=>c7e hV c a i hi h) (d0H hV) (λa i h=>by omega) ([],[]) j2 (by omega) p2.2 (by simp);refine dC.mk (a0b dH kD [(100000,100000),(100001,2),(100002,100001)] (λa j hx=>?_) ?_ ?_ ?_ rfl rfl (λws j3 x3=>?_) (λn e wN=>Q2.fail wN _))
  .simp[b7t,aJ,aT,aN,aM,bC,getKey]
  .simp[b7t,aJ,aT,aN,aM,bC,getKey]
  .simp[aQ,bA,rk]
  .simp[b7t,aQ,bA,rk,cH,cP]
  .have Q3:=Q2.step x3;have p3:=aB.list hV.fin (λa=>b5R hV a) ([],[]) j2 ws j3 p2.2 x3;obtain⟨ns,ts⟩:=ws;simp only at Q3;have Q3:=Q3.assoc;simp[bD,b7t,aQ,bA,rk,cH,cP,bM,jA,eZ,dJ];refine dG Q3 p3 hV.fin λu4 j4 x4 Q4 p4=>?_;have Q4:=Q4.step (gF _ _);simp;refine qZ ⟨λx _=>rfl,by omega⟩ ?_;simp;exact Q4.ok _ j4 .normal _ rfl (.inl rfl) (by simp[a8x,b8n])
theorem b5U(i:Nat)(hi:i<l.length):qT G 79 [] l i (a3v aU bQ aI l i) (λd=>.d (.agg (b4A d))):=by
 have hl:=hV.len;obtain⟨j0,rfl⟩:∃j0,j0=i:=⟨_,rfl⟩;have p0:j0<=j0/\j0<l.length:=⟨f7X _,hi⟩;refine mX.bS func79 rfl ntmps79 rfl (by simp) ?_;intro Q Q0;unfold a3v at Q0;simp;refine rP Q0 p0 jD (kR l j0 p0.2 (by omega)) (aB.title hV.fin) λnm j1 x1 Q1 p1=>?_;simp;refine SW.yP (ι:={x:List Nm×Nat×Nat//j1<=x.2.1/\x.2.1<l.length/\l.length<x.2.2+x.2.1/\x.1.length<=x.2.1/\dQ (λi=>jY aU (aK l i)) (zH l) x.2.2 x.1 x.2.1=rN l (λi=>jY aU (aK l i)) (zH l) [] j1}) (λ_=>[]) (λx=>[(1,.cells [.ptr 100000 0]),(2,.cells [.d (.str []),.d .aF,.d .aF,.d .aF]),(3,.cells [.d (.str nm),.d (.sl (strs x.1.1)),.d .aF,.d .aF]),(100000,rdO l x.1.2.1)]) (λ_=>[(9,[.c 3 1])]) (λx=>l.length-x.1.2.1) ⟨([],j1,l.length+2),f7X _,p1.2,by simp only;omega,by simp,rfl⟩ (by simp[strs]) ?_;rintro⟨⟨out,j3,g⟩,hb,hj3,hg,ho,hp⟩;simp only at hb hj3 hg ho hp;obtain⟨g,rfl⟩:∃k,g=k+1:=⟨g-1,by omega⟩;have p3:j1<=j3/\j3<l.length:=⟨hb,hj3⟩;have ht:=cJ (G:=G) l j3 j3 0 (by omega) (by omega) (by intro e;subst e;simp at hi) (by omega);simp;refine mY (i:=j3) (ds:=[.int .i64 0]) bR ht ?_;simp;refine mQ.mk kQ (mR hV.kw (aK l j3)) ?_;cases hc:jY aU (aK l j3)with
 |true=>
  simp;refine gH [0] 3 [2] (.op 1 (.call [4,5,6,7] .none) (.call [1,4,5,6,7] .none)) (gX (bL aU l j3)) (by kernel_rfl) (by kernel_rfl) ?_;simp;refine⟨?_,?_⟩
  all_goals
   refine rdZ (i:=j3) (ds:=[]) cQ (dD hV.kw l j3 hj3 (by omega)) (λw2 j4 x4=>?_) (λn e hx=>?_)
   .have p4:=aB.word (kw:=aU) hV.fin j3 w2 j4 hj3 x4;have h1:zH l out j3=.ok (out++[w2]) j4:=(bN x4).trans rfl;rw[xL hV hc h1]at hp;refine cI.mk ?_;simp;refine cF (by first|omega|(simp;omega)) ?_;simp;exact aX.mk ⟨(out++[w2],j4,g),by simp only;omega,p4.2,by simp only;omega,by simp;omega,hp⟩ (by simp[a0o]) (by simp;omega)
   .have h1:zH l out j3=.bad n e:=gQ hx;rw[rF hV hc h1]at hp;simp
    first|exact Q1.fail hp.symm _|exact λs=>Q1.fail hp.symm s
 |false=>
  rw[xM hV hc]at hp;have Q3:=Q1.step hp.symm;simp;cases hs:aL l j3 [60]with
  |false=>
   have Q4:=Q3.step (jU hs);rw[if_neg (by decide)]at Q4;have Q3:=Q4.step (gF _ _);refine xK hs p3 ?_;simp;refine dG Q3 p3 hV.fin λu6 j6 x6 Q6 p6=>?_;simp;have kD:=eP hV [124] (d0I aI l) (λout i=>out.length<=i) 0 a1Y (c4D hV nm out []) (λa=>(b5S hV a).le (by omega)) (λa i rT hi h=>b5T hV nm out [] a i hi h) (b8Y hV) (λa i h=>by omega) [] j6 (by omega) p6.2 (by simp);refine dC.mk (a0b dH kD [(100000,100000),(100001,1),(100002,3)] (λa j hx=>?_) ?_ ?_ ?_ rfl rfl (λcs j7 x7=>?_) (λn e wN=>Q6.fail wN _))
   .simp[a8x,aJ,aT,aN,aM,bC,getKey]
   .simp[a8x,aJ,aT,aN,aM,bC,getKey]
   .simp[aQ,bA,rk]
   .simp[a8x,aQ,bA,rk,cH,cP]
   .have Q7:=Q6.step x7;simp[bD,a8x,aQ,bA,rk,cH,cP,bM,jA,eZ,dJ];exact Q7.ok _ j7 _ _ rfl (.inr rfl) (by simp[b4A])
  |true=>
   have Q4:=Q3.step (jT hs);rw[if_pos rfl]at Q4;refine rdT hs p3 hV.fin λp4=>?_;obtain⟨j4,hj4⟩:∃j,j3+1=j:=⟨_,rfl⟩;rw[hj4]at Q4 p4|-;have Q4:=Q4.assoc;simp;refine rP Q4 p4 a1T ((a3K hV false j4 p4.2)) ((aB.vars hV.fin false)) λps j5 x5 Q5 p5=>?_;have Q5:=Q5.assoc;simp;refine dG Q5 p5 hV.fin λu8 j8 x8 Q8 p8=>?_;have Q8:=Q8.step (gF _ _);simp;refine dG Q8 p8 hV.fin λu6 j6 x6 Q6 p6=>?_;simp;have kD:=eP hV [124] (d0I aI l) (λout i=>out.length<=i) 0 a1Y (c4D hV nm out ps) (λa=>(b5S hV a).le (by omega)) (λa i rT hi h=>b5T hV nm out ps a i hi h) (b8Y hV) (λa i h=>by omega) [] j6 (by omega) p6.2 (by simp);refine dC.mk (a0b dH kD [(100000,100000),(100001,1),(100002,3)] (λa j hx=>?_) ?_ ?_ ?_ rfl rfl (λcs j7 x7=>?_) (λn e wN=>Q6.fail wN _))
   .simp[a8x,aJ,aT,aN,aM,bC,getKey]
   .simp[a8x,aJ,aT,aN,aM,bC,getKey]
   .simp[aQ,bA,rk]
   .simp[a8x,aQ,bA,rk,cH,cP]
   .have Q7:=Q6.step x7;simp[bD,a8x,aQ,bA,rk,cH,cP,bM,jA,eZ,dJ];exact Q7.ok _ j7 _ _ rfl (.inr rfl) (by simp[b4A])
end
end
section
open Go Go.VM
variable {G:GT}
theorem b7u:VM.Enters prog 273:=.mk func273 rfl
theorem c4E:VM.Enters prog 264:=.mk func264 rfl
section
variable {aI:List Tok->Nat->Nat->kN Pr} {l:List Tok} (hV:oS G aI l) (hN:∀i, -9223372036854775807<=(aK l i).n/\(aK l i).n<=9223372036854775807)
include hV hN
section
variable {ex:Nat->aZ jL} {low:Nat} (hex:∀i,low<=i->i<l.length->qT G 34 [] l i (ex 0 i) tX) (mV:∀k,aB l 1 (ex k))
include hex mV
theorem c1c(i:Nat)(gW:low<=i+1)(hi:i<l.length):qT G 273 [] l i (uX aU bQ aI l ex i) tX:=by
 have hl:=hV.len;obtain⟨j0,rfl⟩:∃j0,j0=i:=⟨_,rfl⟩;have p0:j0<=j0/\j0<l.length:=⟨f7X _,hi⟩;refine mX.bS func273 rfl ntmps273 rfl (by simp) ?_;intro Q Q0;unfold uX at Q0;simp;refine dG Q0 p0 hV.fin λu1 j1 x1 Q1 p1=>?_;simp;have hb:=jS (G:=G) l j1 [45] p1.2 (by omega);have ht1:=cJ (G:=G) l j1 (j1+1) 1 (by omega) (by omega) (by intro e;subst e;simp at hi) (by omega);have ht2:=cJ (G:=G) l j1 (j1+2) 2 (by omega) (by omega) (by intro e;subst e;simp at hi) (by omega);refine mY (ds:=[.str [45]]) eV hb ?_;cases hs:aL l j1 [45]with
 |false=>
  have Q1:=Q1.wP (by simp[hs]);simp;refine rP Q1 p1 cA ((hex j1 (by omega) p1.2)) (mV 0) λe j2 x2 Q2 p2=>?_;simp;cases hc:aL l j2 [58]with
  |false=>have Q3:=Q2.step (jU hc);rw[if_neg (by decide)]at Q3;refine xK hc p2 ?_;simp;have Q2:=Q3.step (gF _ _);refine dG Q2 p2 hV.fin λu5 j5 x5 Q5 p5=>?_;simp;exact Q5.ok _ j5 _ _ rfl (.inr rfl) (by simp[dX,bU])
  |true=>
   have Q3:=Q2.step (jT hc);rw[if_pos rfl]at Q3;refine rdT hc p2 hV.fin λp3=>?_;obtain⟨j3,hj3⟩:∃j,j2+1=j:=⟨_,rfl⟩;rw[hj3]at Q3 p3|-;simp;have Q3:=Q3.assoc;refine oH 3 [2] (.op 0 (.op 1 (.call [4,5,6] .none) (.call [1,4,5,6] .none)) (.call [0,1,4,5,6] .none)) (gX (kP aU bQ aI l j3)) (by kernel_rfl) (by kernel_rfl) ?_;simp
   repeat' apply And.intro
   all_goals
    refine pD Q3 p3 cO ((oF hV j3 p3.2)) (jF hV) λt j4 x4 Q4 p4=>cI.mk ?_;simp;have Q4:=Q4.step (gF _ _);refine dG Q4 p4 hV.fin λu5 j5 x5 Q5 p5=>?_;simp;exact Q5.ok _ j5 _ _ rfl (.inr rfl) (by simp[dX,bU])
 |true=>
  simp;refine mY (ds:=[.int .i64 1]) bR ht1 ?_;by_cases hk:(aK l (j1+1)).kind=3
  .simp[bG,hk];refine mY (ds:=[.int .i64 2]) bR ht2 ?_;simp;refine mQ.mk mC (oD (aK l (j1+2)) [41]) ?_;cases hf:cK (aK l (j1+2)) [41]with
   |false=>
    have Q1:=Q1.wP (by simp[hf]);simp;refine rP Q1 p1 cA ((hex j1 (by omega) p1.2)) (mV 0) λe j2 x2 Q2 p2=>?_;simp;cases hc:aL l j2 [58]with
    |false=>have Q3:=Q2.step (jU hc);rw[if_neg (by decide)]at Q3;refine xK hc p2 ?_;simp;have Q2:=Q3.step (gF _ _);refine dG Q2 p2 hV.fin λu5 j5 x5 Q5 p5=>?_;simp;exact Q5.ok _ j5 _ _ rfl (.inr rfl) (by simp[dX,bU])
    |true=>
     have Q3:=Q2.step (jT hc);rw[if_pos rfl]at Q3;refine rdT hc p2 hV.fin λp3=>?_;obtain⟨j3,hj3⟩:∃j,j2+1=j:=⟨_,rfl⟩;rw[hj3]at Q3 p3|-;simp;have Q3:=Q3.assoc;refine oH 3 [2] (.op 0 (.op 1 (.call [4,5,6] .none) (.call [1,4,5,6] .none)) (.call [0,1,4,5,6] .none)) (gX (kP aU bQ aI l j3)) (by kernel_rfl) (by kernel_rfl) ?_;simp
     repeat' apply And.intro
     all_goals
      refine pD Q3 p3 cO ((oF hV j3 p3.2)) (jF hV) λt j4 x4 Q4 p4=>cI.mk ?_;simp;have Q4:=Q4.step (gF _ _);refine dG Q4 p4 hV.fin λu5 j5 x5 Q5 p5=>?_;simp;exact Q5.ok _ j5 _ _ rfl (.inr rfl) (by simp[dX,bU])
   |true=>
    have Q1:=Q1.ifp (by simp[hs,hk,hf]);simp;refine mY (ds:=[.int .i64 1]) bR ht1 ?_;have hn:=hN (j1+1);have hw3:IntKind.i64.wrap ((j1:Int)+3)=((j1+3:Nat):Int):=by rw[wrap64 (by omega)];omega
    have hw4:IntKind.i64.wrap (-(aK l (j1+1)).n)= -(aK l (j1+1)).n:=wrap64 (by omega);simp[bG,hw3,hw4];exact Q1.ok _ (j1+3) _ _ rfl (.inr rfl) (by simp)
  .have Q1:=Q1.wP (by simp[hk]);simp[bG,hk];refine rP Q1 p1 cA ((hex j1 (by omega) p1.2)) (mV 0) λe j2 x2 Q2 p2=>?_;simp;cases hc:aL l j2 [58]with
   |false=>have Q3:=Q2.step (jU hc);rw[if_neg (by decide)]at Q3;refine xK hc p2 ?_;simp;have Q2:=Q3.step (gF _ _);refine dG Q2 p2 hV.fin λu5 j5 x5 Q5 p5=>?_;simp;exact Q5.ok _ j5 _ _ rfl (.inr rfl) (by simp[dX,bU])
   |true=>
    have Q3:=Q2.step (jT hc);rw[if_pos rfl]at Q3;refine rdT hc p2 hV.fin λp3=>?_;obtain⟨j3,hj3⟩:∃j,j2+1=j:=⟨_,rfl⟩;rw[hj3]at Q3 p3|-;simp;have Q3:=Q3.assoc;refine oH 3 [2] (.op 0 (.op 1 (.call [4,5,6] .none) (.call [1,4,5,6] .none)) (.call [0,1,4,5,6] .none)) (gX (kP aU bQ aI l j3)) (by kernel_rfl) (by kernel_rfl) ?_;simp
    repeat' apply And.intro
    all_goals
     refine pD Q3 p3 cO ((oF hV j3 p3.2)) (jF hV) λt j4 x4 Q4 p4=>cI.mk ?_;simp;have Q4:=Q4.step (gF _ _);refine dG Q4 p4 hV.fin λu5 j5 x5 Q5 p5=>?_;simp;exact Q5.ok _ j5 _ _ rfl (.inr rfl) (by simp[dX,bU])
theorem c7f(i:Nat)(gW:low<=i+1)(hi:i<l.length):qT G 264 [] l i (a3r aU bQ aI l ex i) tX:=by
 have hl:=hV.len;obtain⟨j0,rfl⟩:∃j0,j0=i:=⟨_,rfl⟩;have p0:j0<=j0/\j0<l.length:=⟨f7X _,hi⟩;have ht:=cJ (G:=G) l j0 j0 0 (by omega) (by omega) (by intro e;subst e;simp at hi) (by omega);refine mX.bS func264 rfl ntmps264 rfl (by simp) ?_;intro Q Q0;unfold a3r at Q0;simp;refine mY (ds:=[.int .i64 0]) bR ht ?_;by_cases hk:(aK l j0).kind=3
 .have Q0:=Q0.ifp hk;have hw:=aY (show j0<9223372036854775807 by omega);simp[bG,hk,hw];exact Q0.ok _ (j0+1) _ _ rfl (.inr rfl) (by simp)
 have Q0:=Q0.wP hk;simp[bG,hk];cases h1:aL l j0 [116,114,117,101]with
 |true=>have Q0:=Q0.ifp h1;refine rdT h1 p0 hV.fin λp1=>?_;simp;exact Q0.ok _ (j0+1) _ _ rfl (.inr rfl) (by simp)
 |false=>
 have Q0:=Q0.wP (by rw[h1];decide);refine xK h1 p0 ?_;simp;cases h2:aL l j0 [102,97,108,115,101]with
 |true=>have Q0:=Q0.ifp h2;refine rdT h2 p0 hV.fin λp1=>?_;simp;exact Q0.ok _ (j0+1) _ _ rfl (.inr rfl) (by simp)
 |false=>
 have Q0:=Q0.wP (by rw[h2];decide);refine xK h2 p0 ?_;simp;cases h3:aL l j0 [110,101,119]with
 |true=>have Q1:=Q0.ifp h3;refine rdT h3 p0 hV.fin λp1=>?_;obtain⟨j1,qW⟩:∃j,j0+1=j:=⟨_,rfl⟩;rw[qW]at Q1 p1|-;simp;refine rdR Q1 b5F (b8X hV hex mV 22 j1 (by omega) p1.2) λt j h=>?_;simp;exact Q1.ok t j _ _ h (.inr rfl) (by simp)
 |false=>
 have Q0:=Q0.wP (by rw[h3];decide);refine xK h3 p0 ?_;simp;cases h4:aL l j0 [103,101,116]with
 |true=>have Q1:=Q0.ifp h4;refine rdT h4 p0 hV.fin λp1=>?_;obtain⟨j1,qW⟩:∃j,j0+1=j:=⟨_,rfl⟩;rw[qW]at Q1 p1|-;simp;refine rdR Q1 b5F (b8X hV hex mV 23 j1 (by omega) p1.2) λt j h=>?_;simp;exact Q1.ok t j _ _ h (.inr rfl) (by simp)
 |false=>
 have Q0:=Q0.wP (by rw[h4];decide);refine xK h4 p0 ?_;simp;cases h5:aL l j0 [115,101,116]with
 |true=>have Q1:=Q0.ifp h5;refine rdT h5 p0 hV.fin λp1=>?_;obtain⟨j1,qW⟩:∃j,j0+1=j:=⟨_,rfl⟩;rw[qW]at Q1 p1|-;simp;refine dG Q1 p1 hV.fin λu2 j2 x2 Q2 p2=>?_;simp;refine rP Q2 p2 cA ((hex j2 (by omega) p2.2)) (mV 0) λx j3 x3 Q3 p3=>?_;simp;refine dG Q3 p3 hV.fin λu4 j4 x4 Q4 p4=>?_;simp;refine rP Q4 p4 cA ((hex j4 (by omega) p4.2)) (mV 0) λy j5 x5 Q5 p5=>?_;simp;refine dG Q5 p5 hV.fin λu6 j6 x6 Q6 p6=>?_;simp;refine mQ.mk cD (kY 24 x y) ?_;simp;exact Q6.ok _ j6 _ _ rfl (.inr rfl) (by simp)
 |false=>
 have Q0:=Q0.wP (by rw[h5];decide);refine xK h5 p0 ?_;simp;refine mQ.mk kQ (mR hV.kw (aK l j0)) ?_;cases h6:jY aU (aK l j0)with
 |true=>
  have Q0:=Q0.ifp h6;simp;refine rdX (ds:=[]) cQ (dD hV.kw l j0 hi (by omega)) (λs j hx=>?_) (λn e hx=>by unfold bL mB at hx;rw[if_pos h6]at hx;cases hx);have p1:=aB.word (kw:=aU) hV.fin _ _ _ p0.2 hx;unfold bL mB at hx;rw[if_pos h6]at hx;cases hx;have Q1:=Q0;obtain⟨j1,qW⟩:∃j,j0+1=j:=⟨_,rfl⟩;rw[qW]at Q1 p1|-;have hb1:=jS (G:=G) l j1 [91] p1.2 (by omega);have hb2:=jS (G:=G) l j1 [40] p1.2 (by omega);simp;refine mY (ds:=[.str [91]]) eV hb1 ?_;cases h7:aL l j1 [91]with
  |true=>have Q1:=Q1.wP (by simp[h7]);simp;refine rP Q1 p1 zM ((a1c hV j1 p1.2)) ((aB.types hV.fin hV.sB.pred)) λts j3 x3 Q3 p3=>?_;simp;refine rP Q3 p3 a1X ((a8v hV hex mV j3 (by omega) p3.2)) ((aB.mE hV.fin mV)) λks j4 x4 Q4 p4=>?_;simp;exact Q4.ok _ j4 _ _ rfl (.inr rfl) (by simp)
  |false=>
   simp;refine mY (ds:=[.str [40]]) eV hb2 ?_;cases h8:aL l j1 [40]with
   |true=>have Q1:=Q1.wP (by simp[h8]);simp;refine rP Q1 p1 zM ((a1c hV j1 p1.2)) ((aB.types hV.fin hV.sB.pred)) λts j3 x3 Q3 p3=>?_;simp;refine rP Q3 p3 a1X ((a8v hV hex mV j3 (by omega) p3.2)) ((aB.mE hV.fin mV)) λks j4 x4 Q4 p4=>?_;simp;exact Q4.ok _ j4 _ _ rfl (.inr rfl) (by simp)
   |false=>have Q1:=Q1.ifp (by simp[h7,h8]);simp;exact Q1.ok _ j1 _ _ rfl (.inr rfl) (by simp)
 |false=>
 have Q0:=Q0.wP (by rw[h6];decide);simp;by_cases hk2:(aK l j0).kind=2
 .have h7:rM (aK l j0)=true:=by simp[rM,hk2]
  have Q0:=Q0.ifp h7;simp[hk2];refine rdX (ds:=[]) jD (kR l j0 hi (by omega)) (λs j hx=>?_) (λn e hx=>by unfold jB mB at hx;rw[if_pos h7]at hx;cases hx);have p1:=aB.title hV.fin _ _ _ p0.2 hx;unfold jB mB at hx;rw[if_pos h7]at hx;cases hx;have Q1:=Q0;obtain⟨j1,qW⟩:∃j,j0+1=j:=⟨_,rfl⟩;rw[qW]at Q1 p1|-;simp;refine rP Q1 p1 zM ((a1c hV j1 p1.2)) ((aB.types hV.fin hV.sB.pred)) λts j3 x3 Q3 p3=>?_;simp;have hb2:=jS (G:=G) l j3 [40] p3.2 (by omega);refine mY (ds:=[.str [40]]) eV hb2 ?_;cases h8:aL l j3 [40]with
  |false=>have Q4:=Q3.step (a:=[]) (j:=j3) (by simp[h8]);simp;exact Q4.ok _ j3 _ _ rfl (.inr rfl) (by simp)
  |true=>
   have e1:(λj=>if aL l j [40] then qJ l ex j else .ok [] j:aZ (List jL)) j3=qJ l ex j3:=by simp[h8]
   simp;refine rdX a1X ((a8v hV hex mV j3 (by omega) p3.2)) (λks j4 x4=>?_) (λn e hx=>by first|exact Q3.fail (e1.trans hx) _|(simp;exact Q3.fail (e1.trans hx) _)|(simp;exact λs=>Q3.fail (e1.trans hx) s));have Q4:=Q3.step (e1.trans x4);have p4:=(aB.mE hV.fin mV) j3 ks j4 p3.2 x4;simp;exact Q4.ok _ j4 _ _ rfl (.inr rfl) (by simp)
 .have h7:rM (aK l j0)=false:=by simp[rM,hk2]
  have Q0:=Q0.wP (by rw[h7];decide);simp[hk2];refine rdR Q0 b7u (c1c hV hN hex mV j0 (by omega) p0.2) λt j h=>?_;simp;exact Q0.ok t j _ _ h (.inr rfl) (by simp)
end
end
end
section
open Go Go.VM
variable {G:GT}
theorem a1g:VM.Enters prog 229:=.mk func229 rfl
theorem uR:VM.Enters prog 207:=.mk func207 rfl
theorem b5V:VM.Enters prog 191:=.mk func191 rfl
theorem b5W:VM.Enters prog 122:=.mk func122 rfl
theorem d0K:VM.Enters prog 73:=.mk func73 rfl
section
variable {l:List Tok} {ops:List (Nm×Int)} {one:aZ jL} {g:Nat} {e x:jL} {i j:Nat} {p:Nm×Int}
theorem a0i(h:(ops.find? λp=>aL l i p.1)=none):jM l ops one (g+1) e i=.ok e i:=by rw[jM];simp only[h]
theorem uS(h:(ops.find? λp=>aL l i p.1)=some p)(h1:one (i+1)=.ok x j):jM l ops one (g+1) e i=jM l ops one g (kM p.2 [e,x]) j:=by rw[jM];simp only[h,h1]
theorem sT{n m:Int}(h:(ops.find? λp=>aL l i p.1)=some p)(h1:one (i+1)=.bad n m):jM l ops one (g+1) e i=.bad n m:=by rw[jM];simp only[h,h1]
end
section
variable {aI:List Tok->Nat->Nat->kN Pr} {l:List Tok} (hV:oS G aI l) (hN:∀i, -9223372036854775807<=(aK l i).n/\(aK l i).n<=9223372036854775807)
include hV hN
section
variable {ex:Nat->aZ jL} {low:Nat} (hex:∀i,low<=i->i<l.length->qT G 34 [] l i (ex 0 i) tX) (h3:∀i,low<=i->i<l.length->qT G 168 [] l i (ex 3 i) tX) (h7:∀i,low<=i->i<l.length->qT G 247 [] l i (ex 7 i) tX) (mV:∀k,aB l 1 (ex k))
include hex h3 h7 mV
omit h3 in
theorem b2q(i:Nat)(gW:low<=i+1)(hi:i<l.length):qT G 247 [] l i (a9m aU bQ aI l ex i) tX:=by
 have hl:=hV.len;obtain⟨j0,rfl⟩:∃j0,j0=i:=⟨_,rfl⟩;have p0:j0<=j0/\j0<l.length:=⟨f7X _,hi⟩;refine mX.bS func247 rfl ntmps247 rfl (by simp) ?_;intro Q Q0;unfold a9m at Q0;simp;cases hs:aL l j0 [45]with
 |true=>have Q1:=Q0.ifp hs;refine rdT hs p0 hV.fin λp1=>?_;obtain⟨j1,qW⟩:∃j,j0+1=j:=⟨_,rfl⟩;rw[qW]at Q1 p1|-;simp;refine rP Q1 p1 wJ ((h7 j1 (by omega) p1.2)) (mV 7) λe j2 x2 Q2 p2=>?_;simp;refine mQ.mk cD (a6E 15 e) ?_;simp;exact Q2.ok _ j2 _ _ rfl (.inr rfl) (by simp)
 |false=>have Q0:=Q0.wP (by rw[hs];decide);refine xK hs p0 ?_;simp;refine rdR Q0 c4E (c7f hV hN hex mV j0 (by omega) p0.2) λt j h=>?_;simp;exact Q0.ok t j _ _ h (.inr rfl) (by simp)
omit h3 in
theorem b7v(i:Nat)(gW:low<=i+1)(hi:i<l.length):qT G 229 [] l i (a9n aU bQ aI l ex i) tX:=by
 refine mX.bS func229 rfl ntmps229 rfl (by simp) ?_;intro Q Q0;unfold a9n a4h at Q0;have hl:=hV.len;obtain⟨j0,rfl⟩:∃j0,j0=i:=⟨_,rfl⟩;have p0:j0<=j0/\j0<l.length:=⟨f7X _,hi⟩;generalize kD:a9m aU bQ aI l ex=one at *;have b0d:∀i,low<=i+1->i<l.length->qT G 247 [] l i (one i) tX:=by rw[<-kD];exact b2q hV hN hex h7 mV
 have b0e:aB l 1 one:=by
  first
   |assumption
   |(rw[<-kD]
     exact aB.unG hV.fin mV hV.sB.pred)
 simp;refine rP Q0 p0 wJ ((b0d j0 (by omega) p0.2)) (b0e) λe j1 x1 Q1 p1=>?_;simp;refine SW.yP (ι:={x:jL×Nat×Nat//j1<=x.2.1/\x.2.1<l.length/\l.length<x.2.2+x.2.1/\jM l [([42],12),([100,105,118],13),([109,111,100],14)] one x.2.2 x.1 x.2.1=jM l [([42],12),([100,105,118],13),([109,111,100],14)] one (l.length+2) e j1}) (λ_=>[]) (λx=>[(2,.cells [.d (.int .i64 0),.d (.str []),.d (.int .i64 0),.d .aF,.d .aF,.d .aF,.d .aF]),(3,.cells ((a1d x.1.1).map .d)),(100000,rdO l x.1.2.1)]) (λ_=>[]) (λx=>l.length-x.1.2.1) ⟨(e,j1,l.length+2),f7X _,p1.2,by simp only;omega,rfl⟩ (by simp) ?_;rintro⟨⟨e2,j2,g⟩,hb,sM,hg,hp⟩;simp only at hb sM hg hp;obtain⟨g,rfl⟩:∃k,g=k+1:=⟨g-1,by omega⟩;have p2:j1<=j2/\j2<l.length:=⟨hb,sM⟩;simp;cases s1:aL l j2 [42]with
 |true=>
  have hf:([([42],12),([100,105,118],13),([109,111,100],14)].find? λp:Nm×Int=>aL l j2 p.1)=some ([42],12):=by simp[s1]
  have hn:=aH hV.fin sM s1;refine mY (ds:=[.str [42]]) (d:=.d (.bool true)) gS (rD l j2 [42] p2.2 (by omega) s1) ?_;simp;refine oH 2 [1] (.op 0 (.call [3,4,5] .none) (.call [0,3,4,5] .none)) (gX (one (j2+1))) (by kernel_rfl) (by kernel_rfl) ?_;simp;refine⟨?_,?_⟩
  all_goals
   refine rdZ (i:=j2+1) (ds:=[]) wJ (b0d (j2+1) (by omega) hn) (λx j3 x3=>?_) (λn e hx=>?_)
   .have p3:=b0e (j2+1) x j3 hn x3;rw[uS hf x3]at hp;refine cI.mk ?_;simp;refine aD.mk cD (kY 12 e2 x) ?_;simp;exact aX.mk ⟨(kM 12 [e2,x],j3,g),by simp only;omega,p3.2,by simp only;omega,hp⟩ (by simp) (by simp;omega)
   .rw[sT hf hx]at hp;simp
    first|exact Q1.bad _ _ _ hp.symm|exact λs=>Q1.bad _ _ s hp.symm
 |false=>
 refine xK s1 p2 ?_;simp;cases s2:aL l j2 [100,105,118]with
 |true=>
  have hf:([([42],12),([100,105,118],13),([109,111,100],14)].find? λp:Nm×Int=>aL l j2 p.1)=some ([100,105,118],13):=by simp[s1,s2]
  have hn:=aH hV.fin sM s2;refine mY (ds:=[.str [100,105,118]]) (d:=.d (.bool true)) gS (rD l j2 [100,105,118] p2.2 (by omega) s2) ?_;simp;refine oH 2 [1] (.op 0 (.call [3,4,5] .none) (.call [0,3,4,5] .none)) (gX (one (j2+1))) (by kernel_rfl) (by kernel_rfl) ?_;simp;refine⟨?_,?_⟩
  all_goals
   refine rdZ (i:=j2+1) (ds:=[]) wJ (b0d (j2+1) (by omega) hn) (λx j3 x3=>?_) (λn e hx=>?_)
   .have p3:=b0e (j2+1) x j3 hn x3;rw[uS hf x3]at hp;refine cI.mk ?_;simp;refine aD.mk cD (kY 13 e2 x) ?_;simp;exact aX.mk ⟨(kM 13 [e2,x],j3,g),by simp only;omega,p3.2,by simp only;omega,hp⟩ (by simp) (by simp;omega)
   .rw[sT hf hx]at hp;simp
    first|exact Q1.bad _ _ _ hp.symm|exact λs=>Q1.bad _ _ s hp.symm
 |false=>
 refine xK s2 p2 ?_;simp;cases s3:aL l j2 [109,111,100]with
 |true=>
  have hf:([([42],12),([100,105,118],13),([109,111,100],14)].find? λp:Nm×Int=>aL l j2 p.1)=some ([109,111,100],14):=by simp[s1,s2,s3]
  have hn:=aH hV.fin sM s3;refine mY (ds:=[.str [109,111,100]]) (d:=.d (.bool true)) gS (rD l j2 [109,111,100] p2.2 (by omega) s3) ?_;simp;refine oH 2 [1] (.op 0 (.call [3,4,5] .none) (.call [0,3,4,5] .none)) (gX (one (j2+1))) (by kernel_rfl) (by kernel_rfl) ?_;simp;refine⟨?_,?_⟩
  all_goals
   refine rdZ (i:=j2+1) (ds:=[]) wJ (b0d (j2+1) (by omega) hn) (λx j3 x3=>?_) (λn e hx=>?_)
   .have p3:=b0e (j2+1) x j3 hn x3;rw[uS hf x3]at hp;refine cI.mk ?_;simp;refine aD.mk cD (kY 14 e2 x) ?_;simp;exact aX.mk ⟨(kM 14 [e2,x],j3,g),by simp only;omega,p3.2,by simp only;omega,hp⟩ (by simp) (by simp;omega)
   .rw[sT hf hx]at hp;simp
    first|exact Q1.bad _ _ _ hp.symm|exact λs=>Q1.bad _ _ s hp.symm
 |false=>
 refine xK s3 p2 ?_;have hf:([([42],12),([100,105,118],13),([109,111,100],14)].find? λp:Nm×Int=>aL l j2 p.1)=none:=by simp[s1,s2,s3]
 have Q2:=hp.symm.trans (a0i hf);simp;exact Q1.ok _ j2 _ _ Q2 (.inr rfl) (by simp)
omit h3 in
theorem rG(i:Nat)(gW:low<=i+1)(hi:i<l.length):qT G 207 [] l i (pL aU bQ aI l ex i) tX:=by
 refine mX.bS func207 rfl ntmps207 rfl (by simp) ?_;intro Q Q0;unfold pL a4h at Q0;have hl:=hV.len;obtain⟨j0,rfl⟩:∃j0,j0=i:=⟨_,rfl⟩;have p0:j0<=j0/\j0<l.length:=⟨f7X _,hi⟩;generalize kD:a9n aU bQ aI l ex=one at *;have b0d:∀i,low<=i+1->i<l.length->qT G 229 [] l i (one i) tX:=by rw[<-kD];exact b7v hV hN hex h7 mV
 have b0e:aB l 1 one:=by
  first
   |assumption
   |(rw[<-kD]
     exact aB.d3f hV.fin mV hV.sB.pred)
 simp;refine rP Q0 p0 a1g ((b0d j0 (by omega) p0.2)) (b0e) λe j1 x1 Q1 p1=>?_;simp;refine SW.yP (ι:={x:jL×Nat×Nat//j1<=x.2.1/\x.2.1<l.length/\l.length<x.2.2+x.2.1/\jM l [([43],10),([45],11)] one x.2.2 x.1 x.2.1=jM l [([43],10),([45],11)] one (l.length+2) e j1}) (λ_=>[]) (λx=>[(2,.cells [.d (.int .i64 0),.d (.str []),.d (.int .i64 0),.d .aF,.d .aF,.d .aF,.d .aF]),(3,.cells ((a1d x.1.1).map .d)),(100000,rdO l x.1.2.1)]) (λ_=>[]) (λx=>l.length-x.1.2.1) ⟨(e,j1,l.length+2),f7X _,p1.2,by simp only;omega,rfl⟩ (by simp) ?_;rintro⟨⟨e2,j2,g⟩,hb,sM,hg,hp⟩;simp only at hb sM hg hp;obtain⟨g,rfl⟩:∃k,g=k+1:=⟨g-1,by omega⟩;have p2:j1<=j2/\j2<l.length:=⟨hb,sM⟩;simp;cases s1:aL l j2 [43]with
 |true=>
  have hf:([([43],10),([45],11)].find? λp:Nm×Int=>aL l j2 p.1)=some ([43],10):=by simp[s1]
  have hn:=aH hV.fin sM s1;refine mY (ds:=[.str [43]]) (d:=.d (.bool true)) gS (rD l j2 [43] p2.2 (by omega) s1) ?_;simp;refine oH 2 [1] (.op 0 (.call [3,4,5] .none) (.call [0,3,4,5] .none)) (gX (one (j2+1))) (by kernel_rfl) (by kernel_rfl) ?_;simp;refine⟨?_,?_⟩
  all_goals
   refine rdZ (i:=j2+1) (ds:=[]) a1g (b0d (j2+1) (by omega) hn) (λx j3 x3=>?_) (λn e hx=>?_)
   .have p3:=b0e (j2+1) x j3 hn x3;rw[uS hf x3]at hp;refine cI.mk ?_;simp;refine aD.mk cD (kY 10 e2 x) ?_;simp;exact aX.mk ⟨(kM 10 [e2,x],j3,g),by simp only;omega,p3.2,by simp only;omega,hp⟩ (by simp) (by simp;omega)
   .rw[sT hf hx]at hp;simp
    first|exact Q1.bad _ _ _ hp.symm|exact λs=>Q1.bad _ _ s hp.symm
 |false=>
 refine xK s1 p2 ?_;simp;cases s2:aL l j2 [45]with
 |true=>
  have hf:([([43],10),([45],11)].find? λp:Nm×Int=>aL l j2 p.1)=some ([45],11):=by simp[s1,s2]
  have hn:=aH hV.fin sM s2;refine mY (ds:=[.str [45]]) (d:=.d (.bool true)) gS (rD l j2 [45] p2.2 (by omega) s2) ?_;simp;refine oH 2 [1] (.op 0 (.call [3,4,5] .none) (.call [0,3,4,5] .none)) (gX (one (j2+1))) (by kernel_rfl) (by kernel_rfl) ?_;simp;refine⟨?_,?_⟩
  all_goals
   refine rdZ (i:=j2+1) (ds:=[]) a1g (b0d (j2+1) (by omega) hn) (λx j3 x3=>?_) (λn e hx=>?_)
   .have p3:=b0e (j2+1) x j3 hn x3;rw[uS hf x3]at hp;refine cI.mk ?_;simp;refine aD.mk cD (kY 11 e2 x) ?_;simp;exact aX.mk ⟨(kM 11 [e2,x],j3,g),by simp only;omega,p3.2,by simp only;omega,hp⟩ (by simp) (by simp;omega)
   .rw[sT hf hx]at hp;simp
    first|exact Q1.bad _ _ _ hp.symm|exact λs=>Q1.bad _ _ s hp.symm
 |false=>
 refine xK s2 p2 ?_;have hf:([([43],10),([45],11)].find? λp:Nm×Int=>aL l j2 p.1)=none:=by simp[s1,s2]
 have Q2:=hp.symm.trans (a0i hf);simp;exact Q1.ok _ j2 _ _ Q2 (.inr rfl) (by simp)
omit h3 in
theorem b7w(i:Nat)(gW:low<=i+1)(hi:i<l.length):qT G 191 [] l i (a7U aU bQ aI l ex i) tX:=by
 have hl:=hV.len;obtain⟨j0,rfl⟩:∃j0,j0=i:=⟨_,rfl⟩;have p0:j0<=j0/\j0<l.length:=⟨f7X _,hi⟩;refine mX.bS func191 rfl ntmps191 rfl (by simp) ?_;intro Q Q0;unfold a7U at Q0;simp;refine rP Q0 p0 uR ((rG hV hN hex h7 mV j0 (by omega) p0.2)) (aB.b2E hV.fin mV hV.sB.pred) λe j1 x1 Q1 p1=>?_;simp;have hc:=rG hV hN hex h7 mV;cases hs1:aL l j1 [61,61]with
 |true=>
  have Q2:=Q1.ifp hs1;refine rdT hs1 p1 hV.fin λp2=>?_;obtain⟨j2,sM⟩:∃j,j1+1=j:=⟨_,rfl⟩;rw[sM]at Q2 p2|-;simp;refine oH 2 [1] (.op 0 (.call [3,4,5] .none) (.call [0,3,4,5] .none)) (gX (pL aU bQ aI l ex j2)) (by kernel_rfl) (by kernel_rfl) ?_;simp;refine⟨?_,?_⟩
  all_goals
   refine pD Q2 p2 uR ((rG hV hN hex h7 mV j2 (by omega) p2.2)) (aB.b2E hV.fin mV hV.sB.pred) λx j3 x3 Q3 p3=>cI.mk ?_;simp;refine aD.mk cD (kY 16 e x) ?_;simp;exact Q3.ok _ j3 _ _ rfl (.inr rfl) (by simp)
 |false=>
 have Q1:=Q1.wP (by rw[hs1];decide);refine xK hs1 p1 ?_;simp;cases hs2:aL l j1 [33,61]with
 |true=>
  have Q2:=Q1.ifp hs2;refine rdT hs2 p1 hV.fin λp2=>?_;obtain⟨j2,sM⟩:∃j,j1+1=j:=⟨_,rfl⟩;rw[sM]at Q2 p2|-;simp;refine oH 2 [1] (.op 0 (.call [3,4,5,6,7] .none) (.call [0,3,4,5,6,7] .none)) (gX (pL aU bQ aI l ex j2)) (by kernel_rfl) (by kernel_rfl) ?_;simp;refine⟨?_,?_⟩
  all_goals
   refine pD Q2 p2 uR ((rG hV hN hex h7 mV j2 (by omega) p2.2)) (aB.b2E hV.fin mV hV.sB.pred) λx j3 x3 Q3 p3=>cI.mk ?_;simp;refine aD.mk cD (kY 16 e x) ?_;simp;refine aD.mk cD (a6E 21 (kM 16 [e,x])) ?_;simp;exact Q3.ok _ j3 _ _ rfl (.inr rfl) (by simp)
 |false=>
 have Q1:=Q1.wP (by rw[hs2];decide);refine xK hs2 p1 ?_;simp;have hc:=rG hV hN hex h7 mV;cases hs3:aL l j1 [60]with
 |true=>
  have Q2:=Q1.ifp hs3;refine rdT hs3 p1 hV.fin λp2=>?_;obtain⟨j2,sM⟩:∃j,j1+1=j:=⟨_,rfl⟩;rw[sM]at Q2 p2|-;simp;refine oH 2 [1] (.op 0 (.call [3,4,5] .none) (.call [0,3,4,5] .none)) (gX (pL aU bQ aI l ex j2)) (by kernel_rfl) (by kernel_rfl) ?_;simp;refine⟨?_,?_⟩
  all_goals
   refine pD Q2 p2 uR ((rG hV hN hex h7 mV j2 (by omega) p2.2)) (aB.b2E hV.fin mV hV.sB.pred) λx j3 x3 Q3 p3=>cI.mk ?_;simp;refine aD.mk cD (kY 17 e x) ?_;simp;exact Q3.ok _ j3 _ _ rfl (.inr rfl) (by simp)
 |false=>
 have Q1:=Q1.wP (by rw[hs3];decide);refine xK hs3 p1 ?_;simp;have hc:=rG hV hN hex h7 mV;cases hs4:aL l j1 [60,61]with
 |true=>
  have Q2:=Q1.ifp hs4;refine rdT hs4 p1 hV.fin λp2=>?_;obtain⟨j2,sM⟩:∃j,j1+1=j:=⟨_,rfl⟩;rw[sM]at Q2 p2|-;simp;refine oH 2 [1] (.op 0 (.call [3,4,5] .none) (.call [0,3,4,5] .none)) (gX (pL aU bQ aI l ex j2)) (by kernel_rfl) (by kernel_rfl) ?_;simp;refine⟨?_,?_⟩
  all_goals
   refine pD Q2 p2 uR ((rG hV hN hex h7 mV j2 (by omega) p2.2)) (aB.b2E hV.fin mV hV.sB.pred) λx j3 x3 Q3 p3=>cI.mk ?_;simp;refine aD.mk cD (kY 18 e x) ?_;simp;exact Q3.ok _ j3 _ _ rfl (.inr rfl) (by simp)
 |false=>
 have Q1:=Q1.wP (by rw[hs4];decide);refine xK hs4 p1 ?_;simp;cases hs5:aL l j1 [62]with
 |true=>
  have Q2:=Q1.ifp hs5;refine rdT hs5 p1 hV.fin λp2=>?_;obtain⟨j2,sM⟩:∃j,j1+1=j:=⟨_,rfl⟩;rw[sM]at Q2 p2|-;simp;refine oH 1 [0] (.op 2 (.call [3,4,5] .none) (.call [2,3,4,5] .none)) (gX (pL aU bQ aI l ex j2)) (by kernel_rfl) (by kernel_rfl) ?_;simp;refine⟨?_,?_⟩
  all_goals
   refine pD Q2 p2 uR ((rG hV hN hex h7 mV j2 (by omega) p2.2)) (aB.b2E hV.fin mV hV.sB.pred) λx j3 x3 Q3 p3=>cI.mk ?_;simp;refine aD.mk cD (kY 17 x e) ?_;simp;exact Q3.ok _ j3 _ _ rfl (.inr rfl) (by simp)
 |false=>
 have Q1:=Q1.wP (by rw[hs5];decide);refine xK hs5 p1 ?_;simp;cases hs6:aL l j1 [62,61]with
 |true=>
  have Q2:=Q1.ifp hs6;refine rdT hs6 p1 hV.fin λp2=>?_;obtain⟨j2,sM⟩:∃j,j1+1=j:=⟨_,rfl⟩;rw[sM]at Q2 p2|-;simp;refine oH 1 [0] (.op 2 (.call [3,4,5] .none) (.call [2,3,4,5] .none)) (gX (pL aU bQ aI l ex j2)) (by kernel_rfl) (by kernel_rfl) ?_;simp;refine⟨?_,?_⟩
  all_goals
   refine pD Q2 p2 uR ((rG hV hN hex h7 mV j2 (by omega) p2.2)) (aB.b2E hV.fin mV hV.sB.pred) λx j3 x3 Q3 p3=>cI.mk ?_;simp;refine aD.mk cD (kY 18 x e) ?_;simp;exact Q3.ok _ j3 _ _ rfl (.inr rfl) (by simp)
 |false=>
 have Q1:=Q1.wP (by rw[hs6];decide);refine xK hs6 p1 ?_;simp;exact Q1.ok _ j1 _ _ rfl (.inr rfl) (by simp)
theorem b8Z(i:Nat)(gW:low<=i+1)(hi:i<l.length):qT G 168 [] l i (a3s aU bQ aI l ex i) tX:=by
 have hl:=hV.len;obtain⟨j0,rfl⟩:∃j0,j0=i:=⟨_,rfl⟩;have p0:j0<=j0/\j0<l.length:=⟨f7X _,hi⟩;refine mX.bS func168 rfl ntmps168 rfl (by simp) ?_;intro Q Q0;unfold a3s at Q0;simp;cases hs:aL l j0 [33]with
 |true=>have Q1:=Q0.ifp hs;refine rdT hs p0 hV.fin λp1=>?_;obtain⟨j1,qW⟩:∃j,j0+1=j:=⟨_,rfl⟩;rw[qW]at Q1 p1|-;simp;refine rP Q1 p1 a8u ((h3 j1 (by omega) p1.2)) (mV 3) λe j2 x2 Q2 p2=>?_;simp;refine mQ.mk cD (a6E 21 e) ?_;simp;exact Q2.ok _ j2 _ _ rfl (.inr rfl) (by simp)
 |false=>have Q0:=Q0.wP (by rw[hs];decide);refine xK hs p0 ?_;simp;refine rdR Q0 b5V (b7w hV hN hex h7 mV j0 (by omega) p0.2) λt j h=>?_;simp;exact Q0.ok t j _ _ h (.inr rfl) (by simp)
theorem d0L(i:Nat)(gW:low<=i+1)(hi:i<l.length):qT G 122 [] l i (b4v aU bQ aI l ex i) tX:=by
 refine mX.bS func122 rfl ntmps122 rfl (by simp) ?_;intro Q Q0;unfold b4v a4h at Q0;have hl:=hV.len;obtain⟨j0,rfl⟩:∃j0,j0=i:=⟨_,rfl⟩;have p0:j0<=j0/\j0<l.length:=⟨f7X _,hi⟩;generalize kD:a3s aU bQ aI l ex=one at *;have b0d:∀i,low<=i+1->i<l.length->qT G 168 [] l i (one i) tX:=by rw[<-kD];exact b8Z hV hN hex h3 h7 mV
 have b0e:aB l 1 one:=by
  first
   |assumption
   |(rw[<-kD]
     exact aB.b9Y hV.fin mV hV.sB.pred)
 simp;refine rP Q0 p0 a8u ((b0d j0 (by omega) p0.2)) (b0e) λe j1 x1 Q1 p1=>?_;simp;refine SW.yP (ι:={x:jL×Nat×Nat//j1<=x.2.1/\x.2.1<l.length/\l.length<x.2.2+x.2.1/\jM l [([38,38],19)] one x.2.2 x.1 x.2.1=jM l [([38,38],19)] one (l.length+2) e j1}) (λ_=>[]) (λx=>[(2,.cells [.d (.int .i64 0),.d (.str []),.d (.int .i64 0),.d .aF,.d .aF,.d .aF,.d .aF]),(3,.cells ((a1d x.1.1).map .d)),(100000,rdO l x.1.2.1)]) (λ_=>[]) (λx=>l.length-x.1.2.1) ⟨(e,j1,l.length+2),f7X _,p1.2,by simp only;omega,rfl⟩ (by simp) ?_;rintro⟨⟨e2,j2,g⟩,hb,sM,hg,hp⟩;simp only at hb sM hg hp;obtain⟨g,rfl⟩:∃k,g=k+1:=⟨g-1,by omega⟩;have p2:j1<=j2/\j2<l.length:=⟨hb,sM⟩;simp;cases s1:aL l j2 [38,38]with
 |true=>
  have hf:([([38,38],19)].find? λp:Nm×Int=>aL l j2 p.1)=some ([38,38],19):=by simp[s1]
  have hn:=aH hV.fin sM s1;refine mY (ds:=[.str [38,38]]) (d:=.d (.bool true)) gS (rD l j2 [38,38] p2.2 (by omega) s1) ?_;simp;refine oH 2 [1] (.op 0 (.call [3,4,5] .none) (.call [0,3,4,5] .none)) (gX (one (j2+1))) (by kernel_rfl) (by kernel_rfl) ?_;simp;refine⟨?_,?_⟩
  all_goals
   refine rdZ (i:=j2+1) (ds:=[]) a8u (b0d (j2+1) (by omega) hn) (λx j3 x3=>?_) (λn e hx=>?_)
   .have p3:=b0e (j2+1) x j3 hn x3;rw[uS hf x3]at hp;refine cI.mk ?_;simp;refine aD.mk cD (kY 19 e2 x) ?_;simp;exact aX.mk ⟨(kM 19 [e2,x],j3,g),by simp only;omega,p3.2,by simp only;omega,hp⟩ (by simp) (by simp;omega)
   .rw[sT hf hx]at hp;simp
    first|exact Q1.bad _ _ _ hp.symm|exact λs=>Q1.bad _ _ s hp.symm
 |false=>
 refine xK s1 p2 ?_;have hf:([([38,38],19)].find? λp:Nm×Int=>aL l j2 p.1)=none:=by simp[s1]
 have Q2:=hp.symm.trans (a0i hf);simp;exact Q1.ok _ j2 _ _ Q2 (.inr rfl) (by simp)
theorem c7g:aB l 1 (b4v aU bQ aI l ex):=aB.lvl hV.fin (aB.b9Y hV.fin mV hV.sB.pred)
theorem d4K(i:Nat)(gW:low<=i+1)(hi:i<l.length):qT G 73 [] l i (c3i aU bQ aI l ex i) tX:=by
 refine mX.bS func73 rfl ntmps73 rfl (by simp) ?_;intro Q Q0;unfold c3i a4h at Q0;have aor:=c7g hV hN hex h3 h7 mV;have hl:=hV.len;obtain⟨j0,rfl⟩:∃j0,j0=i:=⟨_,rfl⟩;have p0:j0<=j0/\j0<l.length:=⟨f7X _,hi⟩;generalize kD:b4v aU bQ aI l ex=one at *;have b0d:∀i,low<=i+1->i<l.length->qT G 122 [] l i (one i) tX:=by rw[<-kD];exact d0L hV hN hex h3 h7 mV
 have b0e:aB l 1 one:=by
  first
   |assumption
   |(rw[<-kD]
     exact(λ_ _ _=>aor) hV.fin mV hV.sB.pred)
 simp;refine rP Q0 p0 b5W ((b0d j0 (by omega) p0.2)) (b0e) λe j1 x1 Q1 p1=>?_;simp;refine SW.yP (ι:={x:jL×Nat×Nat//j1<=x.2.1/\x.2.1<l.length/\l.length<x.2.2+x.2.1/\jM l [([124,124],20)] one x.2.2 x.1 x.2.1=jM l [([124,124],20)] one (l.length+2) e j1}) (λ_=>[]) (λx=>[(2,.cells [.d (.int .i64 0),.d (.str []),.d (.int .i64 0),.d .aF,.d .aF,.d .aF,.d .aF]),(3,.cells ((a1d x.1.1).map .d)),(100000,rdO l x.1.2.1)]) (λ_=>[]) (λx=>l.length-x.1.2.1) ⟨(e,j1,l.length+2),f7X _,p1.2,by simp only;omega,rfl⟩ (by simp) ?_;rintro⟨⟨e2,j2,g⟩,hb,sM,hg,hp⟩;simp only at hb sM hg hp;obtain⟨g,rfl⟩:∃k,g=k+1:=⟨g-1,by omega⟩;have p2:j1<=j2/\j2<l.length:=⟨hb,sM⟩;simp;cases s1:aL l j2 [124,124]with
 |true=>
  have hf:([([124,124],20)].find? λp:Nm×Int=>aL l j2 p.1)=some ([124,124],20):=by simp[s1]
  have hn:=aH hV.fin sM s1;refine mY (ds:=[.str [124,124]]) (d:=.d (.bool true)) gS (rD l j2 [124,124] p2.2 (by omega) s1) ?_;simp;refine oH 2 [1] (.op 0 (.call [3,4,5] .none) (.call [0,3,4,5] .none)) (gX (one (j2+1))) (by kernel_rfl) (by kernel_rfl) ?_;simp;refine⟨?_,?_⟩
  all_goals
   refine rdZ (i:=j2+1) (ds:=[]) b5W (b0d (j2+1) (by omega) hn) (λx j3 x3=>?_) (λn e hx=>?_)
   .have p3:=b0e (j2+1) x j3 hn x3;rw[uS hf x3]at hp;refine cI.mk ?_;simp;refine aD.mk cD (kY 20 e2 x) ?_;simp;exact aX.mk ⟨(kM 20 [e2,x],j3,g),by simp only;omega,p3.2,by simp only;omega,hp⟩ (by simp) (by simp;omega)
   .rw[sT hf hx]at hp;simp
    first|exact Q1.bad _ _ _ hp.symm|exact λs=>Q1.bad _ _ s hp.symm
 |false=>
 refine xK s1 p2 ?_;have hf:([([124,124],20)].find? λp:Nm×Int=>aL l j2 p.1)=none:=by simp[s1]
 have Q2:=hp.symm.trans (a0i hf);simp;exact Q1.ok _ j2 _ _ Q2 (.inr rfl) (by simp)
end
end
end
end Go.Proofs.YtjpodcmhcenjjaaGreatDoor
