/- Lemmas that the law of this claim needs (PwC PsC PsE PsF PsG Z9 ZP PsH PsI PsJ PsK PwH PwI). No condition. -/
import Derived.Test.YtjpodcmhcenjjaaGreatDoorOta
import Derived.Test.YtjpodcmhcenjjaaGreatDoorOtc
import Derived.Test.YtjpodcmhcenjjaaGreatDoorOte
import Derived.RangeFuncNested
import Derived.RangeFuncBound
import Derived.RangeFuncCalls
import Derived.RangeFuncLeaves
import Derived.Shelf.Abstract
import Derived.WalkKit
import Derived.OwnWalkIn
import Derived.TacticsInMore
import Derived.LoopNIn
import Derived.LoopIn
import Derived.Test.YtjpodcmhcenjjaaGreatDoorProg
set_option linter.unusedVariables false
set_option linter.unusedSimpArgs false
set_option linter.unusedSectionVars false
set_option maxRecDepth 100000
set_option maxHeartbeats 64000000
open Go.Proofs.Tryz
namespace Go.Proofs.YtjpodcmhcenjjaaGreatDoor
section
section
variable {kw:Nm->Bool} {andP:Pr->Pr->Pr} {aE:List Tok->Nat->Nat->kJ Pr} {l:List Tok} {low m:Nat} {α β γ:Type} {ln:Int}
theorem d2q(x:bE α)(f:α->bE β)(g:β->bE γ):(x >>=f) >>=g=x >>=λa=>f a >>=g:=funext λi=>by
 rw[dN,dN,dN];cases x i with
 |ok a j=>simp only[dN]
 |bad n e=>rfl
theorem aM.assoc{x:bE α}{f:α->bE β}{g:β->bE γ}{y:RM γ}(h:aM l low ((x >>=f) >>=g) y):aM l low (x >>=λa=>f a >>=g) y:=by rwa[d2q]at h
theorem aM.d6n{x:bE γ}{y:RM α}{f:α->RM β}{g:β->RM γ}(h:aM l low x ((y >>=f) >>=g)):aM l low x (y >>=λa=>f a >>=g):=h
theorem aM.a7O{x:bE γ}{y:RM α}{f:α->RM β}{g:β->RM γ}(h:aM l low x (y >>=λa=>f a >>=g)):aM l low x ((y >>=f) >>=g):=h
theorem aM.f4W{x:bE β}{a:α}{g:α->RM β}(h:aM l low x (g a)):aM l low x (pure a >>=g):=h
theorem aM.c8O{x:bE α}{y:RM α}{f:α->bE β}{g:α->RM β}(P:α->Prop)(hx:aM l low x y)(ax:aB l m x)(hP:∀i a j,i<l.length->x i=.ok a j->P a)(hf:∀a,P a->aM l low (f a) (g a))(hk:∀a,xF (g a)):aM l low (x >>=f) (y >>=g):=
 ⟨λi ln h1 h2=>vY.yK (hx.sim i ln h1 h2) hk λa j h=>(hf a (hP i a j h2 h)).sim j ln (by have:=ax i a j h2 h;omega) (ax i a j h2 h).2,xF.yK hx.tR hk⟩
theorem vY.f4X{x y:bE α}{f:α->bE β}{i:Nat}{z:β×dW}(h:x i=y i)(H:vY ln ((y >>=f) i) z):vY ln ((x >>=f) i) z:=by rw[dN]at H|-;rw[h];exact H
theorem a9D{c:Nm}{one:α->bE α}{P Q:α->Prop}(h:∀a i b j,P a->one a i=.ok b j->P b/\Q b):∀(g:Nat) (a:α) (i:Nat) (b:α) (j:Nat),P a->gN l c one g a i=.ok b j->Q b
 |0,a,i,b,j,_,h0=>by unfold gN at h0;cases h0
 |g+1,a,i,b,j,hp,h0=>by
  unfold gN at h0;split at h0
  .cases h0
  .rename_i a' j' ho;have h2:=h a i a' j' hp ho;split at h0
   .exact a9D h g a' (j'+1) b j h2.1 h0
   .cases h0;exact h2.2
theorem b1g{s:Nm}{r:List Nm}{f:Unit->bE β}{i:Nat}(h:aH l i s=true):(aY l (s::r) >>=f) i=(aY l r >>=f) (i+1):=by
 have e:aY l (s::r) i=aY l r (i+1):=by
  show(if aH l i s=true then _ else _)=_
  rw[if_pos h]
 rw[dN,dN,e]
theorem b6D{s:Nm}{r:List Nm}{f:Unit->bE β}{i:Nat}(h:aH l i s=false):(aY l (s::r) >>=f) i=eH l i:=by
 have e:aY l (s::r) i=eH l i:=by
  show(if aH l i s=true then _ else _)=_
  rw[if_neg (by rw[h];decide)]
 rw[dN,e]
 rfl
theorem vY.f4Y{s:Nm}{f:Unit->bE β}{i:Nat}{z:β×dW}(h:aH l i s=true)(H:vY ln (f () (i+1)) z):vY ln ((aY l [s] >>=f) i) z:=by rw[b1g h];exact H
theorem vY.e1H{s:Nm}{r:List Nm}{f:Unit->bE β}{i:Nat}{z:β×dW}(h:aH l i s=false)(H:vY ln (eH l i) z):vY ln ((aY l (s::r) >>=f) i) z:=by rw[b6D h];exact H
theorem d2r{s:Nm}{f:Bool->bE β}{i:Nat}(h:aH l i s=true):(cQ l s >>=f) i=f true (i+1):=bP (by unfold cQ;rw[h,if_pos rfl])
theorem d2s{s:Nm}{f:Bool->bE β}{i:Nat}(h:aH l i s=false):(cQ l s >>=f) i=f false i:=bP (by unfold cQ;rw[h,if_neg (by decide)])
theorem aM.e7M{c:dW->Bool}{g:Nm->RM α}(hc:∀i ln,c ⟨i,0,ln⟩=false)(hk:∀a,xF (g a)):aM l low (eH l) (a5L l c >>=g):=⟨λi ln h1 h2=>by rw[cO];unfold a5L rZ;rw[hc i ln,if_neg (λh=>by cases h.1)];have h4:=hk [] (pL l ⟨i,0,ln⟩) (c0s h2);exact⟨by decide,by rw[h4,zG h2],by rw[h4,zG h2]⟩,xF.yK (xF.tk _) hk⟩
theorem d6o{c:dW->Bool}{s:dW}{A B:RM α}(h:c s=false):(a0n c >>=λb=>if b then A else B) s=B s:=by
 show(if c s=true then A else B) s=B s
 rw[h]
 rfl
theorem e7N{c:dW->Bool}{b:Bool}{i:Nat}(h:c ⟨i,0,ln⟩=b)(hi:i<l.length):a5L l c ⟨i,0,ln⟩=if b then((aG l i).text,⟨i+1,0,ln⟩) else([],pL l ⟨i,0,ln⟩):=by subst h;unfold a5L rZ;rw[a0E hi];cases c ⟨i,0,ln⟩<;>rfl
theorem c8P{s:Nm}(c:Bool)(A B:α->bE α)(z:α)(i:Nat):(if c then dP l s A z i else dP l s B z i)=dP l s (λout=>if c then A out else B out) z i:=by cases c<;>rfl
theorem c8Q{s:dW}(h:s.er≠0):dC kw l s=((mO,false),s):=by
 unfold dC;rw[c2o h,c2p h]
 rfl
variable (hE:oK l) (hW:∀i,TkW (aG l i))
include hE hW
theorem aM.e7O:aM l low (dP l [44] (λout=>do let w <- bW kw l;pure (out++[w])) []) (oF kw l >>=a3U kw l):=⟨λi ln h1 h2=>by
 rw[cO];unfold dP;rw[gN]
 dsimp only
 have h:=(aM.word (kw:=kw) (l:=l) (low:=low)).sim i ln h1 h2;cases hx:bW kw l i with
 |bad n e=>rw[hx]at h;obtain⟨k1,k2,k3⟩:e≠0/\_:=h;unfold a3U;rw[jU hx,vZ (by rw[k2];exact k1),if_neg (by decide)];exact⟨k1,k2,k3⟩
 |ok w j=>
  rw[hx]at h;have h:oF kw l ⟨i,0,ln⟩=(w,⟨j,0,ln⟩):=h;have ha:=aB.word (kw:=kw) hE i w j h2 hx;rw[bP hx,h];unfold a3U;simp only[jG,qA hE hW j (by decide:sgN [44]=true),List.nil_append];cases hs:aH l j [44]with
  |true=>rw[if_pos rfl,if_pos rfl];exact vY.loop hE hW (low:=0) (by decide) (λa=>aM.b0 aM.word (aB.word hE) λw=>aM.bY _) (λa=>((aB.word hE).le (by omega)).bl λ_=>aB.bY _) _ _ _ (by omega) (aK hE ha.2 hs) (by omega)
  |false=>
   rw[if_neg (by decide),if_neg (by decide)]
   rfl,xF.yK (xF.tk _) λw s hs=>by unfold a3U;rw[vZ hs];rfl⟩
theorem aM.words:aM l low (gA kw l) (sA kw l):=by unfold gA sA;refine aM.tA hE hW (by decide) (aM.nil (aM.d6n (aM.b0 (m:=0) (aM.e7O hE hW) ?_ λout=>aM.tA hE hW (by decide) (aM.nil (aM.bY _)))));exact aB.list hE (λa=>((aB.word hE).le (by omega)).bl λ_=>aB.bY _) _
theorem aM.f1l(v:Bool):aM l low ((if v then cQ l [118] else pure false) >>=λb=>if b then pure [118] else bW kw l) (a5L l λs=>vH kw l 0 s||v&&oL l [118] s):=⟨λi ln h1 h2=>by
 have b5G:vY ln (eH (α:=Nm) l i) ([],pL l ⟨i,0,ln⟩):=vY.fail h2 _;rw[e7N (b:=jV kw (aG l i)||v&&aH l i [118]) (by rw[a4Q kw h2,uU hE hW h2 (by decide) (by decide)]) h2];have hw:∀b:Bool,b=false->vY ln (bW kw l i) (if (jV kw (aG l i)||b)=true then((aG l i).text,(⟨i+1,0,ln⟩:dW)) else([],pL l ⟨i,0,ln⟩)):=λb hb=>by
  subst hb;unfold bW oQ;rw[Bool.or_false];cases jV kw (aG l i)with
  |true=>rfl
  |false=>exact b5G
 cases v with
 |false=>
  show vY ln ((pure false >>=λb=>if b=true then pure [118] else bW kw l:bE Nm) i) _
  rw[bP (jG _ _),if_neg (by decide)];exact hw _ rfl
 |true=>
  show vY ln ((cQ l [118] >>=λb=>if b=true then pure [118] else bW kw l) i) _
  cases hs:aH l i [118]with
  |true=>
   have ht:(aG l i).text=[118]:=by unfold aH cV at hs;simp only[g0W,decide_eq_true_eq]at hs;exact hs.2
   rw[d2r hs,ht,if_pos rfl,if_pos (by simp)]
   rfl
  |false=>rw[d2s hs,if_neg (by decide)];exact hw _ rfl,xF.tk _⟩
theorem aM.vars(v:Bool):aM l low (sX kw l v) (d6j kw l v):=by
 unfold sX d6j;refine aM.list hE hW (by decide) (λa=>?_) (λa=>?_) _
 .refine aM.assoc (aM.b0 (m:=0) (aM.f1l hE hW v) ?_ λnm=>aM.tA hE hW (by decide) (aM.nil (aM.b0 aM.sort (aB.sort hE) λs=>aM.bY _)));exact(aB.ite (aB.skip hE _) (aB.bY _)).bl λb=>aB.ite (aB.bY _) ((aB.word hE).le (by omega))
 .refine aB.bl (aB.ite (aB.skip hE _) (aB.bY _)) λb=>?_;refine aB.bl (aB.ite (aB.bY _) ((aB.word hE).le (by omega))) λnm=>?_;exact((aB.exp hE _ _).le (by omega)).bl λ_=>((aB.sort hE).le (by omega)).bl λ_=>aB.bY _
omit hE in
theorem d6p{i:Nat}(hi:i<l.length):
  (∃t,gO kw l i=.ok (some t) (i+1)/\dC kw l ⟨i,0,ln⟩=((t,true),⟨i+1,0,ln⟩)/\t.op≠4/\aH l i [123]=false/\aH l i [40]=false)\/
  (gO kw l i=.ok none i/\qJ (aG l i)=true/\dC kw l ⟨i,0,ln⟩=((vP 4 (aG l i).text,true),⟨i+1,0,ln⟩)/\aH l i [123]=false/\aH l i [40]=false)\/
  (gO kw l i=.ok none i/\qJ (aG l i)=false/\dC kw l ⟨i,0,ln⟩=((mO,false),⟨i,0,ln⟩)):=by
 unfold dC;rw[a4Q kw hi,a7N hi,a0E (by omega)];unfold gO;have e1:aH l i [73,110,116]=_:=(hW i).ti (by decide) (by decide);have e2:aH l i [66,111,111,108]=_:=(hW i).ti (by decide) (by decide);have e3:aH l i [67,101,108,108]=_:=(hW i).ti (by decide) (by decide);have e4:aH l i [123]=_:=(hW i).sg (by decide);have e5:aH l i [40]=_:=(hW i).sg (by decide);rw[e1,e2,e3,e4,e5];generalize aG l i=t;obtain⟨k,x,n,ln'⟩:=t;simp only[jV,qJ];by_cases k1:k=1
 .subst k1;by_cases hk:kw x=true
  .exact .inr (.inr ⟨by simp[hk],by simp,by simp[hk]⟩)
  .exact .inl ⟨vP 5 x,by simp[hk],by simp[hk],by simp[vP],by simp,by simp⟩
 by_cases k2:k=2
 .subst k2;by_cases x1:x=[73,110,116]
  .exact .inl ⟨vP 1 [],by simp[x1],by simp[x1],by simp[vP],by simp,by simp⟩
  by_cases x2:x=[66,111,111,108]
  .exact .inl ⟨vP 2 [],by simp[x2],by simp[x2],by simp[vP],by simp,by simp⟩
  by_cases x3:x=[67,101,108,108]
  .exact .inl ⟨vP 3 [],by simp[x3],by simp[x3],by simp[vP],by simp,by simp⟩
  exact .inr (.inl ⟨by simp[x1,x2,x3],by simp,by simp[x1,x2,x3],by simp,by simp⟩)
 exact .inr (.inr ⟨by simp[k1,k2],by simp[k2],by simp[k1,k2]⟩)
variable (aP:a1S aE l) (hN:∀i e n x,i<l.length->aE l i e=.bad n x->x≠0)
include aP hN
omit hE hW aP in
theorem vY.bef{i:Nat}(hi:i<l.length)(e:Nat):vY ln (aE l i e) (sK aE l e ⟨i,0,ln⟩):=by
 unfold sK;rw[if_pos rfl];cases h:aE l i e with
 |ok p j=>simp only[h];rfl
 |bad n x=>simp only[h];exact⟨hN _ _ _ _ hi h,rfl,rfl⟩
omit hE hW aP hN in
theorem xF.bef(e:Nat):xF (sK aE l e):=λs hs=>by unfold sK;rw[if_neg hs]
omit hE hW aP in
theorem aM.pred:aM l low (mP aE l) (a9x aE l):=⟨λi ln _ h2=>vY.bef hN h2 _,xF.bef _⟩
section
variable {ty:bE Ty} {ty':RM Ty} (oW:aM l (low+1) ty ty') (qW:aB l 1 ty)
include oW qW
theorem aM.c1U:aM l low (xU andP aE l ty) (a6N andP aE l ty'):=by
 unfold xU a6N;refine aM.tA hE hW (by decide) (aM.key hE hW (by decide) (by decide) λ_=>aM.tA hE hW (by decide) (aM.nil ?_));refine aM.b0 (oW.up (by omega)) qW λt=>?_;have hk:∀low,aM l low (mP aE l >>=λp=>aY l [[125]] >>=λ_=>pure {t with pred:=if t.pred.op=0 then p else andP t.pred p}) (a9x aE l >>=λp=>bQ l [125] >>=λ_=>pure {t with pred:=if t.pred.op=0 then p else andP t.pred p}):=λlow=>aM.b0 (aM.pred hN) aP.pred λp=>aM.tA hE hW (by decide) (aM.nil (aM.bY _));by_cases h6:t.op=6
 .rw[if_pos h6];exact aM.e7M (λi ln=>by simp[h6]) (λa=>(hk 0).tR)
 .rw[if_neg h6];exact⟨λi ln h1 h2=>vY.tk hE hW h2 (by rw[qA hE hW i (t:=[124]) (by decide)];simp[h6]) (λa=>(hk 0).tR) λhs a=>(hk 0).sim (i+1) ln (by omega) (aK hE h2 hs),xF.yK (xF.tk _) λa=>(hk 0).tR⟩
theorem aM.f1m:aM l low (kW kw andP aE l ty) (a9y kw andP aE l ty'):=⟨λi ln h1 h2=>by
 unfold kW a9y;rw[qA hE hW i (t:=[123]) (by decide),qA hE hW i (t:=[40]) (by decide)];rcases d6p hW (kw:=kw) (ln:=ln) h2 with⟨t,b1,b2,b3,b4,b5⟩|⟨b1,b2,b3,b4,b5⟩|⟨b1,b2,b3⟩
 .rw[bP b1,b2,b4,b5]
  rfl
 .rw[bP b1,b3,b4,b5];simp only[b2,if_true]
  rfl
 .rw[bP b1,b3];simp only[b2,Bool.false_eq_true,if_false];cases s1:aH l i [123]with
  |true=>rw[if_pos rfl,if_pos rfl];exact(aM.c1U hE hW aP hN oW qW).sim i ln h1 h2
  |false=>
   rw[if_neg (by decide),if_neg (by decide)];cases s2:aH l i [40]with
   |true=>rw[if_pos rfl,b1g s2];have h:aM l (low+1) (ty >>=λt=>aY l [[41]] >>=λ_=>pure t) (ty' >>=λt=>bQ l [41] >>=λ_=>pure t):=aM.b0 oW qW λt=>aM.tA hE hW (by decide) (aM.nil (aM.bY _));exact h.sim (i+1) ln (by omega) (aK hE h2 s2)
   |false=>rw[if_neg (by decide),b6D s2];exact vY.fail h2 _,λs hs=>by
 unfold a9y;rw[vZ hs,vZ hs,c8Q hs,if_neg (by decide),if_neg (by decide),if_neg (λh=>by cases h)];exact c0r hs⟩
theorem aM.f1n(name:Nm):aM l low (do
  let args <- sW l (b3t kw l) (λout=>do let t <- kW kw andP aE l ty;pure (out++[t])) []
  let b <- cQ l [60]
  if b then do
   let ps <- dP l [44] (λout=>do
    aY l [[118],[46]]
    let p <- mP aE l
    pure (out++[p])) []
   aY l [[62]]
   pure {vP 4 name with args:=args,b0F:=ps}
  else pure {vP 4 name with args:=args}:bE Ty) (a4N kw andP aE l ty' name):=by
 have aS:aB l 1 (kW kw andP aE l ty):=aB.a3m hE (qW.le (by omega)) aP.pred;unfold a4N;refine aM.b0 (m:=0) (aM.many (λs hs=>?_) (λi ln hi=>?_) (λa i ln h1 h2 _=>(aM.b0 (aM.f1m hE hW aP hN oW qW) aS λt=>aM.bY _).sim i ln h1 h2) (λa i b j hi _ hx=>(aS.bl λt=>aB.bY _) i b j hi hx) _) (aB.many (λa=>(aS.le (by omega)).bl λt=>aB.bY _) _) λargs=>?_
 .rw[c2o hs,c2p hs,vZ hs,vZ hs];rfl
 .unfold b3t;rw[a4Q kw hi,a7N hi,qA hE hW i (t:=[123]) (by decide),qA hE hW i (t:=[40]) (by decide),Bool.or_assoc,Bool.or_assoc]
 refine aM.b0 (aM.b6C hE hW (by decide)) (aB.skip hE _) λb=>aM.ite ?_ (aM.bY _);have aO:∀out:List Pr,aB l 0 (aY l [[118],[46]] >>=λ_=>mP aE l >>=λp=>pure (out++[p])):=λout=>((aB.exp hE _ _).le (by omega)).bl λ_=>aP.pred.bl λ_=>aB.bY _;exact aM.b0 (m:=0) (aM.list hE hW (by decide) (λa=>aM.key hE hW (by decide) (by decide) λ_=>aM.tA hE hW (by decide) (aM.nil (aM.b0 (aM.pred hN) aP.pred λp=>aM.bY _))) aO _) (aB.list hE aO _) λps=>aM.tA hE hW (by decide) (aM.nil (aM.bY _))
omit aP hN in
theorem aM.d2d:aM l low (xV kw l ty) (zE kw l ty'):=by
 unfold xV zE;refine aM.tA hE hW (by decide) (aM.nil ?_);have a1:∀out:List Nm×List Ty,aB l 0 (bW kw l >>=λw=>aY l [[58]] >>=λ_=>ty >>=λt=>pure (out.1++[w],out.2++[t])):=λout=>((aB.word hE).le (by omega)).bl λ_=>((aB.exp hE _ _).le (by omega)).bl λ_=>(qW.le (by omega)).bl λ_=>aB.bY _;have a2:∀out:List Nm×List Ty,aB l 0 (ty >>=λt=>pure (out.1,out.2++[t])):=λout=>(qW.le (by omega)).bl λ_=>aB.bY _;have hK:∀(named:Bool) (p:List Nm×List Ty),decide (p.1.length=0)= !named->aM l (low+1) (aY l [[41]] >>=λ_=>(λi=>
   if decide (p.1.length=0)&&decide (p.2.length=1)&& !aH l i [45,62] then .ok (p.2.headD mO) i
   else(do
    aY l [[45,62]]
    let t <- ty
    pure {vP 6 []with names:=p.1,args:=p.2++[t]}:bE Ty) i:bE Ty)) (bQ l [41] >>=λ_=>a0n (λs=>decide (p.2.length=1)&&(!named&& !cF l 0 [45,62] s)) >>=λc=>if c then pure (p.2.headD mO) else bQ l [45,62] >>=λ_=>ty' >>=λt=>pure {vP 6 []with names:=p.1,args:=p.2++[t]}):=λnamed p hn=>by
  have hr:aM l (low+1) (do
    aY l [[45,62]]
    let t <- ty
    pure {vP 6 []with names:=p.1,args:=p.2++[t]}:bE Ty) (bQ l [45,62] >>=λ_=>ty' >>=λt=>pure {vP 6 []with names:=p.1,args:=p.2++[t]}):=aM.tA hE hW (by decide) (aM.nil (aM.b0 (oW.up (by omega)) qW λt=>aM.bY _))
  refine aM.tA hE hW (by decide) (aM.nil (aM.test (λb=>?_) λi ln h1 h2=>?_))
  .cases b
   .exact hr.tR
   .exact xF.bY _
  .rw[qA hE hW i (t:=[45,62]) (by decide),hn];have e:(decide (p.2.length=1)&&(!named&& !aH l i [45,62]))=(!named&&decide (p.2.length=1)&& !aH l i [45,62]):=by cases named<;>simp
   rw[e];cases (!named&&decide (p.2.length=1)&& !aH l i [45,62])with
   |true=>rfl
   |false=>exact hr.sim i ln (by omega) h2
 have hB:∀named:Bool,aM l (low+1) (dP l [44] (λ(out:List Nm×List Ty)=>if named then bW kw l >>=λw=>aY l [[58]] >>=λ_=>ty >>=λt=>pure (out.1++[w],out.2++[t]) else ty >>=λt=>pure (out.1,out.2++[t])) ([],[])) (sZ l [44] (λ(out:List Nm×List Ty)=>if named then oF kw l >>=λw=>bQ l [58] >>=λ_=>ty' >>=λt=>pure (out.1++[w],out.2++[t]) else ty' >>=λt=>pure (out.1,out.2++[t])) ([],[])):=λnamed=>aM.list hE hW (by decide) (λa=>aM.ite (aM.b0 aM.word (aB.word hE) λw=>aM.tA hE hW (by decide) (aM.nil (aM.b0 (oW.up (by omega)) qW λt=>aM.bY _))) (aM.b0 oW qW λt=>aM.bY _)) (λa=>aB.ite (a1 a) (a2 a)) _;have hI:∀(named:Bool) i a j,i<l.length->dP l [44] (λ(out:List Nm×List Ty)=>if named then bW kw l >>=λw=>aY l [[58]] >>=λ_=>ty >>=λt=>pure (out.1++[w],out.2++[t]) else ty >>=λt=>pure (out.1,out.2++[t])) ([],[]) i=.ok a j->decide (a.1.length=0)= !named:=λnamed i a j hi h=>by
  cases named with
  |true=>
   refine a9D (P:=λ_=>True) (Q:=λp=>decide (p.1.length=0)=false) (λa i b j _ hx=>⟨trivial,?_⟩) _ _ _ _ _ trivial h;rw[if_pos rfl]at hx;simp only[dN]at hx
   repeat' split at hx
   all_goals first
    |cases hx
    |skip
   simp
  |false=>
   refine a9D (P:=λp=>p.1=[]) (Q:=λp=>decide (p.1.length=0)=true) (λa i b j h1 hx=>?_) _ _ _ _ _ rfl h;rw[if_neg (by decide)]at hx;simp only[dN]at hx
   repeat' split at hx
   all_goals first
    |cases hx
    |skip
   simp[h1]
 have key:∀named:Bool,aM l (low+1) _ _:=λnamed=>aM.c8O (m:=0) (λp=>decide (p.1.length=0)= !named) (hB named) (aB.list hE (λa=>aB.ite (a1 a) (a2 a)) _) (hI named) (hK named) λp=>by
  by_cases hp:decide (p.1.length=0)= !named
  .exact(hK named p hp).tR
  .refine xF.yK (xF.tA _) λ_ s hs=>?_;rw[cO]
   show((if (decide (p.2.length=1)&&(!named&& !cF l 0 [45,62] s))=true then _ else _:RM Ty) s).2=s
   split
   .rfl
   .exact(xF.yK (xF.tA _) λ_=>xF.yK oW.tR λ_=>xF.bY _) s hs
 refine aM.test (λb=>(key b).tR) λi ln h1 h2=>?_;have e:(vH kw l 0 ⟨i,0,ln⟩&&cF l 1 [58] ⟨i,0,ln⟩)=(jV kw (aG l i)&&cV (aG l (i+1)) [58]):=by
  rw[a4Q kw h2,a7M hE hW 1 i (t:=[58]) (by decide)]
  rfl
 rw[e];have hs:=(key (jV kw (aG l i)&&cV (aG l (i+1)) [58])).sim i ln h1 h2;refine vY.f4X (y:=dP l [44] (λ(out:List Nm×List Ty)=>if (jV kw (aG l i)&&cV (aG l (i+1)) [58]) then bW kw l >>=λw=>aY l [[58]] >>=λ_=>ty >>=λt=>pure (out.1++[w],out.2++[t]) else ty >>=λt=>pure (out.1,out.2++[t])) ([],[])) ?_ hs;exact c8P _ _ _ _ _
theorem aM.d2e:aM l low (yY kw andP aE l ty) (a4O kw andP aE l ty'):=⟨λi ln h1 h2=>by
 unfold yY a4O;rw[if_pos rfl,qA hE hW i (t:=[123]) (by decide),qA hE hW i (t:=[40]) (by decide)];rcases d6p hW (kw:=kw) (ln:=ln) h2 with⟨t,b1,b2,b3,b4,b5⟩|⟨b1,b2,b3,b4,b5⟩|⟨b1,b2,b3⟩
 .rw[bP b1,b2,b4,b5,if_neg (by decide),if_neg (by decide),if_pos rfl,if_neg b3]
  rfl
 .rw[bP b1,b3,b4,b5];simp only[b2,if_true,Bool.false_eq_true,if_false];have hn:=a3N hE h2 b2;have e:vX kw andP aE l ty i=_:=bP (x:=gT l) (show gT l i=.ok (aG l i).text (i+1) by unfold gT oQ;rw[b2,if_pos rfl]);rw[e];exact(aM.f1n hE hW aP hN oW qW _).sim (i+1) ln (by omega) hn
 .rw[bP b1,b3];simp only[b2,Bool.false_eq_true,if_false];cases s1:aH l i [123]with
  |true=>rw[if_pos rfl,if_pos rfl];exact(aM.c1U hE hW aP hN oW qW).sim i ln h1 h2
  |false=>
   rw[if_neg (by decide),if_neg (by decide)];cases s2:aH l i [40]with
   |true=>rw[if_pos rfl];exact(aM.d2d hE hW oW qW).sim i ln h1 h2
   |false=>rw[if_neg (by decide)];unfold xV;rw[b6D s2];exact vY.fail h2 _,λs hs=>by
 unfold a4O;rw[if_neg hs]⟩
end
theorem aM.b0J:∀(n low:Nat),l.length<n+low->aM l low (yZ kw andP aE l n) (a9z kw andP aE l n)
 |0,low,h=>⟨λi ln h1 h2=>absurd h (by omega),λs _=>rfl⟩
 |n+1,low,h=>aM.d2e hE hW aP hN (aM.b0J n (low+1) (by omega)) (aB.b0J hE aP.pred n)
theorem aM.typ:aM l low (jI kw andP aE l) (yA kw andP aE l):=aM.b0J hE hW aP hN _ _ (by omega)
theorem aM.types:aM l low (rY kw andP aE l) (a0n (cF l 0 [91]) >>=λc=>if c then a4P kw andP aE l else pure []):=by
 have hr:∀low,aM l low (dP l [44] (λout=>jI kw andP aE l >>=λt=>pure (out++[t])) [] >>=λout=>aY l [[93]] >>=λ_=>pure out) (sZ l [44] (λout=>yA kw andP aE l >>=λt=>pure (out++[t])) [] >>=λout=>bQ l [93] >>=λ_=>pure out):=λlow=>by have aO:∀out:List Ty,aB l 0 (jI kw andP aE l >>=λt=>pure (out++[t])):=λout=>((aB.typ hE aP.pred).le (by omega)).bl λ_=>aB.bY _;exact aM.b0 (m:=0) (aM.list hE hW (by decide) (λa=>aM.b0 (aM.typ hE hW aP hN) (aB.typ hE aP.pred) λt=>aM.bY _) aO _) (aB.list hE aO _) λout=>aM.tA hE hW (by decide) (aM.nil (aM.bY _))
 have hm:aM l 0 (aY l [[91]] >>=λ_=>dP l [44] (λout=>jI kw andP aE l >>=λt=>pure (out++[t])) [] >>=λout=>aY l [[93]] >>=λ_=>pure out) (a4P kw andP aE l):=aM.tA hE hW (by decide) (hr _);refine aM.test (λb=>?_) λi ln h1 h2=>?_
 .cases b
  .exact xF.bY _
  .exact hm.tR
 .rw[qA hE hW i (t:=[91]) (by decide)];unfold rY;cases hs:aH l i [91]with
  |true=>have h:=hm.sim i ln (by omega) h2;rw[b1g hs]at h;rw[bP (show cQ l [91] i=.ok true (i+1) by unfold cQ;rw[hs,if_pos rfl])];exact h
  |false=>
   rw[bP (show cQ l [91] i=.ok false i by unfold cQ;rw[hs,if_neg (by decide)])]
   rfl
end
end
section
open Go Go.VM
variable {G:GT}
theorem c2q{l:List Tok}{s:Nm}{r:List Nm}{i:Nat}(h:aH l i s=true):aY l (s::r) i=aY l r (i+1):=by
 show(if aH l i s=true then aY l r (i+1) else eH l i)=_
 rw[if_pos h]
theorem e2j{l:List Tok}{s:Nm}{r:List Nm}{i:Nat}(h:aH l i s=false):aY l (s::r) i=eH l i:=by
 show(if aH l i s=true then aY l r (i+1) else eH l i)=_
 rw[if_neg (by rw[h];decide)]
theorem oS(l:List Tok)(ss:List Nm)(i:Nat)(hi:i<l.length)(hl:l.length<=2000000)(hE:oK l)(hss:ss.length<=1000):sJ G 43 [.sl (strs ss)] l i (aY l ss i) (λ_=>.cI []):=by
 refine oZ.bL func43 rfl ntmps43 rfl (by simp) ?_;intro Q hQ;simp;refine SW.vR (ι:={k:Nat//k<=ss.length/\i+k<l.length/\aY l (ss.drop k) (i+k)=aY l ss i}) (λk=>[(8,.d (.int .i64 k.1))]) (λk=>rH l (i+k.1)) (λ_=>[]) (λk=>ss.length-k.1) ⟨0,by simp[hi]⟩ (by simp) ?_;rintro⟨k,hk,hik,hp⟩;rw[<-hp]at hQ;by_cases aF:k<ss.length
 .have hg:=b5H aF;have hw:=bA (show k<9223372036854775807 by omega);have hd:ss.drop k=ss[k]::ss.drop (k+1):=g1j aF;rw[hd]at hQ hp;simp[aF,hg];cases hs:aH l (i+k) ss[k]with
  |true=>have hn:=aK hE hik hs;rw[c2q hs]at hp;refine pA (ds:=[.str ss[k]]) (d:=.d (.bool true)) jX (sP l (i+k) ss[k] hik hl hs) ?_;simp[hw];exact bC.mk ⟨k+1,aF,by omega,hp⟩ (by simp[Nat.add_assoc]) (by simp;omega)
  |false=>rw[e2j hs]at hQ;refine pA (ds:=[.str ss[k]]) (d:=.d (.bool false)) jX (b2q l (i+k) ss[k] hik hl hs) ?_;simp;refine rdX (ds:=[]) wS (zD (α:=Unit) l (i+k) hik hl λ_=>.cI []) (λa j hx=>by unfold eH at hx;cases hx) (λn e hx=>?_);simp;exact hQ.bad n e _ hx
 .have hd:ss.drop k=[]:=List.drop_eq_nil_of_le (by omega);rw[hd]at hQ;simp[aF];exact hQ.ok () (i+k) _ _ rfl (.inl rfl) (by simp)
section
variable {α β:Type} {Q Q':Exit->St->Prop} {rs:List ResultVar} {l:List Tok} {i:Nat} {enc:β->DV} {Y:β->List (Nat×bD)} {own:List (TypeId×List VM.Loc)} {av:List DV} {A:Prop} {st:St} {ls:List (Option VM.Loc)} {dst:Option Tmp} {all:Array Oper} {ops:List Oper} {k:List XI}
theorem dZ{s:Nm}{r:List Nm}{g:Unit->bE β}(Q0:tG Q rs l enc Y own ((aY l (s::r) >>=g) i))(p0:A/\i<l.length)(hF:oK l)(oI:∀a j,aY l (s::r) i=.ok a j->tG Q rs l enc Y own (g a j)->i+1<=j/\j<l.length->XK prog G (.ops all ops::k) .normal ⟨jN dst (.cI []) st.tmps,bU 100000 (rdO l j) st.H,gI dst (dropKey 100000 st.own)⟩ Q')(hl:l.length<=2000000:=by omega)(hss:(s::r).length<=1000:=by simp)(hq:∀v s,(∀s,Q (.panic v) s)->Q' (.panic v) s:=by first|exact λ_ _ h=>h _|(intro v s h;simp;first|exact h _|exact h))(hw:WkT av (.ptr 100000 0::[D.sl (strs (s::r))].map .d):=by simp[strs])(hH:getKey 100000 st.H=some (rdO l i):=by simp):dO prog G 43 av ls dst all ops k st Q':=
 sY (hw:=hw) (hH:=hH) Q0 p0 mI (oS l _ i p0.2 hl hF hss) (aB.exp hF s r) oI hq
theorem rdT{s:Nm}(h:aH l i s=true)(p0:A/\i<l.length)(hF:oK l)(hX:i+1<=i+1/\i+1<l.length->XK prog G (.ops all ops::k) .normal ⟨jN dst (.d (.bool true)) st.tmps,bU 100000 (rdO l (i+1)) st.H,gI dst (dropKey 100000 st.own)⟩ Q)(hl:l.length<=2000000:=by omega)(hw:WkT av (.ptr 100000 0::[D.str s].map .d):=by simp)(hH:getKey 100000 st.H=some (rdO l i):=by simp):dO prog G 60 av ls dst all ops k st Q:=
 pA (hw:=hw) (hH:=hH) (d:=.d (.bool true)) jX (sP l i s p0.2 hl h) (hX ⟨g1m _,aK hF p0.2 h⟩)
theorem zH{s:Nm}(h:aH l i s=false)(p0:A/\i<l.length)(hX:XK prog G (.ops all ops::k) .normal ⟨jN dst (.d (.bool false)) st.tmps,bU 100000 (rdO l i) st.H,gI dst (dropKey 100000 st.own)⟩ Q)(hl:l.length<=2000000:=by omega)(hw:WkT av (.ptr 100000 0::[D.str s].map .d):=by simp)(hH:getKey 100000 st.H=some (rdO l i):=by simp):dO prog G 60 av ls dst all ops k st Q:=
 pA (hw:=hw) (hH:=hH) (d:=.d (.bool false)) jX (b2q l i s p0.2 hl h) hX
end
theorem a9E(l:List Tok)(i:Nat)(ok:Tok->Bool)(hi:i<l.length)(hl:l.length<=2000000):sJ G 119 [.bool (ok (aG l i))] l i (oQ l ok i) (λs=>.d (.str s)):=by
 have ht:=dA (G:=G) l (i+1) i (-1) (by omega) (by omega) (by intro e;subst e;simp at hi) hl;have hw:=bA (show i<9223372036854775807 by omega);refine oZ.bL func119 rfl ntmps119 rfl (by simp) ?_;intro Q hQ;cases h:ok (aG l i)with
 |true=>simp[hw];refine pA (i:=i+1) (ds:=[.int .i64 (-1)]) bZ ht ?_;generalize hT:aG l i=T at hQ ht h|-;have hk:=hQ.ok T.text (i+1) .ret;obtain⟨k,s,n,ln⟩:=T;simp[bJ];exact hk _ (by unfold oQ;rw[hT,if_pos h]) (.inr rfl) (by simp)
 |false=>simp;refine rdX (ds:=[]) wS (zD (α:=Nm) l i hi hl λ_=>.cI []) (λa j hx=>by unfold eH at hx;cases hx) (λn e hx=>?_);exact hQ.bad n e _ (by unfold oQ;rw[if_neg (by rw[h];decide)];exact hx)
section
variable (hG:G 1=some eK)
include hG
theorem dT(l:List Tok)(i:Nat)(hi:i<l.length)(hl:l.length<=2000000):sJ G 71 [] l i (bW aJ l i) (λs=>.d (.str s)):=by have ht:=dA (G:=G) l i i 0 (by omega) (by omega) (by intro e;subst e;simp at hi) hl;refine oZ.bL func71 rfl ntmps71 rfl (by simp) ?_;intro Q hQ;simp;refine pA (ds:=[.int .i64 0]) bZ ht ?_;simp;refine mG.mk mQ (oX hG (aG l i)) ?_;simp;refine rdX (ds:=[.bool (jV aJ (aG l i))]) a2N (a9E l i (jV aJ) hi hl) (λs j hx=>?_) (λn e hx=>hQ.bad n e _ hx);simp;exact hQ.ok s j _ _ hx (.inr rfl) (by simp)
theorem a4R(l:List Tok)(i:Nat)(hi:i<l.length)(hl:l.length<=2000000):sJ G 137 [] l i (yX aJ l i) (λs=>.d (.str s)):=by
 have ht:=dA (G:=G) l i i 0 (by omega) (by omega) (by intro e;subst e;simp at hi) hl;refine oZ.bL func137 rfl ntmps137 rfl (by simp) ?_;intro Q hQ;simp;refine pA (ds:=[.int .i64 0]) bZ ht ?_;simp;refine mG.mk mQ (oX hG (aG l i)) ?_;have hc:=a9E (G:=G) l i (λt=>jV aJ t||qJ t) hi hl;cases h:jV aJ (aG l i)with
 |true=>simp only[h,Bool.true_or]at hc;simp;refine rdX (ds:=[.bool true]) a2N hc (λs j hx=>?_) (λn e hx=>hQ.bad n e _ hx);simp;exact hQ.ok s j _ _ hx (.inr rfl) (by simp)
 |false=>simp only[h,Bool.false_or]at hc;simp;refine pA (ds:=[.int .i64 0]) bZ ht ?_;generalize hT:aG l i=T at hc|-;obtain⟨k,x,n,ln⟩:=T;simp[bJ];refine rdX (hw:=by simp[qJ]) (ds:=[.bool (qJ ⟨k,x,n,ln⟩)]) a2N hc (λs j hx=>?_) (λn e hx=>hQ.bad n e _ hx);simp;exact hQ.ok s j _ _ hx (.inr rfl) (by simp)
end
theorem mR(l:List Tok)(i:Nat)(hi:i<l.length)(hl:l.length<=2000000):sJ G 116 [] l i (gT l i) (λs=>.d (.str s)):=by have ht:=dA (G:=G) l i i 0 (by omega) (by omega) (by intro e;subst e;simp at hi) hl;have hc:=a9E (G:=G) l i qJ hi hl;refine oZ.bL func116 rfl ntmps116 rfl (by simp) ?_;intro Q hQ;simp;refine pA (ds:=[.int .i64 0]) bZ ht ?_;generalize hT:aG l i=T at hc|-;obtain⟨k,x,n,ln⟩:=T;simp[bJ];refine rdX (hw:=by simp[qJ]) (ds:=[.bool (qJ ⟨k,x,n,ln⟩)]) a2N hc (λs j hx=>?_) (λn e hx=>hQ.bad n e _ hx);simp;exact hQ.ok s j _ _ hx (.inr rfl) (by simp)
end
section
open Go Go.VM
variable {G:GT}
abbrev d2t:Pr->DV:=λp=>.d (.agg (prD p))
structure pY (G:GT) (aE:List Tok->Nat->Nat->kJ Pr) (l:List Tok):Prop where
 kw:G 1=some eK
 len:l.length<=50000
 fin:oK l
 bef:∀i e,i<l.length->e<=l.length->sJ G 155 [.int .i64 e] l i (aE l i e) d2t
 kL:a1S aE l
 nod:∀i e p j,i<l.length->aE l i e=.ok p j->bM p+i<=j/\p.op≠0
theorem a8F:VM.Enters prog 155:=.mk func155 rfl
theorem rM:VM.Enters prog 126:=.mk func126 rfl
theorem eA:VM.Enters prog 114:=.mk func114 rfl
theorem a4S:VM.Enters prog 117:=.mk func117 rfl
theorem b6E:VM.Enters prog 166:=.mk func166 rfl
section
variable {aE:List Tok->Nat->Nat->kJ Pr} {l:List Tok} (hV:pY G aE l)
include hV
theorem uC(i:Nat)(hi:i<l.length):sJ G 126 [] l i (mP aE l i) d2t:=by have hl:=hV.len;refine oZ.bL func126 rfl ntmps126 rfl (by simp) ?_;intro Q hQ;simp;refine rdX (ds:=[.int .i64 l.length]) a8F (hV.bef i l.length hi (g1m _)) (λp j hx=>?_) (λn e hx=>hQ.bad n e _ hx);simp;exact hQ.ok p j _ _ hx (.inr rfl) (by simp)
omit hV in
structure a1W {α:Type} (l:List Tok) (K:List (Nat×Nat)) (c1l:List DV) (X:α->List (Nat×bD)) (own:List (TypeId×List VM.Loc)):Prop where
 fit:∀a b i j,aL K ⟨c1l,rH l i++X a,own⟩ (.cI []) (rH l j++X b)=true
 f1o:∀a i,aL K ⟨c1l,rH l i++X a,own⟩ .undef (rH l i++X a)=true
 cap:WkT c1l (aR K c1l)
 hh:∀a i,WkH (rH l i++X a) (cX K (rH l i++X a))
 tk:∀a i tmps,wP ⟨tmps,rH l i++X a,own⟩ own (own.map (qS K []))=some []
 ow:∀t,own.map (kC K (some t))=own
 arg:∀n,a0C n [] own=true
 st:∀a b i j,bS K (rH l j++X b) ((100000,rdO l i)::X a)=(100000,rdO l j)::X b
 dk:dropKey 100000 own=own
 d0:∀t:Nat,cZ (.t t) own=own
 dl:∀t:Nat,List.map (λc=>(c.1,List.filter (λx=> !decide (x=VM.Loc.t t)) c.2)) own=own
 tt:(own.all λc=>c.2.all λl=>match l with| .t i=>decide (i<3)|_=>true)=true
 wk:∀a i t1 t2,WkT t1 t2->wI ⟨t1,rH l i++X a,own⟩ ⟨t2,rH l i++X a,own⟩
 ed:∀a i (s:St),s.H=rH l i++X a->s.own=own->a4K prog s [] (.cI []) (rH l i++X a) own
theorem c0u{α:Type}{c:Nm}{one:α->bE α}{g:Nat}{a b:α}{i j:Nat}(h:one a i=.ok b j):gN l c one (g+1) a i=if aH l j c then gN l c one g b (j+1) else .ok b j:=by rw[gN];simp only[h]
theorem b6F{α:Type}{c:Nm}{one:α->bE α}{g:Nat}{a:α}{i:Nat}{n e:Int}(h:one a i=.bad n e):gN l c one (g+1) a i=.bad n e:=by rw[gN];simp only[h]
theorem a9F:∀K:List (Nat×Nat),dX K []=[]
 |[]=>rfl
 |p::r=>by unfold dX;exact a9F r
theorem gP{α:Type}(c:Nm){F:FuncId}{c1l:List DV}{X:α->List (Nat×bD)}{own:List (TypeId×List VM.Loc)}{K:List (Nat×Nat)}(one:α->bE α)(Inv:α->Nat->Prop)(low:Nat)(he:VM.Enters prog F)(hX:a1W l K c1l X own)(uV:∀a,aB l 0 (one a))(jS:∀a i,low<=i->i<l.length->Inv a i->oZ G F c1l (X a) own l i (one a i) (λ_=>.cI []) X)(hinv:∀a i b j,i<l.length->Inv a i->one a i=.ok b j->Inv b j)(e4R:∀a i,Inv a i->Inv a (i+1))(a0:α)(i0:Nat)(cC:low<=i0)(hi0:i0<l.length)(h0:Inv a0 i0):oZ G 114 [.ptr 100000 0,.d (.str c),.clo F c1l] (X a0) own l i0 (dP l c one a0 i0) (λ_=>.cI []) X:=by
 have hl:=hV.len;refine oZ.bL func114 rfl ntmps114 rfl hX.tt ?_;intro Q hQ;unfold dP at hQ;simp[hX.dl];refine dO.mk (a1a he (jS a0 i0 cC hi0 h0) K (λa j hx=>hX.fit _ _ _ _) (hX.f1o _ _) hX.cap (hX.hh _ _) (hX.tk _ _ _) (hX.arg _) (λb j hx=>?_) (λn e hx=>hQ.bad n e _ (b6F hV hx)));rw[c0u hV hx]at hQ;simp only[bG,hX.st,hX.ow,a9F hV,bF,gI,jN,cZ,List.map_nil,List.append_nil];simp[aR];refine SW.vR (ι:={x:α×Nat×Nat//low<=x.2.1/\x.2.1<l.length/\l.length<x.2.2+x.2.1/\Inv x.1 x.2.1/\(if aH l x.2.1 c=true then gN l c one x.2.2 x.1 (x.2.1+1) else .ok x.1 x.2.1)=(if aH l j c=true then gN l c one (l.length+1) b (j+1) else .ok b j)}) (λ_=>[]) (λx=>rH l x.1.2.1++X x.1.1) (λ_=>own) (λx=>l.length-x.1.2.1) ⟨(b,j,l.length+1),?_⟩ ?_ ?_
 .have h1:=uV a0 i0 b j hi0 hx;exact⟨by simp only;omega,h1.2,by simp only;omega,hinv a0 i0 b j hi0 h0 hx,rfl⟩
 .refine hX.wk b j _ _ ?_;simp
 .rintro⟨⟨b1,j1,g1⟩,hl1,sL,hg1,hI1,hp1⟩;simp only at hl1 sL hg1 hI1 hp1;rw[<-hp1]at hQ;simp[hX.dl];by_cases hs:aH l j1 c=true
  .have hn:=aK hV.fin sL hs;rw[hs,if_pos rfl]at hQ hp1;obtain⟨g2,rfl⟩:∃g,g1=g+1:=⟨g1-1,by omega⟩;refine pA (ds:=[.str c]) (d:=.d (.bool true)) jX (sP l j1 c sL (by omega) hs) ?_;simp only[gI,hX.dk,hX.d0];simp[hX.dl];refine dO.mk (a1a he (jS b1 (j1+1) (by omega) hn (e4R _ _ hI1)) K (λa j hx=>hX.fit _ _ _ _) (hX.f1o _ _) hX.cap (hX.hh _ _) (hX.tk _ _ _) (hX.arg _) (λb2 j2 yJ=>?_) (λn e yJ=>?_))
   .have ha:=uV b1 (j1+1) b2 j2 hn yJ;rw[c0u hV yJ]at hp1;simp only[bG,hX.st,hX.ow,a9F hV,bF,gI,jN,cZ,List.map_nil,List.append_nil];simp[aR];refine bC.mk ⟨(b2,j2,g2),by simp only;omega,ha.2,by simp only;omega,hinv _ _ _ _ hn (e4R _ _ hI1) yJ,hp1⟩ ?_ (by simp;omega);refine hX.wk b2 j2 _ _ ?_;simp
   .simp;exact hQ.bad n e _ (b6F hV yJ)
  .have hs:=Bool.eq_false_iff.2 hs;rw[hs,if_neg (by decide)]at hQ;refine pA (ds:=[.str c]) (d:=.d (.bool false)) jX (b2q l j1 c sL (by omega) hs) ?_;simp only[gI,hX.dk,hX.d0];simp[hX.dl];exact hQ.ok b1 j1 _ _ rfl (.inl rfl) (hX.ed b1 j1 _ rfl rfl)
end
end
section
open Go Go.VM
variable {G:GT}
theorem a1p(l:List Nm)(s:Nm):strs (l++[s])=strs l++[[.str s]]:=by simp[strs]
abbrev K3:List (Nat×Nat):=[(100000,100000),(100001,100001),(100002,100002)]
theorem a2P:VM.Enters prog 132:=.mk func132 rfl
theorem b8P:VM.Enters prog 173:=.mk func173 rfl
section
variable {aE:List Tok->Nat->Nat->kJ Pr} {l:List Tok} (hV:pY G aE l)
include hV
def a3q(out:List Nm):List (Nat×bD):=[(100001,.cells [.d (.sl (strs out))]),(100002,.cells [.ptr 100000 0])]
abbrev d6r:List (TypeId×List VM.Loc):=[(9,[.c 100001 0])]
abbrev a0F(l:List Tok)(out:List Nm):bE (List Nm):=do let w <- bW aJ l;pure (out++[w])
theorem c2r(out:List Nm)(i:Nat)(hi:i<l.length)(uJ:out.length<=i):oZ G 166 [.ptr 100001 0,.ptr 100002 0] (a3q out) d6r l i (a0F l out i) (λ_=>.cI []) a3q:=by
 have hl:=hV.len;refine oZ.bL func166 rfl ntmps166 rfl (by simp) ?_;intro Q hQ;simp[a3q];refine kP 2 [1] (.op 0 (.call [3,4,5] .none) (.call [0,3,4,5] .none)) (kD (bW aJ l i)) (by kernel_rfl) (by kernel_rfl) ?_;simp;refine⟨?_,?_⟩
 all_goals
  refine rdZ (ds:=[]) dG (dT hV.kw l i hi (by omega)) (λw j hx=>?_) (λn e hx=>hQ.fail hx _);have hQ2:=hQ.step hx;refine cJ.mk ?_;simp;refine cK (by omega) ?_;simp;exact hQ2.ok _ j _ _ rfl (.inl rfl) (by simp[a3q,a1p])
theorem c8R:a1W l K3 [.ptr 100001 0,.ptr 100002 0] a3q d6r:=by
 constructor
 all_goals intros
 all_goals first
  |rfl
  |simp[a3q,aL,aQ,aW,aV,bH,getKey,aR,bF,cX,rk,dD,bS, *]
theorem a6O(i:Nat)(hi:i<l.length):sJ G 117 [] l i (gA aJ l i) (λws=>.d (.sl (strs ws))):=by
 have hl:=hV.len;refine oZ.bL func117 rfl ntmps117 rfl (by simp) ?_;intro Q hQ;unfold gA at hQ;simp;refine rdX (hw:=by simp[strs]) (ds:=[.sl (strs [[40]])]) mI (oS l [[40]] i hi (by omega) hV.fin (by simp)) (λu j hx=>?_) (λn e hx=>hQ.fail hx _);have hQ2:=hQ.step hx;have hj:=aB.exp hV.fin _ _ i u j hi hx;simp;have jS:=gP hV [44] (a0F l) (λout i=>out.length<=i) 0 b6E (c8R hV) (λa=>((aB.word hV.fin).le (by omega)).bl λ_=>aB.bY _) (λa i _ hi h=>c2r hV a i hi h) (λa i b j hi h hx=>?_) (λa i h=>by omega) [] j (by omega) hj.2 (by simp)
 .refine dO.mk (a1a eA jS [(100000,100000),(100001,3),(100002,1)] (λa j hx=>?_) ?_ ?_ ?_ rfl rfl (λws j2 yJ=>?_) (λn e yJ=>hQ2.fail yJ _))
  .simp[a3q,aL,aQ,aW,aV,bH,getKey]
  .simp[a3q,aL,aQ,aW,aV,bH,getKey]
  .simp[aR,bF,rk]
  .simp[a3q,aR,bF,rk,cX,dD]
  .have hQ3:=hQ2.step yJ;have tY:=aB.list hV.fin (m:=0) (λa=>((aB.word hV.fin).le (by omega)).bl λ_=>aB.bY _) [] j ws j2 hj.2 yJ;simp[bG,a3q,aR,bF,rk,cX,dD,bS,kC,gM,dX];refine rdX (hw:=by simp[strs]) (ds:=[.sl (strs [[41]])]) mI (oS l [[41]] j2 tY.2 (by omega) hV.fin (by simp)) (λu j hx=>?_) (λn e hx=>hQ3.fail hx _);have hQ4:=hQ3.step hx;simp;exact hQ4.ok _ j _ _ rfl (.inr rfl) (by simp)
 .simp only[a0F]at hx;rw[dN]at hx;cases hw:bW aJ l i with
  |bad n e=>rw[hw]at hx;cases hx
  |ok w k=>rw[hw]at hx;have:=aB.word (kw:=aJ) hV.fin i w k hi hw;cases hx;simp;omega
end
end
section
open Go Go.VM
variable {G:GT}
theorem kY{l:List Tok}{s:Nm}{i:Nat}(h:aH l i s=true):cQ l s i=.ok true (i+1):=by unfold cQ;rw[if_pos h]
theorem kZ{l:List Tok}{s:Nm}{i:Nat}(h:aH l i s=false):cQ l s i=.ok false i:=by unfold cQ;rw[if_neg (by rw[h];decide)]
section
variable {aE:List Tok->Nat->Nat->kJ Pr} {l:List Tok} (hV:pY G aE l)
include hV
def a5u(v:Bool)(out:List psV):List (Nat×bD):=[(100001,.cells [.d (.bool v)]),(100002,.cells [.ptr 100000 0]),(100003,.cells [.d (.sl (out.map pQ))])]
abbrev e4S:List (TypeId×List VM.Loc):=[(179,[.c 100003 0])]
abbrev K4:List (Nat×Nat):=[(100000,100000),(100001,100001),(100002,100002),(100003,100003)]
abbrev c0v(l:List Tok)(v:Bool)(out:List psV):bE (List psV):=do
 let b <- (if v then cQ l [118] else pure false)
 let name <- (if b then pure [118] else bW aJ l)
 aY l [[58]]
 let s <- yX aJ l
 pure (out++[(name,s)])
theorem a7P(l:List psV)(x:psV):(l++[x]).map pQ=l.map pQ++[[.str x.1,.str x.2]]:=by simp[pQ]
theorem d6t(l:List psV):∀x∈l.map pQ,x.length=2:=λx hx=>by
 obtain⟨y,_,rfl⟩:=List.mem_map.1 hx
 rfl
theorem c5R(v:Bool)(out:List psV)(i:Nat)(hi:i<l.length)(uJ:out.length<=i):oZ G 173 [.ptr 100001 0,.ptr 100002 0,.ptr 100003 0] (a5u v out) e4S l i (c0v l v out i) (λ_=>.cI []) (a5u v):=by
 have hl:=hV.len;refine oZ.bL func173 rfl ntmps173 rfl (by simp) ?_;intro Q Q0;obtain⟨j0,rfl⟩:∃j0,j0=i:=⟨_,rfl⟩;have p0:j0<=j0/\j0<l.length:=⟨g1m _,hi⟩;simp[a5u];cases v with
 |false=>
  have Q1:=Q0.step (x:=pure false) rfl;rw[if_neg (by decide)]at Q1;simp;obtain⟨j1,rfl⟩:∃j1,j1=j0:=⟨_,rfl⟩;have p1:=p0;refine sY Q1 p1 dG (dT hV.kw l j1 p1.2 (by omega)) (aB.word hV.fin) λs j2 x2 Q2 p2=>?_;simp;refine dZ Q2 p2 hV.fin λu5 j5 x5 Q5 p5=>?_;simp;refine gC [1] 3 [2] (.op 0 (.call [4,5,6,7] .none) (.call [0,4,5,6,7] .none)) (kD (yX aJ l j5)) (by kernel_rfl) (by kernel_rfl) ?_;simp;refine⟨?_,?_⟩
  all_goals
   refine qK Q5 p5 a2O (a4R hV.kw l j5 p5.2 (by omega)) (aB.sort hV.fin) λw j6 x6 Q6 p6=>cJ.mk ?_;simp;refine cK (by simp[pQ];omega) ?_;simp;exact Q6.ok _ j6 _ _ rfl (.inl rfl) (by simp[a5u,a7P hV])
 |true=>
  cases hs:aH l j0 [118]with
  |true=>
   have Q1:=Q0.step (x:=cQ l [118]) (kY hs);rw[if_pos rfl]at Q1;have Q2:=Q1.step (x:=pure [118]) rfl;simp;refine rdT hs p0 hV.fin λp2=>?_;obtain⟨j2,tY⟩:∃j2,j0+1=j2:=⟨_,rfl⟩;rw[tY]at Q2 p2|-;simp;refine dZ Q2 p2 hV.fin λu5 j5 x5 Q5 p5=>?_;simp;refine gC [1] 3 [2] (.op 0 (.call [4,5,6,7] .none) (.call [0,4,5,6,7] .none)) (kD (yX aJ l j5)) (by kernel_rfl) (by kernel_rfl) ?_;simp;refine⟨?_,?_⟩
   all_goals
    refine qK Q5 p5 a2O (a4R hV.kw l j5 p5.2 (by omega)) (aB.sort hV.fin) λw j6 x6 Q6 p6=>cJ.mk ?_;simp;refine cK (by simp[pQ];omega) ?_;simp;exact Q6.ok _ j6 _ _ rfl (.inl rfl) (by simp[a5u,a7P hV])
  |false=>
   have Q1:=Q0.step (x:=cQ l [118]) (kZ hs);rw[if_neg (by decide)]at Q1;simp;refine zH hs p0 ?_;simp;obtain⟨j1,rfl⟩:∃j1,j1=j0:=⟨_,rfl⟩;have p1:=p0;refine sY Q1 p1 dG (dT hV.kw l j1 p1.2 (by omega)) (aB.word hV.fin) λs j2 x2 Q2 p2=>?_;simp;refine dZ Q2 p2 hV.fin λu5 j5 x5 Q5 p5=>?_;simp;refine gC [1] 3 [2] (.op 0 (.call [4,5,6,7] .none) (.call [0,4,5,6,7] .none)) (kD (yX aJ l j5)) (by kernel_rfl) (by kernel_rfl) ?_;simp;refine⟨?_,?_⟩
   all_goals
    refine qK Q5 p5 a2O (a4R hV.kw l j5 p5.2 (by omega)) (aB.sort hV.fin) λw j6 x6 Q6 p6=>cJ.mk ?_;simp;refine cK (by simp[pQ];omega) ?_;simp;exact Q6.ok _ j6 _ _ rfl (.inl rfl) (by simp[a5u,a7P hV])
theorem d2u(v:Bool):a1W l K4 [.ptr 100001 0,.ptr 100002 0,.ptr 100003 0] (a5u v) e4S:=by
 constructor
 all_goals intros
 all_goals first
  |rfl
  |simp[a5u,aL,aQ,aW,aV,bH,getKey,aR,bF,cX,rk,dD,bS, *]
theorem b2t(v:Bool)(out:List psV):aB l 1 (c0v l v out):=by refine aB.br (aB.ite (aB.skip hV.fin _) (aB.bY _)) λb=>?_;refine aB.br (aB.ite (aB.bY _) ((aB.word hV.fin).le (by omega))) λnm=>?_;exact(aB.exp hV.fin _ _).bl λ_=>((aB.sort hV.fin).le (by omega)).bl λ_=>aB.bY _
theorem c0w(v:Bool)(a:List psV)(i:Nat)(b:List psV)(j:Nat)(h:c0v l v a i=.ok b j):b.length=a.length+1:=by
 simp only[c0v,dN]at h
 repeat' split at h
 all_goals first|cases h|skip
 all_goals simp
theorem a4T(v:Bool)(i:Nat)(hi:i<l.length):sJ G 132 [.bool v] l i (sX aJ l v i) (λws=>.d (.sl (ws.map pQ))):=by
 have hl:=hV.len;refine oZ.bL func132 rfl ntmps132 rfl (by simp) ?_;intro Q Q0;unfold sX at Q0;simp;have jS:=gP hV [44] (c0v l v) (λout i=>out.length<=i) 0 b8P (d2u hV v) (λa=>(b2t hV v a).le (by omega)) (λa i _ hi h=>c5R hV v a i hi h) (λa i b j hi h hx=>?_) (λa i h=>by omega) [] i (by omega) hi (by simp)
 .refine dO.mk (a1a eA jS [(100000,100000),(100001,3),(100002,2),(100003,5)] (λa j hx=>?_) ?_ ?_ ?_ rfl rfl (λws j2 yJ=>?_) (λn e yJ=>Q0.bad n e _ yJ))
  .simp[a5u,aL,aQ,aW,aV,bH,getKey]
  .simp[a5u,aL,aQ,aW,aV,bH,getKey]
  .simp[aR,bF,rk]
  .simp[a5u,aR,bF,rk,cX,dD]
  .simp[bG,a5u,aR,bF,rk,cX,dD,bS,kC,gM,dX];exact Q0.ok _ j2 _ _ yJ (.inr rfl) (by simp)
 .have h1:=b2t hV v a i b j hi hx;have h2:=c0w hV v a i b j hx;omega
end
end
end Go.Proofs.YtjpodcmhcenjjaaGreatDoor
section
section
namespace Go.Proofs.YtjpodcmhcenjjaaGreatDoor
open Go Go.VM
variable {G:GT}
mutual
def a1b:Pr->Pr->Bool
 |⟨o,n,k,l⟩,⟨o',n',k',l'⟩=>decide (o=o')&&(decide (n=n')&&(decide (k=k')&&(decide (l.length=l'.length)&&wY l l')))
def wY:List Pr->List Pr->Bool
 |a::r,b::s=>a1b a b&&wY r s
 |[],_=>true
 |_::_,[]=>true
end
theorem d0I(a b:Pr):a1b a b=(decide (a.op=b.op)&&(decide (a.name=b.name)&&(decide (a.n=b.n)&&(decide (a.kids.length=b.kids.length)&&wY a.kids b.kids)))):=by cases a;cases b;rfl
mutual
theorem b1h:∀a b:Pr,a1b a b=true↔a=b
 |⟨o,n,k,l⟩,⟨o',n',k',l'⟩=>by
  have:=c0x l l';simp only[a1b,g0W,decide_eq_true_eq,Pr.mk.injEq];constructor
  .rintro⟨h1,h2,h3,h4,h5⟩;exact⟨h1,h2,h3,(this h4).1 h5⟩
  .rintro⟨h1,h2,h3,rfl⟩;exact⟨h1,h2,h3,rfl,(this rfl).2 rfl⟩
theorem c0x:∀l k:List Pr,l.length=k.length->(wY l k=true↔l=k)
 |[],[],_=>by simp[wY]
 |a::r,b::s,h=>by have h1:=b1h a b;have h2:=c0x r s (by simpa using h);simp only[wY,g0W,h1,h2,List.cons.injEq]
 |[],_::_,h=>by simp at h
 |_::_,[],h=>by simp at h
end
theorem b6G{l k:List Pr}{i:Nat}(h:i<l.length)(h':i<k.length):wY (l.drop i) (k.drop i)=(a1b l[i] k[i]&&wY (l.drop (i+1)) (k.drop (i+1))):=by
 rw[g1j h,g1j h']
 rfl
theorem c0y(l k:List Pr):wY (l.drop l.length) k=true:=by simp[wY]
end Go.Proofs.YtjpodcmhcenjjaaGreatDoor
end
section
namespace Go.Proofs.YtjpodcmhcenjjaaGreatDoor
open Go Go.VM
variable {G:GT}
theorem wZ:VM.Enters prog 19:=.mk func19 rfl
theorem a1X:∀t u:Pr,bM t<=900000000->CS prog G 19 [.agg (prD t),.agg (prD u)] (.d (.bool (a1b t u))) none:=by
 refine Pr.ind λt ih=>?_;obtain⟨op,nm,n,l⟩:=t;intro u hN;obtain⟨op',nm',n',l'⟩:=u;simp only at ih;have hn:=pT ⟨op,nm,n,l⟩;have hq:=d0I ⟨op,nm,n,l⟩ ⟨op',nm',n',l'⟩;simp only at hn hq;have hl:=jF l;refine CS.aX func19 rfl ntmps19 rfl ?_;by_cases h1:op=op'
 .by_cases h2:nm=nm'
  .by_cases h4:n=n'
   .by_cases h3:l.length=l'.length
    .simp only[h1,h2,h3,h4,decide_true,Bool.true_and]at hq;simp[h1,h2,h3,h4];refine SW.eX (ι:={i:Nat//i<=l.length/\wY (l.drop i) (l'.drop i)=wY l l' }) (λi=>[(37,.d (.int .i64 i.1))]) (λi=>[(2,.cells [.d (.int .i64 op'),.d (.str nm'),.d (.int .i64 n'),.d (.sl (l.map rW))]),(3,.cells [.d (.int .i64 op'),.d (.str nm'),.d (.int .i64 n'),.d (.sl (l'.map rW))])]) (λ_=>[]) (λi=>l.length-i.1) ⟨0,by simp⟩ (by simp) ?_;rintro⟨i,hi,hR⟩
     try simp only at hi hR
     by_cases aF:i<l.length
     .have c1N:i<l'.length:=by omega
      have hg:=xR aF;have hg':=xR c1N;have hw:=bA (show i<9223372036854775807 by omega);have hb2:=rX aF;have hb3:=kE l (i+1);rw[b6G aF c1N]at hR;simp[c1N,aF,hg,hg'];refine⟨kV.mk (by kernel_rfl),?_⟩;refine aC.mk wZ (ih l[i] (List.getElem_mem aF) l'[i] (by omega)) ?_;cases hs:a1b l[i] l'[i]
      .rw[hs,Bool.false_and]at hR;simp[hs,hq, <- hR]
      .rw[hs,Bool.true_and]at hR;simp[hs];exact bC.mk ⟨i+1,aF,hR⟩ (by simp[hw]) (by simp;omega)
     .have:i=l.length:=by omega
      subst this;rw[c0y]at hR;simp[hq, <- hR, <- h3]
    .simp only[h1,h2,h3,h4,decide_true,decide_false,Bool.true_and,Bool.false_and]at hq;have h3': ¬((l.length:Int)=(l'.length:Int)):=by omega
     simp[h1,h2,h3,h3',h4,hq]
   .simp only[h1,h2,h4,decide_true,decide_false,Bool.true_and,Bool.false_and]at hq;simp[h1,h2,h4,hq]
  .simp only[h1,h2,decide_true,decide_false,Bool.true_and,Bool.false_and]at hq;simp[h1,h2,hq]
 .simp only[h1,decide_false,Bool.false_and]at hq;simp[h1,hq]
def d2v(l l':List Pr):Bool:=decide (l.length=l'.length)&&wY l l'
end Go.Proofs.YtjpodcmhcenjjaaGreatDoor
end
end
section
section
namespace Go.Proofs.YtjpodcmhcenjjaaGreatDoor
open Go Go.VM
def a9G:Pr:=⟨0,[],0,[]⟩
def a1c:Pr:=⟨2,[],1,[]⟩
def a4U:Pr:=⟨2,[],0,[]⟩
instance:DecidableEq Pr:=λa b=>if h:a1b a b=true then isTrue ((b1h a b).1 h) else isFalse λe=>h ((b1h a b).2 e)
def tI(p:Pr):Bool:=decide (p=a9G)||decide (p=a1c)
def a0G:Pr->List Pr
 |⟨op,nm,n,[a,b]⟩=>if op=15 then a0G a++a0G b else [⟨op,nm,n,[a,b]⟩]
 |⟨op,nm,n,l⟩=>if tI ⟨op,nm,n,l⟩ then [] else [⟨op,nm,n,l⟩]
theorem c8S(nm:Nm)(n:Int)(a b:Pr):a0G ⟨15,nm,n,[a,b]⟩=a0G a++a0G b:=by rw[a0G,if_pos rfl]
theorem d2w{p:Pr}(h:tI p=true):p.kids=[]:=by simp only[tI,g1i,decide_eq_true_eq]at h;rcases h with rfl|rfl<;>rfl
theorem c2s{p:Pr}(h: ¬(p.op=15/\p.kids.length=2)):a0G p=if tI p then [] else [p]:=by
 obtain⟨op,nm,n,l⟩:=p
 match l,h with
 |[],_=>rw[a0G];simp
 |[a],_=>rw[a0G];simp
 |[a,b],h=>
  have h5: ¬op=15:=λe=>h ⟨e,rfl⟩;rw[a0G,if_neg h5];cases hv:tI ⟨op,nm,n,[a,b]⟩with
  |false=>simp
  |true=>have:=d2w hv;simp at this
 |a::b::c::r,_=>rw[a0G];simp
mutual
theorem c0z:∀p:Pr,(a0G p).length<=bM p
 |⟨op,nm,n,l⟩=>by
  by_cases h:op=15/\l.length=2
  .match l,h with
   |[a,b],⟨h15,_⟩=>subst h15;rw[c8S];have h1:=c0z a;have h2:=c0z b;simp only[List.length_append,bM,dM];omega
  .rw[c2s h];have:=c5k ⟨op,nm,n,l⟩;split<;>simp<;>omega
end
def f1r(ns:List Nm)(bys:List Pr)(op:Int)(nm:Nm):Option Pr:=if op=3/\0<=a6q nm ns 0 then bys[(a6q nm ns 0).toNat]? else none
mutual
def e7R (ns:List Nm) (bys:List Pr):Pr->Pr
 |⟨op,nm,n,l⟩=>match f1r ns bys op nm with
  |some u=>u
  |none=>⟨op,nm,n,d0J ns bys l⟩
def d0J (ns:List Nm) (bys:List Pr):List Pr->List Pr
 |[]=>[]
 |t::r=>e7R ns bys t::d0J ns bys r
end
mutual
def b4q:Pr->Nat
 |⟨_,_,_,l⟩=>vE l 0+1
def vE:List Pr->Nat->Nat
 |[],n=>n
 |t::r,n=>vE r (max n (b4q t))
end
theorem d0K(p:Pr):b4q p=vE p.kids 0+1:=by cases p;rfl
theorem c0A:∀(a b:List Pr) (n:Nat),vE (a++b) n=vE b (vE a n)
 |[],b,n=>by simp[vE]
 |t::a,b,n=>by simp only[List.cons_append,vE,c0A a b]
theorem b6H{l:List Pr}{i:Nat}(h:i<l.length)(n:Nat):vE (l.take (i+1)) n=max (vE (l.take i) n) (b4q l[i]):=by rw[g1l h,c0A];simp[vE]
mutual
theorem e2k:∀p:Pr,b4q p<=bM p
 |⟨op,nm,n,l⟩=>by have:=b1i l 0;simp only[b4q,bM];omega
theorem b1i:∀(l:List Pr) (n:Nat),vE l n<=n+dM l
 |[],n=>by simp[vE]
 |t::r,n=>by have h1:=e2k t;have h2:=b1i r (max n (b4q t));simp only[vE,dM];omega
end
theorem d2x:∀ {l:List Pr} {k:Pr},k∈l->bM k<=dM l
 |t::r,k,h=>by
  simp only[dM];rcases List.mem_cons.1 h with rfl|h
  .omega
  .have:=d2x h;omega
end Go.Proofs.YtjpodcmhcenjjaaGreatDoor
end
section
namespace Go.Proofs.YtjpodcmhcenjjaaGreatDoor
open Go Go.VM
variable {G:GT}
theorem d2y{α:Type}(f:α->List D){l:List α}{i:Nat}(h:i<l.length):List.take (i+1) (List.map f l)=List.take i (List.map f l)++[f l[i]]:=by have:=d5F f h;rw[List.map_take,List.map_take]at this;exact this
theorem e2l{α:Type}{f:α->List D}{k:Nat}(hf:∀a,(f a).length=k){l:List α}{i:Nat}:∀(x:List D),x∈List.take i (List.map f l)->x.length=k:=λx hx=>by obtain⟨t,_,rfl⟩:=List.mem_map.1 (List.mem_of_mem_take hx);exact hf t
abbrev prO(op:Int)(nm:Nm)(n:Int)(k:D):bD:=.cells [.d (.int .i64 op),.d (.str nm),.d (.int .i64 n),.d k]
theorem vU:VM.Enters prog 128:=.mk func128 rfl
theorem d2z:VM.Enters prog 169:=.mk func169 rfl
theorem d6u(l l':List Pr)(hN:dM l<=900000000)(ih:∀k∈l,∀u:Pr,bM k<=900000000->CS prog G 128 [.agg (prD k),.agg (prD u)] (.d (.bool (a1b k u))) none):
  CH prog G 169 ⟨[.d (.sl (l.map rW)),.d (.sl (l'.map rW)),.fn 128],[],[]⟩ ⟨[.d (.bool (d2v l l'))],[],[]⟩:=by
 have hl:=jF l;refine CH.aX func169 rfl ntmps169 rfl (by simp) ?_;by_cases h3:l.length=l'.length
 .have hq:d2v l l'=wY l l':=by simp[d2v,h3]
  simp[h3];refine SW.eX (ι:={i:Nat//i<=l.length/\wY (l.drop i) (l'.drop i)=wY l l' }) (λi=>[(15,.d (.int .i64 i.1))]) (λ_=>[]) (λ_=>[]) (λi=>l.length-i.1) ⟨0,by simp⟩ (by simp) ?_;rintro⟨i,hi,hR⟩
  try simp only at hi hR
  by_cases aF:i<l.length
  .have c1N:i<l'.length:=by omega
   have hg:=xR aF;have hg':=xR c1N;have hw:=bA (show i<9223372036854775807 by omega);have hb2:=rX aF;have hb3:=kE l (i+1);rw[b6G aF c1N]at hR;simp[c1N,aF,hg,hg'];refine⟨kV.mk (by kernel_rfl),?_⟩;refine aC.mk vU (ih l[i] (List.getElem_mem aF) l'[i] (by omega)) ?_;cases hs:a1b l[i] l'[i]
   .rw[hs,Bool.false_and]at hR;simp[hs,hq, <- hR]
   .rw[hs,Bool.true_and]at hR;simp[hs];exact bC.mk ⟨i+1,aF,hR⟩ (by simp[hw]) (by simp;omega)
  .have:i=l.length:=by omega
   subst this;rw[c0y]at hR;simp[hq, <- hR, <- h3]
 .have h3': ¬((l.length:Int)=(l'.length:Int)):=by omega
  have hq:d2v l l'=false:=by simp[d2v,h3]
  simp[h3,h3',hq]
theorem a1d:∀t u:Pr,bM t<=900000000->CS prog G 128 [.agg (prD t),.agg (prD u)] (.d (.bool (a1b t u))) none:=by
 refine Pr.ind λt ih=>?_;obtain⟨op,nm,n,l⟩:=t;intro u hN;obtain⟨op',nm',n',l'⟩:=u;simp only at ih;have hn:=pT ⟨op,nm,n,l⟩;have hq:=d0I ⟨op,nm,n,l⟩ ⟨op',nm',n',l'⟩;simp only at hn hq;have hE:=d6u (G:=G) l l' (by omega) ih;have hA:(decide (l.length=l'.length)&&wY l l')=d2v l l':=rfl;rw[hA]at hq;refine CS.aX func128 rfl ntmps128 rfl ?_;by_cases h1:op=op'
 .by_cases h2:nm=nm'
  .by_cases h4:n=n'
   .simp only[h1,h2,h4,decide_true,Bool.true_and]at hq;simp[h1,h2,h4];refine jB.ro d2z hE [] (by simp) (by simp) (by simp) (by simp) (by simp) ?_;simp[hq]
   .simp only[h1,h2,h4,decide_true,decide_false,Bool.true_and,Bool.false_and]at hq;simp[h1,h2,h4,hq]
  .simp only[h1,h2,decide_true,decide_false,Bool.true_and,Bool.false_and]at hq;simp[h1,h2,hq]
 .simp only[h1,decide_false,Bool.false_and]at hq;simp[h1,hq]
theorem tJ:VM.Enters prog 170:=.mk func170 rfl
def a4V(b:Bool):Pr:=if b then a1c else a4U
theorem uW(b:Bool):CS prog G 170 [.bool b] (.d (.agg (prD (a4V b)))) none:=by refine CS.aX func170 rfl ntmps170 rfl ?_;cases b<;>simp[a4V,a1c,a4U]
theorem b3G:VM.Enters prog 182:=.mk func182 rfl
theorem b6I:CS prog G 182 [] (.d (.agg (prD a1c))) none:=by refine CS.aX func182 rfl ntmps182 rfl ?_;simp[a1c]
theorem b1j(a b:Pr):a1b a b=decide (a=b):=by rw[Bool.eq_iff_iff,b1h];simp
theorem b8Q:VM.Enters prog 171:=.mk func171 rfl
theorem c2t(p:Pr)(h:bM p<=900000000):CS prog G 171 [.agg (prD p)] (.d (.bool (tI p))) none:=by
 have e1:=a1d (G:=G) p a9G h;have e2:=a1d (G:=G) p a1c h;rw[b1j]at e1 e2;refine CS.aX func171 rfl ntmps171 rfl ?_;simp;refine⟨kV.mk (by kernel_rfl),?_⟩;refine aC.mk vU (CS.args e1 (by simp[a9G])) ?_;by_cases hz:p=a9G
 .simp[hz,tI]
 .simp[hz,tI];refine aC.mk tJ (uW true) ?_;simp;refine aC.mk vU (CS.args e2 (by simp[a1c,a4V])) ?_;simp
theorem b3H:VM.Enters prog 184:=.mk func184 rfl
theorem b6J(p:Pr)(h:bM p<=900000000):CS prog G 184 [.agg (prD p)] (.d (.bool (tI p))) none:=by
 have e1:=a1X (G:=G) p a9G h;have e2:=a1X (G:=G) p a1c h;rw[b1j]at e1 e2;refine CS.aX func184 rfl ntmps184 rfl ?_;simp;refine⟨kV.mk (by kernel_rfl),?_⟩;refine aC.mk b3G (b6I ) ?_;simp;refine aC.mk wZ e2 ?_;by_cases hz:p=a1c
 .simp[hz,tI]
 .simp[hz,tI];refine aC.mk wZ (CS.args e1 (by simp[a9G])) ?_;simp
theorem a0H:VM.Enters prog 172:=.mk func172 rfl
theorem b6K:∀p:Pr,bM p<=900000000->CS prog G 172 [.agg (prD p)] (.d (.agg (prD p))) none:=by
 refine Pr.ind λp ih=>?_;obtain⟨op,nm,n,l⟩:=p;intro hN;simp only at ih;have hn:=pT ⟨op,nm,n,l⟩;simp only at hn;have hl:=jF l;refine CS.aX func172 rfl ntmps172 rfl ?_;simp;refine SW.eX (ι:={i:Nat//i<=l.length}) (λi=>[(16,.d (.int .i64 i.1))]) (λi=>[(1,prO op nm n (.sl (l.map rW))),(2,prO 0 [] 0 .aD),(3,prO op nm n (.sl ((l.take i.1).map rW)))]) (λ_=>[(43,[.c 3 3])]) (λi=>l.length-i.1) ⟨0,by simp⟩ (by simp) ?_;rintro⟨i,hi⟩;by_cases aF:i<l.length
 .have hg:=xR aF;have hw:=bA (show i<9223372036854775807 by omega);have hs2:=d2y rW aF;rw[dE]at hs2;have h4:∀(x:List D),x∈List.take i (List.map rW l)->x.length=4:=e2l (by simp);have hb2:=rX aF;have hb3:=kE l (i+1);simp[aF,hg];refine⟨kV.mk (by kernel_rfl),?_⟩;refine aC.mk a0H (ih l[i] (List.getElem_mem aF) (by omega)) ?_;simp;refine cK ⟨h4,by omega⟩ ?_;simp;exact bC.mk ⟨i+1,aF⟩ (by simp[hw,hs2]) (by simp;omega)
 .have:i=l.length:=by omega
  subst this;simp
end Go.Proofs.YtjpodcmhcenjjaaGreatDoor
end
section
namespace Go.Proofs.YtjpodcmhcenjjaaGreatDoor
open Go Go.VM
variable {G:GT}
theorem b1k:VM.Enters prog 223:=.mk func223 rfl
theorem c5S(p:Pr):bM p<=900000000->CS prog G 223 [.agg (prD p)] (.d (.int .i64 (b4q p))) none:=by
 revert p
 refine Pr.ind λp ih=>?_;obtain⟨op,nm,n,l⟩:=p;intro hN;simp only at ih;have hn:=pT ⟨op,nm,n,l⟩;have hd:=d0K ⟨op,nm,n,l⟩;simp only at hn hd;have hl:=jF l;have hle:=b1i l 0;refine CS.aX func223 rfl ntmps223 rfl ?_;simp;refine SW.eX (ι:={i:Nat//i<=l.length}) (λi=>[(3,.d (.int .i64 (vE (l.take i.1) 0))),(9,.d (.int .i64 i.1))]) (λ_=>[(1,prO op nm n (.sl (l.map rW)))]) (λ_=>[]) (λi=>l.length-i.1) ⟨0,by simp⟩ (by simp[vE]) ?_;rintro⟨i,hi⟩;by_cases aF:i<l.length
 .have hg:=xR aF;have hw:=bA (show i<9223372036854775807 by omega);have hs:=b6H aF 0;have hb2:=rX aF;have hb3:=kE l (i+1);simp[aF,hg];refine aC.mk b1k (ih l[i] (List.getElem_mem aF) (by omega)) ?_;simp;exact bC.mk ⟨i+1,aF⟩ (by simp[hw,hs];split<;>omega) (by simp;omega)
 .have:i=l.length:=by omega
  subst this;have hw:IntKind.i64.wrap ((vE l 0:Int)+1)=((vE l 0+1:Nat):Int):=bA (by omega);simp[hw,hd]
end Go.Proofs.YtjpodcmhcenjjaaGreatDoor
end
section
namespace Go.Proofs.YtjpodcmhcenjjaaGreatDoor
open Go Go.VM Go.RowKit Go.Shelf
attribute [local go_sem] Oper.semAt_some
structure cB (X:Nat->Prop) (W W':World):Prop where
 os:W'.os=W.os
 tape:W'.tape=W.tape
 output:W'.output=W.output
 size:W.heap.size<=W'.heap.size
 block:∀k,k<W.heap.size-> ¬X k->W'.heap[k]? =W.heap[k]?
theorem cB.refl(X:Nat->Prop)(W:World):cB X W W:=⟨rfl,rfl,rfl,g1m _,λ_ _ _=>rfl⟩
theorem cB.trans{X:Nat->Prop}{A B C:World}(h:cB X A B)(k:cB X B C):cB X A C:=
 ⟨k.os.trans h.os,k.tape.trans h.tape,k.output.trans h.output,Nat.le_trans h.size k.size,λi hi hx=>(k.block i (Nat.lt_of_lt_of_le hi h.size) hx).trans (h.block i hi hx)⟩
abbrev NoX:Nat->Prop:=λ_=>False
theorem cB.up{X:Nat->Prop}{A B:World}(h:cB NoX A B):cB X A B:=⟨h.os,h.tape,h.output,h.size,λk hk _=>h.block k hk λe=>e⟩
theorem cB.cell{X:Nat->Prop}{A B:World}(h:cB X A B){b o:Nat}(hb:b<A.heap.size)(hx: ¬X b):B.cell? ⟨b,o,none⟩=A.cell? ⟨b,o,none⟩:=by unfold World.cell?;rw[h.block b hb hx]
theorem cB.alloc{X:Nat->Prop}{A B:World}(h:cB X A B)(o:Obj):cB X A (B.alloc o):=
 h.trans ⟨rfl,rfl,rfl,by simp,λk hk _=>by
  show(B.heap.push o)[k]? =_
  rw[Array.getElem?_push,if_neg (by omega)]⟩
theorem d6v{R:Nat->Nat->Prop}{w:World}{v:Value}{p:Pr}(h:V R w v (.agg (rW p))):
  ∃(ao:Option Addr) (cap:Nat) (nm:ByteArray),v=.agg #[.int .i64 p.op,.string nm,.int .i64 p.n,.slice ao p.kids.length cap]/\
   ∀(i:Nat) (hi:i<p.kids.length),∃b o,ao=some ⟨b,o,none⟩/\∃f:Nat->Value,(∀j,j<4->R b (o+i*4+j)/\w.cell? ⟨b,o+i*4+j,none⟩=some (f j))/\V R w (.agg #[f 0,f 1,f 2,f 3]) (.agg (rW p.kids[i])):=by
 obtain⟨op,nm,n,ks⟩:=p;rw[dE]at h;cases h with
 |agg cs _ h1 h2 h3=>
  obtain⟨l⟩:=cs
  match l,h1 with
  |[c0,c1,c2,c3],_=>
   have g0:=h3 0 _ rfl;have g1:=h3 1 _ rfl;have g2:=h3 2 _ rfl;have g3:=h3 3 _ rfl;simp at g0 g1 g2 g3;obtain⟨es,hes⟩:∃es,ks.map rW=es:=⟨_,rfl⟩;simp only[hes]at g3;cases g0;cases g1;cases g2;have hlen:es.length=ks.length:=by rw[<-hes];simp
   cases g3 with
   |emp ao cap=>
    have h0:ks=[]:=by simpa using hes
    subst h0;exact⟨ao,cap,_,rfl,λi hi=>by simp at hi⟩
   |sl b o m cap size es f k1 k2 k3 k4 k5 k6 k7=>
    have hm:m=ks.length:=by omega
    subst hm;refine⟨_,cap,_,rfl,λi hi=>⟨b,o,rfl,f i,?_⟩⟩;simp only at hi;have hg:es[i]? =some (rW ks[i]):=by rw[<-hes];simp[hi]
    have hs:size=4:=by have:=k4 _ (g1b hg);rw[dE]at this;simpa using this.symm
    subst hs;refine⟨λj hj=>k5 i j hi hj,?_⟩;have q:∀(j:Nat) (d:D),(rW ks[i])[j]? =some d->V R w (f i j) d:=λj d hd=>k7 i j _ d hg hd;have q1:∀(j:Nat) (d:D),(rW ks[i])[j]? =some d->d.one=true:=λj d hd=>k6 i j _ d hg hd;refine .agg _ _ (by rw[dE];rfl) q1 λj d hd=>?_;have hj:j<4:=by have:=(g0X.1 hd).1;rw[dE]at this;simpa using this
    have hv:=q j d hd
    match j,hj with
    |0,_=>exact hv
    |1,_=>exact hv
    |2,_=>exact hv
    |3,_=>exact hv
mutual
def a2n:Pr->List Pr
 |⟨op,nm,n,l⟩=>⟨op,nm,n,l⟩::pN l
def pN:List Pr->List Pr
 |[]=>[]
 |p::r=>a2n p++pN r
end
theorem a7Q(p:Pr):a2n p=p::pN p.kids:=by cases p;rfl
theorem b2u:∀a b:List Pr,pN (a++b)=pN a++pN b
 |[],b=>by simp[pN]
 |p::a,b=>by simp only[List.cons_append,pN,b2u a b,List.append_assoc]
theorem b6L{l:List Pr}{i:Nat}(h:i<l.length):pN (l.take (i+1))=pN (l.take i)++a2n l[i]:=by rw[g1l h,b2u];simp[pN]
theorem a6P(l:List Pr)(i:Nat):pN l=pN (l.take i)++pN (l.drop i):=by rw[<-b2u,List.take_append_drop]
def Yields(P:Program)(L:List Pr)(l:Nat)(X:Nat->Prop)(R:Nat->Nat->Prop)(w0:World)(J Jx:List Pr->World->Prop):Prop:=
 ∀(m:Nat) (pre:List Pr) (v:Value) (p:Pr) (W:World),pre++[p] <+:L->V R w0 v (.agg (rW p))->cB X w0 W->J pre W->YieldAt Fence.wide m P l #[v] W λe W'=>(e=.returned (.bool true)/\J (pre++[p]) W'/\cB X W W')\/(e=.returned (.bool false)/\Jx (pre++[p]) W'/\cB X W W')
theorem d6w(W:World)(cs:Array Value)(T:TypeId){j:Nat}{v:Value}(h:cs[j]? =some v):(W.alloc (.cells cs T)).cell? ⟨W.heap.size,j,none⟩=some v:=by unfold World.cell?;rw[World.alloc_heap_new];simp[h]
theorem d6x(L:List Pr)(l:Nat)(X:Nat->Prop)(R:Nat->Nat->Prop)(w0:World)(hX:∀b o,R b o-> ¬X b)(hR:∀b o,R b o->b<w0.heap.size)(hX2:∀k,X k->k<w0.heap.size)(J Jx:List Pr->World->Prop)(hJ:∀s A B,J s A->cB NoX A B->J s B)(hY:Yields prog L l X R w0 J Jx):
  ∀(p:Pr) (n:Nat) (v:Value) (pre:List Pr) (W:World),bM p<=1000000->pre++a2n p <+:L->V R w0 v (.agg (rW p))->cB X w0 W->J pre W->
   CallsIn Fence.wide n prog 238 #[v,.func (.yield l) #[] #[]] W λe W'=>(e=.returned (.bool true)/\J (pre++a2n p) W'/\cB X W W')\/(e=.returned (.bool false)/\∃q,q <+:a2n p/\Jx (pre++q) W'/\cB X W W'):=by
 refine Pr.ind λp ih=>?_;intro n v pre W hN hL hv hW hJ0;have hN1:=pT p;have hN2:=jF p.kids;have hpk:∀(k:Nat) (h:k<p.kids.length),(pre++p::pN (p.kids.take k))++a2n p.kids[k] <+:L:=λk h=>by refine List.IsPrefix.trans ⟨pN (p.kids.drop (k+1)),?_⟩ hL;rw[a7Q p,a6P p.kids k,g1j h];simp[pN]
 obtain⟨ao,cap,nm,rfl,hk⟩:=d6v hv;have hJ1:=hJ _ _ (W.alloc (.cells #[.int .i64 p.op,.string nm,.int .i64 p.n,.slice ao p.kids.length cap] 43)) hJ0 ((cB.refl NoX W).alloc _);have hW1:=hW.alloc (.cells #[.int .i64 p.op,.string nm,.int .i64 p.n,.slice ao p.kids.length cap] 43);obtain⟨fn,tmps,assign,body,hy,hYR⟩:=hY (n-1) pre _ p _ (((List.prefix_append_right_inj pre).2 ⟨pN p.kids,by rw[a7Q];rfl⟩).trans hL) hv hW1 hJ1;refine callsIn_of_wp func238 rfl trivial ?_ rfl;simp only[ntmps238,List.size_toArray,List.length_cons,List.length_nil,Nat.reduceAdd,Nat.reduceSub,Array.replicate_succ,Array.replicate_zero,List.push_toArray,List.append_toArray,List.nil_append,List.cons_append]
 gi_wp2
 refine⟨λh=>(by cases h),?_⟩;have hbx: ¬X W.heap.size:=λh=>by have:=hX2 _ h;have:=hW.size;omega
 refine hYR.mono ?_;rintro e W3 (⟨rfl,hJ3,hK3⟩|⟨rfl,hJ3,hK3⟩)
 .have hWK:cB X W W3:=((cB.refl X W).alloc _).trans hK3;have f8E:W3.cell? ⟨W.heap.size,3,none⟩=some (.slice ao p.kids.length cap):=(hK3.cell (by simp) hbx).trans (d6w W _ _ rfl)
  gi_wp2
  gi_loopw [14] (λi wr=>∃k:Nat,k<=p.kids.length/\i=.int .i64 k/\J (pre++p::pN (p.kids.take k)) wr/\cB X W wr) (λi _=>p.kids.length-(intOf i).toNat)
  case atStart=>exact⟨0,Nat.zero_le _,rfl,by simpa[pN]using hJ3,hWK⟩
  case round=>
   obtain⟨k,hkl,rfl,hJk,hKk⟩:=hrel;by_cases aF:k<p.kids.length
   .obtain⟨b,o,rfl,f,hf,hfv⟩:=hk k aF;have hcx:∀j,j<4->wr.cell? ⟨b,o+k*4+j,none⟩=some (f j):=λj hj=>((hW.trans hKk).cell (hR _ _ (hf j hj).1) (hX _ _ (hf j hj).1)).trans (hf j hj).2;have h0:=hcx 0 (by omega);rw[Nat.add_zero]at h0;have h1:=hcx 1 (by omega);have h2:=hcx 2 (by omega);have h3:=hcx 3 (by omega);have f1v:=hfv;have hb2:=rX aF;have hb3:=kE p.kids (k+1);obtain⟨ao2,f5f,nm2,he,_⟩:=d6v hfv;simp only[Value.agg.injEq,Array.mk.injEq,List.cons.injEq,and_true]at he;obtain⟨e0,e1,e2,e3⟩:=he;rw[e0]at h0;rw[e1]at h1;rw[e2]at h2;rw[e3]at h3;rw[e0,e1,e2,e3]at f1v
    gi_wp2
    refine⟨trivial,λh=>(by cases h),(ih p.kids[k] (List.getElem_mem aF) (n-1) _ _ _ (by omega) (hpk k aF) f1v ((hW.trans hKk).alloc _) (hJ _ _ _ hJk ((cB.refl NoX wr).alloc _))).mono ?_⟩;rintro e W4 (⟨rfl,hJ4,hK4⟩|⟨rfl,q,hq,hJ4,hK4⟩)
    .have f1w:RowKit.wrap64 ((k:Int)+1)=(k:Int)+1:=by unfold RowKit.wrap64;omega
     gi_wp2
     go_roundw
     case rel=>exact⟨k+1,aF,by simp[f1w],by rw[b6L aF];simpa using hJ4,(hKk.alloc _).trans hK4⟩
     case measure=>simp[intOf,f1w];omega
    .gi_wp2
     go_ret
     refine .inr ⟨rfl,p::pN (p.kids.take k)++q,?_,by simpa using hJ4,(hKk.alloc _).trans hK4⟩;rw[a7Q,a6P p.kids k,g1j aF];obtain⟨r,hr⟩:=hq;exact⟨r++pN (p.kids.drop (k+1)),by simp[pN, <- hr]⟩
   .obtain rfl:k=p.kids.length:=by omega
    gi_wp2
    go_ret
    exact .inl ⟨rfl,by rw[a7Q];simpa using hJk,hKk⟩
 .gi_wp2
  go_ret
  exact .inr ⟨rfl,[p],⟨pN p.kids,by rw[a7Q];rfl⟩,hJ3,((cB.refl X W).alloc _).trans hK3⟩
end Go.Proofs.YtjpodcmhcenjjaaGreatDoor
end
section
namespace Go.Proofs.YtjpodcmhcenjjaaGreatDoor
open Go Go.VM Go.RowKit Go.Shelf
attribute [local go_sem] Oper.semAt_some
theorem d2A{G:GT}{R:Nat->Nat->Prop}{w0 w:World}(h:a8d G (a0u w0.heap.size) R w0)(hs:w0.heap.size<=w.heap.size)(hR:∀b o,R b o->b<w0.heap.size)(hb:∀k,k<w0.heap.size->w.heap[k]? =w0.heap[k]?):a8d G (a0u w.heap.size) R w:=by
 intro g cs hg;obtain⟨h1,h2,arr,T,fr,h3,h4⟩:=h g cs hg;have hl:g<w0.heap.size:=by simpa[a0u]using h2
 have hc:∀b o,R b o->w.cell? ⟨b,o,none⟩=w0.cell? ⟨b,o,none⟩:=λb o hbo=>by unfold World.cell?;rw[hb b (hR b o hbo)]
 refine⟨λj d hj=>?_,by simp only[a0u];omega,arr,T,fr,(hb g hl).trans h3,h4⟩;obtain⟨a1,a2,v,a3,a4⟩:=h1 j d hj;exact⟨a1,a2,v,(hc _ _ a2).trans a3,a4.step (λ_ _ h=>h) hc⟩
theorem cB.bN{R R':Nat->Nat->Prop}{w w':World}(h:Step (a0u w.heap.size) R w R' w'):cB NoX w w':=
 ⟨h.below.os,h.below.tape,h.below.output,h.below.size,λk hk _=>h.below.block k (by simp only[a0u];omega)⟩
theorem e2n{P:Program}{G:GT}{f:FuncId}{ds:List D}{k:IntKind}{z:Int}{own:Option TypeId}(h:CS P G f ds (.d (.int k z)) own){w:World}{R:Nat->Nat->Prop}{args:Array Value}(m:Nat)(hg:a8d G (a0u w.heap.size) R w)(hR:∀b o,R b o->b<w.heap.size)(hs:args.size=ds.length)(hv:∀(i:Nat) (d:D),ds[i]? =some d->V R w (args.getD i undef) d):CallsIn Fence.wide m P f args w λe w'=>e=.returned (.int k z)/\cB NoX w w':=
 callsIn_wide.2 ((h w R args hg hR hs hv).mono λe w' ⟨v,R',he,hv',mU,_,_⟩=>by
  cases hv' id with
  |d v x hvx=>cases hvx;exact⟨he,cB.bN mU⟩)
theorem cB.weaken{X Y:Nat->Prop}{A B:World}(h:cB X A B)(hXY:∀k,X k->Y k):cB Y A B:=⟨h.os,h.tape,h.output,h.size,λk hk hy=>h.block k hk λhx=>hy (hXY k hx)⟩
theorem cB.putObj{X:Nat->Prop}(A:World){l:Nat}(hl:X l)(o:Obj):cB X A (A.putObj l o):=⟨rfl,rfl,rfl,by simp,λk _ hx=>World.putObj_heap_other λe=>hx (e▸hl)⟩
theorem a6Q{X:Nat->Prop}{A B:World}(h:cB X A B)(hX:∀k,X k->A.heap.size<=k):cB NoX A B:=⟨h.os,h.tape,h.output,h.size,λk hk _=>h.block k hk λhx=>by have:=hX k hx;omega⟩
theorem c8T(L:List Pr)(l:Nat)(X:Nat->Prop)(R:Nat->Nat->Prop)(w0:World)(hX:∀b o,R b o-> ¬X b)(hR:∀b o,R b o->b<w0.heap.size)(hX2:∀k,X k->k<w0.heap.size)(J Jx:List Pr->World->Prop)(hJ:∀s A B,J s A->cB NoX A B->J s B)(hY:Yields prog L l X R w0 J Jx)(p:Pr)(n:Nat)(c0 c1 c2 c3:Value)(W:World)(bx:Nat)(hbx:W.heap[bx]? =some (.cells #[c0,c1,c2,c3] 43 (0,0)))(hN:bM p<=1000000)(hL:a2n p=L)(hv:V R w0 (.agg #[c0,c1,c2,c3]) (.agg (rW p)))(hW:cB X w0 W)(hJ0:J [] W):
  CallsIn Fence.wide n prog 237 #[.func (.yield l) #[] #[],.pointer (some ⟨bx,0,none⟩)] W λe W'=>∃v,e=.returned v/\((J L W'/\cB X W W')\/∃q,q <+:L/\Jx q W'/\cB X W W'):=by
 have f5h:=d6x L l X R w0 hX hR hX2 J Jx hJ hY p (n-1) _ [] W hN (by rw[List.nil_append,hL];exact List.prefix_rfl) hv hW hJ0;obtain⟨ao,cap,nm,he,_⟩:=d6v hv;simp only[Value.agg.injEq,Array.mk.injEq,List.cons.injEq,and_true]at he;obtain⟨rfl,rfl,rfl,rfl⟩:=he;have e0:W.cell? ⟨bx,0,none⟩=some (.int .i64 p.op):=by unfold World.cell?;rw[hbx];rfl
 have e1:W.cell? ⟨bx,1,none⟩=some (.string nm):=by unfold World.cell?;rw[hbx];rfl
 have e2:W.cell? ⟨bx,2,none⟩=some (.int .i64 p.n):=by unfold World.cell?;rw[hbx];rfl
 have e3:W.cell? ⟨bx,3,none⟩=some (.slice ao p.kids.length cap):=by unfold World.cell?;rw[hbx];rfl
 refine callsIn_of_wp func237 rfl trivial ?_ rfl;simp only[ntmps237,List.size_toArray,List.length_cons,List.length_nil,Nat.reduceAdd,Nat.reduceSub,Array.replicate_succ,Array.replicate_zero,List.push_toArray,List.append_toArray,List.nil_append,List.cons_append]
 gi_wp2
 refine⟨trivial,λh=>(by cases h),f5h.mono ?_⟩;rintro e W4 (⟨rfl,hJ4,hK4⟩|⟨rfl,q,hq,hJ4,hK4⟩)
 .gi_wp2
  first|go_ret|go_ret2|go_end0
  rw[hL]at hJ4;exact⟨_,rfl,.inl ⟨hJ4,hK4⟩⟩
 .gi_wp2
  first|go_ret|go_ret2|go_end0
  rw[hL]at hq;exact⟨_,rfl,.inr ⟨q,hq,hJ4,hK4⟩⟩
theorem d2B(n:Nat)(c0 c1 c2 c3:Value)(W:World):CallsIn Fence.wide n prog 216 #[.agg #[c0,c1,c2,c3]] W λe W'=>e=.returned (.func (.func 237) #[] #[.pointer (some ⟨W.heap.size,0,none⟩)])/\W'=W.alloc (.cells #[c0,c1,c2,c3] 43):=by
 refine callsIn_of_wp func216 rfl trivial ?_ rfl;simp only[ntmps216,List.size_toArray,List.length_cons,List.length_nil,Nat.reduceAdd,Nat.reduceSub,Array.replicate_succ,Array.replicate_zero,List.push_toArray,List.append_toArray,List.nil_append,List.cons_append]
 gi_wp2
 first|go_ret|go_ret2|go_end0
 exact⟨rfl,rfl⟩
theorem d6z(n:Nat){g:Operand}{ps:Array Tmp}{assign body:Code}{Q:Exit->Act->World->Prop}{a:Act}{W:World}{bx:Nat}{c0 c1 c2 c3:Value}(hg:a.eval g=.func (.func 237) #[] #[.pointer (some ⟨bx,0,none⟩)])(hbx:W.heap[bx]? =some (.cells #[c0,c1,c2,c3] 43 (0,0)))(hps:ps.size=1){R:Nat->Nat->Prop}{p:Pr}(hv:V R W (.agg #[c0,c1,c2,c3]) (.agg (rW p)))(hN:bM p<=1000000)(hR:∀b o,R b o->b<W.heap.size)(b1:Nat)(hb1:b1<W.heap.size)(hRb:∀b o,R b o->b≠b1)(hbb:bx≠b1)(I Ix:List Pr->World->Prop)(hI:∀s A B,I s A->(∀k,k<W.heap.size->B.heap[k]? =A.heap[k]?)->I s B)(hIx:∀s A B,Ix s A->(∀k,k<W.heap.size->B.heap[k]? =A.heap[k]?)->Ix s B)(h0:I [] W)(hround:∀(m l:Nat) (pre:List Pr) (q:Pr) (vq:Value) (W1:World),W.heap.size<=l->l<W1.heap.size->pre++[q] <+:a2n p->V R W vq (.agg (rW q))->cB (λk=>k=b1) W W1->I pre W1->
   assign.wpIn (Fence.wide.inRound l) m prog (Exit.then (λa₁ w₁=>cB NoX W1 w₁/\∀w2,cB (λk=>k=l) w₁ w2->body.wpIn (Fence.wide.inRound l) m prog (λe _ w3=>match e with
    | .normal=>cB (λk=>k=b1) w2 w3/\I (pre++[q]) w3
    | .ret=>cB (λk=>k=b1) w2 w3/\Ix (pre++[q]) w3
    |_=>False) a₁ w2) (λ_ _ _=>False)) {tmps:=(ps.zip #[vq]).foldl (λt (p,v)=>t.setIfInBounds p v) a.tmps,defers:=[]} W1)(hdone:∀(D:Nat) (W':World),W.heap.size<=D->I (a2n p) W'->cB (λk=>k=b1) W W'->W'.heap[D]? =some (.deferred (some []))->Q .normal {a with defers:={target:=.collected D,args:=#[]}::a.defers} W')(hstop:∀(D:Nat) (pre:List Pr) (W':World),W.heap.size<=D->pre <+:a2n p->Ix pre W'->cB (λk=>k=b1) W W'->W'.heap[D]? =some (.deferred (some []))->Q .ret {a with defers:={target:=.collected D,args:=#[]}::a.defers} W'):
  (Code.rangeFunc g ps assign body).wpIn Fence.wide n prog Q a W:=by
 refine wpIn_rangeFunc ?_;intro fn hfn;rw[show Fence.wide.round=none from rfl];obtain⟨rec,c2u⟩:∃rec:LoopState->Option Code->Loop,rec=λst pe=>{state:=st,pending:=pe,fn,tmps:=a.tmps,params:=ps,assign,body,defers:=W.heap.size}:=⟨_,rfl⟩;obtain⟨W1,hW1⟩:∃W1,(W.alloc (.deferred (some []))).alloc (.loop (rec .ready none))=W1:=⟨_,rfl⟩;have hL1:W1.heap[W.heap.size+1]? =some (.loop (rec .ready none)):=by rw[<-hW1];have:=World.alloc_heap_new (W.alloc (.deferred (some []))) (.loop (rec .ready none));rwa[World.size_alloc]at this
 have hD1:W1.heap[W.heap.size]? =some (.deferred (some [])):=by rw[<-hW1];exact(Below.heap_alloc _ _ _ (by simp)).trans (World.alloc_heap_new W _)
 have hK1:cB NoX W W1:=by rw[<-hW1];exact((cB.refl _ _).alloc _).alloc _
 have hs1:W1.heap.size=W.heap.size+2:=by rw[<-hW1];simp
 have hI1:I [] W1:=hI _ _ _ h0 λk hk=>hK1.block k hk id;have hv1:V R W1 (.agg #[c0,c1,c2,c3]) (.agg (rW p)):=hv.step (λ_ _ h=>h) λb o hbo=>hK1.cell (hR b o hbo) id;have a0l:∀ {A:World},cB (λk=>k=W.heap.size+1\/k=b1) W1 A->cB (λk=>k=b1) W A:=λh=>⟨h.os.trans hK1.os,h.tape.trans hK1.tape,h.output.trans hK1.output,Nat.le_trans hK1.size h.size,λk hk hx=>(h.block k (by omega) (by rintro(e|e);(· omega);exact hx e)).trans (hK1.block k hk id)⟩
 refine⟨W.heap.size+1,[{target:=.collected W.heap.size,args:=#[]}],W1,{target:=.fn (.func 237) #[.pointer (some ⟨bx,0,none⟩)],args:=#[.func (.yield (W.heap.size+1)) #[] #[]]},W1,237,
  #[.func (.yield (W.heap.size+1)) #[] #[],.pointer (some ⟨bx,0,none⟩)],W1,?_,?_,?_,?_,λh=>(by cases h),?_⟩
 .rw[<-hW1,c2u];exact run_enterLoop_outer _ _ _ _ _
 .simp only[resolve,hg];simp[go_sem]
 .exact λf' _=>trivial
 .simp[invoke,go_sem,enters_of func237 (by kernel_rfl) rfl]
 .refine(c8T (a2n p) (W.heap.size+1) (λk=>k=W.heap.size+1\/k=b1) R W1 (λb o hbo=>by rintro(e|e);(· have:=hR b o hbo;omega);exact hRb b o hbo e) (λb o hbo=>by have:=hR b o hbo;omega) (λk hk=>by rcases hk with e|e<;>omega)
   (λpre A=>I pre A/\A.heap[W.heap.size+1]? =some (.loop (rec .ready none))/\A.heap[W.heap.size]? =some (.deferred (some [])))
   (λpre A=>Ix pre A/\A.heap[W.heap.size+1]? =some (.loop (rec .done (some .ret)))/\A.heap[W.heap.size]? =some (.deferred (some [])))
   ?hj ?hy p _ c0 c1 c2 c3 W1 bx ((hK1.block _ (g1f.1 hbx).1 id).trans hbx) hN rfl hv1 (cB.refl _ _) ⟨hI1,hL1,hD1⟩).mono ?_
  case hj=>rintro s A B ⟨hi,hl,hd⟩ hk;have aF:W.heap.size+1<A.heap.size:=(g1f.1 hl).1;exact⟨hI _ _ _ hi λk hk'=>hk.block k (by omega) id,(hk.block _ aF id).trans hl,(hk.block _ (by omega) id).trans hd⟩
  case hy=>
   rintro m pre vq q A a9s hvq hKA ⟨hi,hl,hd⟩;have aF:W.heap.size+1<A.heap.size:=(g1f.1 hl).1;have hy:=run_yield (P:=prog) (args:=#[vq]) hl (by rw[c2u];exact hps.symm);rw[c2u]at hy;refine⟨fn,_,assign,body,hy,roundIn_of_wpIn hfn ?_⟩
   clear hy
   have hvW:V R W vq (.agg (rW q)):=hvq.step (λ_ _ h=>h) λb o hbo=>(hK1.cell (hR b o hbo) id).symm;refine wpIn_mono (hround m (W.heap.size+1) pre q vq A (by omega) aF a9s hvW (a0l hKA) hi) ?_;rintro e a1 w1 hq;cases e with
   |normal=>
    obtain⟨hka,qD⟩:=hq;have hl1:=(hka.block _ aF id).trans hl;refine⟨_,run_beginRound hl1 (by rw[c2u]),?_⟩;have hkb:cB (λk=>k=W.heap.size+1) w1 (w1.putObj (W.heap.size+1) (.loop {rec .ready none with state:=.busy})):=cB.putObj (X:=λk=>k=W.heap.size+1) _ rfl _;have hl2:(w1.putObj (W.heap.size+1) (.loop {rec .ready none with state:=.busy})).heap[W.heap.size+1]? =some (.loop {rec .ready none with state:=.busy}):=World.putObj_heap_same (g1f.1 hl1).1;have jZ:=hka.size;refine wpIn_mono (qD _ hkb) ?_;have fin:∀(jump:Option Code) (w3:World),cB (λk=>k=b1) (w1.putObj (W.heap.size+1) (.loop {rec .ready none with state:=.busy})) w3->
      (Instr.endRound (W.heap.size+1) jump).run prog w3=.ok (.bool jump.isNone) (w3.putObj (W.heap.size+1) (.loop (rec (if jump.isNone then .ready else .done) jump)))/\
      (w3.putObj (W.heap.size+1) (.loop (rec (if jump.isNone then .ready else .done) jump))).heap[W.heap.size+1]? =some (.loop (rec (if jump.isNone then .ready else .done) jump))/\
      (w3.putObj (W.heap.size+1) (.loop (rec (if jump.isNone then .ready else .done) jump))).heap[W.heap.size]? =some (.deferred (some []))/\
      cB (λk=>k=W.heap.size+1\/k=b1) A (w3.putObj (W.heap.size+1) (.loop (rec (if jump.isNone then .ready else .done) jump))):=λjump w3 hk3=>by
     have hl3:=(hk3.block _ (by simp;omega) (by omega)).trans hl2;have:=run_endRound (P:=prog) jump hl3;rw[c2u]at this|-;refine⟨this,World.putObj_heap_same (g1f.1 hl3).1,?_,?_⟩
     .refine(World.putObj_heap_other (by omega)).trans ((hk3.block _ (by simp;omega) (by omega)).trans ?_);exact(World.putObj_heap_other (by omega)).trans ((hka.block _ (by omega) id).trans hd)
     .exact(hka.weaken λ_ h=>h.elim).trans ((hkb.weaken λ_ h=>.inl h).trans ((hk3.weaken λ_ h=>.inr h).trans (cB.putObj _ (.inl rfl) _)))
    rintro e a3 w3 hp;cases e with
    |normal=>obtain⟨hk3,hi3⟩:=hp;obtain⟨h1,h2,h3,h4⟩:=fin none w3 hk3;exact⟨_,_,h1,.inl ⟨rfl,⟨hI _ _ _ hi3 λk hk=>World.putObj_heap_other (by omega),h2,h3⟩,h4⟩⟩
    |ret=>obtain⟨hk3,hi3⟩:=hp;obtain⟨h1,h2,h3,h4⟩:=fin (some .ret) w3 hk3;exact⟨_,_,h1,.inr ⟨rfl,⟨hIx _ _ _ hi3 λk hk=>World.putObj_heap_other (by omega),h2,h3⟩,h4⟩⟩
    |exit id=>exact hp.elim
    |goto t=>exact hp.elim
    |panic ch=>exact hp.elim
    |outgrown=>exact hp.elim
   |ret=>exact hq.elim
   |exit id=>exact hq.elim
   |goto t=>exact hq.elim
   |panic ch=>exact hq.elim
   |outgrown=>exact hq.elim
  .rintro e W2 ⟨v,rfl,(⟨⟨hi,hl,hd⟩,hK⟩|⟨pre,a9s,⟨hi,hl,hd⟩,hK⟩)⟩
   .refine⟨none,_,by have:=run_endLoop (P:=prog) hl (by rw[c2u];simp);rw[c2u]at this;exact this,?_⟩;exact hdone _ _ (g1m _) (hI _ _ _ hi λk hk=>World.putObj_heap_other (by omega)) (a0l (hK.trans (cB.putObj _ (.inl rfl) _))) ((World.putObj_heap_other (by omega)).trans hd)
   .refine⟨some .ret,_,by have:=run_endLoop (P:=prog) hl (by rw[c2u];simp);rw[c2u]at this;exact this,?_⟩;exact wpIn_ret (hstop _ pre _ (g1m _) a9s (hIx _ _ _ hi λk hk=>World.putObj_heap_other (by omega)) (a0l (hK.trans (cB.putObj _ (.inl rfl) _))) ((World.putObj_heap_other (by omega)).trans hd))
theorem a6R{W:World}{b:Nat}{v:Value}{T:TypeId}(h:W.heap[b]? =some (.cells #[v] T (0,0))):W.cell? ⟨b,0,none⟩=some v/\W.frozen? ⟨b,0,none⟩=false:=by unfold World.cell? World.frozen?;rw[h];simp
theorem a0I{W:World}{b:Nat}{cs:Array Value}{T:TypeId}(h:W.heap[b]? =some (.cells cs T (0,0)))(j:Nat)(v:Value)(hj:cs[j]? =some v):W.cell? ⟨b,j,none⟩=some v:=by unfold World.cell?;rw[h];simp[hj]
theorem c2v{W:World}{b:Nat}{v:Value}{T:TypeId}(h:W.heap[b]? =some (.cells #[v] T (0,0)))(u:Value):(W.setCell ⟨b,0,none⟩ u).heap[b]? =some (.cells #[u] T (0,0)):=by
 obtain⟨aF,hh⟩:=g1f.1 h
 show(W.heap.modify b _)[b]? =_
 rw[g1o (by rw[Array.size_modify];exact aF),Array.getElem_modify_self,hh];simp
theorem cB.set{X:Nat->Prop}(A:World){b:Nat}(hl:X b)(u:Value):cB X A (A.setCell ⟨b,0,none⟩ u):=⟨rfl,rfl,rfl,by show A.heap.size<=(A.heap.modify _ _).size;rw[Array.size_modify];exact g1m _,λk _ hx=>Below.heap_setCell A ⟨b,0,none⟩ u k λe=>hx (by rw[show k=b from e];exact hl)⟩
def pH(e:Pr->Int):List Pr->Int
 |[]=>0
 |p::r=>if e p=0 then pH e r else e p
theorem b3I{e:Pr->Int}:∀ {l:List Pr},(∀q∈l,e q=0)->pH e l=0
 |[],_=>rfl
 |p::r,h=>by rw[pH,if_pos (h p (by simp))];exact b3I λq hq=>h q (by simp[hq])
theorem c0B{e:Pr->Int}{p:Pr}:∀ {l r:List Pr},(∀q∈l,e q=0)->e p≠0->pH e (l++p::r)=e p
 |[],r,_,hp=>by simp[pH,hp]
 |q::l,r,h,hp=>by rw[List.cons_append,pH,if_pos (h q (by simp))];exact c0B (λq hq=>h q (by simp[hq])) hp
def b4r(e:Pr->Int)(p:Pr):Int:=if 400<bM p then 7 else if 40<b4q p then 8 else pH e (a2n p)
theorem b8R{G:GT}(e:Pr->Int)(p:Pr)(hN:bM p<=1000000)(f5j:CS prog G 214 [.agg (rW p)] (.d (.int .i64 (bM p))) none)(f5k:CS prog G 215 [.agg (rW p)] (.d (.int .i64 (b4q p))) none)(f1x:∀q∈a2n p,CS prog G 217 [.agg (rW q)] (.d (.int .i64 (e q))) none):CS prog G 199 [.agg (rW p)] (.d (.int .i64 (b4r e p))) none:=by
 refine CS.d0q λw R args hg hR hs hv=>?_;have ha:args=#[args.getD 0 undef]:=by
  obtain⟨l⟩:=args
  match l,hs with
  |[a],_=>rfl
 have hv0:=hv 0 _ rfl;rw[ha];generalize args.getD 0 undef=v at hv0
 clear hv ha hs args
 obtain⟨ao,cap,nm,rfl,hk⟩:=d6v hv0;refine(callsIn_wide (n:=10)).1 (callsIn_of_wp_marks func199 rfl trivial ?_ rfl);simp only[ntmps199,List.size_toArray,List.length_cons,List.length_nil,Nat.reduceAdd,Nat.reduceSub,Array.replicate_succ,Array.replicate_zero,List.push_toArray,List.append_toArray,List.nil_append,List.cons_append];have a2y:∀ {f:FuncId} {z:Int} (m:Nat) (q:Pr) (vq:Value) (W:World),CS prog G f [.agg (rW q)] (.d (.int .i64 z)) none->V R w vq (.agg (rW q))->cB NoX w W->
   CallsIn Fence.wide m prog f #[vq] W λe w'=>e=.returned (.int .i64 z)/\cB NoX W w':=λm q vq W hc hvq hW=>by
  refine e2n hc (R:=R) m (d2A hg hW.size hR λk hk=>hW.block k hk id) (λb o hbo=>Nat.lt_of_lt_of_le (hR b o hbo) hW.size) rfl λi d hd=>?_
  match i,hd with
  |0,hd=>cases hd;exact hvq.step (λ_ _ h=>h) λb o hbo=>hW.cell (hR b o hbo) id
 gi_wp2
 obtain⟨W2,hW2⟩:∃W2,(w.alloc (.cells #[.int .i64 p.op,.string nm,.int .i64 p.n,.slice ao p.kids.length cap] 43)).alloc (.cells #[.int .i64 0] 31)=W2:=⟨_,rfl⟩;have hK2:cB NoX w W2:=by rw[<-hW2];exact((cB.refl _ _).alloc _).alloc _
 have hs2:W2.heap.size=w.heap.size+2:=by rw[<-hW2];simp
 have hB2:W2.heap[w.heap.size+1]? =some (.cells #[.int .i64 0] 31 (0,0)):=by rw[<-hW2];have:=World.alloc_heap_new (w.alloc (.cells #[.int .i64 p.op,.string nm,.int .i64 p.n,.slice ao p.kids.length cap] 43)) (.cells #[.int .i64 0] 31);rwa[World.size_alloc]at this
 have hA2:W2.heap[w.heap.size]? =some (.cells #[.int .i64 p.op,.string nm,.int .i64 p.n,.slice ao p.kids.length cap] 43 (0,0)):=by rw[<-hW2];exact(Below.heap_alloc _ _ _ (by simp)).trans (World.alloc_heap_new w _)
 rw[hW2];refine⟨trivial,(a2y _ p _ _ f5j hv0 hK2).mono ?_⟩;rintro _ W3 ⟨rfl,hK3⟩;have hB3:=(hK3.block _ (by omega) id).trans hB2;have hA3:=(hK3.block _ (by omega) id).trans hA2;have hs3:=hK3.size;obtain⟨hc3,hf3⟩:=a6R hB3;have q0:=(a0I hA3 0 _ rfl);have q1:=(a0I hA3 1 _ rfl);have q2:=(a0I hA3 2 _ rfl);have q3:=(a0I hA3 3 _ rfl);have fin:∀ {W:World} {z:Int} {K:World},K.heap[w.heap.size+1]? =some (.cells #[.int .i64 z] 31 (0,0))->cB NoX w W->z=b4r e p->∃v,Ending.returned (.int .i64 z)=.returned v/\V R W v (.int .i64 (b4r e p))/\Below w.heap.size w W:=λh hk hz=>⟨_,rfl,hz▸ .int _ _,⟨hk.os,hk.tape,hk.output,hk.size,λk h'=>hk.block k h' id⟩⟩;by_cases h1:400<bM p
 .gi_wp2
  have hS:=c2v hB3 (.int .i64 7);have hc:=(a6R hS).1;exact⟨_,by simp[results,f199,go_sem,hc],fin hS (a6Q (((hK2.trans hK3).weaken λ_ h=>h.elim).trans (cB.set (X:=λk=>k=w.heap.size+1) _ rfl _)) (by intro k hk;omega)) (by simp[b4r,h1])⟩
 .gi_wp2
  refine⟨trivial,(a2y _ p _ _ f5k hv0 (hK2.trans hK3)).mono ?_⟩;rintro _ W4 ⟨rfl,hK4⟩;have hs4:=hK4.size;have hB4:=(hK4.block _ (by omega) id).trans hB3;have hA4:=(hK4.block _ (by omega) id).trans hA3;obtain⟨hc4,hf4⟩:=a6R hB4;have r0:=(a0I hA4 0 _ rfl);have r1:=(a0I hA4 1 _ rfl);have r2:=(a0I hA4 2 _ rfl);have r3:=(a0I hA4 3 _ rfl);have f1B:=(hK2.trans hK3).trans hK4;by_cases h2:40<b4q p
  .gi_wp2
   have hS:=c2v hB4 (.int .i64 8);have hc:=(a6R hS).1;exact⟨_,by simp[results,f199,go_sem,hc],fin hS (a6Q ((f1B.weaken λ_ h=>h.elim).trans (cB.set (X:=λk=>k=w.heap.size+1) _ rfl _)) (by intro k hk;omega)) (by simp[b4r,h1,h2])⟩
  .gi_wp2
   refine⟨trivial,(d2B _ _ _ _ _ _).mono ?_⟩;rintro _ W5 ⟨rfl,rfl⟩
   gi_wp2
   obtain⟨W5,hW5⟩:∃W5,W4.alloc (.cells #[.int .i64 p.op,.string nm,.int .i64 p.n,.slice ao p.kids.length cap] 43)=W5:=⟨_,rfl⟩;have hK5:cB NoX W4 W5:=by rw[<-hW5];exact(cB.refl _ _).alloc _
   have hB5:=(hK5.block _ (by omega) id).trans hB4;have hA5:W5.heap[W4.heap.size]? =some (.cells #[.int .i64 p.op,.string nm,.int .i64 p.n,.slice ao p.kids.length cap] 43 (0,0)):=by rw[<-hW5];exact World.alloc_heap_new _ _
   have hs5:W5.heap.size=W4.heap.size+1:=by rw[<-hW5];simp
   have d6A:=f1B.trans hK5;rw[hW5];refine d6z 10 (W:=W5) (R:=R) (p:=p) rfl hA5 rfl (hv0.step (λ_ _ h=>h) λb o hbo=>d6A.cell (hR b o hbo) id) hN (λb o hbo=>by have:=hR b o hbo;omega) (w.heap.size+1) (by omega) (λb o hbo=>by have:=hR b o hbo;omega) (by omega)
    (λpre A=>A.heap[w.heap.size+1]? =some (.cells #[.int .i64 0] 31 (0,0))/\∀q∈pre,e q=0)
    (λpre A=>∃d6B q,pre=d6B++[q]/\(∀x∈d6B,e x=0)/\e q≠0/\A.heap[w.heap.size+1]? =some (.cells #[.int .i64 (e q)] 31 (0,0)))
    (λs A B h hk=>⟨(hk _ (by omega)).trans h.1,h.2⟩) (λs A B ⟨d6B,q,h1,h2,h3,h4⟩ hk=>⟨d6B,q,h1,h2,h3,(hk _ (by omega)).trans h4⟩) ⟨hB5,by simp⟩ ?hround ?hdone ?hstop
   case hround=>
    rintro m l pre q vq W6 hl hl6 a9s hvq hK6 ⟨hB6,hz⟩;obtain⟨ao2,f5f,nm2,rfl,_⟩:=d6v hvq;have hqm:q∈a2n p:=a9s.subset (by simp);have hvw:V R w _ (.agg (rW q)):=hvq.step (λ_ _ h=>h) λb o hbo=>(d6A.cell (hR b o hbo) id).symm
    gi_wp2
    refine⟨(cB.refl _ _).alloc _,λw2 hk2=>?_⟩;have hA7:=(hk2.block W6.heap.size (by simp) (by omega)).trans (World.alloc_heap_new _ _);have hs6:=hK6.size;have hB7:=((hk2.block (w.heap.size+1) (by simp;omega) (by omega)).trans (Below.heap_alloc _ _ _ (by omega))).trans hB6;have hs7:=hk2.size;simp only[World.size_alloc]at hs7;have f5o:cB NoX w w2:=a6Q (X:=λk=>k=w.heap.size+1\/k=l) ((d6A.weaken λ_ h=>h.elim).trans ((hK6.weaken λ_ h=>.inl h).trans (((cB.refl _ _).alloc _).trans (hk2.weaken λ_ h=>.inr h)))) (by rintro k (hk|hk)<;>omega);have t0:=(a0I hA7 0 _ rfl);have t1:=(a0I hA7 1 _ rfl);have t2:=(a0I hA7 2 _ rfl);have t3:=(a0I hA7 3 _ rfl)
    gi_wp2
    refine⟨trivial,λh=>(by cases h),(CallsIn.inRound l (a2y _ q _ _ (f1x q hqm) hvw f5o)).mono ?_⟩;rintro _ W8 ⟨rfl,hK8⟩;have hB8:=(hK8.block _ (by omega) id).trans hB7;obtain⟨hc8,hf8⟩:=a6R hB8;by_cases he:e q=0
    .gi_wp2
     have dR:∀x,x∈pre\/x=q->e x=0:=λx hx=>hx.elim (hz x) λhx=>by subst hx;exact he
     first|exact dR|exact⟨hK8.up,dR⟩|exact⟨hK8.up,hB8,dR⟩
    .gi_wp2
     have hS:=c2v hB8 (.int .i64 (e q));exact⟨hK8.up.trans (cB.set (X:=λk=>k=w.heap.size+1) _ rfl _),pre,q,⟨rfl,rfl⟩,hz,he,hS⟩
   case hdone=>
    rintro D W' hD ⟨hB',hz⟩ hK' hD';obtain⟨hc',hf'⟩:=a6R hB'
    gi_wp2
    have hS:=c2v hB' (.int .i64 0);have hDs:=((cB.set (X:=λk=>k=w.heap.size+1) W' rfl (.int .i64 0)).block D (g1f.1 hD').1 (by omega)).trans hD';refine⟨by simp,.inl ⟨_,_,rfl,run_takeDeferred hDs,?_⟩⟩;have hS2:=(World.putObj_heap_other (r:=D) (o:=.deferred none) (show w.heap.size+1≠D by omega)).trans hS;have hc:=(a6R hS2).1;exact⟨_,by simp[results,f199,go_sem,hc],fin hS2 (a6Q (X:=λk=>k=w.heap.size+1\/k=D) ((d6A.weaken λ_ h=>h.elim).trans ((hK'.weaken λ_ h=>.inl h).trans ((cB.set (X:=λk=>k=w.heap.size+1\/k=D) _ (.inl rfl) _).trans (cB.putObj _ (.inr rfl) _)))) (by rintro k (hk|hk)<;>omega)) (by simp[b4r,h1,h2,b3I hz])⟩
   case hstop=>
    rintro D pre W' hD a9s ⟨d6B,q,rfl,hz,hq,hB'⟩ hK' hD'
    gi_wp2
    refine⟨by simp,.inl ⟨_,_,rfl,run_takeDeferred hD',?_⟩⟩;have hS2:=(World.putObj_heap_other (r:=D) (o:=.deferred none) (show w.heap.size+1≠D by omega)).trans hB';have hc:=(a6R hS2).1;have hfe:pH e (a2n p)=e q:=by obtain⟨r,hr⟩:=a9s;rw[<-hr,List.append_assoc];exact c0B hz hq
    exact⟨_,by simp[results,f199,go_sem,hc],fin hS2 (a6Q (X:=λk=>k=w.heap.size+1\/k=D) ((d6A.weaken λ_ h=>h.elim).trans ((hK'.weaken λ_ h=>.inl h).trans (cB.putObj _ (.inr rfl) _))) (by rintro k (hk|hk)<;>omega)) (by simp[b4r,h1,h2,hfe])⟩
end Go.Proofs.YtjpodcmhcenjjaaGreatDoor
end
section
namespace Go.Proofs.YtjpodcmhcenjjaaGreatDoor
open Go Go.VM
variable {G:GT}
def xD(op:Int):Bool:=decide (op=3)||(decide (op=4)||decide (op=5))
def pS(op:Int):Int:=if op=1\/op=2\/op=3 then 0 else if op=4\/op=5 then 1 else if op=9\/op=14 then 1 else 2
def vV(op:Int):Int:=if op=1\/op=2\/op=3 then 0 else if op=4\/op=5 then 24 else if op=9\/op=14 then 1 else 2
def b1l(l:List Pr):Int:=match l with
 |[]=>1
 |k::_=>k.op
def a0o(op:Int)(nm:Nm):Bool:=(decide (op=3)&&decide (nm=[118]))||(decide (op=4)&&(decide (nm=[116,97,103])||decide (nm=[118,97,108])))
def a5M(op:Int)(nm:Nm)(n:Int)(len:Int):Bool:=(!xD op&& !decide (nm=[]))||(!decide (op=1)&& !decide (op=2)&& !decide (n=0))||decide (len<pS op)||decide (vV op<len)
def vI(op n:Int):Bool:=(decide (op=1)&& !inB n)||(decide (op=2)&& !decide (n=0)&& !decide (n=1))
def a2Q(p:Pr):Int:=
 if p.op<1\/18<p.op then 1
 else if a5M p.op p.name p.n p.kids.length then 1
 else if vI p.op p.n then 2
 else if xD p.op&& !rJ p.name&& !a0o p.op p.name then 3
 else if p.op=8/\b1l p.kids≠1 then 6
 else 0
theorem qX:VM.Enters prog 240:=.mk func240 rfl
theorem sQ(op:Int):CS prog G 240 [.int .i64 op] (.d (.bool (xD op))) none:=by
 refine CS.aX func240 rfl ntmps240 rfl ?_;by_cases h3:op=3
 .simp[h3,xD]
 .by_cases h4:op=4
  .simp[h4,xD]
  .simp[h3,h4,xD]
theorem b8S:VM.Enters prog 239:=.mk func239 rfl
theorem c2w(op:Int):CS prog G 239 [.int .i64 op] (.cI [.int .i64 (pS op),.int .i64 (vV op)]) none:=by
 refine CS.aX func239 rfl ntmps239 rfl ?_;by_cases h1:op=1
 .simp[h1,pS,vV]
 by_cases h2:op=2
 .simp[h2,pS,vV]
 by_cases h3:op=3
 .simp[h3,pS,vV]
 by_cases h4:op=4
 .simp[h4,pS,vV]
 by_cases h5:op=5
 .simp[h5,pS,vV]
 by_cases h9:op=9
 .simp[h9,pS,vV]
 by_cases h14:op=14
 .simp[h14,pS,vV]
 .simp[h1,h2,h3,h4,h5,h9,h14,pS,vV]
theorem d2C{op:Int}(h:xD op=true):op=3\/op=4\/op=5:=by simpa[xD]using h
theorem d2D{op:Int}(h:xD op=false): ¬op=3/\ ¬op=4/\ ¬op=5:=by simpa[xD]using h
theorem c2x(hG:G 1=some eK)(p:Pr)(hlen:p.kids.length<=900000000):CS prog G 217 [.agg (prD p)] (.d (.int .i64 (a2Q p))) none:=by
 obtain⟨op,nm,n,l⟩:=p;simp only at hlen;have hm:a2Q ⟨op,nm,n,l⟩=if op<1\/18<op then 1 else if a5M op nm n l.length then 1 else if vI op n then 2 else if xD op&& !rJ nm&& !a0o op nm then 3 else if op=8/\b1l l≠1 then 6 else 0:=rfl;refine CS.aX func217 rfl ntmps217 rfl ?_;by_cases a1:op<1
 .simp[a1]at hm;simp[a1,hm]
 by_cases a2:18<op
 .simp[a2]at hm;simp[a1,a2,hm]
 rw[if_neg (by omega)]at hm;simp[a1,a2];refine aC.mk b8S (c2w op) ?_;simp;refine aC.mk qX (sQ op) ?_;cases hn:xD op
 .obtain⟨n3,n4,n5⟩:=d2D hn;by_cases b1:nm=[];rotate_left
  .have b1':nm.isEmpty=false:=by cases nm<;>simp at b1|-
   simp[a5M,hn,b1]at hm;simp (maxSteps:=4000000) [hn,b1,b1',hm]
  subst b1;by_cases o1:op=1
  .subst o1;have el:pS 1=0:=rfl;have em:vV 1=0:=rfl;by_cases k0:l=[];rotate_left
   .have kl:0<l.length:=List.length_pos_iff.2 k0;have kl': ¬((l.length:Int)<0):=by omega
    simp[a5M,hn,el,em,kl,kl']at hm;simp (maxSteps:=4000000) [hn,el,em,kl,kl',hm]
   subst k0;simp[a5M,hn,el,em]at hm;simp (maxSteps:=4000000) [hn,el,em];refine aC.mk c5d (d0t n) ?_;cases hi:inB n
   .simp[vI,hi]at hm;simp[hm]
   .simp[vI,hi]at hm;simp;refine aC.mk qX (sQ 1) ?_;simp (maxSteps:=4000000) [hn,hm]
  by_cases o2:op=2
  .subst o2;have el:pS 2=0:=rfl;have em:vV 2=0:=rfl;by_cases k0:l=[];rotate_left
   .have kl:0<l.length:=List.length_pos_iff.2 k0;have kl': ¬((l.length:Int)<0):=by omega
    simp[a5M,hn,el,em,kl,kl']at hm;simp (maxSteps:=4000000) [hn,el,em,kl,kl',hm]
   subst k0;simp[a5M,hn,el,em]at hm;by_cases c0:n=0
   .simp[vI,c0]at hm;simp (maxSteps:=4000000) [hn,el,em,c0];refine aC.mk qX (sQ 2) ?_;simp (maxSteps:=4000000) [hn,hm]
   .by_cases c1:n=1
    .simp[vI,c1]at hm;simp (maxSteps:=4000000) [hn,el,em,c1];refine aC.mk qX (sQ 2) ?_;simp (maxSteps:=4000000) [hn,hm]
    .simp[vI,c0,c1]at hm;simp (maxSteps:=4000000) [hn,el,em,c0,c1,hm]
  by_cases c0:n=0;rotate_left
  .simp[a5M,hn,o1,o2,c0]at hm;simp (maxSteps:=4000000) [hn,o1,o2,c0,hm]
  subst c0;by_cases d1:(l.length:Int)<pS op
  .simp[a5M,hn,d1]at hm;simp (maxSteps:=4000000) [hn,o1,o2,d1,hm]
  by_cases d2:vV op<(l.length:Int)
  .simp[a5M,hn,d1,d2]at hm;simp (maxSteps:=4000000) [hn,o1,o2,d1,d2,hm]
  simp[a5M,vI,hn,o1,o2,d1,d2]at hm;simp (maxSteps:=4000000) [hn,o1,o2,d1,d2];refine aC.mk qX (sQ op) ?_;by_cases o8:op=8
  .subst o8;have el:pS 8=2:=rfl
   match l,d1 with
   |[],d1=>exact absurd (by rw[el];simp) d1
   |k::r,d1=>
    by_cases e1:k.op=1
    .simp[b1l,e1]at hm;simp (maxSteps:=4000000) [hn,e1,hm]
    .simp[b1l,e1]at hm;simp (maxSteps:=4000000) [hn,e1,hm]
  .simp[o8]at hm;simp (maxSteps:=4000000) [hn,o8,hm]
 .have ho:=d2C hn;have o1: ¬op=1:=by omega
  have o2: ¬op=2:=by omega
  have o8: ¬op=8:=by omega
  by_cases c0:n=0;rotate_left
  .simp[a5M,hn,o1,o2,c0]at hm;simp (maxSteps:=4000000) [hn,o1,o2,c0,hm]
  subst c0;by_cases d1:(l.length:Int)<pS op
  .simp[a5M,hn,d1]at hm;simp (maxSteps:=4000000) [hn,o1,o2,d1,hm]
  by_cases d2:vV op<(l.length:Int)
  .simp[a5M,hn,d1,d2]at hm;simp (maxSteps:=4000000) [hn,o1,o2,d1,d2,hm]
  simp[a5M,vI,hn,o1,o2,o8,d1,d2]at hm;simp (maxSteps:=4000000) [hn,o1,o2,d1,d2];refine aC.mk qX (sQ op) ?_;simp[hn];refine aC.mk c8s (d1W hG nm) ?_;cases hc:rJ nm;rotate_left
  .simp[hc]at hm;simp[eZ,o8,hm]
  simp[hc]at hm;simp[eZ];by_cases o3:op=3
  .subst o3;by_cases v1:nm=[118]
   .simp[a0o,v1]at hm;simp[v1,hm]
   .simp[a0o,v1]at hm;simp[v1,hm]
  by_cases o4:op=4
  .subst o4;by_cases v1:nm=[116,97,103]
   .simp[a0o,v1]at hm;simp[v1,hm]
   .by_cases v2:nm=[118,97,108]
    .simp[a0o,v2]at hm;simp[v2,hm]
    .simp[a0o,v1,v2]at hm;simp[v1,v2,hm]
  .simp[a0o,o3,o4]at hm;simp[o3,o4,hm]
theorem b6M:VM.Enters prog 214:=.mk func214 rfl
theorem b8T(p:Pr):bM p<=900000000->CS prog G 214 [.agg (prD p)] (.d (.int .i64 (bM p))) none:=by
 revert p
 refine Pr.ind λp ih=>?_;obtain⟨op,nm,n,l⟩:=p;intro hN;simp only at ih;have hn:=pT ⟨op,nm,n,l⟩;simp only at hn;have hl:=jF l;refine CS.aX func214 rfl ntmps214 rfl ?_;simp;refine SW.eX (ι:={i:Nat//i<=l.length}) (λi=>[(3,.d (.int .i64 (1+dM (l.take i.1):Nat))),(9,.d (.int .i64 i.1))]) (λ_=>[(1,prO op nm n (.sl (l.map rW)))]) (λ_=>[]) (λi=>l.length-i.1) ⟨0,by simp⟩ (by simp[dM]) ?_;rintro⟨i,hi⟩;by_cases aF:i<l.length
 .have hg:=xR aF;have hw:=bA (show i<9223372036854775807 by omega);have hb2:=rX aF;have hb3:=kE l (i+1);have hw2:IntKind.i64.wrap (((1+dM (l.take i):Nat):Int)+(bM l[i]:Int))=((1+dM (l.take (i+1)):Nat):Int):=by rw[wrap64 (by omega),hb2];omega
  simp[aF,hg];refine aC.mk b6M (ih l[i] (List.getElem_mem aF) (by omega)) ?_;simp;exact bC.mk ⟨i+1,aF⟩ (by simp at hw2;simp[hw,hw2]) (by simp;omega)
 .have:i=l.length:=by omega
  subst this;simp[hn]
theorem b6N:VM.Enters prog 215:=.mk func215 rfl
theorem b8U(p:Pr):bM p<=900000000->CS prog G 215 [.agg (prD p)] (.d (.int .i64 (b4q p))) none:=by
 revert p
 refine Pr.ind λp ih=>?_;obtain⟨op,nm,n,l⟩:=p;intro hN;simp only at ih;have hn:=pT ⟨op,nm,n,l⟩;have hd:=d0K ⟨op,nm,n,l⟩;simp only at hn hd;have hl:=jF l;have hle:=b1i l 0;refine CS.aX func215 rfl ntmps215 rfl ?_;simp;refine SW.eX (ι:={i:Nat//i<=l.length}) (λi=>[(3,.d (.int .i64 (vE (l.take i.1) 0))),(9,.d (.int .i64 i.1))]) (λ_=>[(1,prO op nm n (.sl (l.map rW)))]) (λ_=>[]) (λi=>l.length-i.1) ⟨0,by simp⟩ (by simp[vE]) ?_;rintro⟨i,hi⟩;by_cases aF:i<l.length
 .have hg:=xR aF;have hw:=bA (show i<9223372036854775807 by omega);have hs:=b6H aF 0;have hb2:=rX aF;have hb3:=kE l (i+1);simp[aF,hg];refine aC.mk b6N (ih l[i] (List.getElem_mem aF) (by omega)) ?_;simp;exact bC.mk ⟨i+1,aF⟩ (by simp[hw,hs];split<;>omega) (by simp;omega)
 .have:i=l.length:=by omega
  subst this;have hw:IntKind.i64.wrap ((vE l 0:Int)+1)=((vE l 0+1:Nat):Int):=bA (by omega);simp[hw,hd]
mutual
theorem c5T:∀(p q:Pr),q∈a2n p->bM q<=bM p
 |⟨op,nm,n,l⟩,q,h=>by
  simp only[a2n,List.mem_cons]at h;rcases h with rfl|h
  .exact g1m _
  .have:=c0C l q h;simp only[bM];omega
theorem c0C:∀(l:List Pr) (q:Pr),q∈pN l->bM q<=dM l
 |[],q,h=>by simp[pN]at h
 |t::r,q,h=>by
  simp only[pN,List.mem_append]at h;simp only[dM];rcases h with h|h
  .have:=c5T t q h;omega
  .have:=c0C r q h;omega
end
def a6S(p:Pr):Int:=b4r a2Q p
theorem b6O:VM.Enters prog 199:=.mk func199 rfl
theorem b8V(hG:G 1=some eK)(p:Pr)(hN:bM p<=1000000):CS prog G 199 [.agg (prD p)] (.d (.int .i64 (a6S p))) none:=by
 have h:=b8R (G:=G) a2Q p hN (by have:=b8T (G:=G) p (by omega);rwa[dE]) (by have:=b8U (G:=G) p (by omega);rwa[dE]) (λq hq=>by
  have h1:=c5T p q hq;have h2:=pT q;have h3:=jF q.kids;have:=c2x hG q (by omega)
  rwa[dE])
 rwa[dE]at h
end Go.Proofs.YtjpodcmhcenjjaaGreatDoor
end
end
namespace Go.Proofs.YtjpodcmhcenjjaaGreatDoor
section
open Go Go.VM
variable {G:GT}
def b6P(p:Pr)(s:Pr×Bool):Option (Pr×Bool):=if tI p then some s else if a1b p (a4V false) then none else if s.2 then some (⟨15,[],0,[s.1,p]⟩,true) else some (p,true)
def b4s:List Pr->Pr×Bool->Pr
 |[],s=>s.1
 |p::r,s=>match b6P p s with
  |none=>a4V false
  |some s=>b4s r s
def aZ(a b:Pr):Pr:=b4s [a,b] (a4V true,false)
theorem c2y:VM.Enters prog 129:=.mk func129 rfl
theorem b6Q(b:Bool):bM (a4V b)=1:=by cases b<;>simp[a4V,a1c,a4U,bM,dM]
theorem b6R(op:Int)(a b:Pr):bM ⟨op,[],0,[a,b]⟩=bM a+bM b+1:=by simp[bM,dM];omega
theorem c5U(L:List Pr)(hL:∀p∈L,bM p<=1000000)(hl:L.length<=1000):CS prog G 129 [.sl (L.map rW)] (.d (.agg (prD (b4s L (a4V true,false))))) none:=by
 generalize hR:b4s L (a4V true,false)=R;refine CS.aX func129 rfl ntmps129 rfl ?_;simp;refine aC.mk tJ (uW true) ?_;simp;refine SW.eX (ι:={x:Nat×Pr×Bool//x.1<=L.length/\b4s (L.drop x.1) x.2=R}) (λx=>[(4,.d (.bool x.1.2.2)),(10,.d (.int .i64 x.1.1))]) (λx=>[(2,.cells [.d (.int .i64 0),.d (.str []),.d (.int .i64 0),.d .aD]),(3,.cells ((prD x.1.2.1).map .d))]) (λ_=>[]) (λx=>L.length-x.1.1) ⟨(0,a4V true,false),by simpa using hR⟩ (by simp) ?_;rintro⟨⟨k,out,some⟩,hk,hp⟩;simp only at hk hp;by_cases aF:k<L.length
 .have hg:(L.map rW)[k]? =.some (rW L[k]):=by simp[aF]
  have hw:=bA (show k<9223372036854775807 by omega);have hd:L.drop k=L[k]::L.drop (k+1):=g1j aF;have hb:=hL L[k] (List.getElem_mem aF);rw[hd]at hp;obtain⟨p,hP⟩:∃p,L[k]=p:=⟨_,rfl⟩;rw[hP]at hg hd hb hp;have hv:=c2t (G:=G) p (by omega);have hs:=a1d (G:=G) p (a4V false) (by omega);have hc:=b6K (G:=G) p (by omega);simp only[b4s,b6P]at hp;simp[aF,hP];refine aC.mk b8Q hv ?_;cases h1:tI p with
  |true=>rw[h1]at hp;simp;exact bC.mk ⟨(k+1,out,some),aF,by simpa using hp⟩ (by simp[hw]) (by simp;omega)
  |false=>
   rw[h1]at hp;simp;refine⟨kV.mk (by kernel_rfl),?_⟩;refine aC.mk tJ (uW false) ?_;simp;refine aC.mk vU hs ?_;cases h2:a1b p (a4V false)with
   |true=>rw[h2]at hp;simp at hp;simp;refine aC.mk tJ (uW false) ?_;simp[<-hp]
   |false=>
    rw[h2]at hp;cases some with
    |true=>simp;refine⟨kV.mk (by kernel_rfl),?_⟩;refine aC.mk a0H hc ?_;simp;exact bC.mk ⟨(k+1,⟨15,[],0,[out,p]⟩,true),aF,by simpa using hp⟩ (by simp[hw]) (by simp;omega)
    |false=>simp;refine aC.mk a0H hc ?_;simp;exact bC.mk ⟨(k+1,p,true),aF,by simpa using hp⟩ (by simp[hw]) (by simp;omega)
 .have hd:L.drop k=[]:=List.drop_eq_nil_of_le (by omega);rw[hd]at hp;simp only[b4s]at hp;simp[aF, <- hp]
end
section
open Go Go.VM
variable {G:GT}
abbrev a1e:Ty->DV:=λt=>.d (.agg (tyD t))
abbrev f5r:Option Ty->DV:=λo=>.cI [.agg (tyD (o.getD mO)),.bool o.isSome]
theorem b3J:VM.Enters prog 74:=.mk func74 rfl
theorem b4t:VM.Enters prog 123:=.mk func123 rfl
theorem a6T:VM.Enters prog 77:=.mk func77 rfl
theorem dF:VM.Enters prog 39:=.mk func39 rfl
theorem b1m:VM.Enters prog 124:=.mk func124 rfl
section
variable {aE:List Tok->Nat->Nat->kJ Pr} {l:List Tok} (hV:pY G aE l)
include hV
theorem b6S(i:Nat)(hi:i<l.length):sJ G 74 [] l i (gO aJ l i) f5r:=by
 have hl:=hV.len;have ht:=dA (G:=G) l i i 0 (by omega) (by omega) (by intro e;subst e;simp at hi) (by omega);obtain⟨j0,rfl⟩:∃j0,j0=i:=⟨_,rfl⟩;have p0:j0<=j0/\j0<l.length:=⟨g1m _,hi⟩;refine oZ.bL func74 rfl ntmps74 rfl (by simp) ?_;intro Q Q0;simp;cases h1:aH l j0 [73,110,116]with
 |true=>refine rdT h1 p0 hV.fin λp1=>?_;simp;exact Q0.ok _ (j0+1) _ _ (by unfold gO;rw[if_pos h1]) (.inr rfl) (by simp[vP,eY])
 |false=>
 refine zH h1 p0 ?_;simp;cases h2:aH l j0 [66,111,111,108]with
 |true=>refine rdT h2 p0 hV.fin λp1=>?_;simp;exact Q0.ok _ (j0+1) _ _ (by unfold gO;rw[if_neg (by rw[h1];decide),if_pos h2]) (.inr rfl) (by simp[vP,eY])
 |false=>
 refine zH h2 p0 ?_;simp;cases h3:aH l j0 [67,101,108,108]with
 |true=>refine rdT h3 p0 hV.fin λp1=>?_;simp;exact Q0.ok _ (j0+1) _ _ (by unfold gO;rw[if_neg (by rw[h1];decide),if_neg (by rw[h2];decide),if_pos h3]) (.inr rfl) (by simp[vP,eY])
 |false=>
 refine zH h3 p0 ?_;simp;refine pA (ds:=[.int .i64 0]) bZ ht ?_;simp;refine mG.mk mQ (oX hV.kw (aG l j0)) ?_;cases h4:jV aJ (aG l j0)with
 |true=>simp;refine rdX (ds:=[]) dG (dT hV.kw l j0 hi (by omega)) (λs j hx=>?_) (λn e hx=>by unfold bW oQ at hx;rw[if_pos h4]at hx;cases hx);unfold bW oQ at hx;rw[if_pos h4]at hx;cases hx;simp;exact Q0.ok _ (j0+1) _ _ (by unfold gO;rw[if_neg (by rw[h1];decide),if_neg (by rw[h2];decide),if_neg (by rw[h3];decide),if_pos h4]) (.inr rfl) (by simp[vP,eY])
 |false=>simp;exact Q0.ok none j0 _ _ (by unfold gO;rw[if_neg (by rw[h1];decide),if_neg (by rw[h2];decide),if_neg (by rw[h3];decide),if_neg (by rw[h4];decide)]) (.inr rfl) (by simp[mO,eY])
theorem b6T(i:Nat)(hi:i<l.length):CH prog G 123 ⟨[.ptr 100000 0],rH l i,[]⟩ ⟨[.d (.bool (b3t aJ l i))],rH l i,[]⟩:=by
 have hl:=hV.len;have ht:=dA (G:=G) l i i 0 (by omega) (by omega) (by intro e;subst e;simp at hi) (by omega);have hb:=kX (G:=G) l i [123] hi (by omega);have hc:=kX (G:=G) l i [40] hi (by omega);have hw:=oX hV.kw (aG l i);unfold b3t;refine CH.aX func123 rfl ntmps123 rfl (by simp) ?_;simp;refine c2m (i:=i) (ds:=[.int .i64 0]) bZ ht ?_;generalize aG l i=T at ht hw|-;obtain⟨k,x,n,ln⟩:=T;simp[bJ];refine aC.mk mQ hw ?_;cases h1:jV aJ ⟨k,x,n,ln⟩with
 |true=>simp
 |false=>
  by_cases h2:k=2
  .simp[h2,qJ]
  .simp[h2,qJ];refine c2m (i:=i) (ds:=[.str [123]]) gZ hb ?_;cases h3:aH l i [123]with
   |true=>simp
   |false=>simp;refine c2m (i:=i) (ds:=[.str [40]]) gZ hc ?_;simp
def TyI(t:Ty)(i j:Nat):Prop:=(t.pred.op=0->t.pred=a9G)/\bM t.pred+i<=j+1
section
variable {ty:bE Ty} {low:Nat} (oW:∀i,low<=i->i<l.length->sJ G 39 [] l i (ty i) a1e) (qW:aB l 0 ty) (ity:∀i t j,i<l.length->ty i=.ok t j->TyI t i j)
include oW qW ity
theorem a8G(i:Nat)(cC:low<=i+1)(hi:i<l.length):sJ G 77 [] l i (xU aZ aE l ty i) a1e:=by
 have hl:=hV.len;obtain⟨j0,rfl⟩:∃j0,j0=i:=⟨_,rfl⟩;have p0:j0<=j0/\j0<l.length:=⟨g1m _,hi⟩;refine oZ.bL func77 rfl ntmps77 rfl (by simp) ?_;intro Q Q0;unfold xU at Q0;simp;refine dZ Q0 p0 hV.fin λu1 j1 x1 Q1 p1=>?_;simp;refine sY Q1 p1 dF ((oW j1 (by omega) p1.2)) (qW) λt j2 x2 Q2 p2=>?_;have it:=ity j1 t j2 p1.2 x2;obtain⟨op,nm,args,ns,p,ps⟩:=t;simp only at Q2;simp;by_cases h6:op=6
 .rw[if_pos h6]at Q2;simp[h6];refine rdX (ds:=[]) wS (zD (α:=Ty) l j2 p2.2 (by omega) λ_=>.cI []) (λa j hx=>by unfold eH at hx;cases hx) (λn e hx=>Q2.bad n e _ hx)
 rw[if_neg h6]at Q2;simp[h6];refine dZ Q2 p2 hV.fin λu3 j3 x3 Q3 p3=>?_;simp;refine sY Q3 p3 rM (uC hV j3 p3.2) (hV.kL.pred) λq j4 x4 Q4 p4=>?_;simp;refine dZ Q4 p4 hV.fin λu5 j5 x5 Q5 p5=>?_;simp;have hq:=hV.nod _ _ _ _ p3.2 x4;have hs:=a1d (G:=G) p a9G (by have:=it.2;simp only at this;omega);refine mG.mk vU (CS.args hs (by simp[a9G])) ?_;rw[b1j];have h0:=it.1;simp only at h0;by_cases hz:p=a9G
 .subst hz;simp;exact Q5.ok _ j5 _ _ rfl (.inr rfl) (by simp[a9G])
 .have oV: ¬p.op=0:=λe=>hz (h0 e);have ha:=c5U (G:=G) [p,q] (by intro x hx;have h1:=it.2;simp only at h1;simp only[List.mem_cons,List.not_mem_nil,or_false]at hx;rcases hx with rfl|rfl<;>omega) (by simp)
  simp[hz];refine mG.mk c2y (by simpa using ha) ?_;simp;exact Q5.ok _ j5 _ _ rfl (.inr rfl) (by simp[oV,aZ])
theorem b3L(i:Nat)(cC:low<=i+1)(hi:i<l.length):sJ G 124 [] l i (kW aJ aZ aE l ty i) a1e:=by
 have hl:=hV.len;obtain⟨j0,rfl⟩:∃j0,j0=i:=⟨_,rfl⟩;have p0:j0<=j0/\j0<l.length:=⟨g1m _,hi⟩;have ht:=dA (G:=G) l j0 j0 0 (by omega) (by omega) (by intro e;subst e;simp at hi) (by omega);refine oZ.bL func124 rfl ntmps124 rfl (by simp) ?_;intro Q Q0;unfold kW at Q0;simp;refine sY Q0 p0 b3J (b6S hV j0 hi) (aB.base hV.fin) λo j1 x1 Q1 p1=>?_;cases o with
 |some t=>obtain⟨op,nm,args,ns,p,ps⟩:=t;simp;exact Q1.ok _ j1 _ _ rfl (.inr rfl) (by simp)
 |none=>
 have hj:=wQ x1;subst hj;simp only at Q1;simp[mO,eY];refine pA (ds:=[.int .i64 0]) bZ ht ?_;cases hti:qJ (aG l j1)with
 |true=>
  rw[hti,if_pos rfl]at Q1;have hk:(aG l j1).kind=2:=by simpa[qJ]using hti
  have htt:=mR (G:=G) l j1 p1.2 (by omega);have hx:gT l j1=.ok (aG l j1).text (j1+1):=by unfold gT oQ;rw[if_pos hti]
  generalize aG l j1=T at Q1 hk hx|-;obtain⟨k,x,n,ln⟩:=T;simp only at hk;subst hk;simp[bJ];refine rdX (ds:=[]) kG htt (λs j h=>?_) (λn e h=>by rw[hx]at h;cases h);rw[hx]at h;cases h;simp;exact Q1.ok _ (j1+1) _ _ rfl (.inr rfl) (by simp[vP,eY])
 |false=>
  rw[hti,if_neg (by decide)]at Q1;have hk: ¬(aG l j1).kind=2:=by simpa[qJ]using hti
  generalize aG l j1=T at hk|-;obtain⟨k,x,n,ln⟩:=T;simp only at hk;simp[bJ,hk];have hb:=kX (G:=G) l j1 [123] p1.2 (by omega);refine pA (ds:=[.str [123]]) gZ hb ?_;cases hs:aH l j1 [123]with
  |true=>rw[hs,if_pos rfl]at Q1;simp;refine rdX (ds:=[]) a6T (a8G hV oW qW ity j1 cC p1.2) (λt j h=>?_) (λn e h=>Q1.bad n e _ h);simp;exact Q1.ok t j _ _ h (.inr rfl) (by simp)
  |false=>rw[hs,if_neg (by decide)]at Q1;simp;refine dZ Q1 p1 hV.fin λu2 j2 x2 Q2 p2=>?_;simp;refine sY Q2 p2 dF ((oW j2 (by omega) p2.2)) (qW) λt j3 x3 Q3 p3=>?_;simp;refine dZ Q3 p3 hV.fin λu4 j4 x4 Q4 p4=>?_;simp;exact Q4.ok t j4 _ _ rfl (.inr rfl) (by simp)
end
end
end
section
open Go Go.VM
variable {G:GT}
theorem c5V:VM.Enters prog 75:=.mk func75 rfl
theorem b8W:VM.Enters prog 125:=.mk func125 rfl
section
variable {aE:List Tok->Nat->Nat->kJ Pr} {l:List Tok} (hV:pY G aE l)
include hV
def a8H(nm:Nm)(args:List Ty)(out:List Pr):List (Nat×bD):=[(100001,.cells [.ptr 100000 0]),(100002,.cells [.d (.int .i64 4),.d (.str nm),.d (.sl (args.map tyC)),.d (.sl []),.d (.int .i64 0),.d (.str []),.d (.int .i64 0),.d (.sl []),.d (.sl (out.map rW))])]
abbrev e4V:List (TypeId×List VM.Loc):=[(43,[.c 100002 8])]
abbrev c5W(aE:List Tok->Nat->Nat->kJ Pr)(l:List Tok)(out:List Pr):bE (List Pr):=do
 aY l [[118],[46]]
 let p <- mP aE l
 pure (out++[p])
theorem c5X(nm:Nm)(args:List Ty)(out:List Pr)(i:Nat)(hi:i<l.length)(uJ:out.length<=i):oZ G 125 [.ptr 100001 0,.ptr 100002 0] (a8H nm args out) e4V l i (c5W aE l out i) (λ_=>.cI []) (a8H nm args):=by
 have hl:=hV.len;obtain⟨j0,rfl⟩:∃j0,j0=i:=⟨_,rfl⟩;have p0:j0<=j0/\j0<l.length:=⟨g1m _,hi⟩;refine oZ.bL func125 rfl ntmps125 rfl (by simp) ?_;intro Q Q0;simp[a8H];refine dZ Q0 p0 hV.fin λu1 j1 x1 Q1 p1=>?_;simp;refine eE 6 (t:=41) (e:=43) (T:=45) (s:=6) (z:=10) (r:=11) (p:=12) (q:=9) (x:=8) (b:=13) (y:=1) (fd:=5) [0] 3 [2] (a5K 1 4 5) (kD (mP aE l j1)) rfl rfl rfl rfl rfl (by kernel_rfl) (by kernel_rfl) rfl ?_;simp
 repeat' apply And.intro
 all_goals
  refine qK Q1 p1 rM (uC hV j1 p1.2) (hV.kL.pred) λq j2 x2 Q2 p2=>cJ.mk ?_;simp
 all_goals
  refine⟨_,_,_,_,_,_,_,_,_,by simp,rfl,rfl,?_,rfl,rfl,?_,by simp,rfl,rfl,rfl,rfl,by decide,rfl,?_⟩
  .intro c hc
   first
    |(obtain⟨y,_,rfl⟩:=List.mem_map.1 hc
      rw[dE]
      rfl)
    |(simp only[g1d]at hc
      subst hc
      rfl)
  .simp<;>omega
  exact Q2.ok _ j2 .normal _ rfl (.inl rfl) (by simp[a8H,dE])
theorem d2E(nm:Nm)(args:List Ty):a1W l K3 [.ptr 100001 0,.ptr 100002 0] (a8H nm args) e4V:=by
 constructor
 all_goals intros
 all_goals first
  |rfl
  |simp[a8H,aL,aQ,aW,aV,bH,getKey,aR,bF,cX,rk,dD,bS, *]
theorem d2F(a:List Pr)(i:Nat)(b:List Pr)(j:Nat)(h:c5W aE l a i=.ok b j):b.length=a.length+1:=by
 simp only[c5W,dN]at h
 repeat' split at h
 all_goals first|cases h|skip
 all_goals simp
theorem b2v(out:List Pr):aB l 1 (c5W aE l out):=(aB.exp hV.fin _ _).bl λ_=>hV.kL.pred.bl λ_=>aB.bY _
theorem zI{α:Type}{c:Nat->Bool}{one:α->bE α}{g:Nat}{a b:α}{i j:Nat}(hc:c i=true)(h:one a i=.ok b j):eD c one (g+1) a i=eD c one g b j:=by rw[eD];simp only[hc,if_true,h]
theorem sR{α:Type}{c:Nat->Bool}{one:α->bE α}{g:Nat}{a:α}{i:Nat}{n e:Int}(hc:c i=true)(h:one a i=.bad n e):eD c one (g+1) a i=.bad n e:=by rw[eD];simp only[hc,if_true,h]
theorem zJ{α:Type}{c:Nat->Bool}{one:α->bE α}{g:Nat}{a:α}{i:Nat}(hc:c i=false):eD c one (g+1) a i=.ok a i:=by rw[eD];simp only[hc,Bool.false_eq_true,if_false]
section
variable {ty:bE Ty} {low:Nat} (oW:∀i,low<=i->i<l.length->sJ G 39 [] l i (ty i) a1e) (qW:aB l 0 ty) (ity:∀i t j,i<l.length->ty i=.ok t j->TyI t i j)
include oW qW ity
abbrev e2p(aE:List Tok->Nat->Nat->kJ Pr)(l:List Tok)(ty:bE Ty)(out:List Ty):bE (List Ty):=do let t <- kW aJ aZ aE l ty;pure (out++[t])
theorem c8U(i:Nat)(cC:low<=i+1)(hi:i<l.length):sJ G 75 [] l i (vX aJ aZ aE l ty i) a1e:=by
 have hl:=hV.len;obtain⟨j0,rfl⟩:∃j0,j0=i:=⟨_,rfl⟩;have p0:j0<=j0/\j0<l.length:=⟨g1m _,hi⟩;refine oZ.bL func75 rfl ntmps75 rfl (by simp) ?_;intro Q Q0;unfold vX at Q0;simp;refine sY Q0 p0 kG (mR l j0 p0.2 (by omega)) (aB.title hV.fin) λnm j1 x1 Q1 p1=>?_;simp;refine SW.vR (ι:={x:List Ty×Nat×Nat//j1<=x.2.1/\x.2.1<l.length/\l.length<x.2.2+x.2.1/\x.1.length<=x.2.1/\eD (b3t aJ l) (e2p aE l ty) x.2.2 x.1 x.2.1=sW l (b3t aJ l) (e2p aE l ty) [] j1}) (λ_=>[]) (λx=>[(1,.cells [.ptr 100000 0]),(2,.cells [.d (.int .i64 0),.d (.str []),.d .aD,.d .aD,.d (.int .i64 0),.d (.str []),.d (.int .i64 0),.d .aD,.d .aD]),(3,.cells [.d (.int .i64 4),.d (.str nm),.d (.sl (x.1.1.map tyC)),.d .aD,.d (.int .i64 0),.d (.str []),.d (.int .i64 0),.d .aD,.d .aD]),(100000,rdO l x.1.2.1)]) (λ_=>[(45,[.c 3 2])]) (λx=>l.length-x.1.2.1) ⟨([],j1,l.length+2),g1m _,p1.2,by simp only;omega,by simp,rfl⟩ (by simp) ?_;rintro⟨⟨out,j2,g⟩,hb,tY,hg,ho,hp⟩;simp only at hb tY hg ho hp;obtain⟨g,rfl⟩:∃k,g=k+1:=⟨g-1,by omega⟩;simp;refine pA (i:=j2) (ds:=[]) b4t (b6T hV j2 tY) ?_;by_cases hc:b3t aJ l j2=true
 .simp[hc];refine eE 6 (t:=28) (e:=45) (T:=45) (s:=10) (z:=14) (r:=15) (p:=16) (q:=13) (x:=12) (b:=17) (y:=3) (fd:=2) [0] 3 [2] (a5K 1 4 5) (kD (kW aJ aZ aE l ty j2)) rfl rfl rfl rfl rfl (by kernel_rfl) (by kernel_rfl) rfl ?_;simp
  repeat' apply And.intro
  all_goals
   refine rdZ (ds:=[]) b1m (b3L hV oW qW ity j2 (by omega) tY) (λt j3 x3=>?_) (λn e hx=>?_)
   .have p3:=aB.a3m hV.fin qW hV.kL.pred j2 t j3 tY x3;have h1:e2p aE l ty out j2=.ok (out++[t]) j3:=(bP x3).trans rfl;rw[zI hV hc h1]at hp;refine cJ.mk ?_;simp;refine⟨_,_,_,_,_,_,_,_,_,by simp,rfl,rfl,?_,rfl,rfl,?_,by simp,rfl,rfl,rfl,rfl,by decide,rfl,?_⟩
    .intro c hc
     first
      |(obtain⟨y,_,rfl⟩:=List.mem_map.1 hc
        rw[bV]
        rfl)
      |(simp only[g1d]at hc
        subst hc
        rfl)
    .simp<;>omega
    refine bC.mk ⟨(out++[t],j3,g),by simp only;omega,p3.2,by simp only;omega,by simp;omega,hp⟩ (by simp[bV]) (by simp;omega)
   .have h1:e2p aE l ty out j2=.bad n e:=jU hx;rw[sR hV hc h1]at hp;simp;exact λs=>Q1.fail hp.symm s
 .have hc:=Bool.eq_false_iff.2 hc;rw[zJ hV hc]at hp;have Q2:=Q1.step hp.symm;have p2:j1<=j2/\j2<l.length:=⟨hb,tY⟩;simp[hc];cases hs:aH l j2 [60]with
  |false=>have Q3:=Q2.step (kZ hs);rw[if_neg (by decide)]at Q3;refine zH hs p2 ?_;simp;exact Q3.ok _ j2 _ _ rfl (.inr rfl) (by simp[vP,eY])
  |true=>
   have Q3:=Q2.step (kY hs);rw[if_pos rfl]at Q3;refine rdT hs p2 hV.fin λp3=>?_;obtain⟨j3,hj3⟩:∃j3,j2+1=j3:=⟨_,rfl⟩;rw[hj3]at Q3 p3|-;simp;have jS:=gP hV [44] (c5W aE l) (λout i=>out.length<=i) 0 b8W (d2E hV nm out) (λa=>(b2v hV a).le (by omega)) (λa i _ hi h=>c5X hV nm out a i hi h) (λa i b j hi h hx=>by have h1:=b2v hV a i b j hi hx;have h2:=d2F hV a i b j hx;omega) (λa i h=>by omega) [] j3 (by omega) p3.2 (by simp)
   refine dO.mk (a1a eA jS [(100000,100000),(100001,1),(100002,3)] (λa j hx=>?_) ?_ ?_ ?_ rfl rfl (λws j4 x4=>?_) (λn e yJ=>Q3.fail yJ _))
   .simp[a8H,aL,aQ,aW,aV,bH,getKey]
   .simp[a8H,aL,aQ,aW,aV,bH,getKey]
   .simp[aR,bF,rk]
   .simp[a8H,aR,bF,rk,cX,dD]
   .have Q4:=Q3.step x4;have p4:=aB.list hV.fin (λa=>b2v hV a) [] j3 ws j4 p3.2 x4;simp[bG,a8H,aR,bF,rk,cX,dD,bS,kC,gM,dX];refine dZ Q4 p4 hV.fin λu5 j5 x5 Q5 p5=>?_;simp;exact Q5.ok _ j5 _ _ rfl (.inr rfl) (by simp[vP,eY])
end
end
end
section
open Go Go.VM
variable {G:GT}
theorem c8V:VM.Enters prog 78:=.mk func78 rfl
theorem c2z:VM.Enters prog 130:=.mk func130 rfl
theorem c2A:VM.Enters prog 131:=.mk func131 rfl
section
variable {aE:List Tok->Nat->Nat->kJ Pr} {l:List Tok} (hV:pY G aE l)
include hV
def a2o(out:List Nm×List Ty):List (Nat×bD):=[(100001,.cells [.d (.int .i64 6),.d (.str []),.d (.sl (out.2.map tyC)),.d (.sl (strs out.1)),.d (.int .i64 0),.d (.str []),.d (.int .i64 0),.d (.sl []),.d (.sl [])]),(100002,.cells [.ptr 100000 0])]
abbrev e7X:List (TypeId×List VM.Loc):=[(45,[.c 100001 2]),(9,[.c 100001 3])]
abbrev a6U(l:List Tok)(ty:bE Ty)(out:List Nm×List Ty):bE (List Nm×List Ty):=do
 let w <- bW aJ l
 aY l [[58]]
 let t <- ty
 pure (out.1++[w],out.2++[t])
abbrev a5v(ty:bE Ty)(out:List Nm×List Ty):bE (List Nm×List Ty):=do
 let t <- ty
 pure (out.1,out.2++[t])
theorem uD{α:Type}{c:Nm}{one:α->bE α}(I:α->Nat->Prop)(h1:∀a i b j,i<l.length->I a i->one a i=.ok b j->I b j/\j<l.length)(hm:∀a i,I a i->I a (i+1)):∀(g:Nat) (a:α) (i:Nat) (b:α) (j:Nat),i<l.length->I a i->gN l c one g a i=.ok b j->I b j/\j<l.length
 |0,a,i,b,j,_,_,h=>by unfold gN at h;cases h
 |g+1,a,i,b,j,hi,ha,h=>by
  unfold gN at h;split at h
  .cases h
  .rename_i b' j' ho;have k1:=h1 a i b' j' hi ha ho;split at h
   .rename_i hs;exact uD I h1 hm g b' (j'+1) b j (aK hV.fin k1.2 hs) (hm _ _ k1.1) h
   .cases h;exact k1
theorem c5Y:a1W l K3 [.ptr 100001 0,.ptr 100002 0] a2o e7X:=by
 constructor
 all_goals intros
 all_goals first
  |rfl
  |simp[a2o,aL,aQ,aW,aV,bH,getKey,aR,bF,cX,rk,dD,bS, *]
omit hV in
theorem c0D{ty:bE Ty}(a:List Nm×List Ty)(i:Nat)(b:List Nm×List Ty)(j:Nat)(h:a6U l ty a i=.ok b j):b.1.length=a.1.length+1/\b.2.length=a.2.length+1:=by
 simp only[a6U,dN]at h
 repeat' split at h
 all_goals first|cases h|skip
 all_goals simp
omit hV in
theorem d2G{ty:bE Ty}(a:List Nm×List Ty)(i:Nat)(b:List Nm×List Ty)(j:Nat)(h:a5v ty a i=.ok b j):b.1=a.1/\b.2.length=a.2.length+1:=by
 simp only[a5v,dN]at h
 repeat' split at h
 all_goals first|cases h|skip
 all_goals simp
section
variable {ty:bE Ty} {low:Nat} (oW:∀i,low<=i->i<l.length->sJ G 39 [] l i (ty i) a1e) (qW:aB l 1 ty)
include oW qW
theorem c8W(out:List Nm×List Ty)(i:Nat)(cC:low<=i)(hi:i<l.length)(uJ:out.1.length<=i/\out.2.length<=i):oZ G 130 [.ptr 100001 0,.ptr 100002 0] (a2o out) e7X l i (a6U l ty out i) (λ_=>.cI []) a2o:=by
 have hl:=hV.len;obtain⟨j0,rfl⟩:∃j0,j0=i:=⟨_,rfl⟩;have p0:j0<=j0/\j0<l.length:=⟨g1m _,hi⟩;refine oZ.bL func130 rfl ntmps130 rfl (by simp) ?_;intro Q Q0;simp[a2o];refine gC [0] 3 [2] (.op 1 (.call [4,5,6,7] .none) (.call [1,4,5,6,7] .none)) (kD (bW aJ l j0)) (by kernel_rfl) (by kernel_rfl) ?_;simp;refine⟨?_,?_⟩
 all_goals
  refine qK Q0 p0 dG (dT hV.kw l j0 p0.2 (by omega)) (aB.word hV.fin) λw j1 x1 Q1 p1=>cJ.mk ?_;simp;refine cK (by omega) ?_;simp;refine dZ Q1 p1 hV.fin λu2 j2 x2 Q2 p2=>?_;simp;refine eE 6 (t:=28) (e:=45) (T:=45) (s:=13) (z:=17) (r:=18) (p:=19) (q:=16) (x:=15) (b:=20) (y:=0) (fd:=2) [0] 3 [2] (a5K 1 4 5) (kD (ty j2)) rfl rfl rfl rfl rfl (by kernel_rfl) (by kernel_rfl) rfl ?_;simp
  repeat' apply And.intro
  all_goals
   refine qK Q2 p2 dF ((oW j2 (by omega) p2.2)) (qW) λt j3 x3 Q3 p3=>cJ.mk ?_;simp;refine⟨_,_,_,_,_,_,_,_,_,by simp,rfl,rfl,?_,rfl,rfl,?_,by simp,rfl,rfl,rfl,rfl,by decide,rfl,?_⟩
   .intro c hc
    first
     |(obtain⟨y,_,rfl⟩:=List.mem_map.1 hc
       rw[bV]
       rfl)
     |(simp only[g1d]at hc
       subst hc
       rfl)
   .simp<;>omega
   exact Q3.ok _ j3 .normal _ rfl (.inl rfl) (by simp[a2o,bV,a1p])
theorem c8X(out:List Nm×List Ty)(i:Nat)(cC:low<=i)(hi:i<l.length)(uJ:out.1.length<=i/\out.2.length<=i):oZ G 131 [.ptr 100001 0,.ptr 100002 0] (a2o out) e7X l i (a5v ty out i) (λ_=>.cI []) a2o:=by
 have hl:=hV.len;obtain⟨j2,rfl⟩:∃j2,j2=i:=⟨_,rfl⟩;have p2:j2<=j2/\j2<l.length:=⟨g1m _,hi⟩;refine oZ.bL func131 rfl ntmps131 rfl (by simp) ?_;intro Q Q2;simp[a2o];refine eE 6 (t:=28) (e:=45) (T:=45) (s:=3) (z:=7) (r:=8) (p:=9) (q:=6) (x:=5) (b:=10) (y:=0) (fd:=2) [0] 3 [2] (a5K 1 4 5) (kD (ty j2)) rfl rfl rfl rfl rfl (by kernel_rfl) (by kernel_rfl) rfl ?_;simp
 repeat' apply And.intro
 all_goals
  refine qK Q2 p2 dF ((oW j2 (by omega) p2.2)) (qW) λt j3 x3 Q3 p3=>cJ.mk ?_;simp;refine⟨_,_,_,_,_,_,_,_,_,by simp,rfl,rfl,?_,rfl,rfl,?_,by simp,rfl,rfl,rfl,rfl,by decide,rfl,?_⟩
  .intro c hc
   first
    |(obtain⟨y,_,rfl⟩:=List.mem_map.1 hc
      rw[bV]
      rfl)
    |(simp only[g1d]at hc
      subst hc
      rfl)
  .simp<;>omega
  exact Q3.ok _ j3 .normal _ rfl (.inl rfl) (by simp[a2o,bV])
theorem b2w(out:List Nm×List Ty):aB l 1 (a6U l ty out):=(aB.word hV.fin).bl λ_=>((aB.exp hV.fin _ _).le (by omega)).bl λ_=>(qW.le (by omega)).bl λ_=>aB.bY _
omit hV in
theorem a7R(out:List Nm×List Ty):aB l 1 (a5v ty out):=qW.bl λ_=>aB.bY _
theorem b6U(a:List Nm×List Ty)(i:Nat)(b:List Nm×List Ty)(j:Nat)(hi:i<l.length)(h:a.1.length<=i/\a.2.length<=i)(hx:a6U l ty a i=.ok b j):(b.1.length<=j/\b.2.length<=j)/\j<l.length:=by have h1:=b2w hV oW qW a i b j hi hx;have h2:=c0D a i b j hx;omega
omit hV in
theorem a9H(a:List Nm×List Ty)(i:Nat)(b:List Nm×List Ty)(j:Nat)(hi:i<l.length)(h:a.1.length<=i/\a.2.length<=i)(hx:a5v ty a i=.ok b j):(b.1.length<=j/\b.2.length<=j)/\j<l.length:=by have h1:=a7R oW qW a i b j hi hx;have h2:=d2G a i b j hx;rw[h2.1];omega
theorem d2H(i:Nat)(cC:low<=i+1)(hi:i<l.length):sJ G 78 [] l i (xV aJ l ty i) a1e:=by
 have hl:=hV.len;obtain⟨j0,rfl⟩:∃j0,j0=i:=⟨_,rfl⟩;have p0:j0<=j0/\j0<l.length:=⟨g1m _,hi⟩;refine oZ.bL func78 rfl ntmps78 rfl (by simp) ?_;intro Q Q0;unfold xV at Q0;simp;refine dZ Q0 p0 hV.fin λu1 j1 x1 Q1 p1=>?_;simp;have ht:=dA (G:=G) l j1 j1 0 (by omega) (by omega) (by intro e;subst e;simp at hi) (by omega);have ht1:=dA (G:=G) l j1 (j1+1) 1 (by omega) (by omega) (by intro e;subst e;simp at hi) (by omega);refine pA (ds:=[.int .i64 0]) bZ ht ?_;simp;refine mG.mk mQ (oX hV.kw (aG l j1)) ?_;have hK:∀(b:Bool),(jV aJ (aG l j1)&&cV (aG l (j1+1)) [58])=b->((λi=>if jV aJ (aG l i)&&cV (aG l (i+1)) [58] then dP l [44] (a6U l ty) ([],[]) i else dP l [44] (a5v ty) ([],[]) i:bE (List Nm×List Ty)) j1)=if b then dP l [44] (a6U l ty) ([],[]) j1 else dP l [44] (a5v ty) ([],[]) j1:=λb hb=>by simp only[hb]
 have f1F:=gP hV [44] (a6U l ty) (λout i=>out.1.length<=i/\out.2.length<=i) low c2z (c5Y hV) (λa=>(b2w hV oW qW a).le (by omega)) (λa i sE hi h=>c8W hV oW qW a i sE hi h) (λa i b j hi h hx=>(b6U hV oW qW a i b j hi h hx).1) (λa i h=>by omega) ([],[]) j1 (by omega) p1.2 (by simp);have e4W:=gP hV [44] (a5v ty) (λout i=>out.1.length<=i/\out.2.length<=i) low c2A (c5Y hV) (λa=>(a7R oW qW a).le (by omega)) (λa i sE hi h=>c8X hV oW qW a i sE hi h) (λa i b j hi h hx=>(a9H oW qW a i b j hi h hx).1) (λa i h=>by omega) ([],[]) j1 (by omega) p1.2 (by simp);cases hw:jV aJ (aG l j1)with
 |false=>
  have hx:=hK false (by rw[hw];rfl);rw[if_neg (by decide)]at hx;simp;refine dO.mk (a1a eA e4W [(100000,100000),(100001,3),(100002,1)] (λa j hx=>?_) ?_ ?_ ?_ rfl rfl (λws j2 x2=>?_) (λn e yJ=>Q1.fail (hx.trans yJ) _))
  .simp[a2o,aL,aQ,aW,aV,bH,getKey]
  .simp[a2o,aL,aQ,aW,aV,bH,getKey]
  .simp[aR,bF,rk]
  .simp[a2o,aR,bF,rk,cX,dD]
  .have Q2:=Q1.step (hx.trans x2);have p2:=aB.list hV.fin (λa=>a7R oW qW a) ([],[]) j1 ws j2 p1.2 x2;have hlen:ws.1.length<=50000/\ws.2.length<=50000:=by have:=uD hV (one:=a5v ty) (λa i=>a.1.length<=i/\a.2.length<=i) (a9H oW qW) (λa i h=>by omega) _ _ _ _ _ p1.2 (by simp) x2;omega
   simp[bG,a2o,aR,bF,rk,cX,dD,bS,kC,gM,dX];obtain⟨ns,ts⟩:=ws;simp only at Q2 hlen;refine dZ Q2 p2 hV.fin λu3 j3 x3 Q3 p3=>?_;simp;by_cases hn:ns.length=0
   .have hn0:ns=[]:=List.eq_nil_of_length_eq_zero hn;subst hn0;by_cases h1:ts.length=1
    .obtain⟨t,rfl⟩:=List.length_eq_one_iff.1 h1;have hb:=kX (G:=G) l j3 [45,62] p3.2 (by omega);simp;refine pA (ds:=[.str [45,62]]) gZ hb ?_;cases hs:aH l j3 [45,62]with
     |false=>have Q3:=Q3.tH (by simp[hs]);simp;exact Q3.ok _ j3 _ _ rfl (.inr rfl) (by simp[bV])
     |true=>
      have Q3:=Q3.rF (by simp[hs]);simp;refine dZ Q3 p3 hV.fin λu4 j4 x4 Q4 p4=>?_;simp;refine eE 6 (t:=28) (e:=45) (T:=45) (s:=48) (z:=52) (r:=53) (p:=54) (q:=51) (x:=50) (b:=55) (y:=3) (fd:=2) [0] 3 [2] (a5K 1 4 5) (kD (ty j4)) rfl rfl rfl rfl rfl (by kernel_rfl) (by kernel_rfl) rfl ?_;simp
      repeat' apply And.intro
      all_goals
       refine qK Q4 p4 dF ((oW j4 (by omega) p4.2)) (qW) λt5 j5 x5 Q5 p5=>cJ.mk ?_;simp;refine⟨_,_,_,_,_,_,_,_,_,by simp,rfl,rfl,?_,rfl,rfl,?_,by simp,rfl,rfl,rfl,rfl,by decide,rfl,?_⟩
       .intro c hc
        first
         |(obtain⟨y,_,rfl⟩:=List.mem_map.1 hc
           rw[bV]
           rfl)
         |(simp only[g1d]at hc
           subst hc
           rfl)
       .simp<;>omega
       simp;exact Q5.ok _ j5 _ _ rfl (.inr rfl) (by simp[vP,eY,bV])
    .have Q3:=Q3.rF (by simp[h1]);simp[h1];refine dZ Q3 p3 hV.fin λu4 j4 x4 Q4 p4=>?_;simp;refine eE 6 (t:=28) (e:=45) (T:=45) (s:=48) (z:=52) (r:=53) (p:=54) (q:=51) (x:=50) (b:=55) (y:=3) (fd:=2) [0] 3 [2] (a5K 1 4 5) (kD (ty j4)) rfl rfl rfl rfl rfl (by kernel_rfl) (by kernel_rfl) rfl ?_;simp
     repeat' apply And.intro
     all_goals
      refine qK Q4 p4 dF ((oW j4 (by omega) p4.2)) (qW) λt5 j5 x5 Q5 p5=>cJ.mk ?_;simp;refine⟨_,_,_,_,_,_,_,_,_,by simp,rfl,rfl,?_,rfl,rfl,?_,by simp,rfl,rfl,rfl,rfl,by decide,rfl,?_⟩
      .intro c hc
       first
        |(obtain⟨y,_,rfl⟩:=List.mem_map.1 hc
          rw[bV]
          rfl)
        |(simp only[g1d]at hc
          subst hc
          rfl)
      .simp<;>omega
      simp;exact Q5.ok _ j5 _ _ rfl (.inr rfl) (by simp[vP,eY,bV])
   .have Q3:=Q3.rF (by simp[hn]);have hn': ¬(ns.length:Int)=0:=by omega
    have hn2: ¬ns=[]:=λe=>hn (by rw[e];rfl);simp[hn,hn',hn2];refine dZ Q3 p3 hV.fin λu4 j4 x4 Q4 p4=>?_;simp;refine eE 6 (t:=28) (e:=45) (T:=45) (s:=48) (z:=52) (r:=53) (p:=54) (q:=51) (x:=50) (b:=55) (y:=3) (fd:=2) [0] 3 [2] (a5K 1 4 5) (kD (ty j4)) rfl rfl rfl rfl rfl (by kernel_rfl) (by kernel_rfl) rfl ?_;simp
    repeat' apply And.intro
    all_goals
     refine qK Q4 p4 dF ((oW j4 (by omega) p4.2)) (qW) λt5 j5 x5 Q5 p5=>cJ.mk ?_;simp;refine⟨_,_,_,_,_,_,_,_,_,by simp,rfl,rfl,?_,rfl,rfl,?_,by simp,rfl,rfl,rfl,rfl,by decide,rfl,?_⟩
     .intro c hc
      first
       |(obtain⟨y,_,rfl⟩:=List.mem_map.1 hc
         rw[bV]
         rfl)
       |(simp only[g1d]at hc
         subst hc
         rfl)
     .simp<;>omega
     simp;exact Q5.ok _ j5 _ _ rfl (.inr rfl) (by simp[vP,eY,bV])
 |true=>
  simp;refine pA (ds:=[.int .i64 1]) bZ ht1 ?_;simp;refine mG.mk oE (pF (aG l (j1+1)) [58]) ?_;cases hf:cV (aG l (j1+1)) [58]with
  |false=>
   have hx:=hK false (by rw[hw,hf];rfl);rw[if_neg (by decide)]at hx;simp;refine dO.mk (a1a eA e4W [(100000,100000),(100001,3),(100002,1)] (λa j hx=>?_) ?_ ?_ ?_ rfl rfl (λws j2 x2=>?_) (λn e yJ=>Q1.fail (hx.trans yJ) _))
   .simp[a2o,aL,aQ,aW,aV,bH,getKey]
   .simp[a2o,aL,aQ,aW,aV,bH,getKey]
   .simp[aR,bF,rk]
   .simp[a2o,aR,bF,rk,cX,dD]
   .have Q2:=Q1.step (hx.trans x2);have p2:=aB.list hV.fin (λa=>a7R oW qW a) ([],[]) j1 ws j2 p1.2 x2;have hlen:ws.1.length<=50000/\ws.2.length<=50000:=by have:=uD hV (one:=a5v ty) (λa i=>a.1.length<=i/\a.2.length<=i) (a9H oW qW) (λa i h=>by omega) _ _ _ _ _ p1.2 (by simp) x2;omega
    simp[bG,a2o,aR,bF,rk,cX,dD,bS,kC,gM,dX];obtain⟨ns,ts⟩:=ws;simp only at Q2 hlen;refine dZ Q2 p2 hV.fin λu3 j3 x3 Q3 p3=>?_;simp;by_cases hn:ns.length=0
    .have hn0:ns=[]:=List.eq_nil_of_length_eq_zero hn;subst hn0;by_cases h1:ts.length=1
     .obtain⟨t,rfl⟩:=List.length_eq_one_iff.1 h1;have hb:=kX (G:=G) l j3 [45,62] p3.2 (by omega);simp;refine pA (ds:=[.str [45,62]]) gZ hb ?_;cases hs:aH l j3 [45,62]with
      |false=>have Q3:=Q3.tH (by simp[hs]);simp;exact Q3.ok _ j3 _ _ rfl (.inr rfl) (by simp[bV])
      |true=>
       have Q3:=Q3.rF (by simp[hs]);simp;refine dZ Q3 p3 hV.fin λu4 j4 x4 Q4 p4=>?_;simp;refine eE 6 (t:=28) (e:=45) (T:=45) (s:=48) (z:=52) (r:=53) (p:=54) (q:=51) (x:=50) (b:=55) (y:=3) (fd:=2) [0] 3 [2] (a5K 1 4 5) (kD (ty j4)) rfl rfl rfl rfl rfl (by kernel_rfl) (by kernel_rfl) rfl ?_;simp
       repeat' apply And.intro
       all_goals
        refine qK Q4 p4 dF ((oW j4 (by omega) p4.2)) (qW) λt5 j5 x5 Q5 p5=>cJ.mk ?_;simp;refine⟨_,_,_,_,_,_,_,_,_,by simp,rfl,rfl,?_,rfl,rfl,?_,by simp,rfl,rfl,rfl,rfl,by decide,rfl,?_⟩
        .intro c hc
         first
          |(obtain⟨y,_,rfl⟩:=List.mem_map.1 hc
            rw[bV]
            rfl)
          |(simp only[g1d]at hc
            subst hc
            rfl)
        .simp<;>omega
        simp;exact Q5.ok _ j5 _ _ rfl (.inr rfl) (by simp[vP,eY,bV])
     .have Q3:=Q3.rF (by simp[h1]);simp[h1];refine dZ Q3 p3 hV.fin λu4 j4 x4 Q4 p4=>?_;simp;refine eE 6 (t:=28) (e:=45) (T:=45) (s:=48) (z:=52) (r:=53) (p:=54) (q:=51) (x:=50) (b:=55) (y:=3) (fd:=2) [0] 3 [2] (a5K 1 4 5) (kD (ty j4)) rfl rfl rfl rfl rfl (by kernel_rfl) (by kernel_rfl) rfl ?_;simp
      repeat' apply And.intro
      all_goals
       refine qK Q4 p4 dF ((oW j4 (by omega) p4.2)) (qW) λt5 j5 x5 Q5 p5=>cJ.mk ?_;simp;refine⟨_,_,_,_,_,_,_,_,_,by simp,rfl,rfl,?_,rfl,rfl,?_,by simp,rfl,rfl,rfl,rfl,by decide,rfl,?_⟩
       .intro c hc
        first
         |(obtain⟨y,_,rfl⟩:=List.mem_map.1 hc
           rw[bV]
           rfl)
         |(simp only[g1d]at hc
           subst hc
           rfl)
       .simp<;>omega
       simp;exact Q5.ok _ j5 _ _ rfl (.inr rfl) (by simp[vP,eY,bV])
    .have Q3:=Q3.rF (by simp[hn]);have hn': ¬(ns.length:Int)=0:=by omega
     have hn2: ¬ns=[]:=λe=>hn (by rw[e];rfl);simp[hn,hn',hn2];refine dZ Q3 p3 hV.fin λu4 j4 x4 Q4 p4=>?_;simp;refine eE 6 (t:=28) (e:=45) (T:=45) (s:=48) (z:=52) (r:=53) (p:=54) (q:=51) (x:=50) (b:=55) (y:=3) (fd:=2) [0] 3 [2] (a5K 1 4 5) (kD (ty j4)) rfl rfl rfl rfl rfl (by kernel_rfl) (by kernel_rfl) rfl ?_;simp
     repeat' apply And.intro
     all_goals
      refine qK Q4 p4 dF ((oW j4 (by omega) p4.2)) (qW) λt5 j5 x5 Q5 p5=>cJ.mk ?_;simp;refine⟨_,_,_,_,_,_,_,_,_,by simp,rfl,rfl,?_,rfl,rfl,?_,by simp,rfl,rfl,rfl,rfl,by decide,rfl,?_⟩
      .intro c hc
       first
        |(obtain⟨y,_,rfl⟩:=List.mem_map.1 hc
          rw[bV]
          rfl)
        |(simp only[g1d]at hc
          subst hc
          rfl)
      .simp<;>omega
      simp;exact Q5.ok _ j5 _ _ rfl (.inr rfl) (by simp[vP,eY,bV])
  |true=>
   have hx:=hK true (by rw[hw,hf];rfl);rw[if_pos rfl]at hx;simp;refine dO.mk (a1a eA f1F [(100000,100000),(100001,3),(100002,1)] (λa j hx=>?_) ?_ ?_ ?_ rfl rfl (λws j2 x2=>?_) (λn e yJ=>Q1.fail (hx.trans yJ) _))
   .simp[a2o,aL,aQ,aW,aV,bH,getKey]
   .simp[a2o,aL,aQ,aW,aV,bH,getKey]
   .simp[aR,bF,rk]
   .simp[a2o,aR,bF,rk,cX,dD]
   .have Q2:=Q1.step (hx.trans x2);have p2:=aB.list hV.fin (λa=>b2w hV oW qW a) ([],[]) j1 ws j2 p1.2 x2;have hlen:ws.1.length<=50000/\ws.2.length<=50000:=by have:=uD hV (one:=a6U l ty) (λa i=>a.1.length<=i/\a.2.length<=i) (b6U hV oW qW) (λa i h=>by omega) _ _ _ _ _ p1.2 (by simp) x2;omega
    simp[bG,a2o,aR,bF,rk,cX,dD,bS,kC,gM,dX];obtain⟨ns,ts⟩:=ws;simp only at Q2 hlen;refine dZ Q2 p2 hV.fin λu3 j3 x3 Q3 p3=>?_;simp;by_cases hn:ns.length=0
    .have hn0:ns=[]:=List.eq_nil_of_length_eq_zero hn;subst hn0;by_cases h1:ts.length=1
     .obtain⟨t,rfl⟩:=List.length_eq_one_iff.1 h1;have hb:=kX (G:=G) l j3 [45,62] p3.2 (by omega);simp;refine pA (ds:=[.str [45,62]]) gZ hb ?_;cases hs:aH l j3 [45,62]with
      |false=>have Q3:=Q3.tH (by simp[hs]);simp;exact Q3.ok _ j3 _ _ rfl (.inr rfl) (by simp[bV])
      |true=>
       have Q3:=Q3.rF (by simp[hs]);simp;refine dZ Q3 p3 hV.fin λu4 j4 x4 Q4 p4=>?_;simp;refine eE 6 (t:=28) (e:=45) (T:=45) (s:=48) (z:=52) (r:=53) (p:=54) (q:=51) (x:=50) (b:=55) (y:=3) (fd:=2) [0] 3 [2] (a5K 1 4 5) (kD (ty j4)) rfl rfl rfl rfl rfl (by kernel_rfl) (by kernel_rfl) rfl ?_;simp
       repeat' apply And.intro
       all_goals
        refine qK Q4 p4 dF ((oW j4 (by omega) p4.2)) (qW) λt5 j5 x5 Q5 p5=>cJ.mk ?_;simp;refine⟨_,_,_,_,_,_,_,_,_,by simp,rfl,rfl,?_,rfl,rfl,?_,by simp,rfl,rfl,rfl,rfl,by decide,rfl,?_⟩
        .intro c hc
         first
          |(obtain⟨y,_,rfl⟩:=List.mem_map.1 hc
            rw[bV]
            rfl)
          |(simp only[g1d]at hc
            subst hc
            rfl)
        .simp<;>omega
        simp;exact Q5.ok _ j5 _ _ rfl (.inr rfl) (by simp[vP,eY,bV])
     .have Q3:=Q3.rF (by simp[h1]);simp[h1];refine dZ Q3 p3 hV.fin λu4 j4 x4 Q4 p4=>?_;simp;refine eE 6 (t:=28) (e:=45) (T:=45) (s:=48) (z:=52) (r:=53) (p:=54) (q:=51) (x:=50) (b:=55) (y:=3) (fd:=2) [0] 3 [2] (a5K 1 4 5) (kD (ty j4)) rfl rfl rfl rfl rfl (by kernel_rfl) (by kernel_rfl) rfl ?_;simp
      repeat' apply And.intro
      all_goals
       refine qK Q4 p4 dF ((oW j4 (by omega) p4.2)) (qW) λt5 j5 x5 Q5 p5=>cJ.mk ?_;simp;refine⟨_,_,_,_,_,_,_,_,_,by simp,rfl,rfl,?_,rfl,rfl,?_,by simp,rfl,rfl,rfl,rfl,by decide,rfl,?_⟩
       .intro c hc
        first
         |(obtain⟨y,_,rfl⟩:=List.mem_map.1 hc
           rw[bV]
           rfl)
         |(simp only[g1d]at hc
           subst hc
           rfl)
       .simp<;>omega
       simp;exact Q5.ok _ j5 _ _ rfl (.inr rfl) (by simp[vP,eY,bV])
    .have Q3:=Q3.rF (by simp[hn]);have hn': ¬(ns.length:Int)=0:=by omega
     have hn2: ¬ns=[]:=λe=>hn (by rw[e];rfl);simp[hn,hn',hn2];refine dZ Q3 p3 hV.fin λu4 j4 x4 Q4 p4=>?_;simp;refine eE 6 (t:=28) (e:=45) (T:=45) (s:=48) (z:=52) (r:=53) (p:=54) (q:=51) (x:=50) (b:=55) (y:=3) (fd:=2) [0] 3 [2] (a5K 1 4 5) (kD (ty j4)) rfl rfl rfl rfl rfl (by kernel_rfl) (by kernel_rfl) rfl ?_;simp
     repeat' apply And.intro
     all_goals
      refine qK Q4 p4 dF ((oW j4 (by omega) p4.2)) (qW) λt5 j5 x5 Q5 p5=>cJ.mk ?_;simp;refine⟨_,_,_,_,_,_,_,_,_,by simp,rfl,rfl,?_,rfl,rfl,?_,by simp,rfl,rfl,rfl,rfl,by decide,rfl,?_⟩
      .intro c hc
       first
        |(obtain⟨y,_,rfl⟩:=List.mem_map.1 hc
          rw[bV]
          rfl)
        |(simp only[g1d]at hc
          subst hc
          rfl)
      .simp<;>omega
      simp;exact Q5.ok _ j5 _ _ rfl (.inr rfl) (by simp[vP,eY,bV])
end
end
end
section
open Go Go.VM
variable {G:GT}
theorem CH.f5s{P:Program}{f:FuncId}{s0:St}{r r':DV}{H1:List (Nat×bD)}{own1:List (TypeId×List VM.Loc)}(h:CH P G f s0 ⟨[r],H1,own1⟩)(hw:a9o r r'):CH P G f s0 ⟨[r'],H1,own1⟩:=λbase R μ args w hr=>(h base R μ args w hr).mono λe w' ⟨v,R',μ',he,gD,hs⟩=>⟨v,R',μ',he,gD.e7F hw,hs⟩
theorem c8Y:VM.Enters prog 148:=.mk func148 rfl
theorem b1n:VM.Enters prog 183:=.mk func183 rfl
theorem b3M:CS prog G 183 [] (.d (.agg (prD a4U))) none:=by refine CS.aX func183 rfl ntmps183 rfl ?_;simp[a4U]
def b8X:List Pr->Pr->Pr
 |[],o=>o
 |p::r,o=>if a1b p a4U then a4U else if tI p then b8X r o else if tI o then b8X r p else b8X r ⟨15,[],0,[o,p]⟩
theorem d6C{p:Pr}(h:a1b p a4U=true):tI p=false:=by rw[b1j]at h;simp only[decide_eq_true_eq]at h;subst h;decide
theorem d0M(a b:Pr):b8X [a,b] a1c=aZ a b:=by
 have ht:tI a1c=true:=by decide
 have e:∀p,tI p=true->a1b p a4U=false:=λp h=>by
  cases hs:a1b p a4U with
  |true=>rw[d6C hs]at h;cases h
  |false=>rfl
 have hf:a4V false=a4U:=rfl;have htr:a4V true=a1c:=rfl;unfold aZ;simp only[b8X,b4s,b6P,ht,if_true,hf,htr];cases va:tI a with
 |true=>
  simp only[e a va,Bool.false_eq_true,if_false,if_true];cases vb:tI b with
  |true=>simp only[e b vb,Bool.false_eq_true,if_false,if_true]
  |false=>
   cases sb:a1b b a4U with
   |true=>simp only[if_true,Bool.false_eq_true,if_false]
   |false=>simp only[Bool.false_eq_true,if_false]
 |false=>
  cases sa:a1b a a4U with
  |true=>simp only[if_true,Bool.false_eq_true,if_false]
  |false=>
   simp only[Bool.false_eq_true,if_false];cases vb:tI b with
   |true=>simp only[e b vb,Bool.false_eq_true,if_false,if_true]
   |false=>
    cases sb:a1b b a4U with
    |true=>simp only[if_true,Bool.false_eq_true,if_false]
    |false=>simp only[va,Bool.false_eq_true,if_false,if_true]
theorem d2I(a b:Pr)(ha:bM a<=440000000)(hb:bM b<=440000000):CS prog G 148 [.sl [rW a,rW b]] (.d (.agg (prD (aZ a b)))) none:=by
 rw[<-d0M];generalize hR:b8X [a,b] a1c=R;obtain⟨L,hL⟩:∃L,L=[a,b]:=⟨_,rfl⟩;have hLl:L.length=2:=by rw[hL];rfl
 have hm:∀p∈L,bM p<=440000000:=by
  rw[hL];intro p hp;simp only[List.mem_cons,List.not_mem_nil,or_false]at hp;rcases hp with rfl|rfl
  .exact ha
  .exact hb
 rw[<-hL]at hR;rw[show [rW a,rW b]=L.map rW by rw[hL];rfl];refine CS.aX func148 rfl ntmps148 rfl ?_;simp;refine aC.mk b3G b6I ?_;simp;refine SW.eX (ι:={x:Nat×Pr//x.1<=2/\b8X (L.drop x.1) x.2=R/\(x.1=0->bM x.2<=440000000)/\(x.1<=1->bM x.2<=880000001)}) (λx=>[(9,.d (.int .i64 x.1.1))]) (λx=>[(2,.cells [.d (.int .i64 0),.d (.str []),.d (.int .i64 0),.d .aD]),(3,.cells ((prD x.1.2).map .d))]) (λ_=>[]) (λx=>L.length-x.1.1) ⟨(0,a1c),by simp,by simpa using hR,λ_=>by rw[show bM (0,a1c).2=1 by simp[a1c,bM,dM]];decide,λ_=>by rw[show bM (0,a1c).2=1 by simp[a1c,bM,dM]];decide⟩ (by simp[a1c]) ?_;rintro⟨⟨k,out⟩,hk,hp,hn0,hn1⟩;simp only at hk hp hn0 hn1;by_cases aF:k<L.length
 .have hw:=bA (show k<9223372036854775807 by omega);have hd:L.drop k=L[k]::L.drop (k+1):=g1j aF;have hbd:=hm L[k] (List.getElem_mem aF);rw[hd]at hp;obtain⟨p,hP⟩:∃p,L[k]=p:=⟨_,rfl⟩;rw[hP]at hd hbd hp;have hnb:=hn1 (by omega);have tS:k+1<=1->bM out<=880000001:=λh=>hnb;have hnp:k+1<=1->bM p<=880000001:=λh=>by omega
  have hn2:k+1<=1->bM ⟨15,[],0,[out,p]⟩<=880000001:=λh=>by have:=hn0 (by omega);rw[b6R];omega
  have hv:=b6J (G:=G) p (by omega);have hvo:=b6J (G:=G) out (by omega);have hs:=a1X (G:=G) p a4U (by omega);simp only[b8X]at hp;simp[aF,hP];refine⟨kV.mk (by kernel_rfl),?_⟩;refine aC.mk b1n b3M ?_;simp;refine aC.mk wZ hs ?_;cases h2:a1b p a4U with
  |true=>rw[h2,if_pos rfl]at hp;simp;refine aC.mk b1n b3M ?_;simp[<-hp]
  |false=>
   rw[h2,if_neg (by decide)]at hp;simp;refine aC.mk b3H hv ?_;cases h1:tI p with
   |true=>rw[h1,if_pos rfl]at hp;simp;exact bC.mk ⟨(k+1,out),by simp only;omega,hp,λh=>(by cases h),tS⟩ (by simp[hw]) (by simp;omega)
   |false=>
    rw[h1,if_neg (by decide)]at hp;simp;refine aC.mk b3H hvo ?_;cases h3:tI out with
    |true=>rw[h3,if_pos rfl]at hp;simp;exact bC.mk ⟨(k+1,p),by simp only;omega,hp,λh=>(by cases h),hnp⟩ (by simp[hw]) (by simp;omega)
    |false=>rw[h3,if_neg (by decide)]at hp;simp;exact bC.mk ⟨(k+1,⟨15,[],0,[out,p]⟩),by simp only;omega,hp,λh=>(by cases h),hn2⟩ (by simp[hw]) (by simp;omega)
 .have hd:L.drop k=[]:=List.drop_eq_nil_of_le (by omega);rw[hd]at hp;simp only[b8X]at hp;simp[aF, <- hp]
theorem b8Z:VM.Enters prog 157:=.mk func157 rfl
theorem b3N:VM.Enters prog 147:=.mk func147 rfl
theorem c2B:VM.Enters prog 109:=.mk func109 rfl
theorem b1o:VM.Enters prog 97:=.mk func97 rfl
abbrev RfP(l:List Tok)(k:Nat)(s s1:dW):Prop:=s1.er=0->s.er=0/\s.pl+k<=s1.pl/\s1.pl<l.length
structure vW (G:GT) (aE:List Tok->Nat->Nat->kJ Pr) (l:List Tok):Prop where
 len:l.length<=20000
 fin:oK l
 tkw:∀i,TkW (aG l i)
 kL:a1S aE l
 nz:∀i e n x,i<l.length->aE l i e=.bad n x->x≠0
 met:∀i p k,i<l.length->aE l i (pE l (l.length+1) 0 i)=.ok p k->aH l k [44]=true->pE l (l.length+1) 0 (k+1)=pE l (l.length+1) 0 i
 nod:∀i e p j,aE l i e=.ok p j->bM p<=20001
 bef:∀s e,dS l s->(s.er=0->s.pl<=e)->e<=l.length->eR G 157 [.int .i64 e] l s (sK aE l e s) d2t
section
variable {aE:List Tok->Nat->Nat->kJ Pr} {l:List Tok} (hV:vW G aE l)
include hV
theorem b6V(s:dW)(hv:dS l s):eR G 147 [] l s (a9x aE l s) d2t:=by have hl:=hV.len;have hb:=hV.bef s l.length hv (λh=>Nat.le_of_lt (hv h)) (g1m _);obtain⟨i,e,ln⟩:=s;refine eR.bL func147 rfl ntmps147 rfl ?_;intro Q Q0;simp;refine eB b8Z hb (λp s1 h1=>?_);have Q0:=Q0.eq h1;simp;exact Q0.ok _ _ (.inr rfl) (by simp)
omit hV in
theorem zK(hE:oK l){b:Bool}{s s1:dW}{a:Nm}(hb:b=true->(eT l 0 s).kind≠0)(hv:dS l s)(h:rZ l b s=(a,s1)):s1.er=0->s.er=0/\s.pl+1<=s1.pl/\s1.pl<l.length:=λh1=>by
 unfold rZ at h;by_cases hc:b=true/\s.er=0
 .rw[if_pos hc]at h;cases h;have hi:=hv hc.2;have hk:=hb hc.1;unfold eT at hk;rw[if_pos ⟨hc.2,hi⟩]at hk;exact⟨hc.2,g1m _,qM hE hi hk⟩
 .rw[if_neg hc]at h;cases h;unfold pL at h1;split at h1
  .cases h1
  .contradiction
omit hV in
theorem b6W(hE:oK l){t:Nm}{s s1:dW}{u:Unit}(hv:dS l s)(h:bQ l t s=(u,s1)):s1.er=0->s.er=0/\s.pl+1<=s1.pl/\s1.pl<l.length:=by
 have h:rZ l (cF l 0 t s) s=((rZ l (cF l 0 t s) s).1,s1):=by
  cases h
  rfl
 refine zK hE (λhb=>?_) hv h;unfold cF at hb;simp only[g0W,decide_eq_true_eq]at hb;omega
omit hV in
theorem zL(hE:oK l){t:Nm}{s s1:dW}{u:Nm}(hv:dS l s)(h:rZ l (oL l t s) s=(u,s1)):s1.er=0->s.er=0/\s.pl+1<=s1.pl/\s1.pl<l.length:=zK hE (λhb=>by unfold oL at hb;simp only[g0W,decide_eq_true_eq]at hb;omega) hv h
omit hV in
theorem zM(hE:oK l){s s1:dW}{u:Nm}(hv:dS l s)(h:oF aJ l s=(u,s1)):s1.er=0->s.er=0/\s.pl+1<=s1.pl/\s1.pl<l.length:=zK hE (λhb=>by unfold vH at hb;simp only[g0W,decide_eq_true_eq]at hb;omega) hv h
omit hV in
theorem rfG{α β:Type}{Q Q':Exit->St->Prop}{rs:List ResultVar}{s:dW}{enc:β->DV}{e1:α->DV}{own:List (TypeId×List VM.Loc)}{f:FuncId}{ds:List D}{av:List DV}{st:St}{ls:List (Option VM.Loc)}{dst:Option Tmp}{all:Array Oper}{ops:List Oper}{k:List XI}{m:Nat}{x:RM α}{g:α->RM β}(Q0:yN Q rs l enc own ((x >>=g) s))(v0:dS l s)(he:VM.Enters prog f)(hc:eR G f ds l s (x s) e1)(ad:∀ {a s1},dS l s->x s=(a,s1)->s1.er=0->s.er=0/\s.pl+m<=s1.pl/\s1.pl<l.length)(oI:∀a s1,x s=(a,s1)->yN Q rs l enc own (g a s1)->RfP l m s s1->dS l s1->XK prog G (.ops all ops::k) .normal ⟨jN dst (e1 a) st.tmps,bU 100000 (rfO l s1) st.H,gI dst (dropKey 100000 st.own)⟩ Q')(hw:WkT av (.ptr 100000 0::ds.map .d):=by simp)(hH:getKey 100000 st.H=some (rfO l s):=by simp)(hk:∀a,aQ K1 (e1 a)=true/\bF K1 (e1 a)=e1 a:=by intro a;exact⟨rfl,rfl⟩):dO prog G f av ls dst all ops k st Q':=eB (hw:=hw) (hH:=hH) he hc (λa s1 h=>oI a s1 h (Q0.step h) (ad v0 h) (dS.next (ad v0 h))) hk
omit hV in
theorem rfL{α:Type}{Q':Exit->St->Prop}{s:dW}{e1:α->DV}{f:FuncId}{ds:List D}{av:List DV}{st:St}{ls:List (Option VM.Loc)}{dst:Option Tmp}{all:Array Oper}{ops:List Oper}{k:List XI}{m:Nat}{x:RM α}(v0:dS l s)(he:VM.Enters prog f)(hc:eR G f ds l s (x s) e1)(ad:∀ {a s1},dS l s->x s=(a,s1)->s1.er=0->s.er=0/\s.pl+m<=s1.pl/\s1.pl<l.length)(oI:∀a s1,x s=(a,s1)->RfP l m s s1->dS l s1->XK prog G (.ops all ops::k) .normal ⟨jN dst (e1 a) st.tmps,bU 100000 (rfO l s1) st.H,gI dst (dropKey 100000 st.own)⟩ Q')(hw:WkT av (.ptr 100000 0::ds.map .d):=by simp)(hH:getKey 100000 st.H=some (rfO l s):=by simp)(hk:∀a,aQ K1 (e1 a)=true/\bF K1 (e1 a)=e1 a:=by intro a;exact⟨rfl,rfl⟩):dO prog G f av ls dst all ops k st Q':=eB (hw:=hw) (hH:=hH) he hc (λa s1 h=>oI a s1 h (ad v0 h) (dS.next (ad v0 h))) hk
omit hV in
theorem rfN{Q':Exit->St->Prop}{s:dW}{av:List DV}{st:St}{ls:List (Option VM.Loc)}{dst:Option Tmp}{all:Array Oper}{ops:List Oper}{k:List XI}(t:Nm)(v0:dS l s)(hF:oK l)(oI:∀a s1,bQ l t s=(a,s1)->RfP l 1 s s1->dS l s1->XK prog G (.ops all ops::k) .normal ⟨jN dst (.cI []) st.tmps,bU 100000 (rfO l s1) st.H,gI dst (dropKey 100000 st.own)⟩ Q')(hw:WkT av (.ptr 100000 0::[D.str t].map .d):=by simp)(hH:getKey 100000 st.H=some (rfO l s):=by simp)(hl:l.length<=50000:=by omega):dO prog G 47 av ls dst all ops k st Q':=eB (hw:=hw) (hH:=hH) b3F (b6A hl t s v0) λa s1 h=>oI a s1 h (b6W hF v0 h) (dS.next (b6W hF v0 h))
omit hV in
theorem rfM{β:Type}{Q Q':Exit->St->Prop}{rs:List ResultVar}{s:dW}{enc:β->DV}{own:List (TypeId×List VM.Loc)}{av:List DV}{st:St}{ls:List (Option VM.Loc)}{dst:Option Tmp}{all:Array Oper}{ops:List Oper}{k:List XI}{t:Nm}{g:Unit->RM β}(Q0:yN Q rs l enc own ((bQ l t >>=g) s))(v0:dS l s)(hF:oK l)(oI:∀a s1,bQ l t s=(a,s1)->yN Q rs l enc own (g a s1)->RfP l 1 s s1->dS l s1->XK prog G (.ops all ops::k) .normal ⟨jN dst (.cI []) st.tmps,bU 100000 (rfO l s1) st.H,gI dst (dropKey 100000 st.own)⟩ Q')(hw:WkT av (.ptr 100000 0::[D.str t].map .d):=by simp)(hH:getKey 100000 st.H=some (rfO l s):=by simp)(hl:l.length<=50000:=by omega):dO prog G 47 av ls dst all ops k st Q':=rfN (hw:=hw) (hH:=hH) t v0 hF (λa s1 h p v=>oI a s1 h (Q0.step h) p v) (hl:=hl)
theorem c5Z(s:dW)(hv:dS l s):eR G 109 [] l s (sA aJ l s) (λws=>.d (.sl (strs ws))):=by
 have hl:=hV.len;obtain⟨s0,rfl⟩:∃s0,s0=s:=⟨_,rfl⟩;have v0:=hv;refine eR.bL func109 rfl ntmps109 rfl ?_;intro Q Q0;unfold sA at Q0;simp;refine rfM Q0 v0 hV.fin λu1 s1 h1 Q1 p1 v1=>?_;simp;refine rfG Q1 v1 wW (zF (by omega) s1 v1) (zM hV.fin) λw s2 h2 Q2 p2 v2=>?_;simp;obtain⟨Y,hY⟩:∃Y,a3U aJ l w s2=Y:=⟨_,rfl⟩;have Q2:=Q2.step (a:=Y.1) (s1:=Y.2) hY;refine SW.vR (ι:={x:List Nm×dW×Nat//dS l x.2.1/\x.1.length<=l.length+1/\(x.2.1.er=0->x.1.length<=x.2.1.pl/\l.length<x.2.2+x.2.1.pl)/\(if cF l 0 [44] x.2.1 then pR l [44] (λout=>do let w <- oF aJ l;pure (out++[w])) x.2.2 x.1 ⟨x.2.1.pl+1,x.2.1.er,x.2.1.ln⟩ else(x.1,x.2.1))=Y}) (λx=>[(3,.d (.sl (strs x.1.1)))]) (λx=>rfH l x.1.2.1) (λ_=>[(9,[.t 3])]) (λx=>if x.1.2.1.er=0 then l.length-x.1.2.1.pl+1 else 0) ⟨([w],s2,l.length+1),v2,by simp,λh=>?_,hY⟩ (by simp[strs]) ?_
 .have:=p2 h;simp only[List.length_singleton];omega
 rintro⟨⟨out,s3,g⟩,v3,ho,hb,hy⟩;simp only at v3 ho hb hy;simp;refine eB cT (eQ (by omega) [44] s3 v3) (λb s4 h4=>?_);unfold jQ at h4;rcases Bool.eq_false_or_eq_true (cF l 0 [44] s3)with hs|hs
 .rw[if_pos hs]at hy;rw[if_pos hs]at h4;obtain⟨rfl,h4'⟩:=Prod.mk.inj h4;obtain⟨e1,e2⟩:=a3V hV.fin hs;have hb1:=hb e1;obtain⟨g,rfl⟩:∃k,g=k+1:=⟨g-1,by omega⟩;have e4:s4.er=0/\s4.pl=s3.pl+1:=by rw[<-h4'];exact⟨e1,rfl⟩
  rw[h4']at hy;have v4:dS l s4:=λ_=>by omega
  simp;refine eB wW (zF (by omega) s4 v4) (λw s5 h5=>?_);have p5:=zM hV.fin v4 h5;have ho1:(oF aJ l >>=λw=>pure (out++[w]):RM (List Nm)) s4=(out++[w],s5):=by
   rw[cO,h5]
   rfl
  unfold pR at hy;rw[if_pos e4.1,ho1]at hy;simp;refine kK (by omega) ?_;simp;refine bC.mk ⟨(out++[w],s5,g),dS.next p5,by simp only[List.length_append,List.length_singleton];omega,λh=>?_,hy⟩ (by simp[a1p]) ?_
  .have:=p5 h;simp only[List.length_append,List.length_singleton];omega
  .simp only[e1,if_true];split
   .rename_i h;have:=p5 h;omega
   .omega
 .rw[if_neg (by rw[hs];decide)]at hy;rw[if_neg (by rw[hs];decide)]at h4;cases h4;subst hy;simp;refine eB b3F (b6A (by omega) [41] s3 v3) (λu5 s5 h5=>?_);have Q5:=Q2.step h5;simp;exact Q5.ok _ _ (.inr rfl) (by simp)
omit hV in
abbrev e7Z(op:Int)(nm:Nm):List D:=[.int .i64 op,.str nm,.aD,.aD,.int .i64 0,.str [],.int .i64 0,.aD,.aD]
theorem b1p(s:dW)(hv:dS l s):eR G 97 [] l s (dC aJ l s) (λp=>.cI [.agg (e7Z p.1.op p.1.name),.bool p.2]):=by
 have hl:=hV.len;have hp:eR G 45 [.int .i64 0] l s _ _:=oG (by omega) 0 s hv (by omega);have hwd:eR G 141 [.int .i64 0] l s _ _:=a9C (by omega) 0 s hv (by omega);have hti:=wX (G:=G) (by omega) s hv;have her:(eT l 0 s).kind≠0->s.er=0:=λh=>by
  by_cases he:s.er=0
  .exact he
  .simp[eT,he]at h
 obtain⟨i,e,ln⟩:=s;have hw:(eT l 0 ⟨i,e,ln⟩).kind≠0->IntKind.i64.wrap ((i:Int)+1)=((i+1:Nat):Int):=λh=>by have hi:i<l.length:=hv (her h);exact bA (by omega)
 refine eR.bL func97 rfl ntmps97 rfl ?_;intro Q Q0;unfold dC vH xC at Q0;unfold vH at hwd;unfold xC at hti;simp;refine eB gU hp (λT s1 h1=>?_);cases h1;generalize eT l 0 ⟨i,e,ln⟩=T at Q0 hwd hti hw|-;obtain⟨a,x,c,d⟩:=T;simp only at Q0 hwd hti hw;simp[bJ];refine eB wV hwd (λb s1 h1=>?_);cases h1;by_cases h1:(decide (a=1)&& !aJ x)=true
 .have Q0:=Q0.tH h1;have hw:=hw (by simp only[g0W,decide_eq_true_eq]at h1;omega);simp only[h1];simp[hw];exact Q0.ok _ _ (.inr rfl) (by simp[vP,eY])
 have Q0:=Q0.rF h1;have h1:=Bool.eq_false_iff.2 h1;simp only[h1];simp;refine eB uS hti (λb s1 h1=>?_);cases h1;by_cases h2:a=2
 .have Q0:=Q0.rF (by simp[h2]);have hw:=hw (by omega);simp[h2,hw];by_cases x1:x=[73,110,116]
  .simp only[if_pos x1]at Q0;simp[x1];exact Q0.ok _ _ (.inr rfl) (by simp[vP,eY])
  simp only[if_neg x1]at Q0;simp[x1];by_cases x2:x=[66,111,111,108]
  .simp only[if_pos x2]at Q0;simp[x2];exact Q0.ok _ _ (.inr rfl) (by simp[vP,eY])
  simp only[if_neg x2]at Q0;simp[x2];by_cases x3:x=[67,101,108,108]
  .simp only[if_pos x3]at Q0;simp[x3];exact Q0.ok _ _ (.inr rfl) (by simp[vP,eY])
  simp only[if_neg x3]at Q0;simp[x3];exact Q0.ok _ _ (.inr rfl) (by simp[vP,eY])
 .have Q0:=Q0.tH (by simp[h2]);simp[h2];exact Q0.ok _ _ (.inr rfl) (by simp[mO,eY])
omit hV in
theorem b1q(s:dW):(dC aJ l s).1.1=vP (dC aJ l s).1.1.op (dC aJ l s).1.1.name:=by
 unfold dC
 repeat' split
 all_goals rfl
theorem c6a(s:dW)(hv:dS l s):eR G 97 [] l s (dC aJ l s) (λp=>.cI [.agg (tyD p.1),.bool p.2]):=by
 refine CH.f5s (b1p hV s hv) ?_
 show a9o (.cI [.agg (e7Z (dC aJ l s).1.1.op (dC aJ l s).1.1.name),.bool (dC aJ l s).1.2]) (.cI [.agg (tyD (dC aJ l s).1.1),.bool (dC aJ l s).1.2])
 have hf:=b1q (l:=l) s;generalize (dC aJ l s).1=p at hf|-;obtain⟨t,b⟩:=p;simp only at hf;rw[hf];simp[vP,eY]
end
end
section
open Go Go.VM
variable {G:GT}
theorem RfP.tr{l:List Tok}{k m:Nat}{s s1 s2:dW}(h:RfP l k s s1)(h':RfP l m s1 s2):RfP l (k+m) s s2:=λh2=>by have h3:=h' h2;have h4:=h h3.1;omega
theorem a4W{l:List Tok}(hE:oK l){t:Nm}{s s1:dW}{b:Bool}(hv:dS l s)(h:jQ l t s=(b,s1)):RfP l 0 s s1:=λh1=>by
 unfold jQ at h;split at h
 .rename_i hs;have:=a3V hE hs;cases h;exact⟨this.1,Nat.le_succ _,this.2⟩
 .cases h;exact⟨h1,g1m _,hv h1⟩
theorem mK{l:List Tok}(hE:oK l){t:Nm}{s s1:dW}{b:Bool}(h:jQ l t s=(b,s1)):(cF l 0 t s=true/\b=true/\s1=⟨s.pl+1,s.er,s.ln⟩/\s.er=0/\s1.pl=s.pl+1/\dS l s1)\/(cF l 0 t s=false/\b=false/\s1=s):=by
 unfold jQ at h;split at h
 .rename_i hs;have h2:=a3V hE hs;cases h;exact .inl ⟨hs,rfl,rfl,h2.1,rfl,λ_=>h2.2⟩
 .rename_i hs;cases h;exact .inr ⟨Bool.eq_false_iff.2 hs,rfl,rfl⟩
theorem c0E{l:List Tok}(hE:oK l){t:Nm}{s s1:dW}{b:Bool}(hv:dS l s)(h:b1b l t s=(b,s1)):RfP l 0 s s1:=λh1=>by
 unfold b1b at h;split at h
 .rename_i hs;unfold oL eT at hs;cases h;simp only at h1;rw[if_pos ⟨h1,hv h1⟩]at hs;simp only[g0W,decide_eq_true_eq]at hs;exact⟨h1,Nat.le_succ _,qM hE (hv h1) (by have:=hs.1;simp only[Nat.add_zero]at this;omega)⟩
 .cases h;exact⟨h1,g1m _,hv h1⟩
section
variable {aE:List Tok->Nat->Nat->kJ Pr} {l:List Tok} (hV:vW G aE l)
include hV
theorem a2R(s:dW)(hv:dS l s):eR G 141 [.int .i64 0] l s (vH aJ l 0 s,s) (λb=>.d (.bool b)):=a9C (by have:=hV.len;omega) 0 s hv (by omega)
theorem gW(t:Nm)(s:dW)(hv:dS l s):eR G 92 [.int .i64 0,.str t] l s (cF l 0 t s,s) (λb=>.d (.bool b)):=uB (by have:=hV.len;omega) 0 t s hv (by omega)
end
end
end Go.Proofs.YtjpodcmhcenjjaaGreatDoor
