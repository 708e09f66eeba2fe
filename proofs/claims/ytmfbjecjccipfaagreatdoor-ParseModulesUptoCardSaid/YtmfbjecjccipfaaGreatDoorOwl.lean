/- Lemmas. No condition. -/
import Derived.Test.YtmfbjecjccipfaaGreatDoorOwk
set_option linter.unusedVariables false
set_option linter.unusedSimpArgs false
set_option linter.unusedSectionVars false
set_option maxRecDepth 100000
set_option maxHeartbeats 64000000
open Go.Proofs.Tryz
namespace Go.Proofs.YtmfbjecjccipfaaGreatDoor
section
def b8Q{α β:Type}(F:α->β):gO α->gO β
 |.ok a j=>.ok (F a) j
 |.bad n e=>.bad n e
section
variable {kw:Nm->Bool} {andP:Pr->Pr->Pr} {rdP:List Tok->Nat->Nat->gO Pr} {l:List Tok} {low m:Nat} {α β γ:Type} {ln:Int}
variable (H:RfH rdP l)
include H
variable{i:Nat}
omit H in
theorem b2O{x:bF α}{f:α->bF β}{j:Nat}{b:β}(h:(x >>=f) i=.ok b j):∃a k,x i=.ok a k/\f a k=.ok b j:=by
 rw[cR]at h;cases hx:x i with
 |bad n e=>rw[hx]at h;cases h
 |ok a k=>rw[hx]at h;exact⟨a,k,rfl,h⟩
theorem aF.wN:aF l low (uN kw l) (xM kw l):=by unfold uN xM;exact aF.list (λa=>aF.b0 aF.title λc=>aF.b0 aF.word λw=>aF.bP _) _
theorem aF.d2D(a:List Nm):aF l low (rJ l (λi=>kL kw (aJ l i)) (λout=>do let w <- bV kw l;pure (out++[w])) a) (rM l (mG kw l 0) (λout=>do let w <- dY kw l;pure (out++[w])) a):=
 aF.many (λs hs=>a9d hs) (λi ln hi=>a3Z kw hi) (λa i ln h1 h2 _=>(aF.b0 (aF.word (low:=low)) λt=>aF.bP _).yS i ln h1 h2) (λa i b j hi _ hx=>((aB.word H.fin).bl λt=>aB.bP _) i b j hi hx) _
theorem aF.bound:aF l low (uO kw rdP l) (a9b kw rdP l):=by unfold uO a9b;exact aF.b0 aF.word λnm=>aF.mus (aF.b0 (aF.vars H false) λvs=>aF.mus (aF.b0 (aF.pred H) λp=>aF.mus (aF.b0 (aF.pred H) λg=>aF.mus (aF.bP _))))
theorem aF.bounds:aF l low (rJ l (λi=>aL l i [98,111,117,110,100]) (λout=>aR l [[98,111,117,110,100]] >>=λ_=>uO kw rdP l >>=λb=>pure (out++[b])) []) (rM l (eY l [98,111,117,110,100]) (a3c kw rdP l) []):=
 aF.many (low:=low) (c:=λi=>aL l i [98,111,117,110,100]) (c':=eY l [98,111,117,110,100]) (one:=λout=>aR l [[98,111,117,110,100]] >>=λ_=>uO kw rdP l >>=λb=>pure (out++[b])) (one':=a3c kw rdP l) (λs hs=>uQ hs) (λi ln hi=>kX H hi (t:=[98,111,117,110,100]) (by decide) (by decide)) (λa i ln h1 h2 hc=>tZ.f3A hc ((aF.b0 (aF.bound H (low:=low)) λt=>aF.bP _).yS (i+1) ln (Nat.le_succ_of_le h1) (aV H.fin h2 hc))) (λa i b j hi _ hx=>((aB.exp H.fin _ _).bl λ_=>(aB.bound H.fin H.mZ.pred).bz λt=>aB.bP _) i b j hi hx) _
theorem tZ.e7f{c:Nm}(ht:sgN c=true)(I:Nat->Prop){one:α->bF α}{one':α->RM α}(h0:∀a i ln,i<l.length->I i->tZ ln (one a i) (one' a ⟨i,0,ln⟩))(a0:∀a,aB l 0 (one a))(hI:∀a i b j,i<l.length->I i->one a i=.ok b j->aL l j c=true->I (j+1)):∀(g:Nat)(a:α)(i:Nat),I i->i<l.length->l.length<g+i->tZ ln (jC l c one g a i) (mP l c one' g a ⟨i,0,ln⟩)
 |0,a,i,h1,h2,h3=>absurd h3 (by omega)
 |g+1,a,i,h1,h2,h3=>by
  unfold jC mP;rw[if_pos rfl];have h:=h0 a i ln h2 h1;cases hx:one a i with
  |bad n e=>rw[hx]at h;obtain⟨k1,k2,k3⟩:e≠0/\_:=h;rw[tJ (by rw[k2];exact k1),if_neg (by decide)];exact⟨k1,k2,k3⟩
  |ok b j=>
   rw[hx]at h;have h:one' a ⟨i,0,ln⟩=(b,⟨j,0,ln⟩):=h;have ha:=a0 a i b j h2 hx;rw[h];simp only[pU H j ht];cases hs:aL l j c with
   |true=>rw[if_pos rfl,if_pos rfl];exact tZ.e7f ht I h0 a0 hI g b (j+1) (hI a i b j h2 h1 hx hs) (aV H.fin ha.2 hs) (by omega)
   |false=>
    rw[if_neg (by decide),if_neg (by decide)]
    rfl
theorem aF.a5K:aF l low (λi=>dJ l [44] (λout=>(λj=>rdP l j (kC l (l.length+1) 0 i):bF Pr) >>=λp=>pure (out++[p])) [] i:bF (List Pr)) (mH l [44] (λout=>b2t rdP l >>=λp=>pure (out++[p])) []):=by
 have kM:rZ (b2t rdP l):=λs hs=>rZ.bef _ s hs;have aM:∀e,aB l 0 (λj=>rdP l j e:bF Pr):=λe i p j hi h=>by have:=H.mZ e i p j hi h;omega
 refine⟨λi ln h1 h2=>?_,rZ.loop (λa=>kM.xW λ_=>rZ.bP _) _ _,λi a j hi h=>aB.list H.fin (λa=>(aM _).bl λp=>aB.bP _) _ i a j hi h⟩;refine tZ.e7f H (by decide) (λj=>kC l (l.length+1) 0 j=kC l (l.length+1) 0 i) (λa j ln h3 h4=>?_) (λa=>(aM _).bl λp=>aB.bP _) (λa j b k h3 h4 hx hs=>?_) _ _ _ rfl h2 (by omega)
 .refine tZ.xW (y:=b2t rdP l) ?_ (λa=>rZ.bP _) λp k h=>rfl;unfold b2t
  show tZ ln (rdP l j (kC l (l.length+1) 0 i)) (pL rdP l (kC l (l.length+1) 0 j) ⟨j,0,ln⟩)
  rw[h4];exact tZ.bef H h3 _
 .rw[<-h4]at hx;obtain⟨p,k',e1,e2⟩:=b2O (x:=(λj'=>rdP l j' (kC l (l.length+1) 0 j):bF Pr)) hx;cases e2;rw[H.met j p k h3 e1 hs,h4]
theorem aF.sig:aF l low (tP kw andP rdP l) (a9W kw andP rdP l):=by unfold tP a9W;exact aF.b0 aF.beg λb=>aF.b0 (aF.ite (aF.b0 aF.word λw=>aF.b0 (aF.d2D H _) λws=>aF.mus (aF.bP _)) (aF.bP _)) λvs=>aF.b0 aF.beg λb=>aF.b0 (aF.ite (aF.b0 (aF.wN H) λns=>aF.mus (aF.bP _)) (aF.bP _)) λns=>aF.b0 aF.a9X λb=>aF.b0 (aF.ite (aF.b0 (aF.vars H _) λns=>aF.b7Z (aF.mus (aF.bP _))) (aF.bP _)) λabs=>aF.b0 (aF.bounds H) λbs=>aF.b0 (aF.typ H) λt=>aF.b0 aF.beg λb=>aF.b0 (aF.ite (aF.a5K H) (aF.bP _)) λms=>aF.bP _
def a8o(kw:Nm->Bool)(l:List Tok):bF (List Nm):=λi=>if aL l i [40] then(if cQ (aJ l (i+1)) [41] then .ok [] (i+2) else jD kw l i) else .ok [] i
theorem aB.d8G:aB l 0 (a8o kw l):=λi a j hi h=>by
 have h:(if aL l i [40]=true then(if cQ (aJ l (i+1)) [41]=true then .ok [] (i+2) else jD kw l i) else .ok [] i)=gO.ok a j:=h;split at h
 .rename_i h1;have n1:=aV H.fin hi h1;split at h
  .rename_i h2;have n2:=rD H.fin n1 (a2V H.fin h2);cases h;omega
  .exact((aB.words H.fin).le (by omega)) _ _ _ hi h
 .cases h;omega
theorem aF.d8G:aF l low (a8o kw l) (b0Q kw l):=⟨λi ln h1 h2=>by
 unfold b0Q;have e:bZ l 1 [41] ⟨i,0,ln⟩=cQ (aJ l (i+1)) [41]:=a5W H 1 i (by decide);rw[pU H i (t:=[40]) (by decide),e]
 show tZ ln (if aL l i [40]=true then _ else _) _
 cases aL l i [40]with
 |false=>rfl
 |true=>
  cases cQ (aJ l (i+1)) [41]with
  |true=>rfl
  |false=>exact(aF.words (low:=low) H).yS i ln h1 h2,λs hs=>by
 unfold b0Q;rw[tJ hs,tJ hs]
 rfl,aB.d8G H⟩
def a6f(kw:Nm->Bool)(andP:Pr->Pr->Pr)(rdP:List Tok->Nat->Nat->gO Pr)(l:List Tok)(mode:Int):RM gB:=do
 let name <- dY kw l
 let ps <- b0Q kw l
 let c <- uH λs=> !decide (mode=0)||bZ l 0 [58] s
 let sg <- (if c then do
  aK l [58]
  a9W kw andP rdP l else pure vZ:RM a0i)
 let e <- (if mode=1 then pure qP else do
  aK l [61]
  a4C kw andP rdP l:RM cP)
 pure ⟨name,ps,e,mode,c,sg⟩
def RfO{α:Type}(ln:Int)(x:gO (Option α))(y:α×dB):Prop:=match x with
 |.ok (some a) j=>y=(a,⟨j,0,ln⟩)
 |.ok none _=>False
 |.bad n e=>e≠0/\y.2.er=e/\y.2.ln=n
omit H in
theorem RfO.mk{x:bF α}{y:RM α}(h:tZ ln (x i) (y ⟨i,0,ln⟩)):RfO ln ((x >>=λa=>pure (some a)) i) (y ⟨i,0,ln⟩):=by
 rw[cR];cases hx:x i with
 |ok a j=>rw[hx]at h;exact h
 |bad n e=>rw[hx]at h;exact h
theorem aF.f0m(name:Nm)(ps:List Nm)(mode:Int)(typed:Bool)(sg:a0i)(hm:mode≠1):aF l low (aR l [[61]] >>=λ_=>sG kw andP rdP l >>=λe=>pure ⟨name,ps,e,mode,typed,sg⟩:bF gB) ((if mode=1 then pure qP else(aK l [61] >>=λ_=>a4C kw andP rdP l):RM cP) >>=λe=>pure ⟨name,ps,e,mode,typed,sg⟩):=by rw[if_neg hm];exact aF.a2f (aF.mus (aF.b0 (aF.expr H) λe=>aF.bP _))
theorem aF.c0o:aF l low (bV kw l >>=λname=>a8o kw l >>=λps=>cS l [58] >>=λb=>if b then tP kw andP rdP l >>=λsg=>aR l [[61]] >>=λ_=>sG kw andP rdP l >>=λe=>pure ⟨name,ps,e,0,true,sg⟩ else aR l [[61]] >>=λ_=>sG kw andP rdP l >>=λe=>pure ⟨name,ps,e,0,false,vZ⟩:bF gB) (a6f kw andP rdP l 0):=by
 unfold a6f;refine aF.b0 aF.word λname=>aF.b0 (aF.d8G H) λps=>?_;have hb:∀(b:Bool) low,aF l low (aR l [[61]] >>=λ_=>sG kw andP rdP l >>=λe=>pure ⟨name,ps,e,0,b,vZ⟩:bF gB) _:=λb low=>aF.f0m H name ps 0 b vZ (by decide);have hs:aF l low (aR l [[58]] >>=λ_=>tP kw andP rdP l >>=λsg=>aR l [[61]] >>=λ_=>sG kw andP rdP l >>=λe=>pure ⟨name,ps,e,0,true,sg⟩:bF gB) ((aK l [58] >>=λ_=>a9W kw andP rdP l) >>=λsg=>(if (0:Int)=1 then pure qP else(aK l [61] >>=λ_=>a4C kw andP rdP l):RM cP) >>=λe=>pure ⟨name,ps,e,0,true,sg⟩):=
  aF.a2f (aF.mus (aF.b0 (aF.sig H) λsg=>aF.f0m H name ps 0 true sg (by decide)))
 refine aF.test (λb=>?_) ((aB.skip H.fin _).bl λb=>aB.ite ((aB.sig H.fin H.mZ).bz λ_=>(aB.exp H.fin _ _).bz λ_=>(aB.expr H.fin H.mZ.pred).bz λ_=>aB.bP _) (hb false 0).av) λi ln h1 h2=>?_
 .cases b
  .exact(hb false 0).qY
  .exact hs.qY
 .show tZ ln _ (((if (bZ l 0 [58] ⟨i,0,ln⟩)=true then _ else _:RM a0i) >>=_) _)
  rw[pU H i (t:=[58]) (by decide)];cases h:aL l i [58]with
  |true=>have h3:=hs.yS i ln h1 h2;rw[a8a h]at h3;rw[c2a h];exact h3
  |false=>rw[c2b h];exact(hb false low).yS i ln h1 h2
theorem aF.f4e(mode:Int)(hm:mode≠0):aF l low (bV kw l >>=λname=>a8o kw l >>=λps=>aR l [[58]] >>=λ_=>tP kw andP rdP l >>=λsg=>if mode=1 then pure ⟨name,ps,qP,mode,true,sg⟩ else aR l [[61]] >>=λ_=>sG kw andP rdP l >>=λe=>pure ⟨name,ps,e,mode,true,sg⟩:bF gB) (a6f kw andP rdP l mode):=by
 unfold a6f;refine aF.b0 aF.word λname=>aF.b0 (aF.d8G H) λps=>?_;have hs:aF l low (aR l [[58]] >>=λ_=>tP kw andP rdP l >>=λsg=>if mode=1 then pure ⟨name,ps,qP,mode,true,sg⟩ else aR l [[61]] >>=λ_=>sG kw andP rdP l >>=λe=>pure ⟨name,ps,e,mode,true,sg⟩:bF gB) ((aK l [58] >>=λ_=>a9W kw andP rdP l) >>=λsg=>(if mode=1 then pure qP else(aK l [61] >>=λ_=>a4C kw andP rdP l):RM cP) >>=λe=>pure ⟨name,ps,e,mode,true,sg⟩):=by
  refine aF.a2f (aF.mus (aF.b0 (aF.sig H) λsg=>?_));by_cases h1:mode=1
  .rw[if_pos h1,if_pos h1];exact aF.f3z (aF.bP _)
  .rw[if_neg h1];exact aF.f0m H name ps mode true sg h1
 have hd:decide (mode=0)=false:=by simpa using hm
 rw[hd];have k0:rZ ((pure vZ:RM a0i) >>=λsg=>(if mode=1 then pure qP else(aK l [61] >>=λ_=>a4C kw andP rdP l):RM cP) >>=λe=>pure (⟨name,ps,e,mode,false,sg⟩:gB)):=by
  refine rZ.xW (rZ.bP _) λsg=>rZ.xW ?_ λe=>rZ.bP _;split
  .exact rZ.bP _
  .exact rZ.xW (rZ.b7Z _) λ_=>(aF.expr (low:=0) H).qY
 refine aF.test (λb=>?_) hs.av λi ln h1 h2=>hs.yS i ln h1 h2;cases b
 .exact k0
 .exact hs.qY
omit H in
theorem b8R(a:α)(f:α->bF β):(pure a >>=f)=f a:=rfl
omit H in
theorem e4n(c:Bool)(x y:bF α)(f:α->bF β):((if c then x else y) >>=f)=if c then x >>=f else y >>=f:=by cases c<;>rfl
omit H in
theorem b4c(mode:Int):xY kw l mode=bV kw l >>=λname=>a8o kw l >>=λps=>pure ⟨name,ps,qP,mode,false,vZ⟩:=rfl
omit H in
theorem d8H:(xY kw l 0 >>=λd=>cS l [58] >>=λb=>(if b then tP kw andP rdP l >>=λs=>pure {d with typed:=true,sig:=s} else pure d) >>=λd=>zQ kw andP rdP l d)=((bV kw l >>=λname=>a8o kw l >>=λps=>cS l [58] >>=λb=>if b then tP kw andP rdP l >>=λsg=>aR l [[61]] >>=λ_=>sG kw andP rdP l >>=λe=>pure ⟨name,ps,e,0,true,sg⟩ else aR l [[61]] >>=λ_=>sG kw andP rdP l >>=λe=>pure ⟨name,ps,e,0,false,vZ⟩:bF gB) >>=λa=>pure (some a)):=by simp only[b4c,zQ,a9g,b8R,e4n]
omit H in
theorem d8I:(xY kw l 1 >>=λd=>aR l [[58]] >>=λ_=>tP kw andP rdP l >>=λs=>pure (some {d with typed:=true,sig:=s}))=((bV kw l >>=λname=>a8o kw l >>=λps=>aR l [[58]] >>=λ_=>tP kw andP rdP l >>=λsg=>if (1:Int)=1 then pure ⟨name,ps,qP,1,true,sg⟩ else aR l [[61]] >>=λ_=>sG kw andP rdP l >>=λe=>pure ⟨name,ps,e,1,true,sg⟩:bF gB) >>=λa=>pure (some a)):=by simp only[b4c,a9g,b8R,if_true]
omit H in
theorem d8J:(xY kw l 2 >>=λd=>aR l [[58]] >>=λ_=>tP kw andP rdP l >>=λs=>zQ kw andP rdP l {d with typed:=true,sig:=s})=((bV kw l >>=λname=>a8o kw l >>=λps=>aR l [[58]] >>=λ_=>tP kw andP rdP l >>=λsg=>if (2:Int)=1 then pure ⟨name,ps,qP,2,true,sg⟩ else aR l [[61]] >>=λ_=>sG kw andP rdP l >>=λe=>pure ⟨name,ps,e,2,true,sg⟩:bF gB) >>=λa=>pure (some a)):=by simp only[b4c,zQ,a9g,b8R,show ¬(2:Int)=1 by decide,if_false]
theorem RfO.defn(h2:i<l.length):(aL l i [100,101,102]=false/\xD kw andP rdP l i=.ok none i/\a1P kw andP rdP l ⟨i,0,ln⟩=a6f kw andP rdP l 0 (mF l ⟨i,0,ln⟩))\/RfO ln (xD kw andP rdP l i) (a1P kw andP rdP l ⟨i,0,ln⟩):=by
 have e:a1P kw andP rdP l ⟨i,0,ln⟩=a6f kw andP rdP l (a1E l ⟨i,0,ln⟩).1 (a1E l ⟨i,0,ln⟩).2:=rfl;rw[e];unfold xD a1E;rw[kX H h2 (t:=[100,101,102]) (by decide) (by decide),kX H h2 (t:=[97,115,115,117,109,101]) (by decide) (by decide),kX H h2 (t:=[114,101,102,108,101,99,116]) (by decide) (by decide)];by_cases b1:aL l i [100,101,102]=true
 .rw[if_pos b1,if_pos b1];have h:=RfO.mk ((aF.c0o (low:=0) (andP:=andP) (kw:=kw) H).yS (i+1) ln (by omega) (aV H.fin h2 b1));rw[<-d8H]at h;exact .inr h
 rw[if_neg b1,if_neg b1];by_cases b2:aL l i [97,115,115,117,109,101]=true
 .rw[if_pos b2,if_pos b2];have h:=RfO.mk ((aF.f4e (low:=0) (andP:=andP) (kw:=kw) H 1 (by decide)).yS (i+1) ln (by omega) (aV H.fin h2 b2));rw[<-d8I]at h;exact .inr h
 rw[if_neg b2,if_neg b2];by_cases b3:aL l i [114,101,102,108,101,99,116]=true
 .rw[if_pos b3,if_pos b3];have h:=RfO.mk ((aF.f4e (low:=0) (andP:=andP) (kw:=kw) H 2 (by decide)).yS (i+1) ln (by omega) (aV H.fin h2 b3));rw[<-d8J]at h;exact .inr h
 rw[if_neg b3,if_neg b3];exact .inl ⟨Bool.eq_false_iff.2 b1,rfl,rfl⟩
theorem rZ.defn:rZ (a1P kw andP rdP l):=λs hs=>by
 have e:a1P kw andP rdP l s=a6f kw andP rdP l (a1E l s).1 (a1E l s).2:=rfl;have e2:a1E l s=(0,s):=by
  unfold a1E;rw[uQ hs,uQ hs,uQ hs,b3T hs]
  rfl
 rw[e,e2];exact(aF.c0o (low:=0) H).qY s hs
theorem aF.f0n{F:gB->bF β}{G:gB->RM β}(hF:∀d,aF l low (F d) (G d)):aF l low (xD kw andP rdP l >>=λo=>match o with|some d=>F d|none=>eV l) (a1P kw andP rdP l >>=G):=⟨λi ln h1 h2=>by
 rw[cR,aQ];have hG:∀a,rZ (G a):=λa=>(hF a).qY;rcases RfO.defn (ln:=ln) (kw:=kw) (andP:=andP) H h2 with⟨_,e1,e2⟩|h
 .rw[e1,e2];have k:=(aF.c0o (low:=0) (kw:=kw) (andP:=andP) H).qY _ (a9e (ln:=ln) h2);have k2:=hG (a6f kw andP rdP l 0 (mF l ⟨i,0,ln⟩)).1 (a6f kw andP rdP l 0 (mF l ⟨i,0,ln⟩)).2 (by rw[k];exact a9e h2);exact⟨by decide,by rw[k2,k,wE h2],by rw[k2,k,wE h2]⟩
 .cases hx:xD kw andP rdP l i with
  |ok o j=>
   cases o with
   |none=>rw[hx]at h;exact h.elim
   |some d=>rw[hx]at h;have h:a1P kw andP rdP l ⟨i,0,ln⟩=(d,⟨j,0,ln⟩):=h;have ha:=aB.c0o H.fin H.mZ i _ j h2 hx;rw[h];exact(hF d).yS j ln (by omega) ha.2
  |bad n e=>rw[hx]at h;obtain⟨k1,k2,k3⟩:e≠0/\_:=h;have k4:=hG (a1P kw andP rdP l ⟨i,0,ln⟩).1 (a1P kw andP rdP l ⟨i,0,ln⟩).2 (by rw[k2];exact k1);exact⟨k1,by rw[k4];exact k2,by rw[k4];exact k3⟩,rZ.xW (rZ.defn H) λa=>(hF a).qY,(aB.c0o H.fin H.mZ).bl λo=>match o with|some d=>(hF d).av|none=>aB.failed⟩
theorem aF.named:aF l low (dJ l [44] (λ(out:List Nm×List Ty)=>bV kw l >>=λw=>aR l [[58]] >>=λ_=>mD kw andP rdP l >>=λt=>pure (out.1++[w],out.2++[t])) ([],[])) (xN kw andP rdP l):=
 aF.list (λa=>aF.b0 aF.word λw=>aF.mus (aF.b0 (aF.typ H) λt=>aF.bP _)) _
theorem aF.con:aF l low (a9P kw andP rdP l) (c1X kw andP rdP l):=by unfold a9P c1X;exact aF.b0 aF.title λnm=>aF.b0 aF.a9X λb=>aF.ite (aF.b0 (aF.named H) λp=>aF.mus (aF.bP _)) (aF.bP _)
theorem aF.data:aF l low (a0x kw andP rdP l) (b7R kw andP rdP l):=by unfold a0x b7R;exact aF.b0 aF.title λnm=>aF.b0 (aF.d2D H _) λvs=>aF.b0 aF.a9X λb=>aF.b0 (aF.ite (aF.b0 (aF.vars H _) λns=>aF.mus (aF.bP _)) (aF.bP _)) λps=>aF.mus (aF.b0 (aF.list (λout=>aF.b0 (aF.con H) λc=>aF.bP _) _) λcs=>aF.bP _)
theorem aF.d4a:aF l low (a1B kw rdP l) (b7T kw rdP l):=by unfold a1B b7T;refine aF.b0 aF.word λnm=>aF.mus (aF.b0 aF.title λd=>aF.mus (aF.b0 aF.sort λs=>aF.mus (aF.b0 (aF.list (λout=>?_) _) λcs=>aF.mus (aF.b0 aF.beg λb=>aF.b0 (aF.ite (aF.pred H) (aF.bP _)) λp=>aF.bP _))));exact aF.b0 aF.title λc=>aF.d0y (aF.b0 (aF.e4f H) λns=>aF.mus (aF.b0 (aF.pred H) λb=>aF.bP _))
theorem aF.d4b:aF l low (a1C kw rdP l) (b7U kw rdP l):=by unfold a1C b7U;exact aF.b0 aF.word λnm=>aF.mus (aF.b0 (aF.vars H _) λvs=>aF.b7Z (aF.mus (aF.b0 (aF.pred H) λp=>aF.bP _)))
theorem aF.inst:aF l low (a1A kw andP rdP l) (b7S kw andP rdP l):=by
 unfold a1A b7S;have aS:=aB.a2W (kw:=kw) (andP:=andP) (ty:=mD kw andP rdP l) H.fin ((aB.typ H.fin H.mZ.pred).le (by omega:0<=1)) H.mZ.pred;refine aF.b0 aF.title λc=>aF.b0 (aF.e3U H (aF.typ H) (aB.typ H.fin H.mZ.pred)) λt=>aF.b0 aF.beg λb=>aF.b0 (aF.ite (aF.wN H) (aF.bP _)) λns=>aF.mus ?_;refine aF.b0 (aF.many (λs hs=>uQ hs) (λi ln hi=>kX H hi (t:=[100,101,102]) (by decide) (by decide)) (λa i ln h1 h2 hc=>?_) (λa i b j hi hc hx=>?_) _) λds=>aF.mus (aF.bP _)
 .have hF:∀d,aF l low (aR l [[59]] >>=λ_=>pure (a++[d])) (aK l [59] >>=λ_=>pure (a++[d])):=λd=>aF.mus (aF.bP _);have h:=(aF.f0n (kw:=kw) (andP:=andP) H hF).yS i ln (by omega) h2;rw[cR]at h|-;rcases RfO.defn (ln:=ln) (kw:=kw) (andP:=andP) H h2 with⟨e0,_,_⟩|h'
  .rw[e0]at hc;cases hc
  .cases hx:xD kw andP rdP l i with
   |bad n e=>rw[hx]at h;exact h
   |ok o j=>
    cases o with
    |none=>rw[hx]at h';exact h'.elim
    |some d=>rw[hx]at h;exact h
 .obtain⟨d,k,h1,h2⟩:=b2O hx;have a1:=aB.c0o H.fin H.mZ i d k hi h1;have a2:=((aB.exp H.fin _ _).bl λ_=>aB.bP _) k b j a1.2 h2;omega
end
section
variable {kw:Nm->Bool} {andP:Pr->Pr->Pr} {rdP:List Tok->Nat->Nat->gO Pr} {l:List Tok} {low m:Nat} {α β γ:Type} {ln:Int}
variable (H:RfH rdP l)
include H
omit H in
theorem b8S{c:Nm}{one:α->bF α}{one':β->bF β}{P:α->Prop}(F:α->β)(h:∀a i,P a->one' (F a) i=b8Q F (one a i))(hP:∀a i b j,P a->one a i=.ok b j->P b):∀(g:Nat)(a:α)(i:Nat),P a->jC l c one' g (F a) i=b8Q F (jC l c one g a i)
 |0,a,i,_=>rfl
 |g+1,a,i,hp=>by
  unfold jC;rw[h a i hp];cases hx:one a i with
  |bad n e=>rfl
  |ok b j=>
   simp only[b8Q];cases aL l j c with
   |true=>rw[if_pos rfl,if_pos rfl];exact b8S F h hP g b (j+1) (hP a i b j hp hx)
   |false=>rfl
theorem aF.cls:aF l low (wA kw andP rdP l) (b2u kw andP rdP l):=by
 unfold wA b2u;refine aF.b0 aF.title λnm=>aF.b0 aF.word λv=>aF.key λ_=>aF.nil ?_;have h2:aF l (low+1) (dJ l [44] (λ(out:List Nm×List Ty)=>bV kw l >>=λw=>aR l [[58]] >>=λ_=>mD kw andP rdP l >>=λt=>pure (out.1++[w],out.2++[t])) ([],[]) >>=λp=>pure (⟨nm,v,p.1.zip p.2⟩:xK)) (xN kw andP rdP l >>=λp=>pure (⟨nm,v,p.1.zip p.2⟩:xK)):=aF.b0 (aF.named H) λp=>aF.bP _;refine⟨λi ln h1 h3=>?_,h2.qY,aB.bl (aB.list H.fin (λa=>(aB.word H.fin).bz λ_=>(aB.exp H.fin _ _).bz λ_=>(aB.typ H.fin H.mZ.pred).bz λ_=>aB.bP _) _) λ_=>aB.bP _⟩;have h4:=h2.yS i ln (by omega) h3;rw[cR]at h4|-;have e:dJ l [44] (λout=>bV kw l >>=λw=>aR l [[58]] >>=λ_=>mD kw andP rdP l >>=λt=>pure (out++[(w,t)])) [] i=b8Q (λp:List Nm×List Ty=>p.1.zip p.2) (dJ l [44] (λ(out:List Nm×List Ty)=>bV kw l >>=λw=>aR l [[58]] >>=λ_=>mD kw andP rdP l >>=λt=>pure (out.1++[w],out.2++[t])) ([],[]) i):=by
  refine b8S (P:=λp:List Nm×List Ty=>p.1.length=p.2.length) (λp:List Nm×List Ty=>p.1.zip p.2) (λa i hp=>?_) (λa i b j hp hx=>?_) _ ([],[]) _ rfl
  .simp only[cR]
   repeat' split
   all_goals first
    |rfl
    |skip
   simp only[kB,b8Q];rw[List.zip_append hp]
   rfl
  .obtain⟨w,k1,_,hx⟩:=b2O hx;obtain⟨u,k2,_,hx⟩:=b2O hx;obtain⟨t,k3,_,hx⟩:=b2O hx;cases hx;simp[hp]
 rw[e];cases hx:dJ l [44] (λ(out:List Nm×List Ty)=>bV kw l >>=λw=>aR l [[58]] >>=λ_=>mD kw andP rdP l >>=λt=>pure (out.1++[w],out.2++[t])) ([],[]) i with
 |ok p j=>rw[hx]at h4;exact h4
 |bad n x=>rw[hx]at h4;exact h4
theorem aF.decl(mo:eK):aF l low (vI kw andP rdP l mo) (xZ kw andP rdP l mo):=⟨λi ln h1 h2=>by
 unfold vI xZ;rw[kX H h2 (t:=[100,97,116,97]) (by decide) (by decide),kX H h2 (t:=[99,108,97,115,115]) (by decide) (by decide),kX H h2 (t:=[105,110,115,116]) (by decide) (by decide),kX H h2 (t:=[109,101,97,115,117,114,101]) (by decide) (by decide),kX H h2 (t:=[113,117,97,108]) (by decide) (by decide)];by_cases b1:aL l i [100,97,116,97]=true
 .rw[if_pos b1,if_pos b1];exact(aF.b0 (aF.data (low:=low) H) λx=>aF.bP _).yS (i+1) ln (by omega) (aV H.fin h2 b1)
 rw[if_neg b1,if_neg b1];by_cases b2:aL l i [99,108,97,115,115]=true
 .rw[if_pos b2,if_pos b2];exact(aF.b0 (aF.cls (low:=low) H) λx=>aF.bP _).yS (i+1) ln (by omega) (aV H.fin h2 b2)
 rw[if_neg b2,if_neg b2];by_cases b3:aL l i [105,110,115,116]=true
 .rw[if_pos b3,if_pos b3];exact(aF.b0 (aF.inst (low:=low) H) λx=>aF.bP _).yS (i+1) ln (by omega) (aV H.fin h2 b3)
 rw[if_neg b3,if_neg b3];by_cases b4:aL l i [109,101,97,115,117,114,101]=true
 .rw[if_pos b4,if_pos b4];exact(aF.b0 (aF.d4a (low:=low) H) λx=>aF.bP _).yS (i+1) ln (by omega) (aV H.fin h2 b4)
 rw[if_neg b4,if_neg b4];by_cases b5:aL l i [113,117,97,108]=true
 .rw[if_pos b5,if_pos b5];exact(aF.b0 (aF.d4b (low:=low) H) λx=>aF.bP _).yS (i+1) ln (by omega) (aV H.fin h2 b5)
 rw[if_neg b5,if_neg b5];exact(aF.f0n (low:=low) H λd=>aF.bP _).yS i ln h1 h2,λs hs=>by
 unfold xZ;rw[uQ hs,uQ hs,uQ hs,uQ hs,uQ hs];exact(rZ.xW (rZ.defn H) λd=>rZ.bP _) s hs,(aB.decl H.fin H.mZ mo).le (by omega)⟩
theorem aF.mod:aF l low (a7K kw andP rdP l) (c7q kw andP rdP l):=by
 unfold a7K c7q;have aD:∀mo,aB l 1 (vI kw andP rdP l mo >>=λm=>aR l [[59]] >>=λ_=>pure m):=λmo=>(aB.decl H.fin H.mZ mo).bl λ_=>(aB.exp H.fin _ _).bz λ_=>aB.bP _;have hD:∀mo,aF l low (vI kw andP rdP l mo >>=λm=>aR l [[59]] >>=λ_=>pure m) (xZ kw andP rdP l mo >>=λm=>aK l [59] >>=λ_=>pure m):=λmo=>aF.b0 (aF.decl H mo) λm=>aF.mus (aF.bP _);refine aF.many (λs hs=>?_) (λi ln hi=>?_) (λa i ln h1 h2 _=>(hD a).yS i ln h1 h2) (λa i b j hi _ hx=>aD a i b j hi hx) _
 .simp[hs]
 .rw[a0D hi];simp
end
end
section
open Go Go.VM
variable {G:GT}
theorem SW.c7Y{P:Program}{α:Type}{b c:Code}{st:St}{Q:Exit->St->Prop}(r:gO α)(st':α->Nat->St)(h1:SW P G b st λe s=>match e with
  |.normal=>∃v j,r=.ok v j/\yY s (st' v j)
  |e=>Q e s)(h2:∀v j,r=.ok v j->SW P G c (st' v j) Q):SW P G (.seq b c) st Q:=SW.gN (SW.mono (λe s h=>by
 cases e with
 |normal=>obtain⟨v,j,hr,hw⟩:=h;exact SW.a4n hw (h2 v j hr)
 |_=>exact h) h1)
structure a3l (Q:Exit->St->Prop) {α:Type} (r0 r:gO α):Prop where
 eq:r0=r
 bad:∀n e s,r0=.bad n e->Q (.panic (a2d (rP n e))) s
section
variable {α β:Type} {Q:Exit->St->Prop} {i j:Nat} {n e:Int} {a:α} {r0:gO β}
theorem a3l.step{x:bF α}{f:α->bF β}(h:a3l Q r0 ((x >>=f) i))(hx:x i=.ok a j):a3l Q r0 (f a j):=⟨h.eq.trans (bU hx),h.bad⟩
theorem a3l.fail{x:bF α}{f:α->bF β}(h:a3l Q r0 ((x >>=f) i))(hx:x i=.bad n e)(s:St):Q (.panic (a2d (rP n e))) s:=h.bad _ _ _ (h.eq.trans (kT hx))
end
theorem d4U{α β γ:Type}(x:bF α)(f:α->bF β)(g:β->bF γ):((x >>=f) >>=g)=(x >>=λa=>f a >>=g):=funext λi=>c7I x f g i
section
variable {rdP:List Tok->Nat->Nat->gO Pr} {l:List Tok} (hV:rQ G rdP l)
include hV
abbrev b2P(s:a0i):List D:=.sl (strs s.vars)::.sl (s.wN.map dP)::.sl (s.abs.map dP)::.sl (s.bounds.map b0K)::(tyD s.type++[.sl (s.a5K.map qF)])
omit hV in
theorem e4o(s:a0i):e3x s=b2P s:=by
 rw[e3x,bW]
 rfl
abbrev d2E(l:List Tok):bF (List Nm):=do
 let b <- cS l [102,111,114,97,108,108]
 if b then do
  let w <- bV aH l
  let ws <- rJ l (λi=>kL aH (aJ l i)) (a1H l) [w]
  aR l [[46]]
  pure ws
 else pure []
abbrev d2F(l:List Tok):bF (List psV):=do
 let b <- cS l [119,104,101,114,101]
 if b then do
  let ns <- uN aH l
  aR l [[46]]
  pure ns
 else pure []
abbrev d2G(l:List Tok):bF (List psV):=do
 let b <- cS l [60]
 if b then do
  let ns <- sE aH l false
  aR l [[62],[46]]
  pure ns
 else pure []
abbrev d8K(rdP:List Tok->Nat->Nat->gO Pr)(l:List Tok)(out:List pR):bF (List pR):=do
 aR l [[98,111,117,110,100]]
 let b <- uO aH rdP l
 pure (out++[b])
abbrev c7Z(rdP:List Tok->Nat->Nat->gO Pr)(l:List Tok):bF (List pR):=rJ l (λi=>aL l i [98,111,117,110,100]) (d8K rdP l) []
abbrev d4V(rdP:List Tok->Nat->Nat->gO Pr)(l:List Tok)(E:Nat)(out:List Pr):bF (List Pr):=do
 let p <- (λj=>rdP l j E:bF Pr)
 pure (out++[p])
abbrev e7g(rdP:List Tok->Nat->Nat->gO Pr)(l:List Tok):bF (List Pr):=do
 let b <- cS l [109,101,116,114,105,99]
 if b then(λi=>dJ l [44] (d4V rdP l (kC l (l.length+1) 0 i)) [] i) else pure []
omit hV in
theorem d8L:tP aH aZ rdP l=(do
  let vs <- d2E l
  let ns <- d2F l
  let abs <- d2G l
  let bs <- c7Z rdP l
  let t <- mD aH aZ rdP l
  let ms <- e7g rdP l
  pure ⟨vs,ns,abs,bs,t,ms⟩):=by
 unfold tP;simp only[d4U]
theorem d8M:aB l 0 (d2E l):=(aB.skip hV.fin _).bl λ_=>aB.ite ((aB.word hV.fin).bz λ_=>(aB.many (λa=>(aB.word hV.fin).bz λ_=>aB.bP _) _).bl λ_=>(aB.exp hV.fin _ _).bz λ_=>aB.bP _) (aB.bP _)
theorem a8p:aB l 1 (uN aH l):=aB.wN hV.fin
theorem d8N:aB l 0 (d2F l):=(aB.skip hV.fin _).bl λ_=>aB.ite ((a8p hV).bz λ_=>(aB.exp hV.fin _ _).bz λ_=>aB.bP _) (aB.bP _)
theorem d8O:aB l 0 (d2G l):=(aB.skip hV.fin _).bl λ_=>aB.ite ((aB.vars hV.fin false).bz λ_=>(aB.exp hV.fin _ _).bz λ_=>aB.bP _) (aB.bP _)
theorem b5y:aB l 1 (uO aH rdP l):=aB.bound hV.fin hV.mZ.pred
theorem d8P(out:List pR):aB l 1 (d8K rdP l out):=(aB.exp hV.fin _ _).bl λ_=>(b5y hV).bz λ_=>aB.bP _
theorem d8Q:aB l 0 (c7Z rdP l):=aB.many (λa=>(d8P hV a).le (by omega)) _
theorem b8T(E:Nat):aB l 0 (λj=>rdP l j E:bF Pr):=λi p j hi hx=>hV.mZ E i p j hi hx
theorem d8R(E:Nat)(out:List Pr):aB l 0 (d4V rdP l E out):=(b8T hV E).bl λ_=>aB.bP _
theorem d4W(E:Nat)(a:List Pr)(i:Nat)(b:List Pr)(j:Nat)(hi:i<l.length)(h:a.length<=i)(hx:d4V rdP l E a i=.ok b j):b.length<=j:=by
 obtain⟨p,k,h1,h2⟩:=dF hx;have h3:=(hV.nod i E p k hi h1).1;have pos:1<=bN p:=by cases p;simp[bN]
 cases h2;simp;omega
def c0Q(vs:List Nm)(ns abs:List psV)(bs:List pR)(t:Ty)(E:Nat)(out:List Pr):List (Nat×bG):=[(100001,.cells (.d (.sl (strs vs))::.d (.sl (ns.map dP))::.d (.sl (abs.map dP))::.d (.sl (bs.map b0K))::((tyD t).map .d++[.d (.sl (out.map qF))]))),(100002,.cells [.ptr 100000 0]),(100003,.cells [.d (.int .i64 E)])]
abbrev f4f:List (TypeId×List VM.Loc):=[(52,[.c 100001 13])]
theorem d8S(vs:List Nm)(ns abs:List psV)(bs:List pR)(t:Ty)(E:Nat):a3e l K4 [.ptr 100001 0,.ptr 100002 0,.ptr 100003 0] (c0Q vs ns abs bs t E) f4f:=by
 constructor
 all_goals intros
 all_goals first
  |rfl
  |simp[c0Q,aW,bB,bD,bC,bK,getKey,bA,bI,dC,rk,dL,bX, *]
theorem d1d(vs:List Nm)(ns abs:List psV)(bs:List pR)(t:Ty)(E:Nat)(hE:E<=l.length)(out:List Pr)(j0:Nat)(hi:j0<l.length)(vT:out.length<=j0):qA G 115 [.ptr 100001 0,.ptr 100002 0,.ptr 100003 0] (c0Q vs ns abs bs t E out) f4f l j0 (d4V rdP l E out j0) (λ_=>.cX []) (c0Q vs ns abs bs t E):=by
 have hl:=hV.len;have p0:=gT hi;refine qA.bO func115 rfl ntmps115 rfl (by simp) ?_;intro Q Q0;simp[c0Q];refine eW 7 (t:=50) (e:=52) (T:=56) (s:=4) (z:=9) (r:=10) (p:=11) (q:=8) (x:=7) (b:=12) (y:=0) (fd:=5) [0] 4 [2,3] (a6V 1 5 6) (kZ (rdP l j0 E)) rfl rfl rfl rfl rfl (by kernel_rfl) (by kernel_rfl) rfl ?_;simp
 repeat' apply And.intro
 all_goals
  refine rX (x:=λj=>rdP l j E) (i:=j0) Q0 p0 (.mk func116 rfl) ((hV.bef j0 E p0.2 hE)) ((b8T hV E)) λq j1 x1 Q1 p1=>cG.mk ?_;simp;refine⟨_,_,_,_,_,_,_,_,_,by simp,rfl,rfl,?_,rfl,rfl,?_,by simp,rfl,rfl,rfl,rfl,by decide,rfl,?_⟩
  .intro c hc
   first
    |(obtain⟨y,_,rfl⟩:=g3L.1 hc
      rw[dE]
      rfl)
    |(simp only[g3x]at hc
      subst hc
      rfl)
  .simp<;>omega
  exact Q1.ok _ j1 .normal _ rfl (.inl rfl) (by simp[c0Q,dE])
abbrev e4p:List DV:=[.d .aE,.d .aE,.d .aE,.d .aE,.d (.int .i64 0),.d (.str []),.d .aE,.d .aE,.d (.int .i64 0),.d (.str []),.d (.int .i64 0),.d .aE,.d .aE,.d .aE]
abbrev e4q(l:List Tok)(a b c d:D)(j:Nat):St:=⟨.ptr 100000 0::.ptr 1 0::.ptr 2 0::.ptr 3 0::List.replicate 76 .undef,[(1,.cells [.ptr 100000 0]),(2,.cells e4p),(3,.cells [.d a,.d b,.d c,.d d,.d (.int .i64 0),.d (.str []),.d .aE,.d .aE,.d (.int .i64 0),.d (.str []),.d (.int .i64 0),.d .aE,.d .aE,.d .aE]),(100000,rdO l j)],[]⟩
theorem d8T(v:Bool)(i:Nat)(xs:List psV)(j:Nat)(hi:i<l.length)(h:sE aH l v i=.ok xs j):xs.length<=j:=by unfold sE at h;exact(vM hV (one:=c2d l v) (λa p=>a.length<=p) (λa p b q hp ha hab=>by have h1:=b3U hV v a p b q hp hab;have h2:=c2e hV v a p b q hab;omega) (λa p h=>by omega) _ _ _ _ _ hi (by simp) h).1
theorem b4d(j0:Nat)(hi:j0<l.length):tR G 67 [] l j0 (tP aH aZ rdP l j0) (λs=>.d (.agg (b2P s))):=by
 have hl:=hV.len;have p0:=gT hi;refine qA.xA func67 rfl ntmps67 rfl (by simp) ?_;intro Q Q0;rw[d8L]at Q0;refine SW.gN (SW.xk ?_);simp;refine SW.gN (SW.xk ?_);simp;refine SW.c7Y (d2E l j0) (λvs j=>e4q l (.sl (strs vs)) .aE .aE .aE j) ?_ λvs j1 x1=>?_
 .skip
  have Q0:=a3l.mk (Q:=Q) (r0:=d2E l j0) rfl λn e s h=>Q0.fail h s;refine SW.gN (SW.xk ?_);simp;cases hs:aL l j0 [102,111,114,97,108,108]with
  |false=>have Q1:=Q0.step (oB hs);rw[if_neg (by decide)]at Q1;refine rdF hs p0 ?_;simp;refine SW.b5e rfl (SW.xk ?_);simp;exact⟨_,_,Q1.eq,by simp[List.replicate]⟩
  |true=>
   have Q1:=Q0.step (oA hs);rw[if_pos rfl]at Q1;refine rdT hs p0 hV.fin λp1=>?_;obtain⟨j1,tS⟩:∃j,j0+1=j:=⟨_,rfl⟩;rw[tS]at Q1 p1|-;simp;refine SW.a9S rfl (SW.xk ?_);simp;refine dK [0] 3 [2] (.op 1 (.call [4,5,6,7] .none) (.call [1,4,5,6,7] .none)) (kZ (bV aH l j1)) (by kernel_rfl) (by kernel_rfl) ?_;simp;refine⟨?_,?_⟩
   all_goals
    refine rdZ dS (eN hV.kw l j1 p1.2 (by omega)) (λw j2 x2=>?_) (λn e hx=>by first|exact Q1.fail hx _|(simp;exact Q1.fail hx _)|(simp;exact λs=>Q1.fail hx s));have Q2:=Q1.step x2;have p2:=aB.word hV.fin j1 w j2 p1.2 x2;refine cG.mk ?_;simp;refine SW.sV (ι:={x:List Nm×Nat×Nat//j2<=x.2.1/\x.2.1<l.length/\l.length<x.2.2+x.2.1/\x.1.length<=x.2.1/\gE (λi=>kL aH (aJ l i)) (a1H l) x.2.2 x.1 x.2.1=rJ l (λi=>kL aH (aJ l i)) (a1H l) [w] j2}) (λ_=>[]) (λx=>[(1,.cells [.ptr 100000 0]),(2,.cells e4p),(3,.cells [.d (.sl (strs x.1.1)),.d .aE,.d .aE,.d .aE,.d (.int .i64 0),.d (.str []),.d .aE,.d .aE,.d (.int .i64 0),.d (.str []),.d (.int .i64 0),.d .aE,.d .aE,.d .aE]),(100000,rdO l x.1.2.1)]) (λ_=>[(9,[.c 3 0])]) (λx=>l.length-x.1.2.1) ⟨([w],j2,l.length+2),g3G _,p2.2,by simp only;omega,by simp only[List.length_singleton];omega,rfl⟩ (by simp[strs]) ?_;rintro⟨⟨out,j3,g⟩,hb,hj3,hg,ho,hp⟩;simp only at hb hj3 hg ho hp;obtain⟨g,rfl⟩:∃k,g=k+1:=⟨g-1,by omega⟩;have p3:j2<=j3/\j3<l.length:=⟨hb,hj3⟩;have ht:=dM (G:=G) l j3 j3 0;simp;refine qB (i:=j3) (ds:=[.int .i64 0]) cJ ht ?_;simp;refine jV.mk oQ (pZ hV.kw (aJ l j3)) ?_;cases hc:kL aH (aJ l j3)with
    |true=>
     simp;refine dK [0] 3 [2] (.op 1 (.call [4,5,6,7] .none) (.call [1,4,5,6,7] .none)) (kZ (bV aH l j3)) (by kernel_rfl) (by kernel_rfl) ?_;simp;refine⟨?_,?_⟩
     all_goals
      refine rdZ (i:=j3) (ds:=[]) dS (eN hV.kw l j3 hj3 (by omega)) (λw2 j4 x4=>?_) (λn e hx=>?_)
      .have p4:=aB.word (kw:=aH) hV.fin j3 w2 j4 hj3 x4;have h1:a1H l out j3=.ok (out++[w2]) j4:=(bU x4).trans rfl;rw[a0G hV hc h1]at hp;refine cG.mk ?_;simp;refine bQ (by first|omega|(simp;omega)) ?_;simp;exact bE.mk ⟨(out++[w2],j4,g),by simp only;omega,p4.2,by simp only;omega,by simp;omega,hp⟩ (by simp[a2w]) (by simp;omega)
      .have h1:a1H l out j3=.bad n e:=kT hx;rw[uB hV hc h1]at hp;simp
       first|exact Q2.fail hp.symm _|exact λs=>Q2.fail hp.symm s
    |false=>rw[a0H hV hc]at hp;have Q3:=Q2.step hp.symm;simp;refine rdX (hw:=by simp[strs]) (ds:=[.sl (strs [[46]])]) oK (pV l [[46]] j3 p3.2 (by omega) hV.fin) (λu4 j4 x4=>?_) (λn e hx=>by first|exact Q3.fail hx _|(simp;exact Q3.fail hx _)|(simp;exact λs=>Q3.fail hx s));have Q4:=Q3.step x4;have p4:=aB.exp hV.fin _ _ j3 u4 j4 p3.2 x4;simp;exact⟨_,_,Q4.eq,by simp[List.replicate]⟩
 have Q0:=Q0.step x1;have p1:=d8M hV j0 vs j1 p0.2 x1
 clear p0 x1
 have p0:j1<=j1/\j1<l.length:=⟨g3G _,p1.2⟩
 clear p1 hi
 obtain⟨j0,rfl⟩:∃j,j=j1:=⟨_,rfl⟩;refine SW.c7Y (d2F l j0) (λns j=>e4q l (.sl (strs vs)) (.sl (ns.map dP)) .aE .aE j) ?_ λns j1 x1=>?_
 .skip
  have Q0:=a3l.mk (Q:=Q) (r0:=d2F l j0) rfl λn e s h=>Q0.fail h s;refine SW.gN (SW.xk ?_);simp[List.replicate];cases hs:aL l j0 [119,104,101,114,101]with
  |false=>have Q1:=Q0.step (oB hs);rw[if_neg (by decide)]at Q1;refine rdF hs p0 ?_;simp;refine SW.b5e rfl (SW.xk ?_);simp;exact⟨_,_,Q1.eq,by simp[List.replicate]⟩
  |true=>have Q1:=Q0.step (oA hs);rw[if_pos rfl]at Q1;refine rdT hs p0 hV.fin λp1=>?_;obtain⟨j1,tS⟩:∃j,j0+1=j:=⟨_,rfl⟩;rw[tS]at Q1 p1|-;simp;refine SW.a9S rfl (SW.xk ?_);simp;refine rdX (.mk func98 rfl) ((b5x hV j1 p1.2)) (λns j2 x2=>?_) (λn e hx=>by first|exact Q1.fail hx _|(simp;exact Q1.fail hx _)|(simp;exact λs=>Q1.fail hx s));have Q2:=Q1.step x2;have p2:=a8p hV j1 ns j2 p1.2 x2;simp;refine rdX (hw:=by simp[strs]) (ds:=[.sl (strs [[46]])]) oK (pV l [[46]] j2 p2.2 (by omega) hV.fin) (λu3 j3 x3=>?_) (λn e hx=>by first|exact Q2.fail hx _|(simp;exact Q2.fail hx _)|(simp;exact λs=>Q2.fail hx s));have Q3:=Q2.step x3;have p3:=aB.exp hV.fin _ _ j2 u3 j3 p2.2 x3;simp;exact⟨_,_,Q3.eq,by simp[List.replicate]⟩
 have Q0:=Q0.step x1;have p1:=d8N hV j0 ns j1 p0.2 x1
 clear p0 x1
 have p0:j1<=j1/\j1<l.length:=⟨g3G _,p1.2⟩
 clear p1
 obtain⟨j0,rfl⟩:∃j,j=j1:=⟨_,rfl⟩;refine SW.c7Y (d2G l j0) (λabs j=>e4q l (.sl (strs vs)) (.sl (ns.map dP)) (.sl (abs.map dP)) .aE j) ?_ λabs j1 x1=>?_
 .skip
  have Q0:=a3l.mk (Q:=Q) (r0:=d2G l j0) rfl λn e s h=>Q0.fail h s;refine SW.gN (SW.xk ?_);simp[List.replicate];cases hs:aL l j0 [60]with
  |false=>have Q1:=Q0.step (oB hs);rw[if_neg (by decide)]at Q1;refine rdF hs p0 ?_;simp;refine SW.b5e rfl (SW.xk ?_);simp;exact⟨_,_,Q1.eq,by simp[List.replicate]⟩
  |true=>
   have Q1:=Q0.step (oA hs);rw[if_pos rfl]at Q1;refine rdT hs p0 hV.fin λp1=>?_;obtain⟨j1,tS⟩:∃j,j0+1=j:=⟨_,rfl⟩;rw[tS]at Q1 p1|-;simp;refine SW.a9S rfl (SW.xk ?_);simp;refine rdX a4a ((a5Z hV false j1 p1.2)) (λxs j2 x2=>?_) (λn e hx=>by first|exact Q1.fail hx _|(simp;exact Q1.fail hx _)|(simp;exact λs=>Q1.fail hx s));have Q2:=Q1.step x2;have p2:=(aB.vars hV.fin false) j1 xs j2 p1.2 x2;have hxs:=d8T hV false j1 xs j2 p1.2 x2;simp;refine SW.sV (ι:={k:Nat//k<=xs.length}) (λk=>[(42,.d (.int .i64 k.1))]) (λk=>[(1,.cells [.ptr 100000 0]),(2,.cells e4p),(3,.cells [.d (.sl (strs vs)),.d (.sl (ns.map dP)),.d (.sl ((xs.take k.1).map dP)),.d .aE,.d (.int .i64 0),.d (.str []),.d .aE,.d .aE,.d (.int .i64 0),.d (.str []),.d (.int .i64 0),.d .aE,.d .aE,.d .aE]),(100000,rdO l j2)]) (λ_=>[(146,[.c 3 2])]) (λk=>xs.length-k.1) ⟨0,Nat.zero_le _⟩ (by simp) ?_;rintro⟨k,hk⟩;by_cases aG:k<xs.length
   .have hg:(xs.map dP)[k]? =some [.str xs[k].1,.str xs[k].2]:=by simp[aG,dP]
    have hw:=aX (show k<9223372036854775807 by omega);have htk:(xs.map dP).take (k+1)=(xs.map dP).take k++[[.str xs[k].1,.str xs[k].2]]:=by rw[g3F (by simpa using aG)];simp[dP]
    simp[aG,hg,dP];refine eF ⟨λx hx=>d8f hV xs x (g4r hx),by omega⟩ ?_;simp[hw];exact bE.mk ⟨k+1,aG⟩ (by simp[htk]) (by simp;omega)
   .have htk:xs.take k=xs:=List.take_of_length_le (by omega);simp[aG,htk];refine rdX (hw:=by simp[strs]) (ds:=[.sl (strs [[62],[46]])]) oK (pV l [[62],[46]] j2 p2.2 (by omega) hV.fin) (λu3 j3 x3=>?_) (λn e hx=>by first|exact Q2.fail hx _|(simp;exact Q2.fail hx _)|(simp;exact λs=>Q2.fail hx s));have Q3:=Q2.step x3;have p3:=aB.exp hV.fin _ _ j2 u3 j3 p2.2 x3;simp;exact⟨_,_,Q3.eq,by simp[List.replicate]⟩
 have Q0:=Q0.step x1;have p1:=d8O hV j0 abs j1 p0.2 x1
 clear p0 x1
 have p0:j1<=j1/\j1<l.length:=⟨g3G _,p1.2⟩
 clear p1
 obtain⟨j0,rfl⟩:∃j,j=j1:=⟨_,rfl⟩;refine SW.c7Y (c7Z rdP l j0) (λbs j=>e4q l (.sl (strs vs)) (.sl (ns.map dP)) (.sl (abs.map dP)) (.sl (bs.map b0K)) j) ?_ λbs j1 x1=>?_
 .skip
  have Q0:=a3l.mk (Q:=Q) (r0:=c7Z rdP l j0) rfl λn e s h=>Q0.fail h s;refine SW.xk ?_;simp[List.replicate];refine SW.sV (ι:={x:List pR×Nat×Nat//j0<=x.2.1/\x.2.1<l.length/\l.length<x.2.2+x.2.1/\x.1.length<=x.2.1/\gE (λi=>aL l i [98,111,117,110,100]) (d8K rdP l) x.2.2 x.1 x.2.1=c7Z rdP l j0}) (λ_=>[]) (λx=>[(1,.cells [.ptr 100000 0]),(2,.cells e4p),(3,.cells [.d (.sl (strs vs)),.d (.sl (ns.map dP)),.d (.sl (abs.map dP)),.d (.sl (x.1.1.map b0K)),.d (.int .i64 0),.d (.str []),.d .aE,.d .aE,.d (.int .i64 0),.d (.str []),.d (.int .i64 0),.d .aE,.d .aE,.d .aE]),(100000,rdO l x.1.2.1)]) (λ_=>[(148,[.c 3 3])]) (λx=>l.length-x.1.2.1) ⟨([],j0,l.length+2),g3G _,p0.2,by simp only;omega,by simp,rfl⟩ (by simp) ?_;rintro⟨⟨out,j3,g⟩,hb,hj3,hg,ho,hp⟩;simp only at hb hj3 hg ho hp;obtain⟨g,rfl⟩:∃k,g=k+1:=⟨g-1,by omega⟩;have p3:j0<=j3/\j3<l.length:=⟨hb,hj3⟩;simp;cases hc:aL l j3 [98,111,117,110,100]with
  |true=>
   have hn:=aV hV.fin hj3 hc;refine rdT hc p3 hV.fin λp4=>?_;simp;refine dK [0] 3 [2] (.op 1 (.call [4,5,6,7] .none) (.call [1,4,5,6,7] .none)) (kZ (uO aH rdP l (j3+1))) (by kernel_rfl) (by kernel_rfl) ?_;simp;refine⟨?_,?_⟩
   all_goals
    refine rdZ (i:=j3+1) (ds:=[]) (.mk func113 rfl) (c7W hV (j3+1) hn) (λb j4 x4=>?_) (λn e hx=>?_)
    .have p4:=b5y hV (j3+1) b j4 hn x4;have h0:aR l [[98,111,117,110,100]] j3=.ok () (j3+1):=(c3R hc).trans rfl;have h1:d8K rdP l out j3=.ok (out++[b]) j4:=(bU h0).trans ((bU x4).trans rfl);rw[a0G hV hc h1]at hp;refine cG.mk ?_;simp;refine bQ (by first|omega|exact⟨λx _=>by rw[a9m];rfl,by omega⟩|(simp;omega)) ?_;simp;exact bE.mk ⟨(out++[b],j4,g),by simp only;omega,p4.2,by simp only;omega,by simp;omega,hp⟩ (by simp[a9m]) (by simp;omega)
    .have h0:aR l [[98,111,117,110,100]] j3=.ok () (j3+1):=(c3R hc).trans rfl;have h1:d8K rdP l out j3=.bad n e:=(bU h0).trans (kT hx);rw[uB hV hc h1]at hp;simp
     first|exact Q0.bad _ _ _ hp.symm|exact λs=>Q0.bad _ _ s hp.symm
  |false=>rw[a0H hV hc]at hp;refine rdF hc p3 ?_;simp;exact⟨_,_,hp.symm,by simp[List.replicate]⟩
 have Q1:=Q0.step x1;have p1:=d8Q hV j0 bs j1 p0.2 x1;refine SW.xk ?_;simp[List.replicate];refine uG Q1 p1 dO ((qM hV j1 p1.2)) (mK hV) λt j2 x2 Q2 p2=>?_;simp;cases hs:aL l j2 [109,101,116,114,105,99]with
 |false=>have Q3:=Q2.step (a:=[]) (j:=j2) ((bU (oB hs)).trans rfl);refine rdF hs p2 ?_;simp;exact Q3.ok _ j2 _ _ rfl (.inr rfl) (by simp)
 |true=>
  have e1:e7g rdP l j2=dJ l [44] (d4V rdP l (kC l (l.length+1) 0 (j2+1))) [] (j2+1):=(bU (oA hs)).trans rfl;refine rdT hs p2 hV.fin λp3=>?_;obtain⟨j3,hj3⟩:∃j,j2+1=j:=⟨_,rfl⟩;rw[hj3]at e1 p3|-;simp;have heq:=b8P hV j3 p3.2;have hE:=b6y hV (l.length+1) 0 j3;refine qB (ds:=[]) (.mk func114 rfl) heq ?_;generalize kC l (l.length+1) 0 j3=E at e1 hE|-;simp;have kR:=jK hV [44] (d4V rdP l E) (λout i=>out.length<=i) 0 (.mk func115 rfl) (d8S hV vs ns abs bs t E) (λa=>d8R hV E a) (λa i _ hi h=>d1d hV vs ns abs bs t E hE a i hi h) (d4W hV E) (λa i h=>by omega) [] j3 (by omega) p3.2 (by simp);refine dX.mk (a2e eT kR [(100000,100000),(100001,3),(100002,1),(100003,6)] (λa j hx=>?_) ?_ ?_ ?_ rfl rfl (λms j4 x4=>?_) (λn e hx2=>Q2.fail (e1.trans hx2) _))
  .simp[c0Q,aW,bB,bD,bC,bK,getKey]
  .simp[c0Q,aW,bB,bD,bC,bK,getKey]
  .simp[bA,bI,rk]
  .simp[c0Q,bA,bI,rk,dC,dL]
  .have Q4:=Q2.step (e1.trans x4);simp[bJ,c0Q,bA,bI,rk,dC,dL,bX,kI,jA,eI];exact Q4.ok _ j4 _ _ rfl (.inr rfl) (by simp)
end
section
variable {rdP:List Tok->Nat->Nat->gO Pr} {l:List Tok} (hV:rR G rdP l)
include hV
def sgH(vs ns ab bs:D)(t:Ty)(ms:D):List (Nat×bG):=[(3,.cells (.d vs::.d ns::.d ab::.d bs::((tyD t).map .d++[.d ms]))),(2,.cells [.d .aE,.d .aE,.d .aE,.d .aE,.d (.int .i64 0),.d (.str []),.d .aE,.d .aE,.d (.int .i64 0),.d (.str []),.d (.int .i64 0),.d .aE,.d .aE,.d .aE])]
omit hV in
abbrev rwM(l:List Tok)(out:List Nm):RM (List Nm):=do let w <- dY aH l;pure (out++[w])
abbrev f4g(l:List Tok)(b:Bool):RM (List Nm):=if b then do
  let w <- dY aH l
  let ws <- rM l (mG aH l 0) (rwM l) [w]
  aK l [46]
  pure ws else pure []
abbrev f4h(l:List Tok)(b:Bool):RM (List psV):=if b then do
  let ns <- xM aH l
  aK l [46]
  pure ns else pure []
abbrev f4i(l:List Tok)(b:Bool):RM (List psV):=if b then do
  let abs <- wT aH l false
  aK l [62]
  aK l [46]
  pure abs else pure []
abbrev f0o(rdP:List Tok->Nat->Nat->gO Pr)(l:List Tok)(out:List Pr):RM (List Pr):=do
  let p <- b2t rdP l
  pure (out++[p])
abbrev f4j(rdP:List Tok->Nat->Nat->gO Pr)(l:List Tok)(b:Bool):RM (List Pr):=if b then mH l [44] (f0o rdP l) [] else pure []
variable{s s1:dB}{b:Bool}
theorem f0p{x:List Nm}(hv:bY l s)(h:f4g l b s=(x,s1)):bY l s1:=by
 cases b with
 |false=>cases h;exact hv
 |true=>have h4:(dY aH l >>=λw=>rM l (mG aH l 0) (rwM l) [w] >>=λws=>aK l [46] >>=λ_=>pure ws) s=(x,s1):=h;obtain⟨w,s2,h2⟩:∃a s2,dY aH l s=(a,s2):=⟨_,_,rfl⟩;rw[aQ,h2]at h4;obtain⟨y,s3,h3⟩:∃a s3,rM l (mG aH l 0) (rwM l) [w] s2=(a,s3):=⟨_,_,rfl⟩;have v2:=bY.next (gW hV.fin hv h2);have v3:bY l s3:=(aF.d2D hV.toRfH [w]).next v2 h3;rw[aQ,h3]at h4;obtain⟨u,s5,h5⟩:∃a s5,aK l [46] s3=(a,s5):=⟨_,_,rfl⟩;rw[aQ,h5]at h4;cases h4;exact bY.next (oH hV.fin v3 h5)
variable{x:List psV}
theorem b4e(hv:bY l s)(h:xM aH l s=(x,s1)):bY l s1:=(aF.wN hV.toRfH).next hv h
theorem f0q(hv:bY l s)(h:f4h l b s=(x,s1)):bY l s1:=by
 cases b with
 |false=>cases h;exact hv
 |true=>have h4:(xM aH l >>=λns=>aK l [46] >>=λ_=>pure ns) s=(x,s1):=h;obtain⟨w,s2,h2⟩:∃a s2,xM aH l s=(a,s2):=⟨_,_,rfl⟩;rw[aQ,h2]at h4;obtain⟨u,s5,h5⟩:∃a s5,aK l [46] s2=(a,s5):=⟨_,_,rfl⟩;rw[aQ,h5]at h4;cases h4;exact bY.next (oH hV.fin (b4e hV hv h2) h5)
theorem f0r(hv:bY l s)(h:f4i l b s=(x,s1)):bY l s1:=by
 cases b with
 |false=>cases h;exact hv
 |true=>have h4:(wT aH l false >>=λns=>aK l [62] >>=λ_=>aK l [46] >>=λ_=>pure ns) s=(x,s1):=h;obtain⟨w,s2,h2⟩:∃a s2,wT aH l false s=(a,s2):=⟨_,_,rfl⟩;rw[aQ,h2]at h4;obtain⟨u,s5,h5⟩:∃a s5,aK l [62] s2=(a,s5):=⟨_,_,rfl⟩;rw[aQ,h5]at h4;obtain⟨u,s6,h6⟩:∃a s6,aK l [46] s5=(a,s6):=⟨_,_,rfl⟩;rw[aQ,h6]at h4;cases h4;exact bY.next (oH hV.fin (bY.next (oH hV.fin (bY.next (a0K hV hv h2)) h5)) h6)
theorem c8a{b:pR}(hv:bY l s)(h:a9b aH rdP l s=(b,s1)):uI l 1 s s1:=(aF.bound hV.toRfH).d4m (aB.bound hV.fin hV.mZ.pred) hv h
omit hV in
theorem b6z:∀(g:Nat)(d:Int)(i:Nat),i<=l.length->i<=kC l g d i/\kC l g d i<=l.length
 |0,d,i,h=>by unfold kC;omega
 |g+1,d,i,h=>by
  unfold kC;split
  .rename_i hi;have h1:=b6z g (d+1) (i+1) hi;have h2:=b6z g (d-1) (i+1) hi;have h3:=b6z g d (i+1) hi;split
   .omega
   .split
    .omega
    .split<;>omega
  .omega
theorem c4v{e:Nat}{p:Pr}(hv:bY l s)(h:pL rdP l e s=(p,s1)):uI l 0 s s1:=λh1=>by
 unfold pL at h;split at h
 .rename_i he;cases hr:rdP l s.pl e with
  |ok q j=>rw[hr]at h;cases h;have:=hV.mZ e _ _ _ (hv he) hr;exact⟨he,by simp only;omega,this.2⟩
  |bad n x=>rw[hr]at h;cases h;exact absurd h1 (hV.nz _ _ _ _ (hv he) hr)
 .rename_i he;cases h;exact absurd h1 he
omit hV in
theorem d1e(s:dB):(wT aH l b s).1.length<=0+(l.length+2):=b0Z (λa s=>by simp[aQ]) _ _ _
theorem c2w(s0:dB)(hv:bY l s0):eH G 73 [] l s0 (a9W aH aZ rdP l s0) (λg=>.d (.agg (b2P g))):=by
 have hl:=hV.len;have v0:=hv;refine eH.xA func73 rfl ntmps73 rfl ?_;intro Q Q0;unfold a9W at Q0;refine SW.gN (SW.xk ?_);simp;refine SW.gN (SW.xk ?_);simp;obtain⟨b1,s1,h1⟩:∃b s1,wO l [102,111,114,97,108,108] s0=(b,s1):=⟨_,_,rfl⟩;have Q1:=Q0.step h1;have v1:=bY.next (a0I hV.fin v0 h1);obtain⟨vs,s2,h2⟩:∃vs s2,f4g l b1 s1=(vs,s2):=⟨_,_,rfl⟩;have Q2:=Q1.step h2;refine SW.a7Q [] (sgH (.sl (strs vs)) .aE .aE .aE jZ .aE++rfH l s2) [] (SW.xk ?_) ?_
 .simp;refine cH cU (dR (by omega) [102,111,114,97,108,108] s0 v0) (λb x hx=>?_);cases hx.symm.trans h1;cases b1 with
  |false=>cases h2;simp[sgH,jZ,eE]
  |true=>
   simp;refine cH gK (jJ (by omega) s1 v1) (λw s3 h3=>?_);have p3:=gW hV.fin v1 h3;have v3:=bY.next p3
   replace h2:(rM l (mG aH l 0) (rwM l) [w] >>=λws=>aK l [46] >>=λ_=>pure ws) s3=(vs,s2):=by
    have h4:(dY aH l >>=λw=>rM l (mG aH l 0) (rwM l) [w] >>=λws=>aK l [46] >>=λ_=>pure ws) s1=(vs,s2):=h2
    rwa[aQ,h3]at h4
   simp;refine a9f (mG aH l 0) (λs h=>a9d h) (rwM l) (λa=>a.length) (λ_=>True) (λ_=>[]) (λa s=>sgH (.sl (strs a)) .aE .aE .aE jZ .aE++rfH l s) (λ_=>[(9,[.c 3 0])]) (l.length+2) [w] s3 (by omega) v3 ⟨by simp,λh=>by have:=p3 h;simp;omega⟩ trivial (by simp[sgH,strs,jZ,eE]) ?_ ?_
   .intro a s0 e0 i0 bs la _ hc R hR;have v0:bY l s0:=λ_=>i0;simp[sgH];refine cH mN (rE hV s0 v0) (λb x hx=>?_);cases hx;rw[hc];simp;refine dK [0] 3 [2] (.op 1 (.call [4,5,6,7] .none) (.call [1,4,5,6,7] .none)) true (by kernel_rfl) (by kernel_rfl) ?_;simp;refine⟨?_,?_⟩
    all_goals
     refine rfZ gK (jJ (by omega) s0 v0) (λw s1 h1=>?_);have p1:uI l _ s0 s1:=gW hV.fin v0 h1;have v1:=bY.next p1;refine cG.mk ?_;simp
    all_goals
     refine bQ (by first|omega|(simp[strs];omega)|exact⟨λx hx=>by obtain⟨y,_,rfl⟩:=g3L.1 hx;first|rfl|(rw[strs];rfl),by omega⟩|exact⟨rfl,by omega⟩) ?_;simp;refine hR _ (a++[w]) s1 (by simp only[aQ,h1];rfl) (by simp[sgH,strs]) (λh=>?_) (by simp) trivial;have:=(p1) h;omega
   .intro a s4 hc qZ la _ v4 hy R;simp[sgH];refine cH mN (rE hV s4 v4) (λb x hx=>?_);cases hx;rw[hc];simp;refine cH oR (qI (by omega) [46] s4 v4) (λu s5 h5=>?_);rw[aQ,show rM l (mG aH l 0) (rwM l) [w] s3=(a,s4) from hy,aQ,h5]at h2;cases h2;simp[sgH]
 have v2:bY l s2:=f0p hV v1 h2;simp;obtain⟨b3,s3,h3⟩:∃b s1,wO l [119,104,101,114,101] s2=(b,s1):=⟨_,_,rfl⟩;have Q3:=Q2.step h3;have v3:=bY.next (a0I hV.fin v2 h3);obtain⟨ns,s4,h4⟩:∃ns s4,f4h l b3 s3=(ns,s4):=⟨_,_,rfl⟩;have Q4:=Q3.step h4;have v4:bY l s4:=f0q hV v3 h4;refine SW.a7Q [] (sgH (.sl (strs vs)) (.sl (ns.map dP)) .aE .aE jZ .aE++rfH l s4) [] (SW.xk ?_) ?_
 .simp[sgH];refine cH cU (dR (by omega) [119,104,101,114,101] s2 v2) (λb x hx=>?_);cases hx.symm.trans h3;cases b3 with
  |false=>cases h4;simp[sgH]
  |true=>simp;refine cH (.mk func109 rfl) (b5t hV s3 v3) (λns2 s5 h5=>?_);have v5:bY l s5:=b4e hV v3 h5;simp;refine cH oR (qI (by omega) [46] s5 v5) (λu s6 h6=>?_);have h7:(xM aH l >>=λns=>aK l [46] >>=λ_=>pure ns) s3=(ns,s4):=h4;rw[aQ,h5,aQ,h6]at h7;cases h7;simp[sgH]
 simp;obtain⟨b5,s5,h5⟩:∃b s1,eL l [60] s4=(b,s1):=⟨_,_,rfl⟩;have Q5:=Q4.step h5;have v5:=bY.next (yA hV.fin v4 h5);obtain⟨abs,s6,h6⟩:∃abs s6,f4i l b5 s5=(abs,s6):=⟨_,_,rfl⟩;have Q6:=Q5.step h6;have v6:bY l s6:=f0r hV v5 h6;refine SW.a7Q [] (sgH (.sl (strs vs)) (.sl (ns.map dP)) (.sl (abs.map dP)) .aE jZ .aE++rfH l s6) [] (SW.xk ?_) ?_
 .simp[sgH];refine cH bS (cN (by omega) [60] s4 v4) (λb x hx=>?_);cases hx.symm.trans h5;cases b5 with
  |false=>cases h6;simp[sgH]
  |true=>
   simp;refine cH a4c (a6e hV false s5 v5) (λxs s7 h7=>?_);have v7:bY l s7:=bY.next (a0K hV v5 h7);have xl:xs.length<=20002:=by have:=d1e (l:=l) (b:=false) s5;rw[h7]at this;simp only at this;omega
   simp;refine SW.sV (ι:={k:Nat//k<=xs.length}) (λk=>[(5,.d (.int .i64 (k.1:Nat)))]) (λk=>sgH (.sl (strs vs)) (.sl (ns.map dP)) (.sl ((xs.take k.1).map dP)) .aE jZ .aE++rfH l s7) (λ_=>[(146,[.c 3 2])]) (λk=>xs.length-k.1) ⟨0,Nat.zero_le _⟩ (by simp[sgH]) ?_;rintro⟨k,hk⟩;by_cases hkl:k<xs.length
   .have hw:=aX (show k<9223372036854775807 by omega);simp[sgH,hkl];refine SW.vk ?_;simp[hkl,dP];refine⟨.mk,?_⟩;refine bQ ⟨λx hx=>by obtain⟨y,_,rfl⟩:=g3L.1 (g4r hx);rfl,by omega⟩ ?_;simp[hw];have hT:List.take (k+1) (xs.map dP)=List.take k (xs.map dP)++[[.str xs[k].1,.str xs[k].2]]:=by rw[g3F (by simpa using hkl)];simp[dP]
    exact bE.mk ⟨k+1,by omega⟩ (by simp[sgH,hT]) (by simp only;omega)
   .have f0s:k=xs.length:=by omega
    subst f0s;simp[sgH];refine cH oR (qI (by omega) [62] s7 v7) (λu s8 h8=>?_);have v8:=bY.next (oH hV.fin v7 h8);simp;refine cH oR (qI (by omega) [46] s8 v8) (λu s9 h9=>?_);have h10:(wT aH l false >>=λns=>aK l [62] >>=λ_=>aK l [46] >>=λ_=>pure ns) s5=(abs,s6):=h6;rw[aQ,h7,aQ,h8,aQ,h9]at h10;cases h10;simp[sgH]
 simp;obtain⟨bs,s7,h7⟩:∃bs s7,rM l (eY l [98,111,117,110,100]) (a3c aH rdP l) [] s6=(bs,s7):=⟨_,_,rfl⟩;have Q7:=Q6.step h7;have v7:bY l s7:=(aF.bounds hV.toRfH).next v6 h7;refine SW.a7Q [] (sgH (.sl (strs vs)) (.sl (ns.map dP)) (.sl (abs.map dP)) (.sl (bs.map b0K)) jZ .aE++rfH l s7) [] (SW.xk ?_) ?_
 .simp;refine a9f (eY l [98,111,117,110,100]) (λs h=>uQ h) (a3c aH rdP l) (λa=>a.length) (λ_=>True) (λ_=>[]) (λa s=>sgH (.sl (strs vs)) (.sl (ns.map dP)) (.sl (abs.map dP)) (.sl (a.map b0K)) jZ .aE++rfH l s) (λ_=>[(148,[.c 3 3])]) (l.length+2) [] s6 (by omega) v6 (by simp) trivial (by simp[sgH]) ?_ ?_
  .intro a s0 e0 i0 bs la _ hc R hR;have v0:bY l s0:=λ_=>i0;simp[sgH];refine cH cU (dR (by omega) [98,111,117,110,100] s0 v0) (λb s1 hx=>?_);rcases gX hV hx with⟨_,rfl,e1,v1⟩|⟨w,_,_⟩;rotate_left
   .rw[hc]at w;cases w
   simp;refine dK [0] 3 [2] (.op 1 (.call [4,5,6,7] .none) (.call [1,4,5,6,7] .none)) true (by kernel_rfl) (by kernel_rfl) ?_;simp;refine⟨?_,?_⟩
   all_goals
    refine rfZ (.mk func117 rfl) (c7X hV s1 v1) (λb s2 h2=>?_);have p2:uI l _ s1 s2:=c8a hV v1 h2;have v2:=bY.next p2;refine cG.mk ?_;simp
   all_goals
    refine bQ (by first|omega|(simp[a9m];omega)|exact⟨λx hx=>by obtain⟨y,_,rfl⟩:=g3L.1 hx;first|rfl|(rw[a9m];rfl),by omega⟩|exact⟨rfl,by omega⟩) ?_;simp;refine hR _ (a++[b]) s2 (by unfold a3c;rw[<-e1,aQ,h2];rfl) (by simp[sgH,a9m]) (λh=>?_) (by simp) trivial;have:=p2 h;rw[e1]at this;simp only at this;omega
  .intro a s8 hc qZ la _ v8 hy R;simp[sgH];refine cH cU (dR (by omega) [98,111,117,110,100] s8 v8) (λb s9 hx=>?_);rcases gX hV hx with⟨w,_,_,_⟩|⟨_,rfl,rfl⟩
   .rw[hc]at w;cases w
   have h9:(a,s9)=(bs,s7):=(show rM l (eY l [98,111,117,110,100]) (a3c aH rdP l) [] s6=(a,s9) from hy).symm.trans h7;cases h9;simp[sgH]
 simp;refine SW.gN (SW.xk ?_);simp[sgH];refine cH qL (a0J hV s7 v7) (λt s8 h8=>?_);have Q8:=Q7.step h8;have v8:=bY.next (a2x hV v7 h8);simp;obtain⟨b9,s9,h9⟩:∃b s1,wO l [109,101,116,114,105,99] s8=(b,s1):=⟨_,_,rfl⟩;have Q9:=Q8.step h9;have v9:=bY.next (a0I hV.fin v8 h9);obtain⟨ms,s10,h10⟩:∃ms s10,f4j rdP l b9 s9=(ms,s10):=⟨_,_,rfl⟩;have Q10:=Q9.step h10;refine SW.a7Q [] (sgH (.sl (strs vs)) (.sl (ns.map dP)) (.sl (abs.map dP)) (.sl (bs.map b0K)) t (.sl (ms.map qF))++rfH l s10) [] (SW.xk ?_) (SW.xk ?_)
 .simp[sgH];refine cH cU (dR (by omega) [109,101,116,114,105,99] s8 v8) (λb x hx=>?_);cases hx.symm.trans h9;cases b9 with
  |false=>cases h10;simp[sgH]
  |true=>
   simp;refine a1F hV.fin [44] (f0o rdP l) (λa=>a.length) (λ_=>True) 6 (λ_=>[]) (λa s=>sgH (.sl (strs vs)) (.sl (ns.map dP)) (.sl (abs.map dP)) (.sl (bs.map b0K)) t (.sl (a.map qF))++rfH l s) (λ_=>[(52,[.c 3 13])]) (l.length+2) [] s9 (by omega) v9 rfl trivial (by simp[sgH]) ?_ ?_
   .intro a s0 e0 i0 bs2 la _ R hR;have v0:bY l s0:=λ_=>i0;have he:=c4t (G:=G) hV s0 i0;simp[sgH,e0];refine dK [0] 5 [2,3,4] (.op 1 (.call [6,7,8,9] .none) (.call [1,6,7,8,9] .none)) true (by kernel_rfl) (by kernel_rfl) ?_;simp;refine jH.ro (.mk func120 rfl) he [(100000,100000)] (by simp) (by simp) (by simp) (by simp) (by simp) ?_;obtain⟨E,hE⟩:∃E,kC l (l.length+1) 0 s0.pl=E:=⟨_,rfl⟩;have hb:=b6z (l:=l) (l.length+1) 0 s0.pl (Nat.le_of_lt i0);rw[hE]at hb;simp[hE];refine⟨?_,?_⟩
    all_goals
     refine rfZ (.mk func119 rfl) (hV.bef s0 E v0 (λ_=>hb.1) hb.2) (λp s1 h1=>?_);have p1:uI l 0 s0 s1:=c4v hV v0 h1;have v1:=bY.next p1;refine cG.mk ?_;simp;refine bQ (by first|omega|(simp[dE];omega)|exact⟨λx hx=>by obtain⟨y,_,rfl⟩:=g3L.1 hx;first|rfl|(rw[dE];rfl),by omega⟩|exact⟨rfl,by omega⟩) ?_;simp;have ho:f0o rdP l a s0=(a++[p],s1):=by
      show(b2t rdP l >>=λp=>pure (a++[p])) s0=_
      rw[aQ,show b2t rdP l s0=(p,s1) by unfold b2t;rw[hE];exact h1]
      rfl
     refine cH bS (cN (by omega) [44] s1 v1) (λbh sh hh=>?_);simp;refine hR _ (a++[p]) s1 ho (by rw[hh];simp[sgH,dE]) (λh=>?_) (by simp) trivial;have:=(p1) h;omega
   .intro a s11 m hm qZ la hJ v11 hy R;have hm':m=false\/(m=true/\ ¬s11.er=0):=by
     cases m
     .exact .inl rfl
     .rcases hm with h|h
      .cases h
      .exact .inr ⟨rfl,h⟩
    have h12:(a,s11)=(ms,s10):=(show f4j rdP l true s9=(a,s11) from hy).symm.trans h10;cases h12;rcases hm' with rfl|⟨rfl,h⟩
    all_goals
     first
      |simp[sgH,h]
      |simp[sgH]
 simp[sgH];exact Q10.ok _ _ (.inr rfl) (by simp[b2P])
end
theorem a6h:VM.Enters prog 31:=.mk func31 rfl
abbrev b1b(d:gB):List D:=.str d.name::.sl (strs d.params)::(a0h d.body++ .int .i64 d.mode::.bool d.typed::b2P d.sig)
theorem a0V(d:gB):a2X d=b1b d:=by
 rw[a2X,cB,e4o]
 rfl
abbrev b6f:gB:=⟨[],[],qP,0,false,vZ⟩
abbrev f7V:Option gB->DV:=λo=>.cX [.agg (b1b (o.getD b6f)),.bool o.isSome]
section
variable {rdP:List Tok->Nat->Nat->gO Pr} {l:List Tok} (hV:rQ G rdP l) (hN:∀i, -9223372036854775807<=(aJ l i).n/\(aJ l i).n<=9223372036854775807)
include hV
theorem b1c(mode:Int)(j0:Nat)(hi:j0<l.length):tR G 66 [.int .i64 mode] l j0 (xY aH l mode j0) (λd=>.d (.agg (b1b d))):=by
 have hl:=hV.len;have p0:=gT hi;refine qA.bO func66 rfl ntmps66 rfl (by simp) ?_;intro Q Q0;unfold xY at Q0;simp;refine uG Q0 p0 dS (eN hV.kw l j0 p0.2 (by omega)) (aB.word hV.fin) λnm j1 x1 Q1 p1=>?_;simp;have hb:=mY (G:=G) l j1 [40] p1.2;refine qB (ds:=[.str [40]]) jR hb ?_;cases hs:aL l j1 [40]with
 |false=>have Q2:=Q1.step (a:=[]) (j:=j1) (by simp[hs]);simp;exact Q2.ok _ j1 _ _ rfl (.inr rfl) (by simp[qP,vZ,jZ,eE])
 |true=>
  simp;have ht1:=dM (G:=G) l j1 (j1+1) 1;refine qB (ds:=[.int .i64 1]) cJ ht1 ?_;simp;refine jV.mk pF (qH (aJ l (j1+1)) [41]) ?_;cases hf:cQ (aJ l (j1+1)) [41]with
  |true=>
   have Q2:=Q1.step (a:=[]) (j:=j1+2) (by simp[hs,hf]);have hw2:IntKind.i64.wrap ((j1:Int)+2)=((j1+2:Nat):Int):=by rw[wrap64 (by omega)];omega
   simp[hw2];exact Q2.ok _ (j1+2) _ _ rfl (.inr rfl) (by simp[qP,vZ,jZ,eE])
  |false=>
   have e1:(λi=>if aL l i [40] then(if cQ (aJ l (i+1)) [41] then .ok [] (i+2) else jD aH l i) else .ok [] i:bF (List Nm)) j1=jD aH l j1:=by simp[hs,hf]
   simp;refine rdX (.mk func101 rfl) (a8b hV j1 p1.2) (λns j3 x3=>?_) (λn e hx=>by first|exact Q1.fail (e1.trans hx) _|(simp;exact Q1.fail (e1.trans hx) _)|(simp;exact λs=>Q1.fail (e1.trans hx) s));have Q3:=Q1.step (e1.trans x3);have p3:=aB.words hV.fin j1 ns j3 p1.2 x3;simp;exact Q3.ok _ j3 _ _ rfl (.inr rfl) (by simp[qP,vZ,jZ,eE])
theorem b4f:aB l 1 (tP aH aZ rdP l):=aB.sig hV.fin hV.mZ
include hN
theorem a9n(j0:Nat)(hi:j0<l.length):tR G 31 [] l j0 (xD aH aZ rdP l j0) f7V:=by
 have hl:=hV.len;have p0:=gT hi;refine qA.bO func31 rfl ntmps31 rfl (by simp) ?_;intro Q Q0;unfold xD at Q0;simp;cases s1:aL l j0 [100,101,102]with
 |true=>
  have Q1:=Q0.sW s1;refine rdT s1 p0 hV.fin λp1=>?_;obtain⟨j1,tS⟩:∃j,j0+1=j:=⟨_,rfl⟩;rw[tS]at Q1 p1|-;simp;refine uG Q1 p1 (.mk func66 rfl) ((b1c hV 0 j1 p1.2)) ((aB.head hV.fin 0)) λd j2 x2 Q2 p2=>?_;simp;cases s2:aL l j2 [58]with
  |false=>have Q3:=Q2.step (oB s2);rw[if_neg (by decide)]at Q3;refine rdF s2 p2 ?_;simp;have Q2:=Q3.step (kB);unfold zQ at Q2;refine eS Q2 p2 hV.fin λu8 j8 x8 Q8 p8=>?_;simp;refine uG Q8 p8 cW ((a4e hV hN j8 p8.2)) (b0Y hV) λe j9 x9 Q9 p9=>?_;simp;exact Q9.ok _ j9 _ _ rfl (.inr rfl) (by simp)
  |true=>have Q3:=Q2.step (oA s2);rw[if_pos rfl]at Q3;refine rdT s2 p2 hV.fin λp3=>?_;obtain⟨j3,hj3⟩:∃j,j2+1=j:=⟨_,rfl⟩;rw[hj3]at Q3 p3|-;simp;have Q3:=Q3.assoc;refine uG Q3 p3 (.mk func67 rfl) ((b4d hV j3 p3.2)) (b4f hV) λs j4 x4 Q4 p4=>?_;simp;have Q4:=Q4.step (kB);unfold zQ at Q4;refine eS Q4 p4 hV.fin λu8 j8 x8 Q8 p8=>?_;simp;refine uG Q8 p8 cW ((a4e hV hN j8 p8.2)) (b0Y hV) λe j9 x9 Q9 p9=>?_;simp;exact Q9.ok _ j9 _ _ rfl (.inr rfl) (by simp)
 |false=>
 have Q0:=Q0.rK (by rw[s1];decide);refine rdF s1 p0 ?_;simp;cases s2:aL l j0 [97,115,115,117,109,101]with
 |true=>have Q1:=Q0.sW s2;refine rdT s2 p0 hV.fin λp1=>?_;obtain⟨j1,tS⟩:∃j,j0+1=j:=⟨_,rfl⟩;rw[tS]at Q1 p1|-;simp;refine uG Q1 p1 (.mk func66 rfl) ((b1c hV 1 j1 p1.2)) ((aB.head hV.fin 1)) λd j2 x2 Q2 p2=>?_;simp;refine eS Q2 p2 hV.fin λu3 j3 x3 Q3 p3=>?_;simp;refine uG Q3 p3 (.mk func67 rfl) ((b4d hV j3 p3.2)) (b4f hV) λs j4 x4 Q4 p4=>?_;simp;exact Q4.ok _ j4 _ _ rfl (.inr rfl) (by simp)
 |false=>
 have Q0:=Q0.rK (by rw[s2];decide);refine rdF s2 p0 ?_;simp;cases s3:aL l j0 [114,101,102,108,101,99,116]with
 |true=>have Q1:=Q0.sW s3;refine rdT s3 p0 hV.fin λp1=>?_;obtain⟨j1,tS⟩:∃j,j0+1=j:=⟨_,rfl⟩;rw[tS]at Q1 p1|-;simp;refine uG Q1 p1 (.mk func66 rfl) ((b1c hV 2 j1 p1.2)) ((aB.head hV.fin 2)) λd j2 x2 Q2 p2=>?_;simp;refine eS Q2 p2 hV.fin λu3 j3 x3 Q3 p3=>?_;simp;refine uG Q3 p3 (.mk func67 rfl) ((b4d hV j3 p3.2)) (b4f hV) λs j4 x4 Q4 p4=>?_;simp;unfold zQ at Q4;refine eS Q4 p4 hV.fin λu8 j8 x8 Q8 p8=>?_;simp;refine uG Q8 p8 cW ((a4e hV hN j8 p8.2)) (b0Y hV) λe j9 x9 Q9 p9=>?_;simp;exact Q9.ok _ j9 _ _ rfl (.inr rfl) (by simp)
 |false=>
 have Q0:=Q0.rK (by rw[s3];decide);refine rdF s3 p0 ?_;simp;exact Q0.ok _ j0 _ _ rfl (.inr rfl) (by simp[qP,vZ,jZ,eE])
end
section
variable {rdP:List Tok->Nat->Nat->gO Pr} {l:List Tok} (hV:rR G rdP l)
include hV
def dfH(nm:Nm)(ps:D)(e:cP)(mode:Int)(ty:Bool)(g:a0i):List (Nat×bG):=[(3,.cells (.d (.str nm)::.d ps::((a0h e).map .d++ .d (.int .i64 mode)::.d (.bool ty)::(b2P g).map .d))),(2,.cells [.d (.str []),.d .aE,.d (.int .i64 0),.d (.str []),.d (.int .i64 0),.d .aE,.d .aE,.d .aE,.d .aE,.d (.int .i64 0),.d (.bool false),.d .aE,.d .aE,.d .aE,.d .aE,.d (.int .i64 0),.d (.str []),.d .aE,.d .aE,.d (.int .i64 0),.d (.str []),.d (.int .i64 0),.d .aE,.d .aE,.d .aE])]
variable{s s1:dB}
theorem d8U{m:Int}(hv:bY l s)(h:a1E l s=(m,s1)):bY l s1:=by
 unfold a1E at h;split at h
 .rename_i w;cases h;exact λ_=>(qW hV w).2
 .split at h
  .rename_i w;cases h;exact λ_=>(qW hV w).2
  .split at h
   .rename_i w;cases h;exact λ_=>(qW hV w).2
   .cases h;intro h1;unfold mF at h1|-;split at h1
    .cases h1
    .rename_i he;exact absurd h1 he
theorem e4r{g:a0i}(hv:bY l s)(h:a9W aH aZ rdP l s=(g,s1)):bY l s1:=(aF.sig hV.toRfH).next hv h
theorem c2x(hn:∀i, -9223372036854775807<=(aJ l i).n/\(aJ l i).n<=9223372036854775807)(s0:dB)(hv:bY l s0):eH G 34 [] l s0 (a1P aH aZ rdP l s0) (λd=>.d (.agg (b1b d))):=by
 have hl:=hV.len;have v0:=hv;refine eH.xA func34 rfl ntmps34 rfl ?_;intro Q Q0;unfold a1P at Q0;refine SW.gN (SW.xk ?_);simp;refine SW.gN (SW.xk ?_);simp;obtain⟨m,s1,h1⟩:∃m s1,a1E l s0=(m,s1):=⟨_,_,rfl⟩;have Q1:=Q0.step h1;have v1:=d8U hV v0 h1;refine SW.a7Q [] (dfH [] .aE qP m false vZ++rfH l s1) [] (SW.xk ?_) ?_
 .unfold a1E at h1;simp;refine cH cU (dR (by omega) [100,101,102] s0 v0) (λb x hx=>?_);rcases gX hV hx with⟨w,rfl,rfl,_⟩|⟨w,rfl,e1⟩
  .rw[if_pos w]at h1;cases h1;simp[dfH,qP,vZ,jZ,eE,strs]
  rw[if_neg (by rw[w];decide)]at h1;rw[e1];simp;refine cH cU (dR (by omega) [97,115,115,117,109,101] s0 v0) (λb x hx=>?_);rcases gX hV hx with⟨w,rfl,rfl,_⟩|⟨w,rfl,e1⟩
  .rw[if_pos w]at h1;cases h1;simp[dfH,qP,vZ,jZ,eE,strs]
  rw[if_neg (by rw[w];decide)]at h1;rw[e1];simp;refine cH cU (dR (by omega) [114,101,102,108,101,99,116] s0 v0) (λb x hx=>?_);rcases gX hV hx with⟨w,rfl,rfl,_⟩|⟨w,rfl,e1⟩
  .rw[if_pos w]at h1;cases h1;simp[dfH,qP,vZ,jZ,eE,strs]
  rw[if_neg (by rw[w];decide)]at h1;rw[e1];simp;refine cH yR (a3d (by omega) s0 v0) (λu x hx=>?_);cases h1;cases hx;simp[dfH,qP,vZ,jZ,eE,strs]
 simp;refine SW.gN (SW.xk ?_);simp[dfH];refine rfG Q1 v1 gK (jJ (by omega) s1 v1) (gW hV.fin) λnm s2 h2 Q2 p2 v2=>?_;simp;obtain⟨ps,s3,h3⟩:∃ps s3,b0Q aH l s2=(ps,s3):=⟨_,_,rfl⟩;have Q3:=Q2.step h3;have v3:bY l s3:=(aF.d8G hV.toRfH).next v2 h3;refine SW.a7Q [] (dfH nm (.sl (strs ps)) qP m false vZ++rfH l s3) [] (SW.xk ?_) ?_
 .unfold b0Q at h3;have g1:eH G 60 [.int .i64 1,.str [41]] l s2 _ _:=tI (by omega) 1 [41] s2 v2 (by omega);simp;refine cH cC (dT hV [40] s2 v2) (λb x hx=>?_);cases hx;rcases g3O (bZ l 0 [40] s2)with w|w
  .rw[w];simp;refine cH cC g1 (λb x hx=>?_);cases hx;rcases g3O (bZ l 1 [41] s2)with w1|w1
   .rw[if_pos (by rw[w,w1];rfl)]at h3;have hi:=(a2u hV.fin w).2;have hw:IntKind.i64.wrap ((s2.pl:Int)+2)=((s2.pl+2:Nat):Int):=by rw[wrap64 (by omega)];omega
    cases h3;rw[w1];simp[hw];simp[dfH,strs]
   .rw[if_neg (by rw[w,w1];decide),if_pos w]at h3;rw[w1];simp;refine cH cC (dT hV [40] s2 v2) (λb x hx=>?_);cases hx;rw[w];simp;refine cH (.mk func72 rfl) (a8i hV s2 v2) (λb x hx=>?_);cases hx.symm.trans h3;simp[dfH]
  .rw[if_neg (by rw[w,Bool.false_and];decide),if_neg (by rw[w];decide)]at h3;cases h3;rw[w];simp;refine cH cC (dT hV [40] s2 v2) (λb x hx=>?_);cases hx;rw[w];simp[dfH,strs]
 simp;obtain⟨c,hc⟩:∃c,(!decide (m=0)||bZ l 0 [58] s3)=c:=⟨_,rfl⟩;have Q4:=Q3.step (show uH (λs=> !decide (m=0)||bZ l 0 [58] s) s3=(c,s3) by rw[<-hc];rfl);obtain⟨g,s4,h4⟩:∃g s4,(if c=true then aK l [58] >>=λ_=>a9W aH aZ rdP l else pure vZ:RM a0i) s3=(g,s4):=⟨_,_,rfl⟩;have Q5:=Q4.step h4;have v4:bY l s4:=by
  cases c with
  |false=>cases h4;exact v3
  |true=>obtain⟨u,s5,h5⟩:∃u s5,aK l [58] s3=(u,s5):=⟨_,_,rfl⟩;rw[if_pos rfl,aQ,h5]at h4;exact e4r hV (bY.next (oH hV.fin v3 h5)) h4
 refine SW.a7Q [] (dfH nm (.sl (strs ps)) qP m c g++rfH l s4) [] (SW.xk ?_) ?_
 .by_cases hm:m=0
  .rcases g3O (bZ l 0 [58] s3)with w|w
   .have hc':c=true:=by rw[<-hc,w,Bool.or_true]
    subst hc';simp[dfH,hm];refine cH cC (dT hV [58] s3 v3) (λb x hx=>?_);cases hx;rw[w];simp;refine cH oR (qI (by omega) [58] s3 v3) (λu s5 h5=>?_);rw[if_pos rfl,aQ,h5]at h4;simp;refine cH (.mk func73 rfl) (c2w hV s5 (bY.next (oH hV.fin v3 h5))) (λg2 s6 h6=>?_);cases h6.symm.trans h4;simp[dfH]
   .have hc':c=false:=by rw[<-hc,w,hm];rfl
    subst hc';cases h4;simp[dfH,hm];refine cH cC (dT hV [58] s3 v3) (λb x hx=>?_);cases hx;rw[w];simp[dfH]
  .have hc':c=true:=by rw[<-hc];simp[hm]
   subst hc';simp[dfH,hm];refine cH oR (qI (by omega) [58] s3 v3) (λu s5 h5=>?_);rw[if_pos rfl,aQ,h5]at h4;simp;refine cH (.mk func73 rfl) (c2w hV s5 (bY.next (oH hV.fin v3 h5))) (λg2 s6 h6=>?_);cases h6.symm.trans h4;simp[dfH]
 simp;by_cases hm:m=1
 .refine SW.xk ?_;simp[dfH,hm];have Q6:=Q5.step (show(if m=1 then pure qP else aK l [61] >>=λ_=>a4C aH aZ rdP l:RM cP) s4=(qP,s4) by rw[if_pos hm];rfl);exact Q6.ok _ _ (.inr rfl) (by simp[hm])
 .refine SW.xk ?_;simp[dfH,hm];refine cH oR (qI (by omega) [61] s4 v4) (λu s5 h5=>?_);simp;refine cH jO (d1b hV hn s5 (bY.next (oH hV.fin v4 h5))) (λe s6 h6=>?_);have Q6:=Q5.step (show(if m=1 then pure qP else aK l [61] >>=λ_=>a4C aH aZ rdP l:RM cP) s4=(e,s6) by rw[if_neg hm,aQ,h5];exact h6);simp;exact Q6.ok _ _ (.inr rfl) (by simp)
theorem d4X{d:gB}(hv:bY l s)(h:a1P aH aZ rdP l s=(d,s1)):uI l 0 s s1:=(aF.f0n hV.toRfH (F:=λd=>pure d) (G:=λd=>pure d) (λd=>aF.bP d)).c7r hv (show(a1P aH aZ rdP l >>=λd=>pure d:RM gB) s=_ from h)
end
section
variable {rdP:List Tok->Nat->Nat->gO Pr} {l:List Tok} (hV:rR G rdP l)
include hV
abbrev e4s(rdP:List Tok->Nat->Nat->gO Pr)(l:List Tok)(out:List Nm×List Ty):RM (List Nm×List Ty):=do
 let w <- dY aH l
 aK l [58]
 let t <- sX aH aZ rdP l
 pure (out.1++[w],out.2++[t])
theorem b5z(s:dB)(hv:bY l s):eH G 107 [] l s (xN aH aZ rdP l s) (λp=>.cX [.sl (strs p.1),.sl (p.2.map tyC)]):=by
 have hl:=hV.len;refine eH.bO func107 rfl ntmps107 rfl ?_;intro Q Q0;simp;refine a1F hV.fin [44] (e4s rdP l) (λa=>a.2.length) (λa=>a.1.length<=a.2.length) 6 (λa=>[(4,.d (.sl (strs a.1))),(5,.d (.sl (a.2.map tyC)))]) (λ_ s=>rfH l s) (λ_=>[(9,[.t 4]),(54,[.t 5])]) (l.length+2) ([],[]) s (by omega) hv rfl (by simp) (by simp[strs]) ?_ ?_
 .rintro⟨ns,ts⟩ s0 e0 i0 bs la hJ R hR;simp only at la hJ;have v0:bY l s0:=λ_=>i0;simp[e0];refine rfL v0 gK (jJ (by omega) s0 v0) (gW hV.fin) λw s1 h1 p1 v1=>?_;simp;refine eF (by first|omega|(simp[strs];omega)|exact⟨λx hx=>by obtain⟨y,_,rfl⟩:=g3L.1 hx;first|rfl|(rw[strs];rfl),by omega⟩|exact⟨rfl,by omega⟩) ?_;simp;refine rfN [58] v1 hV.fin λu2 s2 h2 p2 v2=>?_;simp;refine rfL v2 qL (a0J hV s2 v2) (a2x hV) λt s3 h3 p3 v3=>?_;simp;refine eF (by first|omega|(simp[bW];omega)|exact⟨λx hx=>by obtain⟨y,_,rfl⟩:=g3L.1 hx;first|rfl|(rw[bW];rfl),by omega⟩|exact⟨rfl,by omega⟩) ?_;simp;have ho:e4s rdP l (ns,ts) s0=((ns++[w],ts++[t]),s3):=by
   show(dY aH l >>=λw=>aK l [58] >>=λ_=>sX aH aZ rdP l >>=λt=>pure (ns++[w],ts++[t])) s0=_
   rw[aQ,h1,aQ,h2,aQ,h3]
   rfl
  refine cH bS (cN (by omega) [44] s3 v3) (λbh sh hh=>?_);simp;refine hR _ (ns++[w],ts++[t]) s3 ho (by rw[hh];simp[strs,bW]) (λh=>?_) (by simp) (by simpa using hJ);have:=((p1.tr p2).tr p3) h;omega
 .rintro⟨ns,ts⟩ s1 m hm qZ la hJ v1 hy R;have hm':m=false\/(m=true/\ ¬s1.er=0):=by
   cases m
   .exact .inl rfl
   .rcases hm with h|h
    .cases h
    .exact .inr ⟨rfl,h⟩
  have Q1:=Q0.eq (show xN aH aZ rdP l s=((ns,ts),s1) from hy);rcases hm' with rfl|⟨rfl,h⟩
  .simp;exact Q1.ok _ _ (.inr rfl) (by simp)
  .simp[h];exact Q1.ok _ _ (.inr rfl) (by simp)
end
end
end Go.Proofs.YtmfbjecjccipfaaGreatDoor
section
namespace Go.VM
open Go Go.RowKit
section
variable {P:Program} {G:GT} {st:St} {base:dU} {R:Nat->Nat->Prop} {μ:Nat->Nat} {a:Act} {w:World}
def b2R(P:Program)(G:GT)(f:FuncId)(g3o:List DV)(ls:List (Option Loc))(dst:Option Tmp)(st:St)(K:St->Prop)(Q:Exit->St->Prop):Prop:=∃x0,tQ P G f g3o ls dst st K Q x0
variable{K:St->Prop}{Q:Exit->St->Prop}
theorem b2R.mk{f:FuncId}{g3o:List DV}{ls:List (Option Loc)}{dst:Option Tmp}{x0:Bool}(h:tQ P G f g3o ls dst st K Q x0):b2R P G f g3o ls dst st K Q:=⟨x0,h⟩
def a8r(P:Program)(G:GT)(all:Array Oper)(o:Oper)(st:St)(K:St->Prop)(Q:Exit->St->Prop):Prop:=
 match gC o all st.tmps with
 |some true=>
  match kY G o st with
  |some (f,ds)=>(∃r own,(Enters P f/\CS P G f ds r own)/\K (finish st o.dst r (a7n own)))\/∃s',(Enters P f/\pC P G f (ds.map .d) (oN o) st o.dst s')/\K s'
  |none=>
   match eB G o st with
   |some (f,g3o)=>b2R P G f g3o (oN o) o.dst st K Q
   |none=>
    match pH P G o st with
    |some out=>K (finish out.st o.dst out.v (b1I false all o out.v out.act))
    |none=>False
 |some false=>K (finish st o.dst (.cX []) .no)
 |none=>False
theorem c8b{all:Array Oper}{o:Oper}(h:a8r P G all o st K Q)(hr:Rel P G base R μ st a w){KK:Act->World->Prop}{QQ:Exit->Act->World->Prop}(hk:∀s v w' R' μ',K s->Rel P G base R' μ' s (a.put o.dst v) w'->Step base R w R' w'->KK (a.put o.dst v) w')(hq:∀c s w' R' μ',Q (.panic c) s->Rel P G base R' μ' s a w'->Step base R w R' w'->QQ (.panic c) a w'):if Region.wanted o (yielded all a.tmps) then o.wp P a w KK QQ\/(o.asks P a w/\LetsOut QQ) else KK (a.put o.dst Go.undef) w:=by
 have go:qO P G false all o K st->if Region.wanted o (yielded all a.tmps) then o.wp P a w KK QQ\/(o.asks P a w/\LetsOut QQ) else KK (a.put o.dst Go.undef) w:=λh1=>uL h1 hr hk;unfold a8r at h;split at h
 .rename_i hw;split at h
  .rename_i f ds hc;refine go ?_;unfold qO;rw[hw,hc];rcases h with⟨r,own,h1,h2⟩|⟨s',h1,h2⟩
   .exact .inl ⟨r,own,h1,λe=>Bool.noConfusion e,by simpa using h2⟩
   .exact .inr ⟨by simp[uK],s',h1,h2⟩
  .rename_i hc;split at h
   .rename_i f g3o hH;obtain⟨x0,h0⟩:=h;unfold tQ at h0;obtain⟨he,h1,h2⟩:=h0;cases x0 with
    |true=>obtain⟨s',h3,h4⟩:=h1 rfl;refine go ?_;unfold qO;rw[hw,hc,hH];simp only[uK,Bool.false_and,a3H,g3K,if_false];exact⟨s',⟨he,h3⟩,h4⟩
    |false=>obtain⟨v,h3,h4⟩:=h2 rfl;rw[a4U hr hw,if_pos rfl];exact .inl (b0M hH ⟨he,h3⟩ hr λR' w' hs hb=>hq _ _ w' R' μ h4 (hr.b2f hs hb) hs)
   .rename_i hH;split at h
    .rename_i out hv;refine go ?_;unfold qO;rw[hw,hc,hH,hv];exact h
    .exact h.elim
 .rename_i hw;refine go ?_;unfold qO;rw[hw];exact h
 .exact h.elim
inductive OT where
 |stop
 |none
 |op (i:Nat) (next more:OT)
def b2S(j:Nat):OT->Bool
 |.op i _ more=>i==j||b2S j more
 |_=>false
def okT(ops:Array Oper)(T:OT)(listed:Array Bool):Bool:=match T with
 |.stop=>Region.ready .any ops listed==[]
 |T=> !(Region.ready .any ops listed).isEmpty&&(Region.ready .any ops listed).all λj=>b2S j T
def a4g(ops:Array Oper):OT->Nat->Array Bool->Bool
 |.stop,_,_=>true
 |.none,_,_=>true
 |.op _ _ _,0,_=>false
 |.op i next more,n+1,listed=>okT ops next (listed.setIfInBounds i true)&&a4g ops next n (listed.setIfInBounds i true)&&a4g ops more (n+1) listed
def VT(P:Program)(G:GT)(ops:Array Oper)(Q:Exit->St->Prop):OT->St->Prop
 |.stop,st=>Q .normal st
 |.none,_=>True
 |.op i next more,st=>(match ops[i]? with
  |some o=>a8r P G ops o st (VT P G ops Q next) Q
  |none=>False)/\VT P G ops Q more st
theorem d8V{ops:Array Oper}{Q:Exit->St->Prop}{i n:Nat}{listed:Array Bool}:∀(T:OT),a4g ops T (n+1) listed=true->b2S i T=true->VT P G ops Q T st->∃next,okT ops next (listed.setIfInBounds i true)=true/\a4g ops next n (listed.setIfInBounds i true)=true/\∃o,ops[i]? =some o/\a8r P G ops o st (VT P G ops Q next) Q
 |.stop,_,h,_=>by simp[b2S]at h
 |.none,_,h,_=>by simp[b2S]at h
 |.op j next more,ht,ha,hv=>by
  simp only[a4g,g3q]at ht;simp only[b2S,g3C,beq_iff_eq]at ha;simp only[VT]at hv;rcases ha with rfl|ha
  .refine⟨next,ht.1.1,ht.1.2,?_⟩;have:=hv.1;split at this
   .rename_i o ho;exact⟨o,ho,this⟩
   .exact this.elim
  .exact d8V more ht.2 ha hv.2
theorem e7i{ops:Array Oper}{Q:Exit->St->Prop}:∀(n:Nat)(T:OT)(listed:Array Bool)(st:St),okT ops T listed=true->a4g ops T n listed=true->VT P G ops Q T st->∀(base:dU)(R:Nat->Nat->Prop)(μ:Nat->Nat)(a:Act)(w:World),Rel P G base R μ st a w->
  ∀QQ:Exit->Act->World->Prop,(∀e s a' w' R' μ',Q e s->Rel P G base R' μ' s a' w'->Step base R w R' w'->QQ e a' w')->wpAny P .any ops QQ n listed a w
 |0,T,listed,st,ho,ht,hv,base,R,μ,a,w,hr,QQ,hk=>by
  cases T with
  |stop=>exact⟨by simpa[okT]using ho,hk _ st a w R μ hv hr (.refl _ _ _)⟩
  |none=>simp only[okT,g3q,g3M,g3T,g3t]at ho;obtain⟨h1,h2⟩:=ho;obtain⟨x,hx⟩:=List.exists_mem_of_ne_nil _ h1;have:=h2 x hx;simp[b2S]at this
  |op i next more=>simp[a4g]at ht
 |n+1,T,listed,st,ho,ht,hv,base,R,μ,a,w,hr,QQ,hk=>by
  cases T with
  |stop=>
   have hrd:Region.ready .any ops listed=[]:=by simpa[okT]using ho
   refine⟨λ_=>hk _ st a w R μ hv hr (.refl _ _ _),λi hi=>?_⟩;rw[hrd]at hi;cases hi
  |none=>simp only[okT,g3q,g3M,g3T,g3t]at ho;obtain⟨h1,h2⟩:=ho;obtain⟨x,hx⟩:=List.exists_mem_of_ne_nil _ h1;have:=h2 x hx;simp[b2S]at this
  |op i0 f4k f4l=>simp only[okT,g3q,g3M,g3T,g3t]at ho;refine⟨λh=>(ho.1 h).elim,λi hi=>?_⟩;obtain⟨next,q1,q2,o,q3,q4⟩:=d8V _ ht (ho.2 i hi) hv;unfold wpOp;rw[q3];exact c8b q4 hr (λs v w' R' μ' p1 p2 p3=>e7i n next _ s q1 q2 p1 base R' μ' _ w' p2 QQ λe s a' w2 R2 μ2 k1 k2 k3=>hk e s a' w2 R2 μ2 k1 k2 (p3.trans k3)) λc s w' R' μ' p1 p2 p3=>hk _ s a w' R' μ' p1 p2 p3
theorem c2y{id:Nat}{ops:Array Oper}(T:OT)(hm:P.follows .mixedOrders=true)(hB:(okT ops T (Array.replicate ops.size false)&&a4g ops T ops.size (Array.replicate ops.size false))=true)(h:VT P G ops Q T st):SW P G (.region id ops true) st Q:=by rw[g3q]at hB;intro base R μ a w hr;obtain⟨jG,tL⟩:=hr.drew;exact wp_region_any hm (e7i ops.size T _ st hB.1 hB.2 h base R μ a w.drew jG _ λe s a' w' R' μ' q1 q2 q3=>⟨s,R',μ',q1,q2,tL.trans q3⟩)
attribute [simp] VT a8r
end
attribute [irreducible] b2R
end Go.VM
end
namespace Go.Proofs.YtmfbjecjccipfaaGreatDoor
section
open Go Go.VM
variable {G:GT}
abbrev c8d(x:a7G):List D:=.str x.cls::(tyD x.type++[.sl (x.wN.map dP),.sl (x.defs.map a2X)])
theorem b8X(x:a7G):a2Y x=c8d x:=by
 rw[a2Y,bW]
 rfl
section
variable {rdP:List Tok->Nat->Nat->gO Pr} {l:List Tok} (hV:rQ G rdP l) (hN:∀i, -9223372036854775807<=(aJ l i).n/\(aJ l i).n<=9223372036854775807)
include hV
def clX(nm v:Nm)(out:List (Nm×Ty)):List (Nat×bG):=[(100001,.cells [.ptr 100000 0]),(100002,.cells [.d (.str nm),.d (.str v),.d (.sl (out.map a0y))])]
abbrev clO:List (TypeId×List VM.Loc):=[(131,[.c 100002 2])]
abbrev clM(rdP:List Tok->Nat->Nat->gO Pr)(l:List Tok)(out:List (Nm×Ty)):bF (List (Nm×Ty)):=do
 let w <- bV aH l
 aR l [[58]]
 let t <- mD aH aZ rdP l
 pure (out++[(w,t)])
theorem e4t(nm v:Nm):a3e l K3 [.ptr 100001 0,.ptr 100002 0] (clX nm v) clO:=by
 constructor
 all_goals intros
 all_goals first
  |rfl
  |simp[clX,aW,bB,bD,bC,bK,getKey,bA,bI,dC,rk,dL,bX, *]
theorem d2H(out:List (Nm×Ty)):aB l 1 (clM rdP l out):=(aB.word hV.fin).bl λ_=>(aB.exp hV.fin _ _).bz λ_=>(mK hV).bz λ_=>aB.bP _
theorem d8W(a:List (Nm×Ty))(i:Nat)(b:List (Nm×Ty))(j:Nat)(hi:i<l.length)(h:a.length<=i)(hx:clM rdP l a i=.ok b j):b.length<=j:=by have h1:=d2H hV a i b j hi hx;obtain⟨_,_,_,hx⟩:=dF hx;obtain⟨_,_,_,hx⟩:=dF hx;obtain⟨_,_,_,hx⟩:=dF hx;cases hx;simp;omega
theorem d4Y(nm v:Nm)(out:List (Nm×Ty))(j0:Nat)(hi:j0<l.length)(vT:out.length<=j0):qA G 96 [.ptr 100001 0,.ptr 100002 0] (clX nm v out) clO l j0 (clM rdP l out j0) (λ_=>.cX []) (clX nm v):=by
 have hl:=hV.len;have p0:=gT hi;refine qA.bO func96 rfl ntmps96 rfl (by simp) ?_;intro Q Q0;simp[clX];refine uG Q0 p0 dS (eN hV.kw l j0 p0.2 (by omega)) (aB.word hV.fin) λw j1 x1 Q1 p1=>?_;simp;refine eS Q1 p1 hV.fin λu2 j2 x2 Q2 p2=>?_;simp;refine dK [0,2] 4 [3] (.op 1 (.call [5,6,7,8,9] .none) (.call [1,5,6,7,8,9] .none)) (kZ (mD aH aZ rdP l j2)) (by kernel_rfl) (by kernel_rfl) ?_;simp;refine⟨?_,?_⟩
 all_goals
  refine rX Q2 p2 dO ((qM hV j2 p2.2)) (mK hV) λt j3 x3 Q3 p3=>cG.mk ?_;simp;refine bQ ⟨rfl,g3t.2 λc hc=>?_,?_⟩ ?_
  .obtain⟨y,_,rfl⟩:=g3L.1 hc;rw[zW]
   rfl
  .have hb:prog.bytesOf 131<=1000:=by decide
   rw[List.length_map]
   calc (out.length+1)*(prog.bytesOf 131+1)<=50001*1001:=Nat.mul_le_mul (by omega) (by omega)
    _<=140737488355328:=by decide
  simp;exact Q3.ok _ j3 .normal _ rfl (.inl rfl) (by simp[clX,zW])
def clT:OT:=(.op 0 (.op 1 (.op 2 (.op 3 (.op 4 (.op 5 (.op 6 .stop .none) .none) (.op 5 (.op 4 (.op 6 .stop .none) .none) .none)) (.op 5 (.op 3 (.op 4 (.op 6 .stop .none) .none) .none) .none)) (.op 5 (.op 2 (.op 3 (.op 4 (.op 6 .stop .none) .none) .none) .none) .none)) (.op 2 (.op 1 (.op 3 (.op 4 (.op 5 (.op 6 .stop .none) .none) (.op 5 (.op 4 (.op 6 .stop .none) .none) .none)) (.op 5 (.op 3 (.op 4 (.op 6 .stop .none) .none) .none) .none)) (.op 5 (.op 1 (.op 3 (.op 4 (.op 6 .stop .none) .none) .none) .none) .none)) (.op 5 (.op 1 (.op 2 (.op 3 (.op 4 (.op 6 .stop .none) .none) .none) .none) (.op 2 (.op 1 (.op 3 (.op 4 (.op 6 .stop .none) .none) .none) .none) .none)) .none))) (.op 2 (.op 0 (.op 1 (.op 3 (.op 4 (.op 5 (.op 6 .stop .none) .none) (.op 5 (.op 4 (.op 6 .stop .none) .none) .none)) (.op 5 (.op 3 (.op 4 (.op 6 .stop .none) .none) .none) .none)) (.op 5 (.op 1 (.op 3 (.op 4 (.op 6 .stop .none) .none) .none) .none) .none)) (.op 5 (.op 0 (.op 1 (.op 3 (.op 4 (.op 6 .stop .none) .none) .none) .none) .none) .none)) (.op 5 (.op 0 (.op 1 (.op 2 (.op 3 (.op 4 (.op 6 .stop .none) .none) .none) .none) (.op 2 (.op 1 (.op 3 (.op 4 (.op 6 .stop .none) .none) .none) .none) .none)) (.op 2 (.op 0 (.op 1 (.op 3 (.op 4 (.op 6 .stop .none) .none) .none) .none) .none) .none)) .none)))
abbrev f4m(l:List Tok):bF (Nm×Nm):=do
 let nm <- mC l
 let v <- bV aH l
 pure (nm,v)
theorem c8e(j0:Nat)(hi:j0<l.length):tR G 48 [] l j0 (wA aH aZ rdP l j0) (λx=>.d (.agg (a0k x))):=by
 have hl:=hV.len;have p0:=gT hi;refine qA.xA func48 rfl ntmps48 rfl (by simp) ?_;intro Q Q0;unfold wA at Q0;refine SW.gN (SW.xk ?_);simp;refine SW.c7Y (f4m l j0) (λx j=>⟨.ptr 100000 0::.ptr 1 0::.ptr 2 0::.ptr 3 0::List.replicate 12 .undef,[(1,.cells [.ptr 100000 0]),(2,.cells [.d (.str []),.d (.str []),.d .aE]),(3,.cells [.d (.str x.1),.d (.str x.2),.d .aE]),(100000,rdO l j)],[]⟩) ?_ λx j2 hx=>?_
 .refine c2y clT (by kernel_rfl) (by kernel_rfl) ?_;simp[clT]
  repeat' apply And.intro
  all_goals
   refine b2R.mk (rdZ (ds:=[]) mE (oS l j0 p0.2) (λnm j1 x1=>?_) (λn e hx=>Q0.fail hx _));have Q1:=Q0.step x1;have p1:=aB.title hV.fin j0 nm j1 p0.2 x1;simp
   repeat' apply And.intro
   all_goals
    refine b2R.mk (rdZ (ds:=[]) dS (eN hV.kw l j1 p1.2 (by omega)) (λv j2 x2=>?_) (λn e hx=>Q1.fail hx _));have hr:f4m l j0=.ok (nm,v) j2:=(bU x1).trans ((bU x2).trans rfl);simp
    repeat' apply And.intro
    all_goals exact⟨nm,v,j2,hr,by simp⟩
 obtain⟨nm,v⟩:=x;obtain⟨nm',j1,x1,hx⟩:=dF hx;obtain⟨v',j2',x2,hx⟩:=dF hx;cases hx;have Q2:=(Q0.step x1).step x2;have p1:=aB.title hV.fin j0 nm j1 p0.2 x1;have p2:=aB.word (kw:=aH) hV.fin j1 v j2 p1.2 x2;refine SW.xk ?_;simp[List.replicate];refine eS Q2 p2 hV.fin λu3 j3 x3 Q3 p3=>?_;simp;have kR:=jK hV [44] (clM rdP l) (λout i=>out.length<=i) 0 (.mk func96 rfl) (e4t hV nm v) (λa=>(d2H hV a).le (by omega)) (λa i qZ hi h=>d4Y hV nm v a i hi h) (d8W hV) (λa i h=>by omega) [] j3 (by omega) p3.2 (by simp);refine dX.mk (a2e eT kR [(100000,100000),(100001,1),(100002,3)] (λa j hx=>?_) ?_ ?_ ?_ rfl rfl (λms j4 x4=>?_) (λn e hx2=>Q3.fail hx2 _))
 .simp[clX,aW,bB,bD,bC,bK,getKey]
 .simp[clX,aW,bB,bD,bC,bK,getKey]
 .simp[bA,bI,rk]
 .simp[clX,bA,bI,rk,dC,dL]
 .have Q4:=Q3.step x4;simp[bJ,clX,bA,bI,rk,dC,dL,bX,kI,jA,eI];exact Q4.ok _ j4 _ _ rfl (.inr rfl) (by simp[a0k])
include hN
abbrev c0R(rdP:List Tok->Nat->Nat->gO Pr)(l:List Tok)(out:List gB):bF (List gB):=do
 let d <- xD aH aZ rdP l
 aR l [[59]]
 pure (out++[d.getD b6f])
omit hN in
theorem a9o:aB l 0 (xD aH aZ rdP l):=aB.c0o hV.fin hV.mZ
theorem b8Y(j0:Nat)(hi:j0<l.length):tR G 49 [] l j0 (a1A aH aZ rdP l j0) (λx=>.d (.agg (c8d x))):=by
 have hl:=hV.len;have p0:=gT hi;refine qA.bO func49 rfl ntmps49 rfl (by simp) ?_;intro Q Q0;unfold a1A at Q0;simp;refine uG Q0 p0 mE (oS l j0 p0.2) (aB.title hV.fin) λc j1 x1 Q1 p1=>?_;simp;refine uG Q1 p1 (.mk func97 rfl) ((c4e hV j1 p1.2)) ((aB.a2W hV.fin ((mK hV).le (by omega)) hV.mZ.pred)) λt j2 x2 Q2 p2=>?_;simp;cases hs:aL l j2 [119,104,101,114,101]with
 |false=>
  have Q3:=Q2.step (oB hs);rw[if_neg (by decide)]at Q3;have Q2:=Q3.step (kB);refine rdF hs p2 ?_;simp;refine eS Q2 p2 hV.fin λu5 j5 x5 Q5 p5=>?_;simp;refine SW.sV (ι:={x:List gB×Nat×Nat//j5<=x.2.1/\x.2.1<l.length/\l.length<x.2.2+x.2.1/\x.1.length<=x.2.1/\gE (λi=>aL l i [100,101,102]) (c0R rdP l) x.2.2 x.1 x.2.1=rJ l (λi=>aL l i [100,101,102]) (c0R rdP l) [] j5}) (λ_=>[]) (λx=>[(2,.cells (.d (.str [])::((tyD jZ).map .d++[.d .aE,.d .aE]))),(3,.cells (.d (.str c)::((tyD t).map .d++[.d (.sl (List.map dP [])),.d (.sl (x.1.1.map a2X))]))),(100000,rdO l x.1.2.1)]) (λ_=>[(58,[.c 3 11])]) (λx=>l.length-x.1.2.1) ⟨([],j5,l.length+2),g3G _,p5.2,by simp only;omega,by simp,rfl⟩ (by simp[jZ,eE]) ?_;rintro⟨⟨out,j6,g⟩,hb,hj6,hg,ho,hp⟩;simp only at hb hj6 hg ho hp;obtain⟨g,rfl⟩:∃k,g=k+1:=⟨g-1,by omega⟩;have p6:j5<=j6/\j6<l.length:=⟨hb,hj6⟩;have hbb:=mY (G:=G) l j6 [100,101,102] p6.2;simp;refine qB (i:=j6) (ds:=[.str [100,101,102]]) jR hbb ?_;cases hc:aL l j6 [100,101,102]with
  |true=>have E0:a3l Q (gE (λi=>aL l i [100,101,102]) (c0R rdP l) (g+1) out j6) (gE (λi=>aL l i [100,101,102]) (c0R rdP l) (g+1) out j6):=⟨rfl,λn e s h=>Q5.fail (hp.symm.trans h) s⟩;simp;refine rdX (i:=j6) (ds:=[]) a6h (a9n hV hN j6 hj6) (λd j7 x7=>?_) (λn e hx=>by simp;exact Q5.fail (hp.symm.trans (uB hV hc (kT hx))) _);have p7:=a9o hV j6 d j7 hj6 x7;simp;refine rdX (hw:=by simp[strs]) (ds:=[.sl (strs [[59]])]) oK (pV l [[59]] j7 p7.2 (by omega) hV.fin) (λu j8 x8=>?_) (λn e hx=>by simp;exact Q5.fail (hp.symm.trans (uB hV hc ((bU x7).trans (kT hx)))) _);have p8:=aB.exp hV.fin _ _ j7 u j8 p7.2 x8;have h1:c0R rdP l out j6=.ok (out++[d.getD b6f]) j8:=(bU x7).trans ((bU x8).trans rfl);rw[a0G hV hc h1]at hp;generalize d.getD b6f=D0 at hp|-;simp;refine eF (by first|omega|exact⟨λx _=>by rw[a0V];rfl,by omega⟩) ?_;simp;exact bE.mk ⟨(out++[D0],j8,g),by simp only;omega,p8.2,by simp only;omega,by simp;omega,hp⟩ (by simp[a0V]) (by simp;omega)
  |false=>rw[a0H hV hc]at hp;have Q6:=Q5.step hp.symm;simp;refine eS Q6 p6 hV.fin λu7 j7 x7 Q7 p7=>?_;simp;exact Q7.ok _ j7 _ _ rfl (.inr rfl) (by simp)
 |true=>
  have Q3:=Q2.step (oA hs);rw[if_pos rfl]at Q3;refine rdT hs p2 hV.fin λp3=>?_;obtain⟨j3,hj3⟩:∃j,j2+1=j:=⟨_,rfl⟩;rw[hj3]at Q3 p3|-;simp;refine uG Q3 p3 (.mk func98 rfl) ((b5x hV j3 p3.2)) ((a8p hV)) λns j4 x4 Q4 p4=>?_;simp;refine eS Q4 p4 hV.fin λu5 j5 x5 Q5 p5=>?_;simp;refine SW.sV (ι:={x:List gB×Nat×Nat//j5<=x.2.1/\x.2.1<l.length/\l.length<x.2.2+x.2.1/\x.1.length<=x.2.1/\gE (λi=>aL l i [100,101,102]) (c0R rdP l) x.2.2 x.1 x.2.1=rJ l (λi=>aL l i [100,101,102]) (c0R rdP l) [] j5}) (λ_=>[]) (λx=>[(2,.cells (.d (.str [])::((tyD jZ).map .d++[.d .aE,.d .aE]))),(3,.cells (.d (.str c)::((tyD t).map .d++[.d (.sl (List.map dP ns)),.d (.sl (x.1.1.map a2X))]))),(100000,rdO l x.1.2.1)]) (λ_=>[(58,[.c 3 11])]) (λx=>l.length-x.1.2.1) ⟨([],j5,l.length+2),g3G _,p5.2,by simp only;omega,by simp,rfl⟩ (by simp[jZ,eE]) ?_;rintro⟨⟨out,j6,g⟩,hb,hj6,hg,ho,hp⟩;simp only at hb hj6 hg ho hp;obtain⟨g,rfl⟩:∃k,g=k+1:=⟨g-1,by omega⟩;have p6:j5<=j6/\j6<l.length:=⟨hb,hj6⟩;have hbb:=mY (G:=G) l j6 [100,101,102] p6.2;simp;refine qB (i:=j6) (ds:=[.str [100,101,102]]) jR hbb ?_;cases hc:aL l j6 [100,101,102]with
  |true=>have E0:a3l Q (gE (λi=>aL l i [100,101,102]) (c0R rdP l) (g+1) out j6) (gE (λi=>aL l i [100,101,102]) (c0R rdP l) (g+1) out j6):=⟨rfl,λn e s h=>Q5.fail (hp.symm.trans h) s⟩;simp;refine rdX (i:=j6) (ds:=[]) a6h (a9n hV hN j6 hj6) (λd j7 x7=>?_) (λn e hx=>by simp;exact Q5.fail (hp.symm.trans (uB hV hc (kT hx))) _);have p7:=a9o hV j6 d j7 hj6 x7;simp;refine rdX (hw:=by simp[strs]) (ds:=[.sl (strs [[59]])]) oK (pV l [[59]] j7 p7.2 (by omega) hV.fin) (λu j8 x8=>?_) (λn e hx=>by simp;exact Q5.fail (hp.symm.trans (uB hV hc ((bU x7).trans (kT hx)))) _);have p8:=aB.exp hV.fin _ _ j7 u j8 p7.2 x8;have h1:c0R rdP l out j6=.ok (out++[d.getD b6f]) j8:=(bU x7).trans ((bU x8).trans rfl);rw[a0G hV hc h1]at hp;generalize d.getD b6f=D0 at hp|-;simp;refine eF (by first|omega|exact⟨λx _=>by rw[a0V];rfl,by omega⟩) ?_;simp;exact bE.mk ⟨(out++[D0],j8,g),by simp only;omega,p8.2,by simp only;omega,by simp;omega,hp⟩ (by simp[a0V]) (by simp;omega)
  |false=>rw[a0H hV hc]at hp;have Q6:=Q5.step hp.symm;simp;refine eS Q6 p6 hV.fin λu7 j7 x7 Q7 p7=>?_;simp;exact Q7.ok _ j7 _ _ rfl (.inr rfl) (by simp)
end
abbrev a1L:=Nm×List Nm×Pr
abbrev b9b(c:a1L):List D:=.str c.1::.sl (strs c.2.1)::qF c.2.2
theorem c8g(c:a1L):b9b c=.str c.1::.sl (strs c.2.1)::prD c.2.2:=by rw[b9b,dE]
abbrev c8h(x:a7H):List D:=.str x.name::.str x.data::.str x.result::.sl (x.cases.map b9b)::prD x.inv
theorem b9c(x:a7H):a1O x=c8h x:=by
 rw[a1O,dE]
 rfl
abbrev c8i(q:a7I):List D:=.str q.name::.sl (q.vars.map dP)::prD q.body
theorem b9d(q:a7I):a2Z q=c8i q:=by
 rw[a2Z,dE]
 rfl
section
variable {rdP:List Tok->Nat->Nat->gO Pr} {l:List Tok} (hV:rQ G rdP l)
include hV
def b9e(nm dn sn:Nm)(out:List a1L):List (Nat×bG):=[(100001,.cells [.ptr 100000 0]),(100002,.cells [.d (.str nm),.d (.str dn),.d (.str sn),.d (.sl (out.map b9b)),.d (.int .i64 0),.d (.str []),.d (.int .i64 0),.d (.sl [])])]
abbrev f4n:List (TypeId×List VM.Loc):=[(136,[.c 100002 3])]
abbrev e4v(rdP:List Tok->Nat->Nat->gO Pr)(l:List Tok)(out:List a1L):bF (List a1L):=do
 let c <- mC l
 let ns <- (λi=>if aL l i [40] then jD aH l i else .ok [] i:bF (List Nm))
 aR l [[61]]
 let p <- pE rdP l
 pure (out++[(c,ns,p)])
theorem d8X(nm dn sn:Nm):a3e l K3 [.ptr 100001 0,.ptr 100002 0] (b9e nm dn sn) f4n:=by
 constructor
 all_goals intros
 all_goals first
  |rfl
  |simp[b9e,aW,bB,bD,bC,bK,getKey,bA,bI,dC,rk,dL,bX, *]
theorem b9f(out:List a1L):aB l 1 (e4v rdP l out):=by
 refine(aB.title hV.fin).bl λ_=>aB.bl (λi b j hi h=>?_) λ_=>(aB.exp hV.fin _ _).bz λ_=>hV.mZ.pred.bl λ_=>aB.bP _;split at h
 .exact((aB.words hV.fin).le (by omega)) _ _ _ hi h
 .cases h;omega
theorem d4Z(a:List a1L)(i:Nat)(b:List a1L)(j:Nat)(hi:i<l.length)(h:a.length<=i)(hx:e4v rdP l a i=.ok b j):b.length<=j:=by have h1:=b9f hV a i b j hi hx;obtain⟨_,_,_,hx⟩:=dF hx;obtain⟨_,_,_,hx⟩:=dF hx;obtain⟨_,_,_,hx⟩:=dF hx;obtain⟨_,_,_,hx⟩:=dF hx;cases hx;simp;omega
theorem d1f(nm dn sn:Nm)(out:List a1L)(j0:Nat)(hi:j0<l.length)(vT:out.length<=j0):qA G 100 [.ptr 100001 0,.ptr 100002 0] (b9e nm dn sn out) f4n l j0 (e4v rdP l out j0) (λ_=>.cX []) (b9e nm dn sn):=by
 have hl:=hV.len;have p0:=gT hi;refine qA.bO func100 rfl ntmps100 rfl (by simp) ?_;intro Q Q0;simp[b9e];refine uG Q0 p0 mE (oS l j0 p0.2) (aB.title hV.fin) λc j1 x1 Q1 p1=>?_;simp;have hb:=mY (G:=G) l j1 [40] p1.2;refine qB (ds:=[.str [40]]) jR hb ?_;cases hs:aL l j1 [40]with
 |false=>have Q1:=Q1.step (a:=[]) (j:=j1) (by simp[hs]);simp;refine eS Q1 p1 hV.fin λu4 j4 x4 Q4 p4=>?_;simp;refine uG Q4 p4 sY (vL hV j4 p4.2) (hV.mZ.pred) λp j5 x5 Q5 p5=>?_;simp;refine eF (by first|omega|exact⟨λx _=>by rw[dE];rfl,by omega⟩) ?_;simp;exact Q5.ok _ j5 .normal _ rfl (.inl rfl) (by simp[b9e,dE,a0A])
 |true=>
  have e1:(λi=>if aL l i [40] then jD aH l i else .ok [] i:bF (List Nm)) j1=jD aH l j1:=by simp[hs]
  simp;refine rdX (.mk func101 rfl) (a8b hV j1 p1.2) (λns j3 x3=>?_) (λn e hx=>by first|exact Q1.fail (e1.trans hx) _|(simp;exact Q1.fail (e1.trans hx) _)|(simp;exact λs=>Q1.fail (e1.trans hx) s));have Q3:=Q1.step (e1.trans x3);have p3:=aB.words hV.fin j1 ns j3 p1.2 x3;simp;refine eS Q3 p3 hV.fin λu4 j4 x4 Q4 p4=>?_;simp;refine uG Q4 p4 sY (vL hV j4 p4.2) (hV.mZ.pred) λp j5 x5 Q5 p5=>?_;simp;refine eF (by first|omega|exact⟨λx _=>by rw[dE];rfl,by omega⟩) ?_;simp;exact Q5.ok _ j5 .normal _ rfl (.inl rfl) (by simp[b9e,dE,a0A])
theorem c0S(j0:Nat)(hi:j0<l.length):tR G 50 [] l j0 (a1B aH rdP l j0) (λx=>.d (.agg (c8h x))):=by
 have hl:=hV.len;have p0:=gT hi;refine qA.bO func50 rfl ntmps50 rfl (by simp) ?_;intro Q Q0;unfold a1B at Q0;simp;refine uG Q0 p0 dS (eN hV.kw l j0 p0.2 (by omega)) (aB.word hV.fin) λnm j1 x1 Q1 p1=>?_;simp;refine eS Q1 p1 hV.fin λu2 j2 x2 Q2 p2=>?_;simp;refine uG Q2 p2 mE (oS l j2 p2.2) (aB.title hV.fin) λdn j3 x3 Q3 p3=>?_;simp;refine eS Q3 p3 hV.fin λu4 j4 x4 Q4 p4=>?_;simp;refine uG Q4 p4 a3Y (a5X hV.kw l j4 p4.2 (by omega)) (aB.sort hV.fin) λsn j5 x5 Q5 p5=>?_;simp;refine eS Q5 p5 hV.fin λu6 j6 x6 Q6 p6=>?_;simp;have kR:=jK hV [59] (e4v rdP l) (λout i=>out.length<=i) 0 (.mk func100 rfl) (d8X hV nm dn sn) (λa=>(b9f hV a).le (by omega)) (λa i qZ hi h=>d1f hV nm dn sn a i hi h) (d4Z hV) (λa i h=>by omega) [] j6 (by omega) p6.2 (by simp);refine dX.mk (a2e eT kR [(100000,100000),(100001,1),(100002,3)] (λa j hx=>?_) ?_ ?_ ?_ rfl rfl (λcs j7 x7=>?_) (λn e hx2=>Q6.fail hx2 _))
 .simp[b9e,aW,bB,bD,bC,bK,getKey]
 .simp[b9e,aW,bB,bD,bC,bK,getKey]
 .simp[bA,bI,rk]
 .simp[b9e,bA,bI,rk,dC,dL]
 .have Q7:=Q6.step x7;have p7:=aB.list hV.fin (λa=>b9f hV a) [] j6 cs j7 p6.2 x7;simp[bJ,b9e,bA,bI,rk,dC,dL,bX,kI,jA,eI];refine eS Q7 p7 hV.fin λu8 j8 x8 Q8 p8=>?_;simp;cases hs:aL l j8 [105,110,118,97,114,105,97,110,116]with
  |false=>have Q9:=Q8.step (oB hs);rw[if_neg (by decide)]at Q9;have Q9:=Q9.step (kB);refine rdF hs p8 ?_;simp;exact Q9.ok _ j8 _ _ rfl (.inr rfl) (by simp[eE])
  |true=>have Q9:=Q8.step (oA hs);rw[if_pos rfl]at Q9;refine rdT hs p8 hV.fin λp9=>?_;obtain⟨j9,hj9⟩:∃j,j8+1=j:=⟨_,rfl⟩;rw[hj9]at Q9 p9|-;simp;refine uG Q9 p9 sY (vL hV j9 p9.2) (hV.mZ.pred) λp j10 x10 Q10 p10=>?_;simp;exact Q10.ok _ j10 _ _ rfl (.inr rfl) (by simp)
theorem d1g(j0:Nat)(hi:j0<l.length):tR G 51 [] l j0 (a1C aH rdP l j0) (λx=>.d (.agg (c8i x))):=by have hl:=hV.len;have p0:=gT hi;refine qA.bO func51 rfl ntmps51 rfl (by simp) ?_;intro Q Q0;unfold a1C at Q0;simp;refine uG Q0 p0 dS (eN hV.kw l j0 p0.2 (by omega)) (aB.word hV.fin) λnm j1 x1 Q1 p1=>?_;simp;refine eS Q1 p1 hV.fin λu2 j2 x2 Q2 p2=>?_;simp;refine uG Q2 p2 a4a ((a5Z hV true j2 p2.2)) ((aB.vars hV.fin true)) λvs j3 x3 Q3 p3=>?_;simp;refine eS Q3 p3 hV.fin λu4 j4 x4 Q4 p4=>?_;simp;refine uG Q4 p4 sY (vL hV j4 p4.2) (hV.mZ.pred) λp j5 x5 Q5 p5=>?_;simp;exact Q5.ok _ j5 _ _ rfl (.inr rfl) (by simp)
theorem c2z(j0:Nat)(hi:j0<l.length):tR G 46 [] l j0 (a5a l j0) (λ_=>.cX []):=by
 have hl:=hV.len;have p0:=gT hi;have ht:=dM (G:=G) l j0 j0 0;refine qA.bO func46 rfl ntmps46 rfl (by simp) ?_;intro Q Q0;unfold a5a at Q0;simp;refine qB (ds:=[.int .i64 0]) cJ ht ?_;by_cases hk:(aJ l j0).kind=0
 .have Q0:=Q0.sW hk;simp[bL,hk];exact Q0.ok _ j0 _ _ rfl (.inl rfl) (by simp)
 .have Q0:=Q0.rK hk;simp[bL,hk];refine rdX (ds:=[]) yQ (a0B (α:=Unit) l j0 p0.2 (by omega) λ_=>.cX []) (λa j hx=>by unfold eV at hx;cases hx) (λn e hx=>Q0.bad n e _ hx)
end
section
variable {rdP:List Tok->Nat->Nat->gO Pr} {l:List Tok} (hV:rQ G rdP l)
include hV
def c0T(nm:Nm)(out:List Nm×List Ty):List (Nat×bG):=[(100001,.cells [.d (.str nm),.d (.sl (strs out.1)),.d (.sl (out.2.map tyC))]),(100002,.cells [.ptr 100000 0])]
abbrev f4o:List (TypeId×List VM.Loc):=[(9,[.c 100001 1]),(54,[.c 100001 2])]
abbrev e4w(rdP:List Tok->Nat->Nat->gO Pr)(l:List Tok)(out:List Nm×List Ty):bF (List Nm×List Ty):=do
 let w <- bV aH l
 aR l [[58]]
 let t <- mD aH aZ rdP l
 pure (out.1++[w],out.2++[t])
theorem d8Y(nm:Nm):a3e l K3 [.ptr 100001 0,.ptr 100002 0] (c0T nm) f4o:=by
 constructor
 all_goals intros
 all_goals first
  |rfl
  |simp[c0T,aW,bB,bD,bC,bK,getKey,bA,bI,dC,rk,dL,bX, *]
theorem b9g(out:List Nm×List Ty):aB l 1 (e4w rdP l out):=(aB.word hV.fin).bl λ_=>(aB.exp hV.fin _ _).bz λ_=>(mK hV).bz λ_=>aB.bP _
theorem d5a(a:List Nm×List Ty)(i:Nat)(b:List Nm×List Ty)(j:Nat)(hi:i<l.length)(h:a.1.length<=i/\a.2.length<=i)(hx:e4w rdP l a i=.ok b j):b.1.length<=j/\b.2.length<=j:=by have h1:=b9g hV a i b j hi hx;have h2:=c2k a i b j hx;omega
theorem d1h(nm:Nm)(out:List Nm×List Ty)(j0:Nat)(hi:j0<l.length)(vT:out.1.length<=j0/\out.2.length<=j0):qA G 95 [.ptr 100001 0,.ptr 100002 0] (c0T nm out) f4o l j0 (e4w rdP l out j0) (λ_=>.cX []) (c0T nm):=by
 have hl:=hV.len;have p0:=gT hi;refine qA.bO func95 rfl ntmps95 rfl (by simp) ?_;intro Q Q0;simp[c0T];refine dK [0] 3 [2] (.op 1 (.call [4,5,6,7] .none) (.call [1,4,5,6,7] .none)) (kZ (bV aH l j0)) (by kernel_rfl) (by kernel_rfl) ?_;simp;refine⟨?_,?_⟩
 all_goals
  refine rX Q0 p0 dS (eN hV.kw l j0 p0.2 (by omega)) (aB.word hV.fin) λw j1 x1 Q1 p1=>cG.mk ?_;simp;refine bQ (by omega) ?_;simp;refine eS Q1 p1 hV.fin λu2 j2 x2 Q2 p2=>?_;simp;refine eW 6 (t:=41) (e:=54) (T:=128) (s:=13) (z:=17) (r:=18) (p:=19) (q:=16) (x:=15) (b:=20) (y:=0) (fd:=2) [0] 3 [2] (a6V 1 4 5) (kZ (mD aH aZ rdP l j2)) rfl rfl rfl rfl rfl (by kernel_rfl) (by kernel_rfl) rfl ?_;simp
  repeat' apply And.intro
  all_goals
   refine rX Q2 p2 dO ((qM hV j2 p2.2)) (mK hV) λt j3 x3 Q3 p3=>cG.mk ?_;simp;refine⟨_,_,_,_,_,_,_,_,_,by simp,rfl,rfl,?_,rfl,rfl,?_,by simp,rfl,rfl,rfl,rfl,by decide,rfl,?_⟩
   .intro c hc
    first
     |(obtain⟨y,_,rfl⟩:=g3L.1 hc
       rw[bW]
       rfl)
     |(simp only[g3x]at hc
       subst hc
       rfl)
   .simp<;>omega
   exact Q3.ok _ j3 .normal _ rfl (.inl rfl) (by simp[c0T,bW,a2w])
def b1d(nm:Nm)(vs:List Nm)(ps:List psV)(out:List a1M):List (Nat×bG):=[(100001,.cells [.ptr 100000 0]),(100002,.cells [.d (.str nm),.d (.sl (strs vs)),.d (.sl (ps.map dP)),.d (.sl (out.map a5b))])]
abbrev f4p:List (TypeId×List VM.Loc):=[(128,[.c 100002 3])]
abbrev d5b(rdP:List Tok->Nat->Nat->gO Pr)(l:List Tok)(out:List a1M):bF (List a1M):=do
 let c <- a9P aH aZ rdP l
 pure (out++[c])
theorem d5c:aB l 1 (a9P aH aZ rdP l):=aB.con hV.fin hV.mZ.pred
theorem b9h(out:List a1M):aB l 1 (d5b rdP l out):=(d5c hV).bl λ_=>aB.bP _
theorem c2A(a:List a1M)(i:Nat)(b:List a1M)(j:Nat)(hi:i<l.length)(h:a.length<=i)(hx:d5b rdP l a i=.ok b j):b.length<=j:=by have h1:=b9h hV a i b j hi hx;obtain⟨_,_,_,hx⟩:=dF hx;cases hx;simp;omega
theorem c8j(nm:Nm)(vs:List Nm)(ps:List psV):a3e l K3 [.ptr 100001 0,.ptr 100002 0] (b1d nm vs ps) f4p:=by
 constructor
 all_goals intros
 all_goals first
  |rfl
  |simp[b1d,aW,bB,bD,bC,bK,getKey,bA,bI,dC,rk,dL,bX, *]
theorem b9i(nm:Nm)(vs:List Nm)(ps:List psV)(out:List a1M)(j0:Nat)(hi:j0<l.length)(vT:out.length<=j0):qA G 94 [.ptr 100001 0,.ptr 100002 0] (b1d nm vs ps out) f4p l j0 (d5b rdP l out j0) (λ_=>.cX []) (b1d nm vs ps):=by
 have hl:=hV.len;have p0:=gT hi;refine qA.bO func94 rfl ntmps94 rfl (by simp) ?_;intro Q Q0;unfold d5b a9P at Q0;have Q0:=Q0.assoc;simp[b1d];refine uG Q0 p0 mE (oS l j0 p0.2) (aB.title hV.fin) λc j1 x1 Q1 p1=>?_;have Q1:=Q1.assoc;simp;cases hs:aL l j1 [40]with
 |false=>have Q2:=Q1.step (oB hs);rw[if_neg (by decide)]at Q2;have Q2:=Q2.step (kB);refine rdF hs p1 ?_;simp;refine eF ⟨λx _=>rfl,by omega⟩ ?_;simp;exact Q2.ok _ j1 .normal _ rfl (.inl rfl) (by simp[b1d,a5b,a0A])
 |true=>
  have Q2:=Q1.step (oA hs);rw[if_pos rfl]at Q2;refine rdT hs p1 hV.fin λp2=>?_;obtain⟨j2,vH⟩:∃j,j1+1=j:=⟨_,rfl⟩;rw[vH]at Q2 p2|-;have Q2:=Q2.assoc;simp;have kR:=jK hV [44] (e4w rdP l) (λout i=>out.1.length<=i/\out.2.length<=i) 0 (.mk func95 rfl) (d8Y hV c) (λa=>(b9g hV a).le (by omega)) (λa i qZ hi h=>d1h hV c a i hi h) (d5a hV) (λa i h=>by omega) ([],[]) j2 (by omega) p2.2 (by simp);refine dX.mk (a2e eT kR [(100000,100000),(100001,2),(100002,100001)] (λa j hx=>?_) ?_ ?_ ?_ rfl rfl (λws j3 x3=>?_) (λn e hx2=>Q2.fail hx2 _))
  .simp[c0T,aW,bB,bD,bC,bK,getKey]
  .simp[c0T,aW,bB,bD,bC,bK,getKey]
  .simp[bA,bI,rk]
  .simp[c0T,bA,bI,rk,dC,dL]
  .have Q3:=Q2.step x3;have p3:=aB.list hV.fin (λa=>b9g hV a) ([],[]) j2 ws j3 p2.2 x3;obtain⟨ns,ts⟩:=ws;simp only at Q3;have Q3:=Q3.assoc;simp[bJ,c0T,bA,bI,rk,dC,dL,bX,kI,jA,eI];refine eS Q3 p3 hV.fin λu4 j4 x4 Q4 p4=>?_;have Q4:=Q4.step (kB);simp;refine eF ⟨λx _=>rfl,by omega⟩ ?_;simp;exact Q4.ok _ j4 .normal _ rfl (.inl rfl) (by simp[b1d,a5b])
theorem b9j(j0:Nat)(hi:j0<l.length):tR G 47 [] l j0 (a0x aH aZ rdP l j0) (λd=>.d (.agg (yO d))):=by
 have hl:=hV.len;have p0:=gT hi;refine qA.bO func47 rfl ntmps47 rfl (by simp) ?_;intro Q Q0;unfold a0x at Q0;simp;refine uG Q0 p0 mE (oS l j0 p0.2) (aB.title hV.fin) λnm j1 x1 Q1 p1=>?_;simp;refine SW.sV (ι:={x:List Nm×Nat×Nat//j1<=x.2.1/\x.2.1<l.length/\l.length<x.2.2+x.2.1/\x.1.length<=x.2.1/\gE (λi=>kL aH (aJ l i)) (a1H l) x.2.2 x.1 x.2.1=rJ l (λi=>kL aH (aJ l i)) (a1H l) [] j1}) (λ_=>[]) (λx=>[(1,.cells [.ptr 100000 0]),(2,.cells [.d (.str []),.d .aE,.d .aE,.d .aE]),(3,.cells [.d (.str nm),.d (.sl (strs x.1.1)),.d .aE,.d .aE]),(100000,rdO l x.1.2.1)]) (λ_=>[(9,[.c 3 1])]) (λx=>l.length-x.1.2.1) ⟨([],j1,l.length+2),g3G _,p1.2,by simp only;omega,by simp,rfl⟩ (by simp[strs]) ?_;rintro⟨⟨out,j3,g⟩,hb,hj3,hg,ho,hp⟩;simp only at hb hj3 hg ho hp;obtain⟨g,rfl⟩:∃k,g=k+1:=⟨g-1,by omega⟩;have p3:j1<=j3/\j3<l.length:=⟨hb,hj3⟩;have ht:=dM (G:=G) l j3 j3 0;simp;refine qB (i:=j3) (ds:=[.int .i64 0]) cJ ht ?_;simp;refine jV.mk oQ (pZ hV.kw (aJ l j3)) ?_;cases hc:kL aH (aJ l j3)with
 |true=>
  simp;refine dK [0] 3 [2] (.op 1 (.call [4,5,6,7] .none) (.call [1,4,5,6,7] .none)) (kZ (bV aH l j3)) (by kernel_rfl) (by kernel_rfl) ?_;simp;refine⟨?_,?_⟩
  all_goals
   refine rdZ (i:=j3) (ds:=[]) dS (eN hV.kw l j3 hj3 (by omega)) (λw2 j4 x4=>?_) (λn e hx=>?_)
   .have p4:=aB.word (kw:=aH) hV.fin j3 w2 j4 hj3 x4;have h1:a1H l out j3=.ok (out++[w2]) j4:=(bU x4).trans rfl;rw[a0G hV hc h1]at hp;refine cG.mk ?_;simp;refine bQ (by first|omega|(simp;omega)) ?_;simp;exact bE.mk ⟨(out++[w2],j4,g),by simp only;omega,p4.2,by simp only;omega,by simp;omega,hp⟩ (by simp[a2w]) (by simp;omega)
   .have h1:a1H l out j3=.bad n e:=kT hx;rw[uB hV hc h1]at hp;simp
    first|exact Q1.fail hp.symm _|exact λs=>Q1.fail hp.symm s
 |false=>
  rw[a0H hV hc]at hp;have Q3:=Q1.step hp.symm;simp;cases hs:aL l j3 [60]with
  |false=>
   have Q4:=Q3.step (oB hs);rw[if_neg (by decide)]at Q4;have Q3:=Q4.step (kB);refine rdF hs p3 ?_;simp;refine eS Q3 p3 hV.fin λu6 j6 x6 Q6 p6=>?_;simp;have kR:=jK hV [124] (d5b rdP l) (λout i=>out.length<=i) 0 (.mk func94 rfl) (c8j hV nm out []) (λa=>(b9h hV a).le (by omega)) (λa i qZ hi h=>b9i hV nm out [] a i hi h) (c2A hV) (λa i h=>by omega) [] j6 (by omega) p6.2 (by simp);refine dX.mk (a2e eT kR [(100000,100000),(100001,1),(100002,3)] (λa j hx=>?_) ?_ ?_ ?_ rfl rfl (λcs j7 x7=>?_) (λn e hx2=>Q6.fail hx2 _))
   .simp[b1d,aW,bB,bD,bC,bK,getKey]
   .simp[b1d,aW,bB,bD,bC,bK,getKey]
   .simp[bA,bI,rk]
   .simp[b1d,bA,bI,rk,dC,dL]
   .have Q7:=Q6.step x7;simp[bJ,b1d,bA,bI,rk,dC,dL,bX,kI,jA,eI];exact Q7.ok _ j7 _ _ rfl (.inr rfl) (by simp[yO])
  |true=>
   have Q4:=Q3.step (oA hs);rw[if_pos rfl]at Q4;refine rdT hs p3 hV.fin λp4=>?_;obtain⟨j4,hj4⟩:∃j,j3+1=j:=⟨_,rfl⟩;rw[hj4]at Q4 p4|-;have Q4:=Q4.assoc;simp;refine uG Q4 p4 a4a ((a5Z hV false j4 p4.2)) ((aB.vars hV.fin false)) λps j5 x5 Q5 p5=>?_;have Q5:=Q5.assoc;simp;refine eS Q5 p5 hV.fin λu8 j8 x8 Q8 p8=>?_;have Q8:=Q8.step (kB);simp;refine eS Q8 p8 hV.fin λu6 j6 x6 Q6 p6=>?_;simp;have kR:=jK hV [124] (d5b rdP l) (λout i=>out.length<=i) 0 (.mk func94 rfl) (c8j hV nm out ps) (λa=>(b9h hV a).le (by omega)) (λa i qZ hi h=>b9i hV nm out ps a i hi h) (c2A hV) (λa i h=>by omega) [] j6 (by omega) p6.2 (by simp);refine dX.mk (a2e eT kR [(100000,100000),(100001,1),(100002,3)] (λa j hx=>?_) ?_ ?_ ?_ rfl rfl (λcs j7 x7=>?_) (λn e hx2=>Q6.fail hx2 _))
   .simp[b1d,aW,bB,bD,bC,bK,getKey]
   .simp[b1d,aW,bB,bD,bC,bK,getKey]
   .simp[bA,bI,rk]
   .simp[b1d,bA,bI,rk,dC,dL]
   .have Q7:=Q6.step x7;simp[bJ,b1d,bA,bI,rk,dC,dL,bX,kI,jA,eI];exact Q7.ok _ j7 _ _ rfl (.inr rfl) (by simp[yO])
end
end
end Go.Proofs.YtmfbjecjccipfaaGreatDoor
