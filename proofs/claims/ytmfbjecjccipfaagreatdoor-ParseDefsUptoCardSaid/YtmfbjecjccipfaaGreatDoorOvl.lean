/- Lemmas. No condition. -/
import Derived.Test.YtmfbjecjccipfaaGreatDoorOvk
set_option linter.unusedVariables false
set_option linter.unusedSimpArgs false
set_option linter.unusedSectionVars false
set_option maxRecDepth 100000
set_option maxHeartbeats 64000000
open Go.Proofs.Tryz
namespace Go.Proofs.YtmfbjecjccipfaaGreatDoor
section
section
variable {kw:Nm->Bool} {andP:Pr->Pr->Pr} {aD:List Tok->Nat->Nat->jA Pr} {l:List Tok} {low m:Nat} {α β γ:Type} {ln:Int}
variable (H:RfH aD l)
include H
variable{i:Nat}
omit H in
theorem e3O{x:bE α}{f:α->bE β}{j:Nat}{b:β}(h:(x >>=f) i=.ok b j):∃a k,x i=.ok a k/\f a k=.ok b j:=by
 rw[bX]at h;cases hx:x i with
 |bad n e=>rw[hx]at h;cases h
 |ok a k=>rw[hx]at h;exact⟨a,k,rfl,h⟩
theorem aK.yU:aK l low (qX kw l) (a0B kw l):=by unfold qX a0B;exact aK.list (λa=>aK.b0 aK.title λc=>aK.b0 aK.word λw=>aK.bZ _) _
theorem aK.e6A(a:List Nm):aK l low (pK l (λi=>gU kw (aH l i)) (λout=>do let w <- bU kw l;pure (out++[w])) a) (xL l (mR kw l 0) (λout=>do let w <- eY kw l;pure (out++[w])) a):=
 aK.many (λs hs=>b2g hs) (λi ln hi=>a3v kw hi) (λa i ln h1 h2 _=>(aK.b0 (aK.word (low:=low)) λt=>aK.bZ _).sim i ln h1 h2) (λa i b j hi _ hx=>((aB.word H.fin).bl λt=>aB.bZ _) i b j hi hx) _
theorem aK.bound:aK l low (qY kw aD l) (a8E kw aD l):=by unfold qY a8E;exact aK.b0 aK.word λnm=>aK.mus (aK.b0 (aK.vars H false) λvs=>aK.mus (aK.b0 (aK.pred H) λp=>aK.mus (aK.b0 (aK.pred H) λg=>aK.mus (aK.bZ _))))
theorem aK.bounds:aK l low (pK l (λi=>aJ l i [98,111,117,110,100]) (λout=>aQ l [[98,111,117,110,100]] >>=λ_=>qY kw aD l >>=λb=>pure (out++[b])) []) (xL l (jU l [98,111,117,110,100]) (a2y kw aD l) []):=
 aK.many (low:=low) (c:=λi=>aJ l i [98,111,117,110,100]) (c':=jU l [98,111,117,110,100]) (one:=λout=>aQ l [[98,111,117,110,100]] >>=λ_=>qY kw aD l >>=λb=>pure (out++[b])) (one':=a2y kw aD l) (λs hs=>a3w hs) (λi ln hi=>qL H hi (t:=[98,111,117,110,100]) (by decide) (by decide)) (λa i ln h1 h2 hc=>tS.f3f hc ((aK.b0 (aK.bound H (low:=low)) λt=>aK.bZ _).sim (i+1) ln (Nat.le_succ_of_le h1) (aV H.fin h2 hc))) (λa i b j hi _ hx=>((aB.exp H.fin _ _).bl λ_=>(aB.bound H.fin H.oY.pred).bz λt=>aB.bZ _) i b j hi hx) _
theorem tS.e6B{c:Nm}(ht:sgN c=true)(I:Nat->Prop){one:α->bE α}{one':α->RM α}(h0:∀a i ln,i<l.length->I i->tS ln (one a i) (one' a ⟨i,0,ln⟩))(a0:∀a,aB l 0 (one a))(hI:∀a i b j,i<l.length->I i->one a i=.ok b j->aJ l j c=true->I (j+1)):∀(g:Nat)(a:α)(i:Nat),I i->i<l.length->l.length<g+i->tS ln (eT l c one g a i) (pM l c one' g a ⟨i,0,ln⟩)
 |0,a,i,h1,h2,h3=>absurd h3 (by omega)
 |g+1,a,i,h1,h2,h3=>by
  unfold eT pM;rw[if_pos rfl];have h:=h0 a i ln h2 h1;cases hx:one a i with
  |bad n e=>rw[hx]at h;obtain⟨k1,k2,k3⟩:e≠0/\_:=h;rw[rD (by rw[k2];exact k1),if_neg (by decide)];exact⟨k1,k2,k3⟩
  |ok b j=>
   rw[hx]at h;have h:one' a ⟨i,0,ln⟩=(b,⟨j,0,ln⟩):=h;have ha:=a0 a i b j h2 hx;rw[h];simp only[pN H j ht];cases hs:aJ l j c with
   |true=>rw[if_pos rfl,if_pos rfl];exact tS.e6B ht I h0 a0 hI g b (j+1) (hI a i b j h2 h1 hx hs) (aV H.fin ha.2 hs) (by omega)
   |false=>
    rw[if_neg (by decide),if_neg (by decide)]
    rfl
theorem aK.a5q:aK l low (λi=>dI l [44] (λout=>(λj=>aD l j (gM l (l.length+1) 0 i):bE Pr) >>=λp=>pure (out++[p])) [] i:bE (List Pr)) (oU l [44] (λout=>b2e aD l >>=λp=>pure (out++[p])) []):=by
 have kM:sL (b2e aD l):=λs hs=>sL.bef _ s hs;have aM:∀e,aB l 0 (λj=>aD l j e:bE Pr):=λe i p j hi h=>by have:=H.oY e i p j hi h;omega
 refine⟨λi ln h1 h2=>?_,sL.loop (λa=>kM.dB λ_=>sL.bZ _) _ _,λi a j hi h=>aB.list H.fin (λa=>(aM _).bl λp=>aB.bZ _) _ i a j hi h⟩;refine tS.e6B H (by decide) (λj=>gM l (l.length+1) 0 j=gM l (l.length+1) 0 i) (λa j ln h3 h4=>?_) (λa=>(aM _).bl λp=>aB.bZ _) (λa j b k h3 h4 hx hs=>?_) _ _ _ rfl h2 (by omega)
 .refine tS.dB (y:=b2e aD l) ?_ (λa=>sL.bZ _) λp k h=>rfl;unfold b2e
  show tS ln (aD l j (gM l (l.length+1) 0 i)) (pF aD l (gM l (l.length+1) 0 j) ⟨j,0,ln⟩)
  rw[h4];exact tS.bef H h3 _
 .rw[<-h4]at hx;obtain⟨p,k',e1,e2⟩:=e3O (x:=(λj'=>aD l j' (gM l (l.length+1) 0 j):bE Pr)) hx;cases e2;rw[H.met j p k h3 e1 hs,h4]
theorem aK.sig:aK l low (rN kw andP aD l) (a9C kw andP aD l):=by unfold rN a9C;exact aK.b0 aK.beg λb=>aK.b0 (aK.ite (aK.b0 aK.word λw=>aK.b0 (aK.e6A H _) λws=>aK.mus (aK.bZ _)) (aK.bZ _)) λvs=>aK.b0 aK.beg λb=>aK.b0 (aK.ite (aK.b0 (aK.yU H) λns=>aK.mus (aK.bZ _)) (aK.bZ _)) λns=>aK.b0 aK.b2h λb=>aK.b0 (aK.ite (aK.b0 (aK.vars H _) λns=>aK.b9K (aK.mus (aK.bZ _))) (aK.bZ _)) λabs=>aK.b0 (aK.bounds H) λbs=>aK.b0 (aK.typ H) λt=>aK.b0 aK.beg λb=>aK.b0 (aK.ite (aK.a5q H) (aK.bZ _)) λms=>aK.bZ _
def a7L(kw:Nm->Bool)(l:List Tok):bE (List Nm):=λi=>if aJ l i [40] then(if cI (aH l (i+1)) [41] then .ok [] (i+2) else gD kw l i) else .ok [] i
theorem aB.d8c:aB l 0 (a7L kw l):=λi a j hi h=>by
 have h:(if aJ l i [40]=true then(if cI (aH l (i+1)) [41]=true then .ok [] (i+2) else gD kw l i) else .ok [] i)=jA.ok a j:=h;split at h
 .rename_i h1;have n1:=aV H.fin hi h1;split at h
  .rename_i h2;have n2:=qZ H.fin n1 (a0g H.fin h2);cases h;omega
  .exact((aB.words H.fin).le (by omega)) _ _ _ hi h
 .cases h;omega
theorem aK.d8c:aK l low (a7L kw l) (b0x kw l):=⟨λi ln h1 h2=>by
 unfold b0x;have e:cF l 1 [41] ⟨i,0,ln⟩=cI (aH l (i+1)) [41]:=a5F H 1 i (by decide);rw[pN H i (t:=[40]) (by decide),e]
 show tS ln (if aJ l i [40]=true then _ else _) _
 cases aJ l i [40]with
 |false=>rfl
 |true=>
  cases cI (aH l (i+1)) [41]with
  |true=>rfl
  |false=>exact(aK.words (low:=low) H).sim i ln h1 h2,λs hs=>by
 unfold b0x;rw[rD hs,rD hs]
 rfl,aB.d8c H⟩
def a5O(kw:Nm->Bool)(andP:Pr->Pr->Pr)(aD:List Tok->Nat->Nat->jA Pr)(l:List Tok)(mode:Int):RM eL:=do
 let name <- eY kw l
 let ps <- b0x kw l
 let c <- zA λs=> !decide (mode=0)||cF l 0 [58] s
 let sg <- (if c then do
  aX l [58]
  a9C kw andP aD l else pure uP:RM zQ)
 let e <- (if mode=1 then pure pW else do
  aX l [61]
  a3Z kw andP aD l:RM cP)
 pure ⟨name,ps,e,mode,c,sg⟩
def RfO{α:Type}(ln:Int)(x:jA (Option α))(y:α×dR):Prop:=match x with
 |.ok (some a) j=>y=(a,⟨j,0,ln⟩)
 |.ok none _=>False
 |.bad n e=>e≠0/\y.2.er=e/\y.2.ln=n
omit H in
theorem RfO.mk{x:bE α}{y:RM α}(h:tS ln (x i) (y ⟨i,0,ln⟩)):RfO ln ((x >>=λa=>pure (some a)) i) (y ⟨i,0,ln⟩):=by
 rw[bX];cases hx:x i with
 |ok a j=>rw[hx]at h;exact h
 |bad n e=>rw[hx]at h;exact h
theorem aK.e9O(name:Nm)(ps:List Nm)(mode:Int)(typed:Bool)(sg:zQ)(hm:mode≠1):aK l low (aQ l [[61]] >>=λ_=>qD kw andP aD l >>=λe=>pure ⟨name,ps,e,mode,typed,sg⟩:bE eL) ((if mode=1 then pure pW else(aX l [61] >>=λ_=>a3Z kw andP aD l):RM cP) >>=λe=>pure ⟨name,ps,e,mode,typed,sg⟩):=by rw[if_neg hm];exact aK.a1E (aK.mus (aK.b0 (aK.expr H) λe=>aK.bZ _))
theorem aK.c2Q:aK l low (bU kw l >>=λname=>a7L kw l >>=λps=>cD l [58] >>=λb=>if b then rN kw andP aD l >>=λsg=>aQ l [[61]] >>=λ_=>qD kw andP aD l >>=λe=>pure ⟨name,ps,e,0,true,sg⟩ else aQ l [[61]] >>=λ_=>qD kw andP aD l >>=λe=>pure ⟨name,ps,e,0,false,uP⟩:bE eL) (a5O kw andP aD l 0):=by
 unfold a5O;refine aK.b0 aK.word λname=>aK.b0 (aK.d8c H) λps=>?_;have hb:∀(b:Bool) low,aK l low (aQ l [[61]] >>=λ_=>qD kw andP aD l >>=λe=>pure ⟨name,ps,e,0,b,uP⟩:bE eL) _:=λb low=>aK.e9O H name ps 0 b uP (by decide);have hs:aK l low (aQ l [[58]] >>=λ_=>rN kw andP aD l >>=λsg=>aQ l [[61]] >>=λ_=>qD kw andP aD l >>=λe=>pure ⟨name,ps,e,0,true,sg⟩:bE eL) ((aX l [58] >>=λ_=>a9C kw andP aD l) >>=λsg=>(if (0:Int)=1 then pure pW else(aX l [61] >>=λ_=>a3Z kw andP aD l):RM cP) >>=λe=>pure ⟨name,ps,e,0,true,sg⟩):=
  aK.a1E (aK.mus (aK.b0 (aK.sig H) λsg=>aK.e9O H name ps 0 true sg (by decide)))
 refine aK.test (λb=>?_) ((aB.skip H.fin _).bl λb=>aB.ite ((aB.sig H.fin H.oY).bz λ_=>(aB.exp H.fin _ _).bz λ_=>(aB.expr H.fin H.oY.pred).bz λ_=>aB.bZ _) (hb false 0).av) λi ln h1 h2=>?_
 .cases b
  .exact(hb false 0).rG
  .exact hs.rG
 .show tS ln _ (((if (cF l 0 [58] ⟨i,0,ln⟩)=true then _ else _:RM zQ) >>=_) _)
  rw[pN H i (t:=[58]) (by decide)];cases h:aJ l i [58]with
  |true=>have h3:=hs.sim i ln h1 h2;rw[a7z h]at h3;rw[c1k h];exact h3
  |false=>rw[c1l h];exact(hb false low).sim i ln h1 h2
theorem aK.f3L(mode:Int)(hm:mode≠0):aK l low (bU kw l >>=λname=>a7L kw l >>=λps=>aQ l [[58]] >>=λ_=>rN kw andP aD l >>=λsg=>if mode=1 then pure ⟨name,ps,pW,mode,true,sg⟩ else aQ l [[61]] >>=λ_=>qD kw andP aD l >>=λe=>pure ⟨name,ps,e,mode,true,sg⟩:bE eL) (a5O kw andP aD l mode):=by
 unfold a5O;refine aK.b0 aK.word λname=>aK.b0 (aK.d8c H) λps=>?_;have hs:aK l low (aQ l [[58]] >>=λ_=>rN kw andP aD l >>=λsg=>if mode=1 then pure ⟨name,ps,pW,mode,true,sg⟩ else aQ l [[61]] >>=λ_=>qD kw andP aD l >>=λe=>pure ⟨name,ps,e,mode,true,sg⟩:bE eL) ((aX l [58] >>=λ_=>a9C kw andP aD l) >>=λsg=>(if mode=1 then pure pW else(aX l [61] >>=λ_=>a3Z kw andP aD l):RM cP) >>=λe=>pure ⟨name,ps,e,mode,true,sg⟩):=by
  refine aK.a1E (aK.mus (aK.b0 (aK.sig H) λsg=>?_));by_cases h1:mode=1
  .rw[if_pos h1,if_pos h1];exact aK.f3e (aK.bZ _)
  .rw[if_neg h1];exact aK.e9O H name ps mode true sg h1
 have hd:decide (mode=0)=false:=by simpa using hm
 rw[hd];have k0:sL ((pure uP:RM zQ) >>=λsg=>(if mode=1 then pure pW else(aX l [61] >>=λ_=>a3Z kw andP aD l):RM cP) >>=λe=>pure (⟨name,ps,e,mode,false,sg⟩:eL)):=by
  refine sL.dB (sL.bZ _) λsg=>sL.dB ?_ λe=>sL.bZ _;split
  .exact sL.bZ _
  .exact sL.dB (sL.b9K _) λ_=>(aK.expr (low:=0) H).rG
 refine aK.test (λb=>?_) hs.av λi ln h1 h2=>hs.sim i ln h1 h2;cases b
 .exact k0
 .exact hs.rG
omit H in
theorem b8o(a:α)(f:α->bE β):(pure a >>=f)=f a:=rfl
omit H in
theorem e3P(c:Bool)(x y:bE α)(f:α->bE β):((if c then x else y) >>=f)=if c then x >>=f else y >>=f:=by cases c<;>rfl
omit H in
theorem b3B(mode:Int):tZ kw l mode=bU kw l >>=λname=>a7L kw l >>=λps=>pure ⟨name,ps,pW,mode,false,uP⟩:=rfl
omit H in
theorem d8d:(tZ kw l 0 >>=λd=>cD l [58] >>=λb=>(if b then rN kw andP aD l >>=λs=>pure {d with typed:=true,sig:=s} else pure d) >>=λd=>vE kw andP aD l d)=((bU kw l >>=λname=>a7L kw l >>=λps=>cD l [58] >>=λb=>if b then rN kw andP aD l >>=λsg=>aQ l [[61]] >>=λ_=>qD kw andP aD l >>=λe=>pure ⟨name,ps,e,0,true,sg⟩ else aQ l [[61]] >>=λ_=>qD kw andP aD l >>=λe=>pure ⟨name,ps,e,0,false,uP⟩:bE eL) >>=λa=>pure (some a)):=by simp only[b3B,vE,a8H,b8o,e3P]
omit H in
theorem d8e:(tZ kw l 1 >>=λd=>aQ l [[58]] >>=λ_=>rN kw andP aD l >>=λs=>pure (some {d with typed:=true,sig:=s}))=((bU kw l >>=λname=>a7L kw l >>=λps=>aQ l [[58]] >>=λ_=>rN kw andP aD l >>=λsg=>if (1:Int)=1 then pure ⟨name,ps,pW,1,true,sg⟩ else aQ l [[61]] >>=λ_=>qD kw andP aD l >>=λe=>pure ⟨name,ps,e,1,true,sg⟩:bE eL) >>=λa=>pure (some a)):=by simp only[b3B,a8H,b8o,if_true]
omit H in
theorem d8f:(tZ kw l 2 >>=λd=>aQ l [[58]] >>=λ_=>rN kw andP aD l >>=λs=>vE kw andP aD l {d with typed:=true,sig:=s})=((bU kw l >>=λname=>a7L kw l >>=λps=>aQ l [[58]] >>=λ_=>rN kw andP aD l >>=λsg=>if (2:Int)=1 then pure ⟨name,ps,pW,2,true,sg⟩ else aQ l [[61]] >>=λ_=>qD kw andP aD l >>=λe=>pure ⟨name,ps,e,2,true,sg⟩:bE eL) >>=λa=>pure (some a)):=by simp only[b3B,vE,a8H,b8o,show ¬(2:Int)=1 by decide,if_false]
theorem RfO.defn(h2:i<l.length):(aJ l i [100,101,102]=false/\uH kw andP aD l i=.ok none i/\a2z kw andP aD l ⟨i,0,ln⟩=a5O kw andP aD l 0 (mB l ⟨i,0,ln⟩))\/RfO ln (uH kw andP aD l i) (a2z kw andP aD l ⟨i,0,ln⟩):=by
 have e:a2z kw andP aD l ⟨i,0,ln⟩=a5O kw andP aD l (a1h l ⟨i,0,ln⟩).1 (a1h l ⟨i,0,ln⟩).2:=rfl;rw[e];unfold uH a1h;rw[qL H h2 (t:=[100,101,102]) (by decide) (by decide),qL H h2 (t:=[97,115,115,117,109,101]) (by decide) (by decide),qL H h2 (t:=[114,101,102,108,101,99,116]) (by decide) (by decide)];by_cases b1:aJ l i [100,101,102]=true
 .rw[if_pos b1,if_pos b1];have h:=RfO.mk ((aK.c2Q (low:=0) (andP:=andP) (kw:=kw) H).sim (i+1) ln (by omega) (aV H.fin h2 b1));rw[<-d8d]at h;exact .inr h
 rw[if_neg b1,if_neg b1];by_cases b2:aJ l i [97,115,115,117,109,101]=true
 .rw[if_pos b2,if_pos b2];have h:=RfO.mk ((aK.f3L (low:=0) (andP:=andP) (kw:=kw) H 1 (by decide)).sim (i+1) ln (by omega) (aV H.fin h2 b2));rw[<-d8e]at h;exact .inr h
 rw[if_neg b2,if_neg b2];by_cases b3:aJ l i [114,101,102,108,101,99,116]=true
 .rw[if_pos b3,if_pos b3];have h:=RfO.mk ((aK.f3L (low:=0) (andP:=andP) (kw:=kw) H 2 (by decide)).sim (i+1) ln (by omega) (aV H.fin h2 b3));rw[<-d8f]at h;exact .inr h
 rw[if_neg b3,if_neg b3];exact .inl ⟨Bool.eq_false_iff.2 b1,rfl,rfl⟩
theorem sL.defn:sL (a2z kw andP aD l):=λs hs=>by
 have e:a2z kw andP aD l s=a5O kw andP aD l (a1h l s).1 (a1h l s).2:=rfl;have e2:a1h l s=(0,s):=by
  unfold a1h;rw[a3w hs,a3w hs,a3w hs,a4H hs]
  rfl
 rw[e,e2];exact(aK.c2Q (low:=0) H).rG s hs
theorem aK.f3M{F:eL->bE β}{G:eL->RM β}(hF:∀d,aK l low (F d) (G d)):aK l low (uH kw andP aD l >>=λo=>match o with|some d=>F d|none=>dN l) (a2z kw andP aD l >>=G):=⟨λi ln h1 h2=>by
 rw[bX,bK];have hG:∀a,sL (G a):=λa=>(hF a).rG;rcases RfO.defn (ln:=ln) (kw:=kw) (andP:=andP) H h2 with⟨_,e1,e2⟩|h
 .rw[e1,e2];have k:=(aK.c2Q (low:=0) (kw:=kw) (andP:=andP) H).rG _ (a8G (ln:=ln) h2);have k2:=hG (a5O kw andP aD l 0 (mB l ⟨i,0,ln⟩)).1 (a5O kw andP aD l 0 (mB l ⟨i,0,ln⟩)).2 (by rw[k];exact a8G h2);exact⟨by decide,by rw[k2,k,wB h2],by rw[k2,k,wB h2]⟩
 .cases hx:uH kw andP aD l i with
  |ok o j=>
   cases o with
   |none=>rw[hx]at h;exact h.elim
   |some d=>rw[hx]at h;have h:a2z kw andP aD l ⟨i,0,ln⟩=(d,⟨j,0,ln⟩):=h;have ha:=aB.c2Q H.fin H.oY i _ j h2 hx;rw[h];exact(hF d).sim j ln (by omega) ha.2
  |bad n e=>rw[hx]at h;obtain⟨k1,k2,k3⟩:e≠0/\_:=h;have k4:=hG (a2z kw andP aD l ⟨i,0,ln⟩).1 (a2z kw andP aD l ⟨i,0,ln⟩).2 (by rw[k2];exact k1);exact⟨k1,by rw[k4];exact k2,by rw[k4];exact k3⟩,sL.dB (sL.defn H) λa=>(hF a).rG,(aB.c2Q H.fin H.oY).bl λo=>match o with|some d=>(hF d).av|none=>aB.failed⟩
theorem aK.named:aK l low (dI l [44] (λ(out:List Nm×List Ty)=>bU kw l >>=λw=>aQ l [[58]] >>=λ_=>mP kw andP aD l >>=λt=>pure (out.1++[w],out.2++[t])) ([],[])) (e3w kw andP aD l):=
 aK.list (λa=>aK.b0 aK.word λw=>aK.mus (aK.b0 (aK.typ H) λt=>aK.bZ _)) _
end
end
section
open Go Go.VM
variable {G:GT}
theorem SW.c7z{P:Program}{α:Type}{b c:Code}{st:St}{Q:Exit->St->Prop}(r:jA α)(st':α->Nat->St)(h1:SW P G b st λe s=>match e with
  |.normal=>∃v j,r=.ok v j/\yE s (st' v j)
  |e=>Q e s)(h2:∀v j,r=.ok v j->SW P G c (st' v j) Q):SW P G (.seq b c) st Q:=SW.jC (SW.mono (λe s h=>by
 cases e with
 |normal=>obtain⟨v,j,hr,hw⟩:=h;exact SW.a3N hw (h2 v j hr)
 |_=>exact h) h1)
structure a2H (Q:Exit->St->Prop) {α:Type} (r0 r:jA α):Prop where
 eq:r0=r
 bad:∀n e s,r0=.bad n e->Q (.panic (a1C (rO n e))) s
section
variable {α β:Type} {Q:Exit->St->Prop} {i j:Nat} {n e:Int} {a:α} {r0:jA β}
theorem a2H.step{x:bE α}{f:α->bE β}(h:a2H Q r0 ((x >>=f) i))(hx:x i=.ok a j):a2H Q r0 (f a j):=⟨h.eq.trans (bS hx),h.bad⟩
theorem a2H.fail{x:bE α}{f:α->bE β}(h:a2H Q r0 ((x >>=f) i))(hx:x i=.bad n e)(s:St):Q (.panic (a1C (rO n e))) s:=h.bad _ _ _ (h.eq.trans (kN hx))
end
theorem d4o{α β γ:Type}(x:bE α)(f:α->bE β)(g:β->bE γ):((x >>=f) >>=g)=(x >>=λa=>f a >>=g):=funext λi=>c7i x f g i
section
variable {aD:List Tok->Nat->Nat->jA Pr} {l:List Tok} (hV:rP G aD l)
include hV
abbrev a8Y(s:zQ):List D:=.sl (strs s.vars)::.sl (s.yU.map eD)::.sl (s.abs.map eD)::.sl (s.bounds.map b0p)::(tyD s.type++[.sl (s.a5q.map qO)])
omit hV in
theorem e3Q(s:zQ):e3a s=a8Y s:=by
 rw[e3a,cB]
 rfl
abbrev d1V(l:List Tok):bE (List Nm):=do
 let b <- cD l [102,111,114,97,108,108]
 if b then do
  let w <- bU aL l
  let ws <- pK l (λi=>gU aL (aH l i)) (a1j l) [w]
  aQ l [[46]]
  pure ws
 else pure []
abbrev d1W(l:List Tok):bE (List psV):=do
 let b <- cD l [119,104,101,114,101]
 if b then do
  let ns <- qX aL l
  aQ l [[46]]
  pure ns
 else pure []
abbrev d1X(l:List Tok):bE (List psV):=do
 let b <- cD l [60]
 if b then do
  let ns <- qC aL l false
  aQ l [[62],[46]]
  pure ns
 else pure []
abbrev d8g(aD:List Tok->Nat->Nat->jA Pr)(l:List Tok)(out:List pI):bE (List pI):=do
 aQ l [[98,111,117,110,100]]
 let b <- qY aL aD l
 pure (out++[b])
abbrev c7A(aD:List Tok->Nat->Nat->jA Pr)(l:List Tok):bE (List pI):=pK l (λi=>aJ l i [98,111,117,110,100]) (d8g aD l) []
abbrev d4p(aD:List Tok->Nat->Nat->jA Pr)(l:List Tok)(E:Nat)(out:List Pr):bE (List Pr):=do
 let p <- (λj=>aD l j E:bE Pr)
 pure (out++[p])
abbrev e6D(aD:List Tok->Nat->Nat->jA Pr)(l:List Tok):bE (List Pr):=do
 let b <- cD l [109,101,116,114,105,99]
 if b then(λi=>dI l [44] (d4p aD l (gM l (l.length+1) 0 i)) [] i) else pure []
omit hV in
theorem d8h:rN aL bF aD l=(do
  let vs <- d1V l
  let ns <- d1W l
  let abs <- d1X l
  let bs <- c7A aD l
  let t <- mP aL bF aD l
  let ms <- e6D aD l
  pure ⟨vs,ns,abs,bs,t,ms⟩):=by
 unfold rN;simp only[d4o]
theorem d8i:aB l 0 (d1V l):=(aB.skip hV.fin _).bl λ_=>aB.ite ((aB.word hV.fin).bz λ_=>(aB.many (λa=>(aB.word hV.fin).bz λ_=>aB.bZ _) _).bl λ_=>(aB.exp hV.fin _ _).bz λ_=>aB.bZ _) (aB.bZ _)
theorem a7M:aB l 1 (qX aL l):=aB.yU hV.fin
theorem d8j:aB l 0 (d1W l):=(aB.skip hV.fin _).bl λ_=>aB.ite ((a7M hV).bz λ_=>(aB.exp hV.fin _ _).bz λ_=>aB.bZ _) (aB.bZ _)
theorem d8k:aB l 0 (d1X l):=(aB.skip hV.fin _).bl λ_=>aB.ite ((aB.vars hV.fin false).bz λ_=>(aB.exp hV.fin _ _).bz λ_=>aB.bZ _) (aB.bZ _)
theorem b4W:aB l 1 (qY aL aD l):=aB.bound hV.fin hV.oY.pred
theorem d8l(out:List pI):aB l 1 (d8g aD l out):=(aB.exp hV.fin _ _).bl λ_=>(b4W hV).bz λ_=>aB.bZ _
theorem d8m:aB l 0 (c7A aD l):=aB.many (λa=>(d8l hV a).le (by omega)) _
theorem b8p(E:Nat):aB l 0 (λj=>aD l j E:bE Pr):=λi p j hi hx=>hV.oY E i p j hi hx
theorem d8n(E:Nat)(out:List Pr):aB l 0 (d4p aD l E out):=(b8p hV E).bl λ_=>aB.bZ _
theorem d4q(E:Nat)(a:List Pr)(i:Nat)(b:List Pr)(j:Nat)(hi:i<l.length)(h:a.length<=i)(hx:d4p aD l E a i=.ok b j):b.length<=j:=by
 obtain⟨p,k,h1,h2⟩:=dC hx;have h3:=(hV.nod i E p k hi h1).1;have pos:1<=bO p:=by cases p;simp[bO]
 cases h2;simp;omega
def c0f(vs:List Nm)(ns abs:List psV)(bs:List pI)(t:Ty)(E:Nat)(out:List Pr):List (Nat×bH):=[(100001,.cells (.d (.sl (strs vs))::.d (.sl (ns.map eD))::.d (.sl (abs.map eD))::.d (.sl (bs.map b0p))::((tyD t).map .d++[.d (.sl (out.map qO))]))),(100002,.cells [.ptr 100000 0]),(100003,.cells [.d (.int .i64 E)])]
abbrev f3N:List (TypeId×List VM.Loc):=[(52,[.c 100001 13])]
theorem d8o(vs:List Nm)(ns abs:List psV)(bs:List pI)(t:Ty)(E:Nat):a2A l K4 [.ptr 100001 0,.ptr 100002 0,.ptr 100003 0] (c0f vs ns abs bs t E) f3N:=by
 constructor
 all_goals intros
 all_goals first
  |rfl
  |simp[c0f,aR,aY,bB,bA,bM,getKey,aZ,bI,dE,rk,dM,bW, *]
theorem d0v(vs:List Nm)(ns abs:List psV)(bs:List pI)(t:Ty)(E:Nat)(hE:E<=l.length)(out:List Pr)(j0:Nat)(hi:j0<l.length)(vT:out.length<=j0):pX G 115 [.ptr 100001 0,.ptr 100002 0,.ptr 100003 0] (c0f vs ns abs bs t E out) f3N l j0 (d4p aD l E out j0) (λ_=>.cY []) (c0f vs ns abs bs t E):=by
 have hl:=hV.len;have p0:=gQ hi;refine pX.bP func115 rfl ntmps115 rfl (by simp) ?_;intro Q Q0;simp[c0f];refine eW 7 (t:=50) (e:=52) (T:=56) (s:=4) (z:=9) (r:=10) (p:=11) (q:=8) (x:=7) (b:=12) (y:=0) (fd:=5) [0] 4 [2,3] (a6y 1 5 6) (kV (aD l j0 E)) rfl rfl rfl rfl rfl (by kernel_rfl) (by kernel_rfl) rfl ?_;simp
 repeat' apply And.intro
 all_goals
  refine rT (x:=λj=>aD l j E) (i:=j0) Q0 p0 (.mk func116 rfl) ((hV.bef j0 E p0.2 hE)) ((b8p hV E)) λq j1 x1 Q1 p1=>cS.mk ?_;simp;refine⟨_,_,_,_,_,_,_,_,_,by simp,rfl,rfl,?_,rfl,rfl,?_,by simp,rfl,rfl,rfl,rfl,by decide,rfl,?_⟩
  .intro c hc
   first
    |(obtain⟨y,_,rfl⟩:=g3u.1 hc
      rw[dH]
      rfl)
    |(simp only[g3g]at hc
      subst hc
      rfl)
  .simp<;>omega
  exact Q1.ok _ j1 .normal _ rfl (.inl rfl) (by simp[c0f,dH])
abbrev e3R:List DV:=[.d .aE,.d .aE,.d .aE,.d .aE,.d (.int .i64 0),.d (.str []),.d .aE,.d .aE,.d (.int .i64 0),.d (.str []),.d (.int .i64 0),.d .aE,.d .aE,.d .aE]
abbrev e3S(l:List Tok)(a b c d:D)(j:Nat):St:=⟨.ptr 100000 0::.ptr 1 0::.ptr 2 0::.ptr 3 0::List.replicate 76 .undef,[(1,.cells [.ptr 100000 0]),(2,.cells e3R),(3,.cells [.d a,.d b,.d c,.d d,.d (.int .i64 0),.d (.str []),.d .aE,.d .aE,.d (.int .i64 0),.d (.str []),.d (.int .i64 0),.d .aE,.d .aE,.d .aE]),(100000,rdO l j)],[]⟩
theorem d8p(v:Bool)(i:Nat)(xs:List psV)(j:Nat)(hi:i<l.length)(h:qC aL l v i=.ok xs j):xs.length<=j:=by unfold qC at h;exact(vJ hV (one:=c1n l v) (λa p=>a.length<=p) (λa p b q hp ha hab=>by have h1:=b3u hV v a p b q hp hab;have h2:=c1o hV v a p b q hab;omega) (λa p h=>by omega) _ _ _ _ _ hi (by simp) h).1
theorem b3C(j0:Nat)(hi:j0<l.length):tL G 67 [] l j0 (rN aL bF aD l j0) (λs=>.d (.agg (a8Y s))):=by
 have hl:=hV.len;have p0:=gQ hi;refine pX.xV func67 rfl ntmps67 rfl (by simp) ?_;intro Q Q0;rw[d8h]at Q0;refine SW.jC (SW.xk ?_);simp;refine SW.jC (SW.xk ?_);simp;refine SW.c7z (d1V l j0) (λvs j=>e3S l (.sl (strs vs)) .aE .aE .aE j) ?_ λvs j1 x1=>?_
 .skip
  have Q0:=a2H.mk (Q:=Q) (r0:=d1V l j0) rfl λn e s h=>Q0.fail h s;refine SW.jC (SW.xk ?_);simp;cases hs:aJ l j0 [102,111,114,97,108,108]with
  |false=>have Q1:=Q0.step (mT hs);rw[if_neg (by decide)]at Q1;refine rdF hs p0 ?_;simp;refine SW.b4B rfl (SW.xk ?_);simp;exact⟨_,_,Q1.eq,by simp[List.replicate]⟩
  |true=>
   have Q1:=Q0.step (mS hs);rw[if_pos rfl]at Q1;refine rdT hs p0 hV.fin λp1=>?_;obtain⟨j1,tM⟩:∃j,j0+1=j:=⟨_,rfl⟩;rw[tM]at Q1 p1|-;simp;refine SW.a9y rfl (SW.xk ?_);simp;refine eV [0] 3 [2] (.op 1 (.call [4,5,6,7] .none) (.call [1,4,5,6,7] .none)) (kV (bU aL l j1)) (by kernel_rfl) (by kernel_rfl) ?_;simp;refine⟨?_,?_⟩
   all_goals
    refine rdZ dS (eH hV.kw l j1 p1.2 (by omega)) (λw j2 x2=>?_) (λn e hx=>by first|exact Q1.fail hx _|(simp;exact Q1.fail hx _)|(simp;exact λs=>Q1.fail hx s));have Q2:=Q1.step x2;have p2:=aB.word hV.fin j1 w j2 p1.2 x2;refine cS.mk ?_;simp;refine SW.tK (ι:={x:List Nm×Nat×Nat//j2<=x.2.1/\x.2.1<l.length/\l.length<x.2.2+x.2.1/\x.1.length<=x.2.1/\eE (λi=>gU aL (aH l i)) (a1j l) x.2.2 x.1 x.2.1=pK l (λi=>gU aL (aH l i)) (a1j l) [w] j2}) (λ_=>[]) (λx=>[(1,.cells [.ptr 100000 0]),(2,.cells e3R),(3,.cells [.d (.sl (strs x.1.1)),.d .aE,.d .aE,.d .aE,.d (.int .i64 0),.d (.str []),.d .aE,.d .aE,.d (.int .i64 0),.d (.str []),.d (.int .i64 0),.d .aE,.d .aE,.d .aE]),(100000,rdO l x.1.2.1)]) (λ_=>[(9,[.c 3 0])]) (λx=>l.length-x.1.2.1) ⟨([w],j2,l.length+2),g3p _,p2.2,by simp only;omega,by simp only[List.length_singleton];omega,rfl⟩ (by simp[strs]) ?_;rintro⟨⟨out,j3,g⟩,hb,hj3,hg,ho,hp⟩;simp only at hb hj3 hg ho hp;obtain⟨g,rfl⟩:∃k,g=k+1:=⟨g-1,by omega⟩;have p3:j2<=j3/\j3<l.length:=⟨hb,hj3⟩;have ht:=dK (G:=G) l j3 j3 0;simp;refine pY (i:=j3) (ds:=[.int .i64 0]) cH ht ?_;simp;refine jT.mk oH (pS hV.kw (aH l j3)) ?_;cases hc:gU aL (aH l j3)with
    |true=>
     simp;refine eV [0] 3 [2] (.op 1 (.call [4,5,6,7] .none) (.call [1,4,5,6,7] .none)) (kV (bU aL l j3)) (by kernel_rfl) (by kernel_rfl) ?_;simp;refine⟨?_,?_⟩
     all_goals
      refine rdZ (i:=j3) (ds:=[]) dS (eH hV.kw l j3 hj3 (by omega)) (λw2 j4 x4=>?_) (λn e hx=>?_)
      .have p4:=aB.word (kw:=aL) hV.fin j3 w2 j4 hj3 x4;have h1:a1j l out j3=.ok (out++[w2]) j4:=(bS x4).trans rfl;rw[a0m hV hc h1]at hp;refine cS.mk ?_;simp;refine cJ (by first|omega|(simp;omega)) ?_;simp;exact bD.mk ⟨(out++[w2],j4,g),by simp only;omega,p4.2,by simp only;omega,by simp;omega,hp⟩ (by simp[a1X]) (by simp;omega)
      .have h1:a1j l out j3=.bad n e:=kN hx;rw[tU hV hc h1]at hp;simp
       first|exact Q2.fail hp.symm _|exact λs=>Q2.fail hp.symm s
    |false=>rw[a0n hV hc]at hp;have Q3:=Q2.step hp.symm;simp;refine rdX (hw:=by simp[strs]) (ds:=[.sl (strs [[46]])]) oC (pO l [[46]] j3 p3.2 (by omega) hV.fin) (λu4 j4 x4=>?_) (λn e hx=>by first|exact Q3.fail hx _|(simp;exact Q3.fail hx _)|(simp;exact λs=>Q3.fail hx s));have Q4:=Q3.step x4;have p4:=aB.exp hV.fin _ _ j3 u4 j4 p3.2 x4;simp;exact⟨_,_,Q4.eq,by simp[List.replicate]⟩
 have Q0:=Q0.step x1;have p1:=d8i hV j0 vs j1 p0.2 x1
 clear p0 x1
 have p0:j1<=j1/\j1<l.length:=⟨g3p _,p1.2⟩
 clear p1 hi
 obtain⟨j0,rfl⟩:∃j,j=j1:=⟨_,rfl⟩;refine SW.c7z (d1W l j0) (λns j=>e3S l (.sl (strs vs)) (.sl (ns.map eD)) .aE .aE j) ?_ λns j1 x1=>?_
 .skip
  have Q0:=a2H.mk (Q:=Q) (r0:=d1W l j0) rfl λn e s h=>Q0.fail h s;refine SW.jC (SW.xk ?_);simp[List.replicate];cases hs:aJ l j0 [119,104,101,114,101]with
  |false=>have Q1:=Q0.step (mT hs);rw[if_neg (by decide)]at Q1;refine rdF hs p0 ?_;simp;refine SW.b4B rfl (SW.xk ?_);simp;exact⟨_,_,Q1.eq,by simp[List.replicate]⟩
  |true=>have Q1:=Q0.step (mS hs);rw[if_pos rfl]at Q1;refine rdT hs p0 hV.fin λp1=>?_;obtain⟨j1,tM⟩:∃j,j0+1=j:=⟨_,rfl⟩;rw[tM]at Q1 p1|-;simp;refine SW.a9y rfl (SW.xk ?_);simp;refine rdX (.mk func98 rfl) ((b4V hV j1 p1.2)) (λns j2 x2=>?_) (λn e hx=>by first|exact Q1.fail hx _|(simp;exact Q1.fail hx _)|(simp;exact λs=>Q1.fail hx s));have Q2:=Q1.step x2;have p2:=a7M hV j1 ns j2 p1.2 x2;simp;refine rdX (hw:=by simp[strs]) (ds:=[.sl (strs [[46]])]) oC (pO l [[46]] j2 p2.2 (by omega) hV.fin) (λu3 j3 x3=>?_) (λn e hx=>by first|exact Q2.fail hx _|(simp;exact Q2.fail hx _)|(simp;exact λs=>Q2.fail hx s));have Q3:=Q2.step x3;have p3:=aB.exp hV.fin _ _ j2 u3 j3 p2.2 x3;simp;exact⟨_,_,Q3.eq,by simp[List.replicate]⟩
 have Q0:=Q0.step x1;have p1:=d8j hV j0 ns j1 p0.2 x1
 clear p0 x1
 have p0:j1<=j1/\j1<l.length:=⟨g3p _,p1.2⟩
 clear p1
 obtain⟨j0,rfl⟩:∃j,j=j1:=⟨_,rfl⟩;refine SW.c7z (d1X l j0) (λabs j=>e3S l (.sl (strs vs)) (.sl (ns.map eD)) (.sl (abs.map eD)) .aE j) ?_ λabs j1 x1=>?_
 .skip
  have Q0:=a2H.mk (Q:=Q) (r0:=d1X l j0) rfl λn e s h=>Q0.fail h s;refine SW.jC (SW.xk ?_);simp[List.replicate];cases hs:aJ l j0 [60]with
  |false=>have Q1:=Q0.step (mT hs);rw[if_neg (by decide)]at Q1;refine rdF hs p0 ?_;simp;refine SW.b4B rfl (SW.xk ?_);simp;exact⟨_,_,Q1.eq,by simp[List.replicate]⟩
  |true=>
   have Q1:=Q0.step (mS hs);rw[if_pos rfl]at Q1;refine rdT hs p0 hV.fin λp1=>?_;obtain⟨j1,tM⟩:∃j,j0+1=j:=⟨_,rfl⟩;rw[tM]at Q1 p1|-;simp;refine SW.a9y rfl (SW.xk ?_);simp;refine rdX a3x ((a5J hV false j1 p1.2)) (λxs j2 x2=>?_) (λn e hx=>by first|exact Q1.fail hx _|(simp;exact Q1.fail hx _)|(simp;exact λs=>Q1.fail hx s));have Q2:=Q1.step x2;have p2:=(aB.vars hV.fin false) j1 xs j2 p1.2 x2;have hxs:=d8p hV false j1 xs j2 p1.2 x2;simp;refine SW.tK (ι:={k:Nat//k<=xs.length}) (λk=>[(42,.d (.int .i64 k.1))]) (λk=>[(1,.cells [.ptr 100000 0]),(2,.cells e3R),(3,.cells [.d (.sl (strs vs)),.d (.sl (ns.map eD)),.d (.sl ((xs.take k.1).map eD)),.d .aE,.d (.int .i64 0),.d (.str []),.d .aE,.d .aE,.d (.int .i64 0),.d (.str []),.d (.int .i64 0),.d .aE,.d .aE,.d .aE]),(100000,rdO l j2)]) (λ_=>[(146,[.c 3 2])]) (λk=>xs.length-k.1) ⟨0,Nat.zero_le _⟩ (by simp) ?_;rintro⟨k,hk⟩;by_cases aG:k<xs.length
   .have hg:(xs.map eD)[k]? =some [.str xs[k].1,.str xs[k].2]:=by simp[aG,eD]
    have hw:=bC (show k<9223372036854775807 by omega);have htk:(xs.map eD).take (k+1)=(xs.map eD).take k++[[.str xs[k].1,.str xs[k].2]]:=by rw[g3o (by simpa using aG)];simp[eD]
    simp[aG,hg,eD];refine jN ⟨λx hx=>d7B hV xs x (g4a hx),by omega⟩ ?_;simp[hw];exact bD.mk ⟨k+1,aG⟩ (by simp[htk]) (by simp;omega)
   .have htk:xs.take k=xs:=List.take_of_length_le (by omega);simp[aG,htk];refine rdX (hw:=by simp[strs]) (ds:=[.sl (strs [[62],[46]])]) oC (pO l [[62],[46]] j2 p2.2 (by omega) hV.fin) (λu3 j3 x3=>?_) (λn e hx=>by first|exact Q2.fail hx _|(simp;exact Q2.fail hx _)|(simp;exact λs=>Q2.fail hx s));have Q3:=Q2.step x3;have p3:=aB.exp hV.fin _ _ j2 u3 j3 p2.2 x3;simp;exact⟨_,_,Q3.eq,by simp[List.replicate]⟩
 have Q0:=Q0.step x1;have p1:=d8k hV j0 abs j1 p0.2 x1
 clear p0 x1
 have p0:j1<=j1/\j1<l.length:=⟨g3p _,p1.2⟩
 clear p1
 obtain⟨j0,rfl⟩:∃j,j=j1:=⟨_,rfl⟩;refine SW.c7z (c7A aD l j0) (λbs j=>e3S l (.sl (strs vs)) (.sl (ns.map eD)) (.sl (abs.map eD)) (.sl (bs.map b0p)) j) ?_ λbs j1 x1=>?_
 .skip
  have Q0:=a2H.mk (Q:=Q) (r0:=c7A aD l j0) rfl λn e s h=>Q0.fail h s;refine SW.xk ?_;simp[List.replicate];refine SW.tK (ι:={x:List pI×Nat×Nat//j0<=x.2.1/\x.2.1<l.length/\l.length<x.2.2+x.2.1/\x.1.length<=x.2.1/\eE (λi=>aJ l i [98,111,117,110,100]) (d8g aD l) x.2.2 x.1 x.2.1=c7A aD l j0}) (λ_=>[]) (λx=>[(1,.cells [.ptr 100000 0]),(2,.cells e3R),(3,.cells [.d (.sl (strs vs)),.d (.sl (ns.map eD)),.d (.sl (abs.map eD)),.d (.sl (x.1.1.map b0p)),.d (.int .i64 0),.d (.str []),.d .aE,.d .aE,.d (.int .i64 0),.d (.str []),.d (.int .i64 0),.d .aE,.d .aE,.d .aE]),(100000,rdO l x.1.2.1)]) (λ_=>[(148,[.c 3 3])]) (λx=>l.length-x.1.2.1) ⟨([],j0,l.length+2),g3p _,p0.2,by simp only;omega,by simp,rfl⟩ (by simp) ?_;rintro⟨⟨out,j3,g⟩,hb,hj3,hg,ho,hp⟩;simp only at hb hj3 hg ho hp;obtain⟨g,rfl⟩:∃k,g=k+1:=⟨g-1,by omega⟩;have p3:j0<=j3/\j3<l.length:=⟨hb,hj3⟩;simp;cases hc:aJ l j3 [98,111,117,110,100]with
  |true=>
   have hn:=aV hV.fin hj3 hc;refine rdT hc p3 hV.fin λp4=>?_;simp;refine eV [0] 3 [2] (.op 1 (.call [4,5,6,7] .none) (.call [1,4,5,6,7] .none)) (kV (qY aL aD l (j3+1))) (by kernel_rfl) (by kernel_rfl) ?_;simp;refine⟨?_,?_⟩
   all_goals
    refine rdZ (i:=j3+1) (ds:=[]) (.mk func113 rfl) (c7x hV (j3+1) hn) (λb j4 x4=>?_) (λn e hx=>?_)
    .have p4:=b4W hV (j3+1) b j4 hn x4;have h0:aQ l [[98,111,117,110,100]] j3=.ok () (j3+1):=(c3m hc).trans rfl;have h1:d8g aD l out j3=.ok (out++[b]) j4:=(bS h0).trans ((bS x4).trans rfl);rw[a0m hV hc h1]at hp;refine cS.mk ?_;simp;refine cJ (by first|omega|exact⟨λx _=>by rw[a8N];rfl,by omega⟩|(simp;omega)) ?_;simp;exact bD.mk ⟨(out++[b],j4,g),by simp only;omega,p4.2,by simp only;omega,by simp;omega,hp⟩ (by simp[a8N]) (by simp;omega)
    .have h0:aQ l [[98,111,117,110,100]] j3=.ok () (j3+1):=(c3m hc).trans rfl;have h1:d8g aD l out j3=.bad n e:=(bS h0).trans (kN hx);rw[tU hV hc h1]at hp;simp
     first|exact Q0.bad _ _ _ hp.symm|exact λs=>Q0.bad _ _ s hp.symm
  |false=>rw[a0n hV hc]at hp;refine rdF hc p3 ?_;simp;exact⟨_,_,hp.symm,by simp[List.replicate]⟩
 have Q1:=Q0.step x1;have p1:=d8m hV j0 bs j1 p0.2 x1;refine SW.xk ?_;simp[List.replicate];refine uA Q1 p1 dP ((qI hV j1 p1.2)) (mD hV) λt j2 x2 Q2 p2=>?_;simp;cases hs:aJ l j2 [109,101,116,114,105,99]with
 |false=>have Q3:=Q2.step (a:=[]) (j:=j2) ((bS (mT hs)).trans rfl);refine rdF hs p2 ?_;simp;exact Q3.ok _ j2 _ _ rfl (.inr rfl) (by simp)
 |true=>
  have e1:e6D aD l j2=dI l [44] (d4p aD l (gM l (l.length+1) 0 (j2+1))) [] (j2+1):=(bS (mS hs)).trans rfl;refine rdT hs p2 hV.fin λp3=>?_;obtain⟨j3,hj3⟩:∃j,j2+1=j:=⟨_,rfl⟩;rw[hj3]at e1 p3|-;simp;have heq:=b8n hV j3 p3.2;have hE:=b5R hV (l.length+1) 0 j3;refine pY (ds:=[]) (.mk func114 rfl) heq ?_;generalize gM l (l.length+1) 0 j3=E at e1 hE|-;simp;have kK:=jG hV [44] (d4p aD l E) (λout i=>out.length<=i) 0 (.mk func115 rfl) (d8o hV vs ns abs bs t E) (λa=>d8n hV E a) (λa i _ hi h=>d0v hV vs ns abs bs t E hE a i hi h) (d4q hV E) (λa i h=>by omega) [] j3 (by omega) p3.2 (by simp);refine eB.mk (a1D eQ kK [(100000,100000),(100001,3),(100002,1),(100003,6)] (λa j hx=>?_) ?_ ?_ ?_ rfl rfl (λms j4 x4=>?_) (λn e hx2=>Q2.fail (e1.trans hx2) _))
  .simp[c0f,aR,aY,bB,bA,bM,getKey]
  .simp[c0f,aR,aY,bB,bA,bM,getKey]
  .simp[aZ,bI,rk]
  .simp[c0f,aZ,bI,rk,dE,dM]
  .have Q4:=Q2.step (e1.trans x4);simp[bJ,c0f,aZ,bI,rk,dE,dM,bW,kU,jF,eN];exact Q4.ok _ j4 _ _ rfl (.inr rfl) (by simp)
end
section
variable {aD:List Tok->Nat->Nat->jA Pr} {l:List Tok} (hV:vK G aD l)
include hV
def sgH(vs ns ab bs:D)(t:Ty)(ms:D):List (Nat×bH):=[(3,.cells (.d vs::.d ns::.d ab::.d bs::((tyD t).map .d++[.d ms]))),(2,.cells [.d .aE,.d .aE,.d .aE,.d .aE,.d (.int .i64 0),.d (.str []),.d .aE,.d .aE,.d (.int .i64 0),.d (.str []),.d (.int .i64 0),.d .aE,.d .aE,.d .aE])]
omit hV in
abbrev rwM(l:List Tok)(out:List Nm):RM (List Nm):=do let w <- eY aL l;pure (out++[w])
abbrev f3O(l:List Tok)(b:Bool):RM (List Nm):=if b then do
  let w <- eY aL l
  let ws <- xL l (mR aL l 0) (rwM l) [w]
  aX l [46]
  pure ws else pure []
abbrev f3P(l:List Tok)(b:Bool):RM (List psV):=if b then do
  let ns <- a0B aL l
  aX l [46]
  pure ns else pure []
abbrev f3Q(l:List Tok)(b:Bool):RM (List psV):=if b then do
  let abs <- a1f aL l false
  aX l [62]
  aX l [46]
  pure abs else pure []
abbrev e9Q(aD:List Tok->Nat->Nat->jA Pr)(l:List Tok)(out:List Pr):RM (List Pr):=do
  let p <- b2e aD l
  pure (out++[p])
abbrev f3R(aD:List Tok->Nat->Nat->jA Pr)(l:List Tok)(b:Bool):RM (List Pr):=if b then oU l [44] (e9Q aD l) [] else pure []
variable{b:Bool}{s s1:dR}
theorem e9R{x:List Nm}(hv:cO l s)(h:f3O l b s=(x,s1)):cO l s1:=by
 cases b with
 |false=>cases h;exact hv
 |true=>have h4:(eY aL l >>=λw=>xL l (mR aL l 0) (rwM l) [w] >>=λws=>aX l [46] >>=λ_=>pure ws) s=(x,s1):=h;obtain⟨w,s2,h2⟩:∃a s2,eY aL l s=(a,s2):=⟨_,_,rfl⟩;rw[bK,h2]at h4;obtain⟨y,s3,h3⟩:∃a s3,xL l (mR aL l 0) (rwM l) [w] s2=(a,s3):=⟨_,_,rfl⟩;have v2:=cO.next (oZ hV.fin hv h2);have v3:cO l s3:=(aK.e6A hV.toRfH [w]).next v2 h3;rw[bK,h3]at h4;obtain⟨u,s5,h5⟩:∃a s5,aX l [46] s3=(a,s5):=⟨_,_,rfl⟩;rw[bK,h5]at h4;cases h4;exact cO.next (qH hV.fin v3 h5)
variable{x:List psV}
theorem c1H(hv:cO l s)(h:a0B aL l s=(x,s1)):cO l s1:=(aK.yU hV.toRfH).next hv h
theorem e9S(hv:cO l s)(h:f3P l b s=(x,s1)):cO l s1:=by
 cases b with
 |false=>cases h;exact hv
 |true=>have h4:(a0B aL l >>=λns=>aX l [46] >>=λ_=>pure ns) s=(x,s1):=h;obtain⟨w,s2,h2⟩:∃a s2,a0B aL l s=(a,s2):=⟨_,_,rfl⟩;rw[bK,h2]at h4;obtain⟨u,s5,h5⟩:∃a s5,aX l [46] s2=(a,s5):=⟨_,_,rfl⟩;rw[bK,h5]at h4;cases h4;exact cO.next (qH hV.fin (c1H hV hv h2) h5)
theorem e9T(hv:cO l s)(h:f3Q l b s=(x,s1)):cO l s1:=by
 cases b with
 |false=>cases h;exact hv
 |true=>have h4:(a1f aL l false >>=λns=>aX l [62] >>=λ_=>aX l [46] >>=λ_=>pure ns) s=(x,s1):=h;obtain⟨w,s2,h2⟩:∃a s2,a1f aL l false s=(a,s2):=⟨_,_,rfl⟩;rw[bK,h2]at h4;obtain⟨u,s5,h5⟩:∃a s5,aX l [62] s2=(a,s5):=⟨_,_,rfl⟩;rw[bK,h5]at h4;obtain⟨u,s6,h6⟩:∃a s6,aX l [46] s5=(a,s6):=⟨_,_,rfl⟩;rw[bK,h6]at h4;cases h4;exact cO.next (qH hV.fin (cO.next (qH hV.fin (cO.next (b0J hV hv h2)) h5)) h6)
theorem c7B{b:pI}(hv:cO l s)(h:a8E aL aD l s=(b,s1)):yH l 1 s s1:=(aK.bound hV.toRfH).e3x (aB.bound hV.fin hV.oY.pred) hv h
omit hV in
theorem b5S:∀(g:Nat)(d:Int)(i:Nat),i<=l.length->i<=gM l g d i/\gM l g d i<=l.length
 |0,d,i,h=>by unfold gM;omega
 |g+1,d,i,h=>by
  unfold gM;split
  .rename_i hi;have h1:=b5S g (d+1) (i+1) hi;have h2:=b5S g (d-1) (i+1) hi;have h3:=b5S g d (i+1) hi;split
   .omega
   .split
    .omega
    .split<;>omega
  .omega
theorem c3R{e:Nat}{p:Pr}(hv:cO l s)(h:pF aD l e s=(p,s1)):yH l 0 s s1:=λh1=>by
 unfold pF at h;split at h
 .rename_i he;cases hr:aD l s.pl e with
  |ok q j=>rw[hr]at h;cases h;have:=hV.oY e _ _ _ (hv he) hr;exact⟨he,by simp only;omega,this.2⟩
  |bad n x=>rw[hr]at h;cases h;exact absurd h1 (hV.nz _ _ _ _ (hv he) hr)
 .rename_i he;cases h;exact absurd h1 he
omit hV in
theorem d0w(s:dR):(a1f aL l b s).1.length<=0+(l.length+2):=b0H (λa s=>by simp[bK]) _ _ _
theorem c1I(s0:dR)(hv:cO l s0):eG G 73 [] l s0 (a9C aL bF aD l s0) (λg=>.d (.agg (a8Y g))):=by
 have hl:=hV.len;have v0:=hv;refine eG.xV func73 rfl ntmps73 rfl ?_;intro Q Q0;unfold a9C at Q0;refine SW.jC (SW.xk ?_);simp;refine SW.jC (SW.xk ?_);simp;obtain⟨b1,s1,h1⟩:∃b s1,wV l [102,111,114,97,108,108] s0=(b,s1):=⟨_,_,rfl⟩;have Q1:=Q0.step h1;have v1:=cO.next (a4J hV.fin v0 h1);obtain⟨vs,s2,h2⟩:∃vs s2,f3O l b1 s1=(vs,s2):=⟨_,_,rfl⟩;have Q2:=Q1.step h2;refine SW.b1Q [] (sgH (.sl (strs vs)) .aE .aE .aE jK .aE++rfH l s2) [] (SW.xk ?_) ?_
 .simp;refine cT cQ (dJ (by omega) [102,111,114,97,108,108] s0 v0) (λb x hx=>?_);cases hx.symm.trans h1;cases b1 with
  |false=>cases h2;simp[sgH,jK,eI]
  |true=>
   simp;refine cT mG (oX (by omega) s1 v1) (λw s3 h3=>?_);have p3:=oZ hV.fin v1 h3;have v3:=cO.next p3
   replace h2:(xL l (mR aL l 0) (rwM l) [w] >>=λws=>aX l [46] >>=λ_=>pure ws) s3=(vs,s2):=by
    have h4:(eY aL l >>=λw=>xL l (mR aL l 0) (rwM l) [w] >>=λws=>aX l [46] >>=λ_=>pure ws) s1=(vs,s2):=h2
    rwa[bK,h3]at h4
   simp;refine c3l (mR aL l 0) (λs h=>b2g h) (rwM l) (λa=>a.length) (λ_=>True) (λ_=>[]) (λa s=>sgH (.sl (strs a)) .aE .aE .aE jK .aE++rfH l s) (λ_=>[(9,[.c 3 0])]) (l.length+2) [w] s3 (by omega) v3 ⟨by simp,λh=>by have:=p3 h;simp;omega⟩ trivial (by simp[sgH,strs,jK,eI]) ?_ ?_
   .intro a s0 e0 i0 bs la _ hc R hR;have v0:cO l s0:=λ_=>i0;simp[sgH];refine cT pT (vL hV s0 v0) (λb x hx=>?_);cases hx;rw[hc];simp;refine eV [0] 3 [2] (.op 1 (.call [4,5,6,7] .none) (.call [1,4,5,6,7] .none)) true (by kernel_rfl) (by kernel_rfl) ?_;simp;refine⟨?_,?_⟩
    all_goals
     refine rfZ mG (oX (by omega) s0 v0) (λw s1 h1=>?_);have p1:yH l _ s0 s1:=oZ hV.fin v0 h1;have v1:=cO.next p1;refine cS.mk ?_;simp
    all_goals
     refine cJ (by first|omega|(simp[strs];omega)|exact⟨λx hx=>by obtain⟨y,_,rfl⟩:=g3u.1 hx;first|rfl|(rw[strs];rfl),by omega⟩|exact⟨rfl,by omega⟩) ?_;simp;refine hR _ (a++[w]) s1 (by simp only[bK,h1];rfl) (by simp[sgH,strs]) (λh=>?_) (by simp) trivial;have:=(p1) h;omega
   .intro a s4 hc rZ la _ v4 hy R;simp[sgH];refine cT pT (vL hV s4 v4) (λb x hx=>?_);cases hx;rw[hc];simp;refine cT pU (rJ (by omega) [46] s4 v4) (λu s5 h5=>?_);rw[bK,show xL l (mR aL l 0) (rwM l) [w] s3=(a,s4) from hy,bK,h5]at h2;cases h2;simp[sgH]
 have v2:cO l s2:=e9R hV v1 h2;simp;obtain⟨b3,s3,h3⟩:∃b s1,wV l [119,104,101,114,101] s2=(b,s1):=⟨_,_,rfl⟩;have Q3:=Q2.step h3;have v3:=cO.next (a4J hV.fin v2 h3);obtain⟨ns,s4,h4⟩:∃ns s4,f3P l b3 s3=(ns,s4):=⟨_,_,rfl⟩;have Q4:=Q3.step h4;have v4:cO l s4:=e9S hV v3 h4;refine SW.b1Q [] (sgH (.sl (strs vs)) (.sl (ns.map eD)) .aE .aE jK .aE++rfH l s4) [] (SW.xk ?_) ?_
 .simp[sgH];refine cT cQ (dJ (by omega) [119,104,101,114,101] s2 v2) (λb x hx=>?_);cases hx.symm.trans h3;cases b3 with
  |false=>cases h4;simp[sgH]
  |true=>simp;refine cT (.mk func109 rfl) (c7c hV s3 v3) (λns2 s5 h5=>?_);have v5:cO l s5:=c1H hV v3 h5;simp;refine cT pU (rJ (by omega) [46] s5 v5) (λu s6 h6=>?_);have h7:(a0B aL l >>=λns=>aX l [46] >>=λ_=>pure ns) s3=(ns,s4):=h4;rw[bK,h5,bK,h6]at h7;cases h7;simp[sgH]
 simp;obtain⟨b5,s5,h5⟩:∃b s1,gJ l [60] s4=(b,s1):=⟨_,_,rfl⟩;have Q5:=Q4.step h5;have v5:=cO.next (a2B hV.fin v4 h5);obtain⟨abs,s6,h6⟩:∃abs s6,f3Q l b5 s5=(abs,s6):=⟨_,_,rfl⟩;have Q6:=Q5.step h6;have v6:cO l s6:=e9T hV v5 h6;refine SW.b1Q [] (sgH (.sl (strs vs)) (.sl (ns.map eD)) (.sl (abs.map eD)) .aE jK .aE++rfH l s6) [] (SW.xk ?_) ?_
 .simp[sgH];refine cT cG (dO (by omega) [60] s4 v4) (λb x hx=>?_);cases hx.symm.trans h5;cases b5 with
  |false=>cases h6;simp[sgH]
  |true=>
   simp;refine cT (.mk func106 rfl) (b7Q hV false s5 v5) (λxs s7 h7=>?_);have v7:cO l s7:=cO.next (b0J hV v5 h7);have xl:xs.length<=20002:=by have:=d0w (l:=l) (b:=false) s5;rw[h7]at this;simp only at this;omega
   simp;refine SW.tK (ι:={k:Nat//k<=xs.length}) (λk=>[(5,.d (.int .i64 (k.1:Nat)))]) (λk=>sgH (.sl (strs vs)) (.sl (ns.map eD)) (.sl ((xs.take k.1).map eD)) .aE jK .aE++rfH l s7) (λ_=>[(146,[.c 3 2])]) (λk=>xs.length-k.1) ⟨0,Nat.zero_le _⟩ (by simp[sgH]) ?_;rintro⟨k,hk⟩;by_cases hkl:k<xs.length
   .have hw:=bC (show k<9223372036854775807 by omega);simp[sgH,hkl];refine SW.vk ?_;simp[hkl,eD];refine⟨.mk,?_⟩;refine cJ ⟨λx hx=>by obtain⟨y,_,rfl⟩:=g3u.1 (g4a hx);rfl,by omega⟩ ?_;simp[hw];have hT:List.take (k+1) (xs.map eD)=List.take k (xs.map eD)++[[.str xs[k].1,.str xs[k].2]]:=by rw[g3o (by simpa using hkl)];simp[eD]
    exact bD.mk ⟨k+1,by omega⟩ (by simp[sgH,hT]) (by simp only;omega)
   .have f7B:k=xs.length:=by omega
    subst f7B;simp[sgH];refine cT pU (rJ (by omega) [62] s7 v7) (λu s8 h8=>?_);have v8:=cO.next (qH hV.fin v7 h8);simp;refine cT pU (rJ (by omega) [46] s8 v8) (λu s9 h9=>?_);have h10:(a1f aL l false >>=λns=>aX l [62] >>=λ_=>aX l [46] >>=λ_=>pure ns) s5=(abs,s6):=h6;rw[bK,h7,bK,h8,bK,h9]at h10;cases h10;simp[sgH]
 simp;obtain⟨bs,s7,h7⟩:∃bs s7,xL l (jU l [98,111,117,110,100]) (a2y aL aD l) [] s6=(bs,s7):=⟨_,_,rfl⟩;have Q7:=Q6.step h7;have v7:cO l s7:=(aK.bounds hV.toRfH).next v6 h7;refine SW.b1Q [] (sgH (.sl (strs vs)) (.sl (ns.map eD)) (.sl (abs.map eD)) (.sl (bs.map b0p)) jK .aE++rfH l s7) [] (SW.xk ?_) ?_
 .simp;refine c3l (jU l [98,111,117,110,100]) (λs h=>a3w h) (a2y aL aD l) (λa=>a.length) (λ_=>True) (λ_=>[]) (λa s=>sgH (.sl (strs vs)) (.sl (ns.map eD)) (.sl (abs.map eD)) (.sl (a.map b0p)) jK .aE++rfH l s) (λ_=>[(148,[.c 3 3])]) (l.length+2) [] s6 (by omega) v6 (by simp) trivial (by simp[sgH]) ?_ ?_
  .intro a s0 e0 i0 bs la _ hc R hR;have v0:cO l s0:=λ_=>i0;simp[sgH];refine cT cQ (dJ (by omega) [98,111,117,110,100] s0 v0) (λb s1 hx=>?_);rcases gT hV hx with⟨_,rfl,e1,v1⟩|⟨w,_,_⟩;rotate_left
   .rw[hc]at w;cases w
   simp;refine eV [0] 3 [2] (.op 1 (.call [4,5,6,7] .none) (.call [1,4,5,6,7] .none)) true (by kernel_rfl) (by kernel_rfl) ?_;simp;refine⟨?_,?_⟩
   all_goals
    refine rfZ (.mk func117 rfl) (c7y hV s1 v1) (λb s2 h2=>?_);have p2:yH l _ s1 s2:=c7B hV v1 h2;have v2:=cO.next p2;refine cS.mk ?_;simp
   all_goals
    refine cJ (by first|omega|(simp[a8N];omega)|exact⟨λx hx=>by obtain⟨y,_,rfl⟩:=g3u.1 hx;first|rfl|(rw[a8N];rfl),by omega⟩|exact⟨rfl,by omega⟩) ?_;simp;refine hR _ (a++[b]) s2 (by unfold a2y;rw[<-e1,bK,h2];rfl) (by simp[sgH,a8N]) (λh=>?_) (by simp) trivial;have:=p2 h;rw[e1]at this;simp only at this;omega
  .intro a s8 hc rZ la _ v8 hy R;simp[sgH];refine cT cQ (dJ (by omega) [98,111,117,110,100] s8 v8) (λb s9 hx=>?_);rcases gT hV hx with⟨w,_,_,_⟩|⟨_,rfl,rfl⟩
   .rw[hc]at w;cases w
   have h9:(a,s9)=(bs,s7):=(show xL l (jU l [98,111,117,110,100]) (a2y aL aD l) [] s6=(a,s9) from hy).symm.trans h7;cases h9;simp[sgH]
 simp;refine SW.jC (SW.xk ?_);simp[sgH];refine cT rK (a4K hV s7 v7) (λt s8 h8=>?_);have Q8:=Q7.step h8;have v8:=cO.next (a4L hV v7 h8);simp;obtain⟨b9,s9,h9⟩:∃b s1,wV l [109,101,116,114,105,99] s8=(b,s1):=⟨_,_,rfl⟩;have Q9:=Q8.step h9;have v9:=cO.next (a4J hV.fin v8 h9);obtain⟨ms,s10,h10⟩:∃ms s10,f3R aD l b9 s9=(ms,s10):=⟨_,_,rfl⟩;have Q10:=Q9.step h10;refine SW.b1Q [] (sgH (.sl (strs vs)) (.sl (ns.map eD)) (.sl (abs.map eD)) (.sl (bs.map b0p)) t (.sl (ms.map qO))++rfH l s10) [] (SW.xk ?_) (SW.xk ?_)
 .simp[sgH];refine cT cQ (dJ (by omega) [109,101,116,114,105,99] s8 v8) (λb x hx=>?_);cases hx.symm.trans h9;cases b9 with
  |false=>cases h10;simp[sgH]
  |true=>
   simp;refine a5G hV.fin [44] (e9Q aD l) (λa=>a.length) (λ_=>True) 6 (λ_=>[]) (λa s=>sgH (.sl (strs vs)) (.sl (ns.map eD)) (.sl (abs.map eD)) (.sl (bs.map b0p)) t (.sl (a.map qO))++rfH l s) (λ_=>[(52,[.c 3 13])]) (l.length+2) [] s9 (by omega) v9 rfl trivial (by simp[sgH]) ?_ ?_
   .intro a s0 e0 i0 bs2 la _ R hR;have v0:cO l s0:=λ_=>i0;have he:=c3P (G:=G) hV s0 i0;simp[sgH,e0];refine eV [0] 5 [2,3,4] (.op 1 (.call [6,7,8,9] .none) (.call [1,6,7,8,9] .none)) true (by kernel_rfl) (by kernel_rfl) ?_;simp;refine jE.ro (.mk func120 rfl) he [(100000,100000)] (by simp) (by simp) (by simp) (by simp) (by simp) ?_;obtain⟨E,hE⟩:∃E,gM l (l.length+1) 0 s0.pl=E:=⟨_,rfl⟩;have hb:=b5S (l:=l) (l.length+1) 0 s0.pl (Nat.le_of_lt i0);rw[hE]at hb;simp[hE];refine⟨?_,?_⟩
    all_goals
     refine rfZ (.mk func119 rfl) (hV.bef s0 E v0 (λ_=>hb.1) hb.2) (λp s1 h1=>?_);have p1:yH l 0 s0 s1:=c3R hV v0 h1;have v1:=cO.next p1;refine cS.mk ?_;simp;refine cJ (by first|omega|(simp[dH];omega)|exact⟨λx hx=>by obtain⟨y,_,rfl⟩:=g3u.1 hx;first|rfl|(rw[dH];rfl),by omega⟩|exact⟨rfl,by omega⟩) ?_;simp;have ho:e9Q aD l a s0=(a++[p],s1):=by
      show(b2e aD l >>=λp=>pure (a++[p])) s0=_
      rw[bK,show b2e aD l s0=(p,s1) by unfold b2e;rw[hE];exact h1]
      rfl
     refine cT cG (dO (by omega) [44] s1 v1) (λbh sh hh=>?_);simp;refine hR _ (a++[p]) s1 ho (by rw[hh];simp[sgH,dH]) (λh=>?_) (by simp) trivial;have:=(p1) h;omega
   .intro a s11 m hm rZ la hJ v11 hy R;have hm':m=false\/(m=true/\ ¬s11.er=0):=by
     cases m
     .exact .inl rfl
     .rcases hm with h|h
      .cases h
      .exact .inr ⟨rfl,h⟩
    have h12:(a,s11)=(ms,s10):=(show f3R aD l true s9=(a,s11) from hy).symm.trans h10;cases h12;rcases hm' with rfl|⟨rfl,h⟩
    all_goals
     first
      |simp[sgH,h]
      |simp[sgH]
 simp[sgH];exact Q10.ok _ _ (.inr rfl) (by simp[a8Y])
end
theorem a5Q:VM.Enters prog 31:=.mk func31 rfl
abbrev a4M(d:eL):List D:=.str d.name::.sl (strs d.params)::(zP d.body++ .int .i64 d.mode::.bool d.typed::a8Y d.sig)
theorem b2A(d:eL):c2R d=a4M d:=by
 rw[c2R,bY,e3Q]
 rfl
abbrev a2I:eL:=⟨[],[],pW,0,false,uP⟩
abbrev f7D:Option eL->DV:=λo=>.cY [.agg (a4M (o.getD a2I)),.bool o.isSome]
section
variable {aD:List Tok->Nat->Nat->jA Pr} {l:List Tok} (hV:rP G aD l) (hN:∀i, -9223372036854775807<=(aH l i).n/\(aH l i).n<=9223372036854775807)
include hV
theorem b0L(mode:Int)(j0:Nat)(hi:j0<l.length):tL G 66 [.int .i64 mode] l j0 (tZ aL l mode j0) (λd=>.d (.agg (a4M d))):=by
 have hl:=hV.len;have p0:=gQ hi;refine pX.bP func66 rfl ntmps66 rfl (by simp) ?_;intro Q Q0;unfold tZ at Q0;simp;refine uA Q0 p0 dS (eH hV.kw l j0 p0.2 (by omega)) (aB.word hV.fin) λnm j1 x1 Q1 p1=>?_;simp;have hb:=mQ (G:=G) l j1 [40] p1.2;refine pY (ds:=[.str [40]]) jO hb ?_;cases hs:aJ l j1 [40]with
 |false=>have Q2:=Q1.step (a:=[]) (j:=j1) (by simp[hs]);simp;exact Q2.ok _ j1 _ _ rfl (.inr rfl) (by simp[pW,uP,jK,eI])
 |true=>
  simp;have ht1:=dK (G:=G) l j1 (j1+1) 1;refine pY (ds:=[.int .i64 1]) cH ht1 ?_;simp;refine jT.mk oS (qE (aH l (j1+1)) [41]) ?_;cases hf:cI (aH l (j1+1)) [41]with
  |true=>
   have Q2:=Q1.step (a:=[]) (j:=j1+2) (by simp[hs,hf]);have hw2:IntKind.i64.wrap ((j1:Int)+2)=((j1+2:Nat):Int):=by rw[wrap64 (by omega)];omega
   simp[hw2];exact Q2.ok _ (j1+2) _ _ rfl (.inr rfl) (by simp[pW,uP,jK,eI])
  |false=>
   have e1:(λi=>if aJ l i [40] then(if cI (aH l (i+1)) [41] then .ok [] (i+2) else gD aL l i) else .ok [] i:bE (List Nm)) j1=gD aL l j1:=by simp[hs,hf]
   simp;refine rdX (.mk func101 rfl) (a7A hV j1 p1.2) (λns j3 x3=>?_) (λn e hx=>by first|exact Q1.fail (e1.trans hx) _|(simp;exact Q1.fail (e1.trans hx) _)|(simp;exact λs=>Q1.fail (e1.trans hx) s));have Q3:=Q1.step (e1.trans x3);have p3:=aB.words hV.fin j1 ns j3 p1.2 x3;simp;exact Q3.ok _ j3 _ _ rfl (.inr rfl) (by simp[pW,uP,jK,eI])
theorem b3D:aB l 1 (rN aL bF aD l):=aB.sig hV.fin hV.oY
include hN
theorem a8O(j0:Nat)(hi:j0<l.length):tL G 31 [] l j0 (uH aL bF aD l j0) f7D:=by
 have hl:=hV.len;have p0:=gQ hi;refine pX.bP func31 rfl ntmps31 rfl (by simp) ?_;intro Q Q0;unfold uH at Q0;simp;cases s1:aJ l j0 [100,101,102]with
 |true=>
  have Q1:=Q0.uK s1;refine rdT s1 p0 hV.fin λp1=>?_;obtain⟨j1,tM⟩:∃j,j0+1=j:=⟨_,rfl⟩;rw[tM]at Q1 p1|-;simp;refine uA Q1 p1 (.mk func66 rfl) ((b0L hV 0 j1 p1.2)) ((aB.head hV.fin 0)) λd j2 x2 Q2 p2=>?_;simp;cases s2:aJ l j2 [58]with
  |false=>have Q3:=Q2.step (mT s2);rw[if_neg (by decide)]at Q3;refine rdF s2 p2 ?_;simp;have Q2:=Q3.step (kR);unfold vE at Q2;refine eP Q2 p2 hV.fin λu8 j8 x8 Q8 p8=>?_;simp;refine uA Q8 p8 cV ((a3C hV hN j8 p8.2)) (b0F hV) λe j9 x9 Q9 p9=>?_;simp;exact Q9.ok _ j9 _ _ rfl (.inr rfl) (by simp)
  |true=>have Q3:=Q2.step (mS s2);rw[if_pos rfl]at Q3;refine rdT s2 p2 hV.fin λp3=>?_;obtain⟨j3,hj3⟩:∃j,j2+1=j:=⟨_,rfl⟩;rw[hj3]at Q3 p3|-;simp;have Q3:=Q3.assoc;refine uA Q3 p3 (.mk func67 rfl) ((b3C hV j3 p3.2)) (b3D hV) λs j4 x4 Q4 p4=>?_;simp;have Q4:=Q4.step (kR);unfold vE at Q4;refine eP Q4 p4 hV.fin λu8 j8 x8 Q8 p8=>?_;simp;refine uA Q8 p8 cV ((a3C hV hN j8 p8.2)) (b0F hV) λe j9 x9 Q9 p9=>?_;simp;exact Q9.ok _ j9 _ _ rfl (.inr rfl) (by simp)
 |false=>
 have Q0:=Q0.sK (by rw[s1];decide);refine rdF s1 p0 ?_;simp;cases s2:aJ l j0 [97,115,115,117,109,101]with
 |true=>have Q1:=Q0.uK s2;refine rdT s2 p0 hV.fin λp1=>?_;obtain⟨j1,tM⟩:∃j,j0+1=j:=⟨_,rfl⟩;rw[tM]at Q1 p1|-;simp;refine uA Q1 p1 (.mk func66 rfl) ((b0L hV 1 j1 p1.2)) ((aB.head hV.fin 1)) λd j2 x2 Q2 p2=>?_;simp;refine eP Q2 p2 hV.fin λu3 j3 x3 Q3 p3=>?_;simp;refine uA Q3 p3 (.mk func67 rfl) ((b3C hV j3 p3.2)) (b3D hV) λs j4 x4 Q4 p4=>?_;simp;exact Q4.ok _ j4 _ _ rfl (.inr rfl) (by simp)
 |false=>
 have Q0:=Q0.sK (by rw[s2];decide);refine rdF s2 p0 ?_;simp;cases s3:aJ l j0 [114,101,102,108,101,99,116]with
 |true=>have Q1:=Q0.uK s3;refine rdT s3 p0 hV.fin λp1=>?_;obtain⟨j1,tM⟩:∃j,j0+1=j:=⟨_,rfl⟩;rw[tM]at Q1 p1|-;simp;refine uA Q1 p1 (.mk func66 rfl) ((b0L hV 2 j1 p1.2)) ((aB.head hV.fin 2)) λd j2 x2 Q2 p2=>?_;simp;refine eP Q2 p2 hV.fin λu3 j3 x3 Q3 p3=>?_;simp;refine uA Q3 p3 (.mk func67 rfl) ((b3C hV j3 p3.2)) (b3D hV) λs j4 x4 Q4 p4=>?_;simp;unfold vE at Q4;refine eP Q4 p4 hV.fin λu8 j8 x8 Q8 p8=>?_;simp;refine uA Q8 p8 cV ((a3C hV hN j8 p8.2)) (b0F hV) λe j9 x9 Q9 p9=>?_;simp;exact Q9.ok _ j9 _ _ rfl (.inr rfl) (by simp)
 |false=>
 have Q0:=Q0.sK (by rw[s3];decide);refine rdF s3 p0 ?_;simp;exact Q0.ok _ j0 _ _ rfl (.inr rfl) (by simp[pW,uP,jK,eI])
end
section
variable {aD:List Tok->Nat->Nat->jA Pr} {l:List Tok} (hV:vK G aD l)
include hV
def dfH(nm:Nm)(ps:D)(e:cP)(mode:Int)(ty:Bool)(g:zQ):List (Nat×bH):=[(3,.cells (.d (.str nm)::.d ps::((zP e).map .d++ .d (.int .i64 mode)::.d (.bool ty)::(a8Y g).map .d))),(2,.cells [.d (.str []),.d .aE,.d (.int .i64 0),.d (.str []),.d (.int .i64 0),.d .aE,.d .aE,.d .aE,.d .aE,.d (.int .i64 0),.d (.bool false),.d .aE,.d .aE,.d .aE,.d .aE,.d (.int .i64 0),.d (.str []),.d .aE,.d .aE,.d (.int .i64 0),.d (.str []),.d (.int .i64 0),.d .aE,.d .aE,.d .aE])]
variable{s s1:dR}
theorem d8q{m:Int}(hv:cO l s)(h:a1h l s=(m,s1)):cO l s1:=by
 unfold a1h at h;split at h
 .rename_i w;cases h;exact λ_=>(a0p hV w).2
 .split at h
  .rename_i w;cases h;exact λ_=>(a0p hV w).2
  .split at h
   .rename_i w;cases h;exact λ_=>(a0p hV w).2
   .cases h;intro h1;unfold mB at h1|-;split at h1
    .cases h1
    .rename_i he;exact absurd h1 he
theorem e3T{g:zQ}(hv:cO l s)(h:a9C aL bF aD l s=(g,s1)):cO l s1:=(aK.sig hV.toRfH).next hv h
theorem d4r(hn:∀i, -9223372036854775807<=(aH l i).n/\(aH l i).n<=9223372036854775807)(s0:dR)(hv:cO l s0):eG G 34 [] l s0 (a2z aL bF aD l s0) (λd=>.d (.agg (a4M d))):=by
 have hl:=hV.len;have v0:=hv;refine eG.xV func34 rfl ntmps34 rfl ?_;intro Q Q0;unfold a2z at Q0;refine SW.jC (SW.xk ?_);simp;refine SW.jC (SW.xk ?_);simp;obtain⟨m,s1,h1⟩:∃m s1,a1h l s0=(m,s1):=⟨_,_,rfl⟩;have Q1:=Q0.step h1;have v1:=d8q hV v0 h1;refine SW.b1Q [] (dfH [] .aE pW m false uP++rfH l s1) [] (SW.xk ?_) ?_
 .unfold a1h at h1;simp;refine cT cQ (dJ (by omega) [100,101,102] s0 v0) (λb x hx=>?_);rcases gT hV hx with⟨w,rfl,rfl,_⟩|⟨w,rfl,e1⟩
  .rw[if_pos w]at h1;cases h1;simp[dfH,pW,uP,jK,eI,strs]
  rw[if_neg (by rw[w];decide)]at h1;rw[e1];simp;refine cT cQ (dJ (by omega) [97,115,115,117,109,101] s0 v0) (λb x hx=>?_);rcases gT hV hx with⟨w,rfl,rfl,_⟩|⟨w,rfl,e1⟩
  .rw[if_pos w]at h1;cases h1;simp[dfH,pW,uP,jK,eI,strs]
  rw[if_neg (by rw[w];decide)]at h1;rw[e1];simp;refine cT cQ (dJ (by omega) [114,101,102,108,101,99,116] s0 v0) (λb x hx=>?_);rcases gT hV hx with⟨w,rfl,rfl,_⟩|⟨w,rfl,e1⟩
  .rw[if_pos w]at h1;cases h1;simp[dfH,pW,uP,jK,eI,strs]
  rw[if_neg (by rw[w];decide)]at h1;rw[e1];simp;refine cT sR (xM (by omega) s0 v0) (λu x hx=>?_);cases h1;cases hx;simp[dfH,pW,uP,jK,eI,strs]
 simp;refine SW.jC (SW.xk ?_);simp[dfH];refine rfG Q1 v1 mG (oX (by omega) s1 v1) (oZ hV.fin) λnm s2 h2 Q2 p2 v2=>?_;simp;obtain⟨ps,s3,h3⟩:∃ps s3,b0x aL l s2=(ps,s3):=⟨_,_,rfl⟩;have Q3:=Q2.step h3;have v3:cO l s3:=(aK.d8c hV.toRfH).next v2 h3;refine SW.b1Q [] (dfH nm (.sl (strs ps)) pW m false uP++rfH l s3) [] (SW.xk ?_) ?_
 .unfold b0x at h3;have g1:eG G 60 [.int .i64 1,.str [41]] l s2 _ _:=qF (by omega) 1 [41] s2 v2 (by omega);simp;refine cT bT (eC hV [40] s2 v2) (λb x hx=>?_);cases hx;rcases g3x (cF l 0 [40] s2)with w|w
  .rw[w];simp;refine cT bT g1 (λb x hx=>?_);cases hx;rcases g3x (cF l 1 [41] s2)with w1|w1
   .rw[if_pos (by rw[w,w1];rfl)]at h3;have hi:=(a1V hV.fin w).2;have hw:IntKind.i64.wrap ((s2.pl:Int)+2)=((s2.pl+2:Nat):Int):=by rw[wrap64 (by omega)];omega
    cases h3;rw[w1];simp[hw];simp[dfH,strs]
   .rw[if_neg (by rw[w,w1];decide),if_pos w]at h3;rw[w1];simp;refine cT bT (eC hV [40] s2 v2) (λb x hx=>?_);cases hx;rw[w];simp;refine cT (.mk func72 rfl) (b4R hV s2 v2) (λb x hx=>?_);cases hx.symm.trans h3;simp[dfH]
  .rw[if_neg (by rw[w,Bool.false_and];decide),if_neg (by rw[w];decide)]at h3;cases h3;rw[w];simp;refine cT bT (eC hV [40] s2 v2) (λb x hx=>?_);cases hx;rw[w];simp[dfH,strs]
 simp;obtain⟨c,hc⟩:∃c,(!decide (m=0)||cF l 0 [58] s3)=c:=⟨_,rfl⟩;have Q4:=Q3.step (show zA (λs=> !decide (m=0)||cF l 0 [58] s) s3=(c,s3) by rw[<-hc];rfl);obtain⟨g,s4,h4⟩:∃g s4,(if c=true then aX l [58] >>=λ_=>a9C aL bF aD l else pure uP:RM zQ) s3=(g,s4):=⟨_,_,rfl⟩;have Q5:=Q4.step h4;have v4:cO l s4:=by
  cases c with
  |false=>cases h4;exact v3
  |true=>obtain⟨u,s5,h5⟩:∃u s5,aX l [58] s3=(u,s5):=⟨_,_,rfl⟩;rw[if_pos rfl,bK,h5]at h4;exact e3T hV (cO.next (qH hV.fin v3 h5)) h4
 refine SW.b1Q [] (dfH nm (.sl (strs ps)) pW m c g++rfH l s4) [] (SW.xk ?_) ?_
 .by_cases hm:m=0
  .rcases g3x (cF l 0 [58] s3)with w|w
   .have zM:c=true:=by rw[<-hc,w,Bool.or_true]
    subst zM;simp[dfH,hm];refine cT bT (eC hV [58] s3 v3) (λb x hx=>?_);cases hx;rw[w];simp;refine cT pU (rJ (by omega) [58] s3 v3) (λu s5 h5=>?_);rw[if_pos rfl,bK,h5]at h4;simp;refine cT (.mk func73 rfl) (c1I hV s5 (cO.next (qH hV.fin v3 h5))) (λg2 s6 h6=>?_);cases h6.symm.trans h4;simp[dfH]
   .have zM:c=false:=by rw[<-hc,w,hm];rfl
    subst zM;cases h4;simp[dfH,hm];refine cT bT (eC hV [58] s3 v3) (λb x hx=>?_);cases hx;rw[w];simp[dfH]
  .have zM:c=true:=by rw[<-hc];simp[hm]
   subst zM;simp[dfH,hm];refine cT pU (rJ (by omega) [58] s3 v3) (λu s5 h5=>?_);rw[if_pos rfl,bK,h5]at h4;simp;refine cT (.mk func73 rfl) (c1I hV s5 (cO.next (qH hV.fin v3 h5))) (λg2 s6 h6=>?_);cases h6.symm.trans h4;simp[dfH]
 simp;by_cases hm:m=1
 .refine SW.xk ?_;simp[dfH,hm];have Q6:=Q5.step (show(if m=1 then pure pW else aX l [61] >>=λ_=>a3Z aL bF aD l:RM cP) s4=(pW,s4) by rw[if_pos hm];rfl);exact Q6.ok _ _ (.inr rfl) (by simp[hm])
 .refine SW.xk ?_;simp[dfH,hm];refine cT pU (rJ (by omega) [61] s4 v4) (λu s5 h5=>?_);simp;refine cT gS (d0t hV hn s5 (cO.next (qH hV.fin v4 h5))) (λe s6 h6=>?_);have Q6:=Q5.step (show(if m=1 then pure pW else aX l [61] >>=λ_=>a3Z aL bF aD l:RM cP) s4=(e,s6) by rw[if_neg hm,bK,h5];exact h6);simp;exact Q6.ok _ _ (.inr rfl) (by simp)
theorem d4s{d:eL}(hv:cO l s)(h:a2z aL bF aD l s=(d,s1)):yH l 0 s s1:=(aK.f3M hV.toRfH (F:=λd=>pure d) (G:=λd=>pure d) (λd=>aK.bZ d)).d3G hv (show(a2z aL bF aD l >>=λd=>pure d:RM eL) s=_ from h)
end
end
end Go.Proofs.YtmfbjecjccipfaaGreatDoor
section
section
namespace Go.Proofs.YtmfbjecjccipfaaGreatDoor
def jP(l:List Tok)(i:Nat)(s:List UInt8):Bool:=match l[i]? with
 |some t=>decide (t.kind=4)&&decide (t.text=s)
 |none=>false
def kdB(l:List Tok)(i:Nat)(k:Int):Bool:=match l[i]? with
 |some t=>decide (t.kind=k)
 |none=>false
def wtB(l:List Tok)(i:Nat):Bool:=kdB l i 1||kdB l i 2
def txA(l:List Tok)(i:Nat):List UInt8:=((l[i]?).map (·.text)).getD []
def nmA(l:List Tok)(i:Nat):Int:=((l[i]?).map (·.n)).getD 0
def tw(op:Int)(a b:Pr):Pr:=⟨op,[],0,[a,b]⟩
def pA(l:List Tok):Nat->Nat->List UInt8->List UInt8×Nat
 |0,i,s=>(s,i)
 |f+1,i,s=>
  if jP l i [46]=true then
   if wtB l (i+1)=true then pA l f (i+2) (s++[46]++txA l (i+1))
   else if kdB l (i+1) 3=true then
    if wtB l (i+2)=true then pA l f (i+3) (s++[46]++txA l (i+1)++txA l (i+2)) else pA l f (i+2) (s++[46]++txA l (i+1))
   else(s,i)
  else(s,i)
def opL:Nat->List (Int×List UInt8)
 |1=>[(18,[60,61,62])]
 |3=>[(16,[124,124])]
 |4=>[(15,[38,38])]
 |7=>[(6,[43]),(7,[45])]
 |8=>[(8,[42])]
 |_=>[]
def a4e(l:List Tok)(n k:Nat):Option Int:=((opL k).find? λp=>jP l n p.2).map (·.1)
def cmpL:List (List UInt8×Int×Bool):=[([61],10,false),([33,61],11,false),([60],12,false),([62],12,true),([60,61],13,false),([62,61],13,true)]
def wL(l:List Tok)(n:Nat):Option (Int×Bool):=(cmpL.find? λp=>jP l n p.1).map (·.2)
section
variable (kw:List UInt8->Bool) (rd:Nat->Nat->Option (Pr×Nat)) (l:List Tok)
def a7P(i:Nat):Bool:=wtB l i&&(!kw (txA l i)||decide (txA l i=[118])||decide (txA l i=[116,97,103])||decide (txA l i=[118,97,108]))
def pV(i:Nat):Option (List UInt8×Nat):=if a7P kw l i=true then some (pA l l.length (i+1) (txA l i)) else none
def dX(k:Nat):Nat->Pr->Nat->Pr×Nat
 |0,a,n=>(a,n)
 |g+1,a,n=>match a4e l n k with
  |none=>(a,n)
  |some op=>match rd (n+1) (k+1)with
   |none=>(a,n)
   |some (b,m)=>dX k g (tw op a b) m
def kZ:Nat->Nat->List Pr->Option (List Pr×Nat)
 |0,_,_=>none
 |g+1,i,acc=>match rd (i+1) 1 with
  |none=>none
  |some (p,n)=>if jP l n [41]=true then some (acc++[p],n+1) else if jP l n [44]=true then kZ g n (acc++[p]) else none
def rF(i:Nat):Option (List Pr×Nat):=if jP l i [40]=true then kZ rd l l.length i [] else none
def uM(i:Nat):Option (Pr×Nat):=match l[i]? with
 |none=>none
 |some t=>
  if t.kind=3 then some (⟨1,[],t.n,[]⟩,i+1)
  else if t.kind=1/\t.text=[116,114,117,101] then some (⟨2,[],1,[]⟩,i+1)
  else if t.kind=1/\t.text=[102,97,108,115,101] then some (⟨2,[],0,[]⟩,i+1)
  else if jP l i [63]=true then(match pV kw l (i+1)with
   |none=>none
   |some (s,n)=>(rF rd l n).map λq=>(⟨5,s,0,q.1⟩,q.2))
  else if jP l i [40]=true then
   if jP l (i+1) [45]=true/\kdB l (i+2) 3=true/\jP l (i+3) [41]=true then some (⟨1,[],IntKind.i64.wrap (-nmA l (i+2)),[]⟩,i+4)
   else(match rd (i+1) 1 with
    |none=>none
    |some (p,n)=>if jP l n [41]=true then some (p,n+1) else none)
  else(match pV kw l i with
   |none=>none
   |some (s,n)=>(match rF rd l n with
    |some (ks,m)=>some (⟨4,s,0,ks⟩,m)
    |none=>some (⟨3,s,0,[]⟩,n)))
def a3T(i:Nat):Option (Pr×Nat):=match rd i 7 with
 |none=>none
 |some (a,n)=>(match wL l n with
  |none=>some (a,n)
  |some (op,ex)=>(match rd (n+1) 7 with
   |none=>some (a,n)
   |some (b,m)=>some (if ex=true then tw op b a else tw op a b,m)))
def a8Z(i:Nat):Option (Pr×Nat):=match rd i 3 with
 |none=>none
 |some (a,n)=>if jP l n [61,62]=true then(match rd (n+1) 2 with
  |some (b,m)=>some (tw 17 a b,m)
  |none=>some (a,n)) else some (a,n)
def atG(i k:Nat):Option (Pr×Nat):=
 match k with
 |2=>a8Z rd l i
 |5=>if jP l i [33]=true then(rd (i+1) 5).map λq=>(⟨14,[],0,[q.1]⟩,q.2) else rd i 6
 |6=>a3T rd l i
 |9=>if jP l i [45]=true then(rd (i+1) 9).map λq=>(⟨9,[],0,[q.1]⟩,q.2) else rd i 10
 |10=>uM kw rd l i
 |k=>(rd i (k+1)).map λq=>dX rd l k l.length q.1 q.2
end
def gV(kw:List UInt8->Bool)(l:List Tok):Nat->Nat->Nat->Option (Pr×Nat)
 |0,_,_=>none
 |f+1,i,k=>atG kw (gV kw l f) l i k
variable{l:List Tok}{i:Nat}{s:List UInt8}
theorem mZ(h:jP l i s=true):i<l.length:=by
 unfold jP at h;split at h
 .rename_i t ht;exact(g3a.1 ht).1
 .cases h
theorem b8r{k:Int}(h:kdB l i k=true):i<l.length:=by
 unfold kdB at h;split at h
 .rename_i t ht;exact(g3a.1 ht).1
 .cases h
theorem a4f(h:wtB l i=true):i<l.length:=by unfold wtB at h;rw[g3l]at h;rcases h with h|h<;>exact b8r h
theorem a0q{l:List Tok}:∀(f i:Nat)(s:List UInt8),i<=l.length->i<=(pA l f i s).2/\(pA l f i s).2<=l.length
 |0,i,s,h=>⟨g3p _,h⟩
 |f+1,i,s,h=>by
  rw[pA];split
  .rename_i h1;have:=mZ h1;split
   .rename_i h2;have:=a4f h2;have:=a0q (l:=l) f (i+2) (s++[46]++txA l (i+1)) (by omega);omega
   .split
    .rename_i h3;have:=b8r h3;split
     .rename_i h4;have:=a4f h4;have:=a0q (l:=l) f (i+3) (s++[46]++txA l (i+1)++txA l (i+2)) (by omega);omega
     .have:=a0q (l:=l) f (i+2) (s++[46]++txA l (i+1)) (by omega);omega
    .exact⟨g3p _,h⟩
  .exact⟨g3p _,h⟩
theorem qJ{kw:List UInt8->Bool}{n:Nat}(h:pV kw l i=some (s,n)):i<n/\n<=l.length:=by
 unfold pV at h;split at h
 .rename_i hb;unfold a7P at hb;rw[g2Z]at hb;have h1:=a4f hb.1;have h2:=a0q (l:=l) l.length (i+1) (txA l i) (by omega);rw[g3f]at h;rw[h]at h2;simp only at h2;omega
 .cases h
def Adv(l:List Tok)(rd:Nat->Nat->Option (Pr×Nat)):Prop:=∀i k p n,rd i k=some (p,n)->i<n/\n<=l.length
section
variable {kw:List UInt8->Bool} {rd rd':Nat->Nat->Option (Pr×Nat)} {l:List Tok}
theorem a8P(h:Adv l rd)(k:Nat):∀(g:Nat)(a:Pr)(n:Nat),n<=l.length->n<=(dX rd l k g a n).2/\(dX rd l k g a n).2<=l.length
 |0,a,n,hn=>⟨g3p _,hn⟩
 |g+1,a,n,hn=>by
  rw[dX];split
  .exact⟨g3p _,hn⟩
  .split
   .exact⟨g3p _,hn⟩
   .rename_i op _ _ b m hr;have h1:=h _ _ _ _ hr;have h2:=a8P h k g (tw op a b) m h1.2;omega
theorem b2C(h:Adv l rd):∀(g i:Nat)(acc ks:List Pr)(m:Nat),kZ rd l g i acc=some (ks,m)->i<m/\m<=l.length
 |0,_,_,_,_,hr=>by cases hr
 |g+1,i,acc,ks,m,hr=>by
  rw[kZ]at hr;split at hr
  .cases hr
  .rename_i p n hp;have h1:=h _ _ _ _ hp;split at hr
   .rename_i hs;have:=mZ hs;cases hr;omega
   .split at hr
    .have:=b2C h g n _ ks m hr;omega
    .cases hr
variable{i n:Nat}
theorem b2D(h:Adv l rd){m:Nat}{ks:List Pr}(hr:rF rd l i=some (ks,m)):i<m/\m<=l.length:=by
 unfold rF at hr;split at hr
 .exact b2C h _ _ _ _ _ hr
 .cases hr
variable{p:Pr}
theorem d8r(h:Adv l rd)(hr:uM kw rd l i=some (p,n)):i<n/\n<=l.length:=by
 unfold uM at hr;split at hr
 .cases hr
 .rename_i t ht;have yJ:=(g3a.1 ht).1;split at hr
  .cases hr;omega
  split at hr
  .cases hr;omega
  split at hr
  .cases hr;omega
  split at hr
  .split at hr
   .cases hr
   .rename_i s m hn;have h1:=qJ hn;rw[g2Y]at hr;obtain⟨⟨ks,q⟩,hq,he⟩:=hr;have h2:=b2D h hq;cases he;simp only at *;omega
  split at hr
  .split at hr
   .rename_i hc;have:=mZ hc.2.2;cases hr;omega
   .split at hr
    .cases hr
    .rename_i q m hq;have h1:=h _ _ _ _ hq;split at hr
     .rename_i hs;have:=mZ hs;cases hr;omega
     .cases hr
  .split at hr
   .cases hr
   .rename_i s m hn;have h1:=qJ hn;split at hr
    .rename_i ks q hq;have h2:=b2D h hq;cases hr;omega
    .cases hr;omega
theorem d8s(h:Adv l rd){k:Nat}(hr:atG kw rd l i k=some (p,n)):i<n/\n<=l.length:=by
 unfold atG at hr;split at hr
 .unfold a8Z at hr;split at hr
  .cases hr
  .rename_i a m ha;have h1:=h _ _ _ _ ha;split at hr
   .split at hr
    .rename_i b q hb;have h2:=h _ _ _ _ hb;cases hr;omega
    .cases hr;exact h1
   .cases hr;exact h1
 .split at hr
  .rw[g2Y]at hr;obtain⟨⟨a,m⟩,ha,he⟩:=hr;have h1:=h _ _ _ _ ha;cases he;simp only;omega
  .exact h _ _ _ _ hr
 .unfold a3T at hr;split at hr
  .cases hr
  .rename_i a m ha;have h1:=h _ _ _ _ ha;split at hr
   .cases hr;exact h1
   .split at hr
    .cases hr;exact h1
    .rename_i b q hb;have h2:=h _ _ _ _ hb;cases hr;omega
 .split at hr
  .rw[g2Y]at hr;obtain⟨⟨a,m⟩,ha,he⟩:=hr;have h1:=h _ _ _ _ ha;cases he;simp only;omega
  .exact h _ _ _ _ hr
 .exact d8r h hr
 .rw[g2Y]at hr;obtain⟨⟨a,m⟩,ha,he⟩:=hr;have h1:=h _ _ _ _ ha;have h2:=a8P (k:=k) h l.length a m h1.2;have h3:(dX rd l k l.length a m).2=n:=by rw[he]
  omega
end
theorem kS(kw:List UInt8->Bool)(l:List Tok):∀f,Adv l (gV kw l f)
 |0=>λ_ _ _ _ h=>by cases h
 |f+1=>λ_ _ _ _ h=>d8s (kS kw l f) h
end Go.Proofs.YtmfbjecjccipfaaGreatDoor
end
section
namespace Go.Proofs.YtmfbjecjccipfaaGreatDoor
variable{l:List Tok}{L i k k' n:Nat}
theorem b3E{op:Int}(h:a4e l n k=some op):n<l.length/\1<=k/\k<=8:=by unfold a4e at h;rw[g2Y]at h;obtain⟨p,hp,_⟩:=h;have hs:jP l n p.2=true:=List.find?_some (p:=λp:Int×List UInt8=>jP l n p.2) hp;refine⟨mZ hs,?_⟩;have hm:=List.mem_of_find?_eq_some hp;unfold opL at hm;split at hm<;>first|omega|cases hm
theorem b8s{q:Int×Bool}(h:wL l n=some q):n<l.length:=by unfold wL at h;rw[g2Y]at h;obtain⟨p,hp,_⟩:=h;have hs:jP l n p.1=true:=List.find?_some (p:=λp:List UInt8×Int×Bool=>jP l n p.1) hp;exact mZ hs
section
variable {kw:List UInt8->Bool} {rd rd':Nat->Nat->Option (Pr×Nat)} {l:List Tok}
theorem b4X(hA:Adv l rd){i k:Nat}(h:∀i' k',1<=k'->k'<=10->i<i'->i'<=l.length->rd i' k'=rd' i' k'):∀(g:Nat)(a:Pr)(n:Nat),i<=n->dX rd l k g a n=dX rd' l k g a n
 |0,_,_,_=>rfl
 |g+1,a,n,hn=>by
  rw[dX,dX];cases ho:a4e l n k with
  |none=>rfl
  |some op=>
   obtain⟨h1,h2,h3⟩:=b3E ho;rw[<-h (n+1) (k+1) (by omega) (by omega) (by omega) (by omega)];cases hr:rd (n+1) (k+1)with
   |none=>rfl
   |some q=>obtain⟨b,m⟩:=q;have:=hA _ _ _ _ hr;exact b4X hA h g _ m (by omega)
theorem b8t(hA:Adv l rd){i:Nat}(h:∀i' k',1<=k'->k'<=10->i<i'->i'<=l.length->rd i' k'=rd' i' k'):∀(g n:Nat)(acc:List Pr),i<=n->n<l.length->kZ rd l g n acc=kZ rd' l g n acc
 |0,_,_,_,_=>rfl
 |g+1,n,acc,hn,hl=>by
  rw[kZ,kZ, <- h (n+1) 1 (by omega) (by omega) (by omega) (by omega)];cases hr:rd (n+1) 1 with
  |none=>rfl
  |some q=>
   obtain⟨p,m⟩:=q;have:=hA _ _ _ _ hr;simp only;split
   .rfl
   .split
    .rename_i hs;exact b8t hA h g m _ (by omega) (mZ hs)
    .rfl
variable{i:Nat}
theorem b8u(hA:Adv l rd){n:Nat}(h:∀i' k',1<=k'->k'<=10->i<i'->i'<=l.length->rd i' k'=rd' i' k')(hn:i<=n):rF rd l n=rF rd' l n:=by
 unfold rF;split
 .rename_i hs;exact b8t hA h _ _ _ hn (mZ hs)
 .rfl
theorem d0y(hA:Adv l rd)(h:∀i' k',1<=k'->k'<=10->i<i'->i'<=l.length->rd i' k'=rd' i' k'):uM kw rd l i=uM kw rd' l i:=by
 unfold uM;cases ht:l[i]? with
 |none=>rfl
 |some t=>
  simp only;split
  .rfl
  split
  .rfl
  split
  .rfl
  split
  .cases hn:pV kw l (i+1)with
   |none=>rfl
   |some q=>have:=qJ (s:=q.1) (n:=q.2) hn;simp only;rw[b8u hA h (by omega)]
  split
  .rename_i hs;have:=mZ hs;split
   .rfl
   .rw[h (i+1) 1 (by omega) (by omega) (by omega) (by omega)]
  .cases hn:pV kw l i with
   |none=>rfl
   |some q=>have:=qJ (s:=q.1) (n:=q.2) hn;simp only;rw[b8u hA h (by omega)]
theorem c7C(hA:Adv l rd){k:Nat}(hk:1<=k/\k<=10)(h:∀i' k',1<=k'->k'<=10->i<i'->i'<=l.length->rd i' k'=rd' i' k')(h0:∀k',k<k'->k'<=10->rd i k'=rd' i k'):atG kw rd l i k=atG kw rd' l i k:=by
 unfold atG;split
 .unfold a8Z;rw[<-h0 3 (by omega) (by omega)];cases hr:rd i 3 with
  |none=>rfl
  |some q=>
   obtain⟨a,n⟩:=q;have:=hA _ _ _ _ hr;simp only;split
   .rename_i hs;have:=mZ hs;rw[h (n+1) 2 (by omega) (by omega) (by omega) (by omega)]
   .rfl
 .split
  .rename_i hs;have:=mZ hs;rw[h (i+1) 5 (by omega) (by omega) (by omega) (by omega)]
  .exact h0 6 (by omega) (by omega)
 .unfold a3T;rw[<-h0 7 (by omega) (by omega)];cases hr:rd i 7 with
  |none=>rfl
  |some q=>
   obtain⟨a,n⟩:=q;have:=hA _ _ _ _ hr;simp only;cases hc:wL l n with
   |none=>rfl
   |some c=>have:=b8s hc;simp only;rw[h (n+1) 7 (by omega) (by omega) (by omega) (by omega)]
 .split
  .rename_i hs;have:=mZ hs;rw[h (i+1) 9 (by omega) (by omega) (by omega) (by omega)]
  .exact h0 10 (by omega) (by omega)
 .exact d0y hA h
 .rename_i hx2 hx5 hx6 hx9 f7E;have gK:k≠10:=λe=>f7E e;rw[<-h0 (k+1) (by omega) (by omega)];cases hr:rd i (k+1)with
  |none=>rfl
  |some q=>obtain⟨a,n⟩:=q;have:=hA _ _ _ _ hr;simp only[Option.map_some];rw[b4X hA h l.length a n (by omega)]
end
def mu(L i k:Nat):Nat:=(L+1-i)*12+(11-k)
theorem rW{i':Nat}(hi:i<i')(hl:i'<=L)(hk:1<=k':=by omega)(hk2:k<=10:=by omega):mu L i' k'<mu L i k:=by unfold mu;omega
theorem a7Q(h:k<k')(hk:k'<=10):mu L i k'<mu L i k:=by unfold mu;omega
theorem a7R(kw:List UInt8->Bool)(l:List Tok):∀(f f' i k:Nat),1<=k->k<=10->i<=l.length->mu l.length i k<=f->mu l.length i k<=f'->gV kw l f i k=gV kw l f' i k
 |0,_,i,k,_,h2,hi,h,_=>by unfold mu at h;omega
 |_+1,0,i,k,_,h2,hi,_,h=>by unfold mu at h;omega
 |f+1,f'+1,i,k,h1,h2,hi,h,h'=>by
  rw[gV,gV];exact c7C (kS kw l f) ⟨h1,h2⟩ (λi' k' q1 q2 q3 q4=>by
   have:=rW (k:=k) q3 q4 q1 h2;exact a7R kw l f f' i' k' q1 q2 q4 (by omega) (by omega)) (λk' q1 q2=>by
   have:=a7Q (L:=l.length) (i:=i) q1 q2;exact a7R kw l f f' i k' (by omega) q2 hi (by omega) (by omega))
theorem d1Y(kw:List UInt8->Bool)(l:List Tok):∀(f f' i:Nat)(p:Pr)(m:Nat),i<=l.length->mu l.length i 2<=f->gV kw l f i 2=some (p,m)->jP l m [61,62]=true->mu l.length (m+1) 2<=f'->gV kw l f' (m+1) 2=none
 |0,_,_,_,_,_,_,h,_,_=>by cases h
 |f+1,f',i,p,m,hi,hf,h,hs,hf'=>by
  have h0:a8Z (gV kw l f) l i=some (p,m):=h;unfold a8Z at h0;split at h0
  .cases h0
  .rename_i a n ha;have hA:=kS kw l f _ _ _ _ ha;split at h0
   .rename_i hs1;have hl:=mZ hs1;have hm1:=rW (L:=l.length) (i:=i) (i':=n+1) (k:=2) (k':=2) (by omega) (by omega);split at h0
    .rename_i b q hb;cases h0;exact d1Y kw l f f' (n+1) b m (by omega) (by omega) hb hs hf'
    .rename_i hb;cases h0;rw[<-hb];exact a7R kw l f' f (m+1) 2 (by omega) (by omega) (by omega) hf' (by omega)
   .rename_i hs1;cases h0;exact absurd hs hs1
end Go.Proofs.YtmfbjecjccipfaaGreatDoor
end
section
namespace Go.Proofs.YtmfbjecjccipfaaGreatDoor
structure Out (α:Type) where
 sg:List UInt8->List α
 nm:List UInt8->List α
 nu:Nat->List α
 bo:Bool->List α
 sp:List α
end Go.Proofs.YtmfbjecjccipfaaGreatDoor
end
section
namespace Go.Proofs.YtmfbjecjccipfaaGreatDoor
def RR(kw:List UInt8->Bool)(l:List Tok)(i k:Nat):Option (Pr×Nat):=gV kw l (mu l.length i k) i k
theorem e9U(kw:List UInt8->Bool)(l:List Tok):Adv l (RR kw l):=λi k p n h=>kS kw l _ i k p n h
theorem e6F{kw:List UInt8->Bool}{l:List Tok}{i k:Nat}(h1:1<=k)(h2:k<=10)(hi:i<=l.length:=by omega):RR kw l i k=atG kw (RR kw l) l i k:=by
 obtain⟨f,hf⟩:∃f,mu l.length i k=f+1:=⟨mu l.length i k-1,by unfold mu;omega⟩;have h:RR kw l i k=atG kw (gV kw l f) l i k:=by unfold RR;rw[hf,gV]
 rw[h];refine c7C (kS kw l f) ⟨h1,h2⟩ (λi' k' q1 q2 q3 q4=>?_) (λk' q1 q2=>?_)
 .have:=rW (k:=k) q3 q4 q1 h2;exact a7R kw l f _ i' k' q1 q2 q4 (by omega) (g3p _)
 .have:=a7Q (L:=l.length) (i:=i) q1 q2;exact a7R kw l f _ i k' (by omega) q2 hi (by omega) (g3p _)
def lvS(s:List UInt8):Nat:=if s=[60,61,62] then 1 else if s=[61,62] then 2 else if s=[124,124] then 3 else if s=[38,38] then 4
 else if s=[61]\/s=[33,61]\/s=[60]\/s=[62]\/s=[60,61]\/s=[62,61] then 6 else if s=[43]\/s=[45] then 7 else if s=[42] then 8 else 0
section
variable {l rest:List Tok} {n k:Nat}
theorem e9V(j:Nat):∀p∈opL j,lvS p.2=j:=by unfold opL;split<;>simp[lvS]
theorem e3U:∀p∈cmpL,lvS p.1=6:=by simp[cmpL,lvS]
end
end Go.Proofs.YtmfbjecjccipfaaGreatDoor
end
section
namespace Go.Proofs.YtmfbjecjccipfaaGreatDoor
section
variable {num:List UInt8->Int×Bool} {ln:Int}
end
end Go.Proofs.YtmfbjecjccipfaaGreatDoor
end
end
namespace Go.Proofs.YtmfbjecjccipfaaGreatDoor
section
def b0M(t:Tok):Int:=if t.text=[40] then 1 else if t.text=[41] then -1 else 0
def a2U(l:List Tok)(i:Nat):Int:=match l[i]? with
 |some t=>b0M t
 |none=>0
def a9a(l:List Tok):Nat->Nat->Int
 |_,0=>0
 |i,m+1=>a2U l i+a9a l (i+1) m
def par(l:List Tok)(i j:Nat):Int:=a9a l i (j-i)
section
variable {l:List Tok}
theorem zF(i:Nat):par l i i=0:=by
 unfold par;rw[Nat.sub_self]
 rfl
variable{i j k n:Nat}
theorem mL(h:i<j:=by omega):par l i j=a2U l i+par l (i+1) j:=by
 unfold par;rw[show j-i=(j-(i+1))+1 by omega]
 rfl
theorem c7D:∀(m i n:Nat),a9a l i (m+n)=a9a l i m+a9a l (i+m) n
 |0,i,n=>by simp[a9a]
 |m+1,i,n=>by rw[show m+1+n=(m+n)+1 by omega,a9a,a9a,c7D m (i+1) n,show i+1+m=i+(m+1) by omega];omega
theorem a1L(h1:i<=j:=by omega)(h2:j<=k:=by omega):par l i k=par l i j+par l j k:=by unfold par;have:=c7D (l:=l) (j-i) i (k-j);rw[show j-i+(k-j)=k-i by omega,show i+(j-i)=j by omega]at this;exact this
theorem zG:par l i (i+1)=a2U l i:=by rw[mL,zF];omega
def WfD(l:List Tok):Prop:=∀(i:Nat)(t:Tok),l[i]? =some t->t.kind≠4->b0M t=0
variable{s:List UInt8}
theorem xP(h:jP l i s=true):a2U l i=b0M ⟨4,s,0,0⟩:=by
 unfold jP at h;unfold a2U;cases ht:l[i]? with
 |none=>rw[ht]at h;cases h
 |some t=>rw[ht]at h;simp only[g2Z,g3N]at h;simp only[b0M,h.2]
theorem c3T(hW:WfD l){k:Int}(hk:k≠4)(h:kdB l i k=true):a2U l i=0:=by
 unfold kdB at h;unfold a2U;cases ht:l[i]? with
 |none=>rfl
 |some t=>rw[ht]at h;simp only[g3N]at h;exact hW i t ht (by omega)
theorem d0z(hW:WfD l)(h:wtB l i=true):a2U l i=0:=by
 unfold wtB at h;rw[g3l]at h;rcases h with h|h
 .exact c3T hW (by decide) h
 .exact c3T hW (by decide) h
theorem a8Q(hW:WfD l):∀(g i:Nat)(s:List UInt8),i<=l.length->par l i (pA l g i s).2=0
 |0,i,s,_=>zF i
 |g+1,i,s,hi=>by
  rw[pA];split
  .rename_i h1;have d1:a2U l i=0:=xP h1;have l1:=mZ h1;split
   .rename_i h2;have d2:=d0z hW h2;have l2:=a4f h2;have h3:=a8Q hW g (i+2) (s++[46]++txA l (i+1)) (by omega);have h4:=a0q (l:=l) g (i+2) (s++[46]++txA l (i+1)) (by omega);rw[mL,mL,d1,d2,h3]
    rfl
   .split
    .rename_i h3;have d3:=c3T hW (by decide) h3;have l3:=b8r h3;split
     .rename_i h4;have d4:=d0z hW h4;have l4:=a4f h4;have h5:=a8Q hW g (i+3) (s++[46]++txA l (i+1)++txA l (i+2)) (by omega);have h6:=a0q (l:=l) g (i+3) (s++[46]++txA l (i+1)++txA l (i+2)) (by omega);rw[mL,mL,mL,d1,d3,d4,h5]
      rfl
     .have h5:=a8Q hW g (i+2) (s++[46]++txA l (i+1)) (by omega);have h6:=a0q (l:=l) g (i+2) (s++[46]++txA l (i+1)) (by omega);rw[mL,mL,d1,d3,h5]
      rfl
    .exact zF i
  .exact zF i
variable {kw:List UInt8->Bool} {rd:Nat->Nat->Option (Pr×Nat)}
theorem b8v(hW:WfD l)(h:pV kw l i=some (s,n)):par l i n=0:=by
 have ha:=qJ h;unfold pV at h;split at h
 .rename_i hb;unfold a7P at hb;rw[g2Z]at hb;have d1:=d0z hW hb.1;have l1:=a4f hb.1;have h2:=a8Q hW l.length (i+1) (txA l i) (by omega);rw[g3f]at h;rw[h]at h2;simp only at h2;rw[mL ha.1,d1,h2]
  rfl
 .cases h
def RdB(l:List Tok)(rd:Nat->Nat->Option (Pr×Nat)):Prop:=∀i k p n,rd i k=some (p,n)->par l i n=0
variable (hW:WfD l) (hA:Adv l rd) (hB:RdB l rd)
include hW hA hB
theorem e9W{op:Int}(ho:a4e l n k=some op):a2U l n=0:=by unfold a4e at ho;rw[g2Y]at ho;obtain⟨p,hp,_⟩:=ho;have hs:jP l n p.2=true:=List.find?_some (p:=λp:Int×List UInt8=>jP l n p.2) hp;rw[xP hs];have hm:=List.mem_of_find?_eq_some hp;unfold opL at hm;split at hm<;>simp at hm<;>(try rcases hm with rfl|rfl)<;>(try subst hm)<;>rfl
theorem e3V{q:Int×Bool}(hc:wL l n=some q):a2U l n=0:=by unfold wL at hc;rw[g2Y]at hc;obtain⟨p,hp,_⟩:=hc;have hs:jP l n p.1=true:=List.find?_some (p:=λp:List UInt8×Int×Bool=>jP l n p.1) hp;rw[xP hs];have hm:=List.mem_of_find?_eq_some hp;simp[cmpL]at hm;rcases hm with rfl|rfl|rfl|rfl|rfl|rfl<;>rfl
theorem c1J(k:Nat):∀(g:Nat)(a:Pr)(n:Nat),n<=l.length->par l n (dX rd l k g a n).2=0
 |0,a,n,hn=>zF n
 |g+1,a,n,hn=>by
  rw[dX];split
  .exact zF n
  .rename_i op ho;split
   .exact zF n
   .rename_i b m hr;have h1:=hA _ _ _ _ hr;have h2:=a8P hA k g (tw op a b) m h1.2;rw[mL,e9W hW hA hB ho,a1L (j:=m),hB _ _ _ _ hr,c1J k g (tw op a b) m h1.2]
    rfl
theorem c7E:∀(g i:Nat)(acc ks:List Pr)(m:Nat),kZ rd l g i acc=some (ks,m)->par l (i+1) m= -1
 |0,_,_,_,_,hr=>by cases hr
 |g+1,i,acc,ks,m,hr=>by
  rw[kZ]at hr;split at hr
  .cases hr
  .rename_i p n hp;have h1:=hA _ _ _ _ hp;split at hr
   .rename_i hs;cases hr;rw[a1L (j:=n),hB _ _ _ _ hp,zG,xP hs]
    rfl
   .split at hr
    .rename_i hs;have h2:=b2C hA g n _ ks m hr;have h3:=c7E g n _ ks m hr;rw[a1L (j:=n),hB _ _ _ _ hp,mL h2.1,xP hs,h3]
     rfl
    .cases hr
theorem c7F{m:Nat}{ks:List Pr}(hr:rF rd l i=some (ks,m)):par l i m=0:=by
 unfold rF at hr;split at hr
 .rename_i hs;have h2:=b2C hA _ _ _ _ _ hr;rw[mL h2.1,xP hs,c7E hW hA hB _ _ _ _ _ hr]
  rfl
 .cases hr
variable{p:Pr}
theorem d8t(hr:uM kw rd l i=some (p,n)):par l i n=0:=by
 unfold uM at hr;split at hr
 .cases hr
 .rename_i t ht;have d0:t.kind≠4->a2U l i=0:=λhk=>by unfold a2U;rw[ht];exact hW i t ht hk
  split at hr
  .cases hr;rw[zG];exact d0 (by omega)
  split at hr
  .cases hr;rw[zG];exact d0 (by omega)
  split at hr
  .cases hr;rw[zG];exact d0 (by omega)
  split at hr
  .rename_i hq;split at hr
   .cases hr
   .rename_i s m hn;have h1:=qJ hn;rw[g2Y]at hr;obtain⟨⟨ks,q⟩,hq2,he⟩:=hr;have h2:=b2D hA hq2;cases he;simp only at *;rw[mL,xP hq,a1L (j:=m),b8v hW hn,c7F hW hA hB hq2]
    rfl
  split at hr
  .rename_i hp;split at hr
   .rename_i hc;cases hr;rw[mL,mL,mL,zG,xP hp,xP hc.1,c3T hW (by decide) hc.2.1,xP hc.2.2]
    rfl
   .split at hr
    .cases hr
    .rename_i q m hq;have h1:=hA _ _ _ _ hq;split at hr
     .rename_i hs;cases hr;rw[mL,a1L (j:=m),zG,xP hp,hB _ _ _ _ hq,xP hs]
      rfl
     .cases hr
  .split at hr
   .cases hr
   .rename_i s m hn;have h1:=qJ hn;split at hr
    .rename_i ks q hq;have h2:=b2D hA hq;cases hr;rw[a1L (j:=m),b8v hW hn,c7F hW hA hB hq]
     rfl
    .cases hr;exact b8v hW hn
theorem e9X(hr:atG kw rd l i k=some (p,n)):par l i n=0:=by
 have ha:=d8s hA hr;unfold atG at hr;split at hr
 .unfold a8Z at hr;split at hr
  .cases hr
  .rename_i a m hm;have h1:=hA _ _ _ _ hm;split at hr
   .rename_i hs;split at hr
    .rename_i b q hb;have h2:=hA _ _ _ _ hb;cases hr;rw[a1L (j:=m),hB _ _ _ _ hm,mL,xP hs,hB _ _ _ _ hb]
     rfl
    .cases hr;exact hB _ _ _ _ hm
   .cases hr;exact hB _ _ _ _ hm
 .split at hr
  .rename_i hs;rw[g2Y]at hr;obtain⟨⟨a,m⟩,hm,he⟩:=hr;cases he;simp only at *;rw[mL,xP hs,hB _ _ _ _ hm]
   rfl
  .exact hB _ _ _ _ hr
 .unfold a3T at hr;split at hr
  .cases hr
  .rename_i a m hm;have h1:=hA _ _ _ _ hm;split at hr
   .cases hr;exact hB _ _ _ _ hm
   .rename_i op ex hc;split at hr
    .cases hr;exact hB _ _ _ _ hm
    .rename_i b q hb;have h2:=hA _ _ _ _ hb;cases hr;rw[a1L (j:=m),hB _ _ _ _ hm,mL,e3V hW hA hB hc,hB _ _ _ _ hb]
     rfl
 .split at hr
  .rename_i hs;rw[g2Y]at hr;obtain⟨⟨a,m⟩,hm,he⟩:=hr;cases he;simp only at *;rw[mL,xP hs,hB _ _ _ _ hm]
   rfl
  .exact hB _ _ _ _ hr
 .exact d8t hW hA hB hr
 .rw[g2Y]at hr;obtain⟨⟨a,m⟩,hm,he⟩:=hr;have h1:=hA _ _ _ _ hm;have h2:=a8P (k:=k) hA l.length a m h1.2;have h3:=c1J hW hA hB k l.length a m h1.2;have h4:(dX rd l k l.length a m).2=n:=by rw[he]
  rw[h4]at h2 h3;rw[a1L (j:=m),hB _ _ _ _ hm,h3]
  rfl
end
theorem d1Z(kw:List UInt8->Bool){l:List Tok}(hW:WfD l):∀f,RdB l (gV kw l f)
 |0=>λ_ _ _ _ h=>by cases h
 |f+1=>λ_ _ _ _ h=>e9X hW (kS kw l f) (d1Z kw hW f) h
theorem c1K(l:List Tok)(k:Nat):∀(m i:Nat),a9a (l.drop k) i m=a9a l (k+i) m
 |0,i=>rfl
 |m+1,i=>by rw[a9a,a9a,c1K l k m (i+1)];unfold a2U;rw[g3s,show k+(i+1)=k+i+1 by omega]
theorem c1L(l:List Tok)(e:Nat):∀(m i:Nat),i+m<=e->a9a (l.take e) i m=a9a l i m
 |0,i,_=>rfl
 |m+1,i,h=>by rw[a9a,a9a,c1L l e m (i+1) (by omega)];unfold a2U;rw[g3F,if_pos (by omega)]
theorem d8u(l:List Tok)(e k n:Nat)(h:k+n<=e:=by omega):par ((l.take e).drop k) 0 n=par l k (k+n):=by unfold par;rw[c1K,Nat.sub_zero,Nat.add_zero,c1L l e n k h,show k+n-k=n by omega]
theorem WfD.part{l:List Tok}(h:WfD l)(e k:Nat):WfD ((l.take e).drop k):=λi t ht=>by
 rw[g3s,g3F]at ht;split at ht
 .exact h _ t ht
 .cases ht
end
end Go.Proofs.YtmfbjecjccipfaaGreatDoor
