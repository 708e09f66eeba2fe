/- Lemmas that the law of this claim needs (PvC PuB PuH PuJ Fit PvG PvH PvB PvK PvL PvM PvN PvO PvP PvQ PvR). No condition. -/
import Derived.Test.YtjpodcmhcenjjaaGreatDoorOba
import Derived.Test.YtjpodcmhcenjjaaGreatDoorObc
import Derived.Test.YtjpodcmhcenjjaaGreatDoorObd
import Derived.Test.YtjpodcmhcenjjaaGreatDoorObe
import Derived.Test.YtjpodcmhcenjjaaGreatDoorObj
import Derived.Test.YtjpodcmhcenjjaaGreatDoorObk
import Derived.Test.YtjpodcmhcenjjaaGreatDoorObl
set_option linter.unusedVariables false
set_option linter.unusedSimpArgs false
set_option linter.unusedSectionVars false
set_option maxRecDepth 100000
set_option maxHeartbeats 64000000
open Go.Proofs.Tryz
namespace Go.Proofs.YtjpodcmhcenjjaaGreatDoor
section
open Go Go.VM
variable {G:GT}
def aU{α:Type}(l:List Tok)(P:α->Prop)(x:bB α):Prop:=∀i a j,i<l.length->x i=.ok a j->P a
section
variable {α β:Type} {l:List Tok} {P:α->Prop} {Q:β->Prop}
theorem aU.aT{a:α}(h:P a):aU l P (pure a:bB α):=λi b j hi hx=>by rw[gR]at hx;cases hx;exact h
theorem aU.any(x:bB α):aU l (λ_=>True) x:=λ_ _ _ _ _=>trivial
theorem aU.ite{c:Prop}[Decidable c]{x y:bB α}(hx:aU l P x)(hy:aU l P y):aU l P (if c then x else y):=by
 split
 .exact hx
 .exact hy
theorem aU.bind{x:bB α}{f:α->bB β}(hx:aU l P x)(ax:aA l 0 x)(hf:∀a,P a->aU l Q (f a)):aU l Q (x >>=f):=λi b j hi h=>by
 rw[hZ]at h;cases h1:x i with
 |bad n e=>rw[h1]at h;cases h
 |ok a k=>rw[h1]at h;exact hf a (hx i a k hi h1) k b j (ax i a k hi h1).2 h
theorem aU.skip{x:bB α}{f:α->bB β}(ax:aA l 0 x)(hf:∀a,aU l Q (f a)):aU l Q (x >>=f):=aU.bind (aU.any x) ax λa _=>hf a
variable (hE:qS l)
include hE
def Snc(l:List Tok)(P:β->Prop)(one:List β->bB (List β)):Prop:=∀out,aU l (λb=>∃y,b=out++[y]/\P y) (one out)
theorem c0Y{P:β->Prop}{c:Nm}{one:List β->bB (List β)}(h1:Snc l P one)(a1:∀out,aA l 1 (one out)):∀(g:Nat) (out:List β) (i:Nat) (b:List β) (j:Nat),i<l.length->out.length<=i->(∀y∈out,P y)->jN l c one g out i=.ok b j->b.length<=l.length/\∀y∈b,P y
 |0,out,i,b,j,_,_,_,h=>by unfold jN at h;cases h
 |g+1,out,i,b,j,hi,hl,hp,h=>by
  unfold jN at h;split at h
  .cases h
  .rename_i b' j' ho;have k1:=a1 out i b' j' hi ho;obtain⟨y,rfl,hy⟩:=h1 out i b' j' hi ho;have cY:∀z∈out++[y],P z:=λz hz=>by
    rcases List.mem_append.1 hz with hz|hz
    .exact hp z hz
    .rw[f2U]at hz;rw[hz];exact hy
   split at h
   .rename_i hs;exact c0Y h1 a1 g _ (j'+1) b j (aF hE k1.2 hs) (by simp;omega) cY h
   .cases h;exact⟨by simp;omega,cY⟩
theorem pY{P:β->Prop}{c:Nm}{one:List β->bB (List β)}(h1:Snc l P one)(a1:∀out,aA l 1 (one out)):aU l (λb=>b.length<=l.length/\∀y∈b,P y) (gA l c one []):=λi b j hi h=>c0Y hE h1 a1 _ [] i b j hi (Nat.zero_le _) (λy hy=>by cases hy) h
omit hE in
theorem b3t{P:β->Prop}{c:Nat->Bool}{one:List β->bB (List β)}(h1:Snc l P one)(a1:∀out,aA l 1 (one out)):∀(g:Nat) (out:List β) (i:Nat) (b:List β) (j:Nat),i<l.length->out.length<=i->(∀y∈out,P y)->cV c one g out i=.ok b j->b.length<=l.length/\∀y∈b,P y
 |0,out,i,b,j,_,_,_,h=>by unfold cV at h;cases h
 |g+1,out,i,b,j,hi,hl,hp,h=>by
  unfold cV at h;split at h
  .split at h
   .cases h
   .rename_i b' j' ho;have k1:=a1 out i b' j' hi ho;obtain⟨y,rfl,hy⟩:=h1 out i b' j' hi ho;exact b3t h1 a1 g _ j' b j k1.2 (by simp;omega) (λz hz=>by
     rcases List.mem_append.1 hz with hz|hz
     .exact hp z hz
     .rw[f2U]at hz;rw[hz];exact hy) h
  .cases h;exact⟨by omega,hp⟩
omit hE in
theorem a8i{P:β->Prop}{c:Nat->Bool}{one:List β->bB (List β)}(h1:Snc l P one)(a1:∀out,aA l 1 (one out)):aU l (λb=>b.length<=l.length/\∀y∈b,P y) (mX l c one []):=λi b j hi h=>b3t h1 a1 _ [] i b j hi (Nat.zero_le _) (λy hy=>by cases hy) h
theorem b5V{P:β->Prop}{c:Nm}{one:List Nm×List β->bB (List Nm×List β)}(h1:∀out,aU l (λb=>∃y,b.1.length<=out.1.length+1/\b.2=out.2++[y]/\P y) (one out))(a1:∀out,aA l 1 (one out)):∀(g:Nat) (out:List Nm×List β) (i:Nat) (b:List Nm×List β) (j:Nat),i<l.length->out.1.length<=i->out.2.length<=i->(∀y∈out.2,P y)->jN l c one g out i=.ok b j->b.1.length<=l.length/\b.2.length<=l.length/\∀y∈b.2,P y
 |0,out,i,b,j,_,_,_,_,h=>by unfold jN at h;cases h
 |g+1,out,i,b,j,hi,hl,hl2,hp,h=>by
  unfold jN at h;split at h
  .cases h
  .rename_i b' j' ho;have k1:=a1 out i b' j' hi ho;obtain⟨y,e1,e2,hy⟩:=h1 out i b' j' hi ho;have cY:∀z∈b'.2,P z:=λz hz=>by
    rw[e2]at hz;rcases List.mem_append.1 hz with hz|hz
    .exact hp z hz
    .rw[f2U]at hz;rw[hz];exact hy
   have hlen:b'.2.length=out.2.length+1:=by rw[e2];simp
   split at h
   .rename_i hs;exact b5V h1 a1 g _ (j'+1) b j (aF hE k1.2 hs) (by omega) (by omega) cY h
   .cases h;exact⟨by omega,by omega,cY⟩
theorem a9e{P:β->Prop}{c:Nm}{one:List Nm×List β->bB (List Nm×List β)}(h1:∀out,aU l (λb=>∃y,b.1.length<=out.1.length+1/\b.2=out.2++[y]/\P y) (one out))(a1:∀out,aA l 1 (one out)):aU l (λb=>b.1.length<=l.length/\b.2.length<=l.length/\∀y∈b.2,P y) (gA l c one ([],[])):=λi b j hi h=>b5V hE h1 a1 _ ([],[]) i b j hi (Nat.zero_le _) (Nat.zero_le _) (λy hy=>by cases hy) h
theorem a9f{kw:Nm->Bool}:aU l (λb:List Nm=>b.length<=l.length) (dH kw l):=by unfold dH;refine aU.skip ((aA.exp hE _ _).le (by omega)) λ_=>aU.bind (pY hE (P:=λ_=>True) (λout=>aU.skip ((aA.word hE).le (by omega)) λw=>aU.aT ⟨w,rfl,trivial⟩) λout=>(aA.word hE).bl λ_=>aA.aT _) (aA.list hE (m:=0) (λout=>((aA.word hE).le (by omega)).bl λ_=>aA.aT _) _) λb hb=>aU.skip ((aA.exp hE _ _).le (by omega)) λ_=>aU.aT hb.1
end
theorem WB.zero:WB 900000000 sF:=.mk _ _ _ _ _ _ (by simp) (by simp) (by simp[mL,cB,dT]) (by simp) (λq hq=>by cases hq) (λk hk=>by cases hk)
theorem WB.small(op:Int)(nm:Nm){l:List Ty}{ns:List Nm}{ps:List Pr}(h1:l.length<=900000000)(h2:ns.length<=900000000)(h3:ps.length<=900000000)(h4:∀q∈ps,cB q<=900000000)(h5:∀k∈l,WB 900000000 k):WB 900000000 ⟨op,nm,l,ns,mL,ps⟩:=.mk _ _ _ _ _ _ h1 h2 (by simp[mL,cB,dT]) h3 h4 h5
theorem WB.psT(op:Int)(nm:Nm):WB 900000000 (psT op nm):=WB.small op nm (by simp) (by simp) (by simp) (λq hq=>by cases hq) (λk hk=>by cases hk)
theorem WB.pred{t:Ty}(h:WB 900000000 t){p:Pr}(hp:cB p<=900000000):WB 900000000 {t with pred:=p}:=by
 cases h with
 |mk _ _ _ _ _ _ h1 h2 h3 h4 h5 h6=>exact .mk _ _ _ _ _ _ h1 h2 hp h4 h5 h6
section
variable {aG:List Tok->Nat->Nat->kX Pr} {l:List Tok} (hV:kU G aG l)
include hV
theorem a1P:aU l (λp=>cB p<=900000000) (gB aG l):=λi p j hi h=>by have h1:=(hV.nod i _ p j hi h).1;have h2:=hV.oB _ i p j hi h;have h3:=hV.len;omega
theorem c0Z:aU l (λo:Option Ty=>∀t,o=some t->WB 900000000 t) (gS aX l):=λi o j hi h=>by
 intro t ht;subst ht;unfold gS at h
 repeat' split at h
 all_goals first|(cases h;exact WB.psT _ _)|cases h
section
variable {ty:bB Ty} (mN:aU l (WB 900000000) ty) (oV:aA l 1 ty) (ity:∀i t j,i<l.length->ty i=.ok t j->TyI t i j)
include mN oV ity
theorem c1a:aU l (WB 900000000) (tB bI aG l ty):=λi t j hi h=>by
 have inv:=c0j hV oV ity i t j hi h;have ha:=aA.b6E (andP:=bI) hV.fin (oV.le (by omega)) hV.oB.pred i t j hi h;have hl:=hV.len;have hn:cB t.pred<=900000000:=by have:=inv.2;omega
 unfold tB at h;obtain⟨_,k1,h1,h⟩:=bG h;have q1:=aA.exp hV.fin _ _ i _ k1 hi h1;obtain⟨t0,k2,h2,h⟩:=bG h;have w:=mN k1 t0 k2 q1.2 h2;split at h
 .unfold dU at h;cases h
 .obtain⟨_,k3,h3,h⟩:=bG h;obtain⟨p,k4,h4,h⟩:=bG h;obtain⟨_,k5,h5,h⟩:=bG h;cases h;exact w.pred hn
theorem c6W:aU l (WB 900000000) (do aV l [[40]];let t <- ty;aV l [[41]];pure t:bB Ty):=aU.skip ((aA.exp hV.fin _ _).le (by omega)) λ_=>aU.bind mN (oV.le (by omega)) λt ht=>aU.skip ((aA.exp hV.fin _ _).le (by omega)) λ_=>aU.aT ht
theorem b3u:aU l (WB 900000000) (gT aX bI aG l ty):=by
 unfold gT;refine aU.bind (c0Z hV) (aA.base hV.fin) λo ho=>?_;cases o with
 |some t=>exact aU.aT (ho t rfl)
 |none=>
  intro i t j hi h;simp only at h;split at h
  .cases h;exact WB.psT _ _
  .split at h
   .exact c1a hV mN oV ity i t j hi h
   .exact c6W hV mN oV ity i t j hi h
theorem c6X:aU l (WB 900000000) (qP aX bI aG l ty):=by
 have hl:=hV.len;unfold qP;have ash:aA l 1 (gT aX bI aG l ty):=aA.uL hV.fin (oV.le (by omega)) hV.oB.pred;refine aU.skip ((aA.title hV.fin).le (by omega)) λnm=>aU.bind (a8i (P:=WB 900000000) (λout=>aU.bind (b3u hV mN oV ity) (ash.le (by omega)) λt ht=>aU.aT ⟨t,rfl,ht⟩) λout=>ash.bl λ_=>aA.aT _) (aA.many (λout=>(ash.le (by omega)).bl λ_=>aA.aT _) _) λargs kR=>aU.skip (aA.skip hV.fin _) λb=>aU.ite ?_ (aU.aT ?_)
 .refine aU.bind (pY hV.fin (P:=λp=>cB p<=900000000) (λout=>aU.skip ((aA.exp hV.fin _ _).le (by omega)) λ_=>aU.bind (a1P hV) hV.oB.pred λp hp=>aU.aT ⟨p,rfl,hp⟩) λout=>(aA.exp hV.fin _ _).bl λ_=>hV.oB.pred.bl λ_=>aA.aT _) (aA.list hV.fin (λout=>((aA.exp hV.fin _ _).le (by omega)).bl λ_=>hV.oB.pred.bl λ_=>aA.aT _) _) λps hps=>aU.skip ((aA.exp hV.fin _ _).le (by omega)) λ_=>aU.aT ?_;exact WB.small (ns:=[]) 4 nm (by have:=kR.1;omega) (by simp) (by have:=hps.1;omega) hps.2 kR.2
 .exact WB.small (ns:=[]) (ps:=[]) 4 nm (by have:=kR.1;omega) (by simp) (by simp) (λq hq=>by cases hq) kR.2
theorem d0B:aU l (WB 900000000) (uF aX l ty):=by
 have hl:=hV.len;have hE:=hV.fin;have a1:∀out:List Nm×List Ty,aA l 1 (do let w <- bS aX l;aV l [[58]];let t <- ty;pure (out.1++[w],out.2++[t]):bB (List Nm×List Ty)):=λout=>(aA.word hE).bl λ_=>((aA.exp hE _ _).le (by omega)).bl λ_=>(oV.le (by omega)).bl λ_=>aA.aT _;have a2:∀out:List Nm×List Ty,aA l 1 (do let t <- ty;pure (out.1,out.2++[t]):bB (List Nm×List Ty)):=λout=>oV.bl λ_=>aA.aT _;have g1:∀out:List Nm×List Ty,aU l (λb=>∃y,b.1.length<=out.1.length+1/\b.2=out.2++[y]/\WB 900000000 y) (do let w <- bS aX l;aV l [[58]];let t <- ty;pure (out.1++[w],out.2++[t]):bB (List Nm×List Ty)):=λout=>aU.skip ((aA.word hE).le (by omega)) λw=>aU.skip ((aA.exp hE _ _).le (by omega)) λ_=>aU.bind mN (oV.le (by omega)) λt ht=>aU.aT ⟨t,by simp,rfl,ht⟩;have g2:∀out:List Nm×List Ty,aU l (λb=>∃y,b.1.length<=out.1.length+1/\b.2=out.2++[y]/\WB 900000000 y) (do let t <- ty;pure (out.1,out.2++[t]):bB (List Nm×List Ty)):=λout=>aU.bind mN (oV.le (by omega)) λt ht=>aU.aT ⟨t,by simp,rfl,ht⟩;unfold uF;refine aU.skip ((aA.exp hE _ _).le (by omega)) λ_=>aU.bind (P:=λb:List Nm×List Ty=>b.1.length<=l.length/\b.2.length<=l.length/\∀y∈b.2,WB 900000000 y) (λi b j hi h=>?_) (λi b j hi h=>?_) λq hq=>?_
 .split at h
  .exact a9e hE g1 a1 i b j hi h
  .exact a9e hE g2 a2 i b j hi h
 .split at h
  .exact aA.list hE (λout=>(a1 out).le (by omega)) _ i b j hi h
  .exact aA.list hE (λout=>(a2 out).le (by omega)) _ i b j hi h
 .obtain⟨ns,ts⟩:=q;obtain⟨q1,q2,q3⟩:=hq;simp only at q1 q2 q3;refine aU.skip ((aA.exp hE _ _).le (by omega)) λ_=>λi t j hi h=>?_;split at h
  .rename_i hc;simp only[f2N,decide_eq_true_eq]at hc;cases h
   match ts,hc.1.2,q3 with
   |[t],_,q3=>exact q3 t (.head _)
  .refine(aU.skip ((aA.exp hE _ _).le (by omega)) (λ_=>aU.bind mN (oV.le (by omega)) λt ht=>aU.aT ?_):aU l (WB 900000000) _) i t j hi h;refine WB.small (ps:=[]) 6 [] (by simp;omega) (by omega) (by simp) (λq hq=>by cases hq) λk hk=>?_;rcases List.mem_append.1 hk with hk|hk
   .exact q3 k hk
   .rw[f2U]at hk;rw[hk];exact ht
theorem d0C:aU l (WB 900000000) (uG aX bI aG l ty):=by
 unfold uG;refine aU.bind (c0Z hV) (aA.base hV.fin) λo ho=>?_;cases o with
 |some t=>exact aU.aT (ho t rfl)
 |none=>
  intro i t j hi h;simp only at h;split at h
  .exact c6X hV mN oV ity i t j hi h
  .split at h
   .exact c1a hV mN oV ity i t j hi h
   .exact d0B hV mN oV ity i t j hi h
end
theorem c1b:∀n,aU l (WB 900000000) (vO aX bI aG l n)
 |0=>λi a j hi h=>by unfold vO at h;cases h
 |n+1=>d0C hV (c1b n) (aA.b0q hV.fin hV.oB.pred n) λi t j hi h=>a4l hV n i t j hi h
theorem yP:aU l (WB 900000000) (dW aX bI aG l):=c1b hV _
theorem b5W:aU l (λts:List Ty=>ts.length<=l.length/\∀t∈ts,WB 900000000 t) (qQ aX bI aG l):=by have hE:=hV.fin;have at1:aA l 1 (dW aX bI aG l):=aA.typ hE hV.oB.pred;unfold qQ;refine aU.skip (aA.skip hE _) λb=>aU.ite (aU.bind (pY hE (P:=WB 900000000) (λout=>aU.bind (yP hV) (at1.le (by omega)) λt ht=>aU.aT ⟨t,rfl,ht⟩) λout=>at1.bl λ_=>aA.aT _) (aA.list hE (λout=>(at1.le (by omega)).bl λ_=>aA.aT _) _) λts h=>aU.skip ((aA.exp hE _ _).le (by omega)) λ_=>aU.aT h) (aU.aT ⟨by simp,λt ht=>by cases ht⟩)
omit hV in
theorem WE.op(op:Int){ks:List eM}(h:ks.length<=900000000)(hk:∀k∈ks,WE 900000000 k):WE 900000000 (dG op ks):=.mk _ h (by simp[dG]) (by simp[dG]) (by simp[dG]) hk (λp hp=>by cases hp) (λa ha=>by cases ha) (λa ha=>by cases ha) (λt ht=>by cases ht)
omit hV in
theorem WE.one(op:Int){a:eM}(h:WE 900000000 a):WE 900000000 (dG op [a]):=WE.op op (by simp) λk hk=>by rw[f2U]at hk;rw[hk];exact h
omit hV in
theorem WE.two(op:Int){a b:eM}(h1:WE 900000000 a)(h2:WE 900000000 b):WE 900000000 (dG op [a,b]):=WE.op op (by simp) λk hk=>by simp at hk;rcases hk with rfl|rfl<;>assumption
omit hV in
theorem WE.leaf(op:Int)(nm:Nm)(n:Int):WE 900000000 ⟨op,nm,n,[],[],[],[]⟩:=.mk _ (by simp) (by simp) (by simp) (by simp) (λk hk=>by cases hk) (λp hp=>by cases hp) (λa ha=>by cases ha) (λa ha=>by cases ha) (λt ht=>by cases ht)
section
variable {ex:Nat->bB eM} (hx:∀k,aU l (WE 900000000) (ex k)) (ax:∀k,aA l 1 (ex k))
include hx ax
theorem a9g:aU l (λks:List eM=>ks.length<=l.length/\∀k∈ks,WE 900000000 k) (jJ l ex):=by have hE:=hV.fin;unfold jJ;exact aU.skip ((aA.exp hE _ _).le (by omega)) λ_=>aU.bind (pY hE (P:=WE 900000000) (λout=>aU.bind (hx 0) ((ax 0).le (by omega)) λe he=>aU.aT ⟨e,rfl,he⟩) λout=>(ax 0).bl λ_=>aA.aT _) (aA.list hE (λout=>((ax 0).le (by omega)).bl λ_=>aA.aT _) _) λks h=>aU.skip ((aA.exp hE _ _).le (by omega)) λ_=>aU.aT h
theorem c1c(op:Int):aU l (WE 900000000) (vP l ex op):=by have hE:=hV.fin;unfold vP;exact aU.skip ((aA.exp hE _ _).le (by omega)) λ_=>aU.bind (hx 0) ((ax 0).le (by omega)) λe he=>aU.skip ((aA.exp hE _ _).le (by omega)) λ_=>aU.aT (WE.one op he)
theorem d0D:aU l (WE 900000000) (xK aX bI aG l ex):=by have hE:=hV.fin;have at0:aA l 0 (dW aX bI aG l):=(aA.typ hE hV.oB.pred).le (by omega);unfold xK;refine aU.skip ((aA.word hE).le (by omega)) λnm=>aU.skip (aA.skip hE _) λb=>aU.bind (P:=λts:List Ty=>ts.length<=1/\∀t∈ts,WB 900000000 t) (aU.ite (aU.bind (yP hV) at0 λt ht=>aU.aT ⟨by simp,λt' ht'=>by rw[f2U]at ht';rw[ht'];exact ht⟩) (aU.aT ⟨by simp,λt ht=>by cases ht⟩)) (aA.ite (at0.bl λ_=>aA.aT _) (aA.aT _)) λts hts=>?_;refine aU.skip ((aA.exp hE _ _).le (by omega)) λ_=>aU.bind (hx 0) ((ax 0).le (by omega)) λa ha=>aU.skip ((aA.exp hE _ _).le (by omega)) λ_=>aU.bind (hx 0) ((ax 0).le (by omega)) λc hc=>aU.aT ?_;exact .mk _ (by simp[dG]) (by simp[dG]) (by simp[dG]) (by have:=hts.1;simp only;omega) (λk hk=>by simp[dG]at hk;rcases hk with rfl|rfl<;>assumption) (λp hp=>by cases hp) (λa ha=>by cases ha) (λa ha=>by cases ha) hts.2
theorem c3k:aU l (WE 900000000) (pV aX l ex):=by
 have hE:=hV.fin;have hl:=hV.len;have aw:aA l 0 (λi=>if aQ l i [40] then dH aX l i else .ok [] i:bB (List Nm)):=λi b j hi h=>by
  simp only at h;split at h
  .exact((aA.words hE).le (by omega)) _ _ _ hi h
  .cases h;omega
 have gw:aU l (λns:List Nm=>ns.length<=l.length) (λi=>if aQ l i [40] then dH aX l i else .ok [] i:bB (List Nm)):=λi b j hi h=>by
  simp only at h;split at h
  .exact a9f hE i b j hi h
  .cases h;simp
 unfold pV;have a1:∀out:List (Nm×List Nm×eM),aA l 1 (do
  let c <- gI l
  let ns <- (λi=>if aQ l i [40] then dH aX l i else .ok [] i:bB (List Nm))
  aV l [[45,62]]
  let b <- ex 0
  pure (out++[(c,ns,b)]):bB (List (Nm×List Nm×eM))):=λout=>(aA.title hE).bl λ_=>aw.bl λ_=>((aA.exp hE _ _).le (by omega)).bl λ_=>((ax 0).le (by omega)).bl λ_=>aA.aT _
 refine aU.bind (hx 0) ((ax 0).le (by omega)) λe he=>aU.skip ((aA.exp hE _ _).le (by omega)) λ_=>aU.bind (pY hE (P:=λa:Nm×List Nm×eM=>a.2.1.length<=900000000/\WE 900000000 a.2.2) (λout=>?_) a1) (aA.list hE (λout=>(a1 out).le (by omega)) _) λalts h=>aU.skip ((aA.exp hE _ _).le (by omega)) λ_=>aU.aT ?_
 .exact aU.skip ((aA.title hE).le (by omega)) λc=>aU.bind gw aw λns hns=>aU.skip ((aA.exp hE _ _).le (by omega)) λ_=>aU.bind (hx 0) ((ax 0).le (by omega)) λb hb=>aU.aT ⟨_,rfl,by simp only;omega,hb⟩
 .exact .mk _ (by simp[dG]) (by simp[dG]) (by have:=h.1;simp only;omega) (by simp[dG]) (λk hk=>by simp[dG]at hk;rw[hk];exact he) (λp hp=>by cases hp) (λa ha=>(h.2 a ha).1) (λa ha=>(h.2 a ha).2) (λt ht=>by cases ht)
theorem d0E:aU l (WE 900000000) (xL aX bI aG l ex):=by
 have hE:=hV.fin;have hl:=hV.len;have at0:aA l 0 (dW aX bI aG l):=(aA.typ hE hV.oB.pred).le (by omega);have at1:∀b:Bool,aA l 0 (if b then dW aX bI aG l else pure sF):=λb=>aA.ite at0 (aA.aT _);have a1:∀out:List (Nm×Ty),aA l 1 (do
  let w <- bS aX l
  let b <- dR l [58]
  let t <- (if b then dW aX bI aG l else pure sF)
  pure (out++[(w,t)]):bB (List (Nm×Ty))):=λout=>(aA.word hE).bl λ_=>(aA.skip hE _).bl λb=>(at1 b).bl λ_=>aA.aT _
 unfold xL;refine aU.skip ((aA.exp hE _ _).le (by omega)) λ_=>aU.bind (pY hE (P:=λp:Nm×Ty=>WB 900000000 p.2) (λout=>?_) a1) (aA.list hE (λout=>(a1 out).le (by omega)) _) λps h=>aU.skip ((aA.exp hE _ _).le (by omega)) λ_=>aU.bind (hx 0) ((ax 0).le (by omega)) λe he=>aU.aT ?_
 .exact aU.skip ((aA.word hE).le (by omega)) λw=>aU.skip (aA.skip hE _) λb=>aU.bind (aU.ite (yP hV) (aU.aT WB.zero)) (at1 b) λt ht=>aU.aT ⟨_,rfl,ht⟩
 .exact .mk _ (by simp[dG]) (by have:=h.1;simp only;omega) (by simp[dG]) (by simp[dG]) (λk hk=>by simp[dG]at hk;rw[hk];exact he) h.2 (λa ha=>by cases ha) (λa ha=>by cases ha) (λt ht=>by cases ht)
theorem c1d:aU l (WE 900000000) (kY aX bI aG l ex):=by
 have hE:=hV.fin;have at0:aA l 0 (dW aX bI aG l):=(aA.typ hE hV.oB.pred).le (by omega);unfold kY;refine aU.skip ((aA.exp hE _ _).le (by omega)) λ_=>λi e j hi h=>?_;split at h
 .cases h;exact WE.leaf _ _ _
 .refine(aU.bind (hx 0) ((ax 0).le (by omega)) λe he=>aU.skip (aA.skip hE _) λb=>aU.bind (P:=WE 900000000) (aU.ite (aU.bind (yP hV) at0 λt ht=>aU.aT ?_) (aU.aT he)) (aA.ite (at0.bl λ_=>aA.aT _) (aA.aT _)) λe he=>aU.skip ((aA.exp hE _ _).le (by omega)) λ_=>aU.aT he:aU l (WE 900000000) _) i e j hi h;exact .mk _ (by simp[dG]) (by simp[dG]) (by simp[dG]) (by simp) (λk hk=>by simp[dG]at hk;rw[hk];exact he) (λp hp=>by cases hp) (λa ha=>by cases ha) (λa ha=>by cases ha) (λt' ht'=>by rw[f2U]at ht';rw[ht'];exact ht)
omit hx ax in
theorem c4F(op:Int)(nm:Nm){ts:List Ty}{ks:List eM}(ht:ts.length<=l.length/\∀t∈ts,WB 900000000 t)(hk:ks.length<=l.length/\∀k∈ks,WE 900000000 k):WE 900000000 {dG op ks with name:=nm,types:=ts}:=by have hl:=hV.len;exact .mk _ (by have:=hk.1;simp only[dG];omega) (by simp[dG]) (by simp[dG]) (by have:=ht.1;simp only;omega) hk.2 (λp hp=>by cases hp) (λa ha=>by cases ha) (λa ha=>by cases ha) ht.2
theorem c6Y:aU l (WE 900000000) (sQ aX bI aG l ex):=λi e j hi h=>by
 have hE:=hV.fin;have e4M:aA l 0 (qQ aX bI aG l):=aA.types hE hV.oB.pred;have d7K:aA l 0 (jJ l ex):=(aA.jX hE ax).le (by omega);unfold sQ at h;split at h
 .cases h;exact WE.leaf _ _ _
 split at h
 .cases h;exact WE.leaf _ _ _
 split at h
 .cases h;exact WE.leaf _ _ _
 split at h
 .rename_i hs;exact c1c hV hx ax 22 (i+1) e j (aF hE hi hs) h
 split at h
 .rename_i hs;exact c1c hV hx ax 23 (i+1) e j (aF hE hi hs) h
 split at h
 .rename_i hs;exact(aU.skip ((aA.exp hE _ _).le (by omega)) (λ_=>aU.bind (hx 0) ((ax 0).le (by omega)) λa ha=>aU.skip ((aA.exp hE _ _).le (by omega)) λ_=>aU.bind (hx 0) ((ax 0).le (by omega)) λb hb=>aU.skip ((aA.exp hE _ _).le (by omega)) λ_=>aU.aT (WE.two 24 ha hb)):aU l (WE 900000000) _) (i+1) e j (aF hE hi hs) h
 split at h
 .rename_i hs;have hn:=a4J hE hi hs;split at h
  .cases h;exact WE.leaf _ _ _
  .exact(aU.bind (b5W hV) e4M λts ht=>aU.bind (a9g hV hx ax) d7K λks hk=>aU.aT (c4F hV 5 _ ht hk):aU l (WE 900000000) _) (i+1) e j hn h
 split at h
 .rename_i hs;have hn:=a8I hE hi hs;refine(aU.bind (b5W hV) e4M λts ht=>aU.bind (P:=λks:List eM=>ks.length<=l.length/\∀k∈ks,WE 900000000 k) (λi b j hi h=>?_) (λi b j hi h=>?_) λks hk=>aU.aT (c4F hV 4 _ ht hk):aU l (WE 900000000) _) (i+1) e j hn h
  .split at h
   .exact a9g hV hx ax i b j hi h
   .cases h;exact⟨by simp,λk hk=>by cases hk⟩
  .split at h
   .exact d7K i b j hi h
   .cases h;omega
 .exact c1d hV hx ax i e j hi h
theorem c4G:aU l (WE 900000000) (a0B aX bI aG l ex):=λi e j hi h=>by
 have hE:=hV.fin;unfold a0B at h;split at h
 .rename_i hs;exact(aU.bind (hx 7) ((ax 7).le (by omega)) λe he=>aU.aT (WE.one 15 he):aU l (WE 900000000) _) (i+1) e j (aF hE hi hs) h
 .exact c6Y hV hx ax i e j hi h
omit hx ax in
theorem b5X{ops:List (Nm×Int)}{one:bB eM}(h0:aU l (WE 900000000) one)(a0:aA l 0 one):∀(g:Nat) (e:eM),WE 900000000 e->aU l (WE 900000000) (dY l ops one g e)
 |0,e,_=>λi a j hi h=>by unfold dY at h;cases h
 |g+1,e,he=>λi a j hi h=>by
  unfold dY at h;split at h
  .cases h;exact he
  .rename_i p hp;have hs:aQ l i p.1=true:=by simpa using List.find?_some hp
   have hn:=aF hV.fin hi hs;split at h
   .cases h
   .rename_i x k hk;exact b5X h0 a0 g _ (WE.two p.2 he (h0 (i+1) x k hn hk)) k a j (a0 (i+1) x k hn hk).2 h
omit hx ax in
theorem b0T{ops:List (Nm×Int)}{one:bB eM}(h0:aU l (WE 900000000) one)(a0:aA l 0 one):aU l (WE 900000000) (wV l ops one):=by unfold wV;exact aU.bind h0 a0 λe he=>b5X hV h0 a0 _ e he
theorem d0F:aU l (WE 900000000) (jO aX bI aG l ex):=b0T hV (b0T hV (c4G hV hx ax) ((aA.unG hV.fin ax hV.oB.pred).le (by omega))) ((aA.c3T hV.fin ax hV.oB.pred).le (by omega))
theorem d0G:aU l (WE 900000000) (xM aX bI aG l ex):=by
 have hE:=hV.fin;unfold xM;have hs:aU l (WE 900000000) (jO aX bI aG l ex):=d0F hV hx ax;have ha:aA l 0 (jO aX bI aG l ex):=(aA.a5e hE ax hV.oB.pred).le (by omega);refine aU.bind hs ha λe he=>λi a j hi h=>?_;have one:∀(f:eM->eM) (w:Nm),(∀x,WE 900000000 x->WE 900000000 (f x))->aQ l i w=true->(jO aX bI aG l ex >>=λx=>pure (f x)) (i+1)=.ok a j->WE 900000000 a:=λf w hf hw h=>(aU.bind hs ha λx hx=>aU.aT (hf x hx):aU l (WE 900000000) _) (i+1) a j (aF hE hi hw) h;split at h
 .rename_i hw;exact one _ _ (λx hx=>WE.two _ he hx) hw h
 split at h
 .rename_i hw;exact one _ _ (λx hx=>WE.one _ (WE.two _ he hx)) hw h
 split at h
 .rename_i hw;exact one _ _ (λx hx=>WE.two _ he hx) hw h
 split at h
 .rename_i hw;exact one _ _ (λx hx=>WE.two _ he hx) hw h
 split at h
 .rename_i hw;exact one _ _ (λx hx=>WE.two _ hx he) hw h
 split at h
 .rename_i hw;exact one _ _ (λx hx=>WE.two _ hx he) hw h
 cases h;exact he
theorem c1e:aU l (WE 900000000) (uH aX bI aG l ex):=λi e j hi h=>by
 have hE:=hV.fin;unfold uH at h;split at h
 .rename_i hs;exact(aU.bind (hx 3) ((ax 3).le (by omega)) λe he=>aU.aT (WE.one 21 he):aU l (WE 900000000) _) (i+1) e j (aF hE hi hs) h
 .exact d0G hV hx ax i e j hi h
theorem d5H:aU l (WE 900000000) (b5g aX bI aG l ex):=b0T hV (b0T hV (c1e hV hx ax) ((aA.a7x hV.fin ax hV.oB.pred).le (by omega))) ((aA.lvl hV.fin (aA.a7x hV.fin ax hV.oB.pred)).le (by omega))
theorem d5I:aU l (WE 900000000) (a2O aX bI aG l ex):=λi e j hi h=>by
 have hE:=hV.fin;have hl:=hV.len;have ax0:aA l 0 (ex 0):=(ax 0).le (by omega);unfold a2O at h;split at h
 .rename_i hs;exact d0D hV hx ax (i+1) e j (aF hE hi hs) h
 split at h
 .rename_i hs;exact(aU.bind (hx 0) ax0 λa ha=>aU.skip ((aA.exp hE _ _).le (by omega)) λ_=>aU.bind (hx 0) ax0 λb hb=>aU.skip ((aA.exp hE _ _).le (by omega)) λ_=>aU.bind (hx 0) ax0 λc hc=>aU.aT (WE.op 8 (by simp) λk hk=>by simp at hk;rcases hk with rfl|rfl|rfl<;>assumption):aU l (WE 900000000) _) (i+1) e j (aF hE hi hs) h
 split at h
 .rename_i hs;exact c3k hV hx ax (i+1) e j (aF hE hi hs) h
 split at h
 .rename_i hs;exact d0E hV hx ax (i+1) e j (aF hE hi hs) h
 split at h
 .rename_i hs;refine(aU.skip ((aA.word hE).le (by omega)) λnm=>aU.bind (a9g hV hx ax) ((aA.jX hE ax).le (by omega)) λks hk=>aU.skip ((aA.exp hE _ _).le (by omega)) λ_=>aU.bind (hx 0) ax0 λb hb=>aU.aT ?_:aU l (WE 900000000) _) (i+1) e j (aF hE hi hs) h;exact .mk _ (by have:=hk.1;simp[dG];omega) (by simp[dG]) (by simp[dG]) (by simp[dG]) (λk xF=>by
   simp[dG]at xF;rcases xF with xF|rfl
   .exact hk.2 k xF
   .exact hb) (λp hp=>by cases hp) (λa ha=>by cases ha) (λa ha=>by cases ha) (λt ht=>by cases ht)
 .exact d5H hV hx ax i e j hi h
end
theorem c4H:∀n k,aU l (WE 900000000) (sC aX bI aG l n k)
 |0,k=>λi a j hi h=>by unfold sC at h;cases h
 |n+1,k=>by
  have hx:=c4H n;have ax:=aA.exF (kw:=aX) (andP:=bI) hV.fin hV.oB.pred n;unfold sC;split
  .exact c4G hV hx ax
  .split
   .exact c1e hV hx ax
   .exact d5I hV hx ax
theorem c1f:aU l (WE 900000000) (zP aX bI aG l):=c4H hV _ 0
end
end
section
section
variable {α β:Type} {kw:Nm->Bool} {andP:Pr->Pr->Pr} {aG:List Tok->Nat->Nat->kX Pr} {l l':List Tok} {N d:Nat} {W W':Nat->Prop} {u:Nm}
variable (hE:qS l) (hN:d0x l l' N d u)
include hE hN
omit hE in
theorem d7J.base:d7J N d W (gS kw l) (gS kw l'):=λi a j hi h hj hw=>by
 have e1:=b7P hN (s:=[73,110,116]) (by decide) (by decide) hi;have e2:=b7P hN (s:=[66,111,111,108]) (by decide) (by decide) hi;have e3:=b7P hN (s:=[67,101,108,108]) (by decide) (by decide) hi;have e4:=d5B (kw:=kw) hN hi;unfold gS at h|-;rw[e1,e2,e3,e4];split at h
 .rename_i h1;rw[if_pos h1];cases h;rw[show i+1+d=i+d+1 by omega]
 rename_i h1;rw[if_neg h1];split at h
 .rename_i h2;rw[if_pos h2];cases h;rw[show i+1+d=i+d+1 by omega]
 rename_i h2;rw[if_neg h2];split at h
 .rename_i h3;rw[if_pos h3];cases h;rw[show i+1+d=i+d+1 by omega]
 rename_i h3;rw[if_neg h3];split at h
 .rename_i h4;rw[if_pos h4,hN.text i (by cases h;omega)];cases h;rw[show i+1+d=i+d+1 by omega]
 rename_i h4;rw[if_neg h4];cases h
 rfl
end
end
section
def e4N(l:List Tok)(i:Nat)(w:Nm):Prop:=(aR l i).kind=4/\(aR l i).text=w
section
variable {kw:Nm->Bool} {andP:Pr->Pr->Pr} {aG:List Tok->Nat->Nat->kX Pr} {l:List Tok} {ex:Nat->bB eM} {i j k k1 k2 k3:Nat} {a b c e:eM}
theorem e4N.is{w:Nm}(h:e4N l i w)(s:Nm):aQ l i s=decide (w=s):=by unfold aQ gF;rw[h.1,h.2];simp
end
end
section
def e0T(ln1:Int)(l0:List Tok)(ln2:Int):List Tok:=e4q ln1 [40]::(l0++[e4q ln2 [41]])
structure Pc (x:List UInt8) (a:eM) (l0:List Tok) (m:Int):Prop where
 no:∀b∈x,b≠35
 lex:jH oS x 0 1 false=.ok (l0++[eTk m])
 f2d:jH oS (40::(x++[41])) 0 1 false=.ok (e0T 1 l0 m++[eTk m])
 cl:kY aX bI rdQ (e0T 1 l0 m++[eTk m]) (sC aX bI rdQ (e0T 1 l0 m++[eTk m]) (l0.length+4)) 0=.ok a (l0.length+2)
end
section
open Go Go.VM
def TL:List TypeId:=[5,9,37,39,199,257,260,261]
theorem c3l:a0w prog TL=true:=by kernel_rfl
theorem tQ:laidOutB prog=true:=by kernel_rfl
theorem hmr:mapsRowed prog=true:=by kernel_rfl
theorem hsf:((List.range prog.types.size).all λt=>match prog.underlying t with|some (.slice e)=>decide (0<prog.cellsOf e)|_=>true)=true:=by kernel_rfl
theorem kF:ownKnob prog.godebug=none:=by kernel_rfl
theorem tu9:prog.underlying 9=some .string:=by kernel_rfl
end
section
open Go Go.VM
theorem d5J{s:List UInt8}{e:eM}{j:Nat}(h:cG exM s=.ok e j):WE 900000000 e:=by obtain⟨hs,l,hl,hx,_⟩:=a9d h;have hV:kU G0 rdQ l:=a5b sP hl (by omega);exact c1f hV 0 e j (List.length_pos_iff.2 hV.fin.1) hx
theorem b3v{P:Program}{G:GT}{q:Bool}{x:VM.Out}{c:Prop}[Decidable c]{dst:Option Tmp}{all:Array Oper}{rest:List Oper}{k:List KI}{Q:Exit->St->Prop}(hc:c)(h:a9D P G q (some x) dst all rest k Q):a9D P G q (if c then some x else none) dst all rest k Q:=by rw[if_pos hc];exact h
end
section
open Go Go.VM
theorem e0U{s:List UInt8}{t:Ty}{j:Nat}(h:cG tyM s=.ok t j):WB 900000000 t:=by obtain⟨hs,l,hl,hx,_⟩:=a9d h;have hV:kU G0 rdQ l:=a5b sP hl (by omega);exact yP hV 0 t j (List.length_pos_iff.2 hV.fin.1) hx
end
section
open Go Go.VM
variable {G:GT}
theorem tF:VM.Enters prog 93:=.mk func93 rfl
theorem sG(l:List zN)(hl:l.length<=900000000):CS prog G 93 [.sl (l.map gG),.sl (l.map gG)] (.d (.bool true)) none:=by
 refine CS.aZ func93 rfl ntmps93 rfl ?_;simp;refine SW.eL (ι:={i:Nat//i<=l.length}) (λi=>[(5,.d (.int .i64 i.1))]) (λ_=>[]) (λ_=>[]) (λi=>l.length-i.1) ⟨0,by simp⟩ (by simp) ?_;rintro⟨i,hi⟩;by_cases aI:i<l.length
 .have hw:=bC (show i<9223372036854775807 by omega);simp[aI,gG];refine⟨gE.mk (by kernel_rfl),?_⟩;exact bJ.mk ⟨i+1,aI⟩ (by simp[hw]) (by simp;omega)
 .have hie:i=l.length:=by omega
  subst hie;simp
theorem a0S:VM.Enters prog 94:=.mk func94 rfl
theorem a0b(l:List zN)(hl:l.length<=900000000):CS prog G 94 [.sl (l.map gG),.sl (l.map gG)] (.d (.bool true)) none:=by
 refine CS.aZ func94 rfl ntmps94 rfl ?_;simp;refine SW.eL (ι:={i:Nat//i<=l.length}) (λi=>[(5,.d (.int .i64 i.1))]) (λ_=>[]) (λ_=>[]) (λi=>l.length-i.1) ⟨0,by simp⟩ (by simp) ?_;rintro⟨i,hi⟩;by_cases aI:i<l.length
 .have hw:=bC (show i<9223372036854775807 by omega);simp[aI,gG];refine⟨gE.mk (by kernel_rfl),?_⟩;exact bJ.mk ⟨i+1,aI⟩ (by simp[hw]) (by simp;omega)
 .have hie:i=l.length:=by omega
  subst hie;simp
theorem a8j:VM.Enters prog 111:=.mk func111 rfl
theorem a6O(l:List Pr)(hl:l.length<=900000000)(hp:∀p∈l,cB p<=900000000):CS prog G 111 [.sl (l.map oO),.sl (l.map oO)] (.d (.bool true)) none:=by
 refine CS.aZ func111 rfl ntmps111 rfl ?_;simp;refine SW.eL (ι:={i:Nat//i<=l.length}) (λi=>[(5,.d (.int .i64 i.1))]) (λ_=>[]) (λ_=>[]) (λi=>l.length-i.1) ⟨0,by simp⟩ (by simp) ?_;rintro⟨i,hi⟩;by_cases aI:i<l.length
 .have hg:=wH aI;have hw:=bC (show i<9223372036854775807 by omega);have hsi:=rG (G:=G) l[i] l[i] (hp _ (List.getElem_mem aI));rw[tO]at hsi;simp[aI,hg];refine⟨gE.mk (by kernel_rfl),?_⟩;refine aE.mk mU hsi ?_;simp;exact bJ.mk ⟨i+1,aI⟩ (by simp[hw]) (by simp;omega)
 .have hie:i=l.length:=by omega
  subst hie;simp
structure WS (s:a7u):Prop where
 vars:s.vars.length<=900000000
 oP:s.oP.length<=900000000
 abs:s.abs.length<=900000000
 bounds:s.bounds.length<=900000000
 bV:∀b∈s.bounds,b.vars.length<=900000000/\cB b.hyp<=900000000/\cB b.goal<=900000000
 type:WB 900000000 s.type
 a6m:s.a6m.length<=900000000
 met:∀p∈s.a6m,cB p<=900000000
theorem b0E:VM.Enters prog 63:=.mk func63 rfl
theorem a9h(s:a7u)(h:WS s):CS prog G 63 [.agg (b2L s),.agg (b2L s)] (.d (.bool true)) none:=by
 obtain⟨vs,ne,ab,bo,⟨op,nm,l,ns,p,ps⟩,me⟩:=s;obtain⟨h1,h2,h3,h4,h5,h6,h7,h8⟩:=h;simp only at h1 h2 h3 h4 h5 h6 h7 h8;have hns:=gC (G:=G) vs h1;have dX:=a0b (G:=G) ne h2;have mN:=gW (G:=G) _ h6;have hme:=a6O (G:=G) me h7 h8;refine CS.b1V func63 rfl ntmps63 rfl (SW.xk ?_);simp;refine jC.mk gV hns ?_;simp;refine jC.mk a0S dX ?_;simp;refine jC.mk mB mN ?_;simp;refine jC.mk a8j hme ?_;simp;refine SW.vB (ι:={i:Nat//i<=ab.length}) (λi=>[(5,.d (.int .i64 i.1))]) (λ_=>[(2,.cells [.d (.sl (strs vs)),.d (.sl (ne.map gG)),.d (.sl (ab.map gG)),.d (.sl (bo.map b1U)),.d (.int .i64 op),.d (.str nm),.d (.sl (l.map tyC)),.d (.sl (strs ns)),.d (.int .i64 p.op),.d (.str p.name),.d (.int .i64 p.n),.d (.sl (p.kids.map oO)),.d (.sl (ps.map oO)),.d (.sl (me.map oO))]),(3,.cells [.d (.sl (strs vs)),.d (.sl (ne.map gG)),.d (.sl (ab.map gG)),.d (.sl (bo.map b1U)),.d (.int .i64 op),.d (.str nm),.d (.sl (l.map tyC)),.d (.sl (strs ns)),.d (.int .i64 p.op),.d (.str p.name),.d (.int .i64 p.n),.d (.sl (p.kids.map oO)),.d (.sl (ps.map oO)),.d (.sl (me.map oO))])]) (λ_=>[]) (λi=>ab.length-i.1) ⟨0,by simp⟩ (by simp) ?_;rintro⟨i,hi⟩;by_cases aI:i<ab.length
 .have hw:=bC (show i<9223372036854775807 by omega);simp[aI];refine SW.vk ?_;simp[aI,gG];refine⟨gE.mk (by kernel_rfl),?_⟩;exact bJ.mk ⟨i+1,aI⟩ (by simp[hw]) (by simp;omega)
 .have hie:i=ab.length:=by omega
  subst hie;simp;refine SW.vB (ι:={i:Nat//i<=bo.length}) (λi=>[(6,.d (.int .i64 i.1))]) (λ_=>[(2,.cells [.d (.sl (strs vs)),.d (.sl (ne.map gG)),.d (.sl (ab.map gG)),.d (.sl (bo.map b1U)),.d (.int .i64 op),.d (.str nm),.d (.sl (l.map tyC)),.d (.sl (strs ns)),.d (.int .i64 p.op),.d (.str p.name),.d (.int .i64 p.n),.d (.sl (p.kids.map oO)),.d (.sl (ps.map oO)),.d (.sl (me.map oO))]),(3,.cells [.d (.sl (strs vs)),.d (.sl (ne.map gG)),.d (.sl (ab.map gG)),.d (.sl (bo.map b1U)),.d (.int .i64 op),.d (.str nm),.d (.sl (l.map tyC)),.d (.sl (strs ns)),.d (.int .i64 p.op),.d (.str p.name),.d (.int .i64 p.n),.d (.sl (p.kids.map oO)),.d (.sl (ps.map oO)),.d (.sl (me.map oO))])]) (λ_=>[]) (λi=>bo.length-i.1) ⟨0,by simp⟩ (by simp) ?_;rintro⟨i,hi⟩;by_cases aI:i<bo.length
  .have hg:=b7o bo[i];have hw:=bC (show i<9223372036854775807 by omega);obtain⟨b1,b2,b3⟩:=h5 _ (List.getElem_mem aI);have hv:=sG (G:=G) bo[i].vars b1;have hy:=rG (G:=G) bo[i].hyp bo[i].hyp b2;have hz:=rG (G:=G) bo[i].goal bo[i].goal b3;rw[tO]at hy hz;simp[aI];refine c4D [0,1,2,3,4,5,6,7,8,9] (d5y 10 11 12 13) 121 (by kernel_rfl) (by kernel_rfl) (by simp) ?_;simp[aI,hg,d5y];refine jC.mk tF hv ?_;simp;refine jC.mk mU hy ?_;simp;refine jC.mk mU hz ?_;simp;exact bJ.mk ⟨i+1,aI⟩ (by simp[hw]) (by simp;omega)
  .have hie:i=bo.length:=by omega
   subst hie;simp
end
section
open Go Go.VM
variable {G:GT}
structure WD (d:eX):Prop where
 params:d.params.length<=900000000
 body:WE 900000000 d.body
 sig:WS d.sig
theorem b0F:VM.Enters prog 29:=.mk func29 rfl
theorem a9i(d:eX)(h:WD d):CS prog G 29 [.agg (a7Y d),.agg (a7Y d)] (.d (.bool true)) none:=by have hns:=gC (G:=G) _ h.params;have hbo:=a5P (G:=G) _ h.body;have hsi:=a9h (G:=G) _ h.sig;refine CS.aZ func29 rfl ntmps29 rfl ?_;simp;refine aE.mk gV hns ?_;simp;refine aE.mk yO hbo ?_;simp;refine aE.mk b0E hsi ?_;simp
theorem a1Q:VM.Enters prog 53:=.mk func53 rfl
theorem a0T(l:List eX)(hl:l.length<=900000000)(hd:∀d∈l,WD d):CS prog G 53 [.sl (l.map a1c),.sl (l.map a1c)] (.d (.bool true)) none:=by
 refine CS.aZ func53 rfl ntmps53 rfl ?_;simp;refine SW.eL (ι:={i:Nat//i<=l.length}) (λi=>[(5,.d (.int .i64 i.1))]) (λ_=>[]) (λ_=>[]) (λi=>l.length-i.1) ⟨0,by simp⟩ (by simp) ?_;rintro⟨i,hi⟩;by_cases aI:i<l.length
 .have hg:=a4V l[i];have hw:=bC (show i<9223372036854775807 by omega);have hsi:=a9i (G:=G) l[i] (hd _ (List.getElem_mem aI));simp[aI,hg];refine⟨gE.mk (by kernel_rfl),?_⟩;refine aE.mk b0F hsi ?_;simp;exact bJ.mk ⟨i+1,aI⟩ (by simp[hw]) (by simp;omega)
 .have hie:i=l.length:=by omega
  subst hie;simp
theorem a9j:VM.Enters prog 52:=.mk func52 rfl
theorem a8k(q:a6p)(h1:q.vars.length<=900000000)(h2:cB q.body<=900000000):CS prog G 52 [.agg (c4p q),.agg (c4p q)] (.d (.bool true)) none:=by have hv:=sG (G:=G) _ h1;have hb:=rG (G:=G) q.body q.body h2;rw[tO]at hb;refine CS.aZ func52 rfl ntmps52 rfl ?_;simp;refine aE.mk tF hv ?_;simp;refine aE.mk mU hb ?_;simp
theorem a4v:VM.Enters prog 50:=.mk func50 rfl
theorem a3i(x:a6n)(h1:WB 900000000 x.type)(h2:x.oP.length<=900000000)(h3:x.defs.length<=900000000)(h4:∀d∈x.defs,WD d):CS prog G 50 [.agg (c4m x),.agg (c4m x)] (.d (.bool true)) none:=by have ht:=gW (G:=G) _ h1;have hn:=a0b (G:=G) _ h2;have hd:=a0T (G:=G) _ h3 h4;refine CS.aZ func50 rfl ntmps50 rfl ?_;simp;refine aE.mk mB ht ?_;simp;refine aE.mk a0S hn ?_;simp;refine aE.mk a1Q hd ?_;simp
end
section
open Go Go.VM
variable {G:GT}
structure WDa (d:a3Q):Prop where
 vars:d.vars.length<=900000000
 a7t:d.a7t.length<=900000000
 cons:d.cons.length<=900000000
 con:∀c∈d.cons,c.names.length<=900000000/\c.fields.length<=900000000/\∀t∈c.fields,WB 900000000 t
structure WCl (d:a0A):Prop where
 len:d.methods.length<=900000000
 met:∀p∈d.methods,WB 900000000 p.2
structure WMe (x:a6o):Prop where
 len:x.cases.length<=900000000
 inv:cB x.inv<=900000000
 cas:∀c∈x.cases,c.2.1.length<=900000000/\cB c.2.2<=900000000
structure WIn (x:a6n):Prop where
 type:WB 900000000 x.type
 oP:x.oP.length<=900000000
 len:x.defs.length<=900000000
 defs:∀d∈x.defs,WD d
structure WQu (q:a6p):Prop where
 vars:q.vars.length<=900000000
 body:cB q.body<=900000000
theorem a8l:VM.Enters prog 49:=.mk func49 rfl
theorem a6P(d:a0A)(h:WCl d):CS prog G 49 [.agg (c4r d),.agg (c4r d)] (.d (.bool true)) none:=by
 obtain⟨nm,va,ms⟩:=d;obtain⟨h1,h2⟩:=h;simp only at h1 h2;refine CS.aZ func49 rfl ntmps49 rfl ?_;simp;refine SW.eL (ι:={i:Nat//i<=ms.length}) (λi=>[(5,.d (.int .i64 i.1))]) (λ_=>[(2,.cells [.d (.str nm),.d (.str va),.d (.sl (ms.map a2j))]),(3,.cells [.d (.str nm),.d (.str va),.d (.sl (ms.map a2j))])]) (λ_=>[]) (λi=>ms.length-i.1) ⟨0,by simp⟩ (by simp) ?_;rintro⟨i,hi⟩;by_cases aI:i<ms.length
 .have hg:=a0O ms[i];have hw:=bC (show i<9223372036854775807 by omega);have hsi:=gW (G:=G) ms[i].2 (h2 _ (List.getElem_mem aI));simp[aI,hg];refine⟨gE.mk (by kernel_rfl),?_⟩;refine aE.mk mB hsi ?_;simp;exact bJ.mk ⟨i+1,aI⟩ (by simp[hw]) (by simp;omega)
 .have hie:i=ms.length:=by omega
  subst hie;simp
theorem a9k:VM.Enters prog 48:=.mk func48 rfl
theorem a8m(d:a3Q)(h:WDa d):CS prog G 48 [.agg (c4q d),.agg (c4q d)] (.d (.bool true)) none:=by
 obtain⟨nm,vs,ps,cs⟩:=d;obtain⟨h1,h2,h3,h4⟩:=h;simp only at h1 h2 h3 h4;have hns:=gC (G:=G) vs h1;have hps:=sG (G:=G) ps h2;refine CS.aZ func48 rfl ntmps48 rfl ?_;simp;refine aE.mk gV hns ?_;simp;refine aE.mk tF hps ?_;simp;refine SW.eL (ι:={i:Nat//i<=cs.length}) (λi=>[(5,.d (.int .i64 i.1))]) (λ_=>[(2,.cells [.d (.str nm),.d (.sl (strs vs)),.d (.sl (ps.map gG)),.d (.sl (cs.map a5A))]),(3,.cells [.d (.str nm),.d (.sl (strs vs)),.d (.sl (ps.map gG)),.d (.sl (cs.map a5A))])]) (λ_=>[]) (λi=>cs.length-i.1) ⟨0,by simp⟩ (by simp) ?_;rintro⟨i,hi⟩;by_cases aI:i<cs.length
 .have hw:=bC (show i<9223372036854775807 by omega);obtain⟨c1,c2,c3⟩:=h4 _ (List.getElem_mem aI);have hn:=gC (G:=G) cs[i].names c1;have ht:=wB (G:=G) cs[i].fields c2 λt ht=>gW t (c3 t ht);simp[aI,a5A];refine⟨gE.mk (by kernel_rfl),?_⟩;refine aE.mk gV hn ?_;simp[aI,a5A];refine aE.mk uU ht ?_;simp;exact bJ.mk ⟨i+1,aI⟩ (by simp[hw]) (by simp;omega)
 .have hie:i=cs.length:=by omega
  subst hie;simp
theorem a5l:VM.Enters prog 51:=.mk func51 rfl
theorem a4w(x:a6o)(h:WMe x):CS prog G 51 [.agg (c4o x),.agg (c4o x)] (.d (.bool true)) none:=by
 obtain⟨nm,da,re,cs,iv⟩:=x;obtain⟨h1,h2,h3⟩:=h;simp only at h1 h2 h3;have hiv:=rG (G:=G) iv iv h2;rw[tO]at hiv;refine CS.aZ func51 rfl ntmps51 rfl ?_;simp;refine aE.mk mU hiv ?_;simp;refine SW.eL (ι:={i:Nat//i<=cs.length}) (λi=>[(5,.d (.int .i64 i.1))]) (λ_=>[(2,.cells [.d (.str nm),.d (.str da),.d (.str re),.d (.sl (cs.map b5I)),.d (.int .i64 iv.op),.d (.str iv.name),.d (.int .i64 iv.n),.d (.sl (iv.kids.map oO))]),(3,.cells [.d (.str nm),.d (.str da),.d (.str re),.d (.sl (cs.map b5I)),.d (.int .i64 iv.op),.d (.str iv.name),.d (.int .i64 iv.n),.d (.sl (iv.kids.map oO))])]) (λ_=>[]) (λi=>cs.length-i.1) ⟨0,by simp⟩ (by simp) ?_;rintro⟨i,hi⟩;by_cases aI:i<cs.length
 .have hg:=c9T cs[i];have hw:=bC (show i<9223372036854775807 by omega);obtain⟨c1,c2⟩:=h3 _ (List.getElem_mem aI);have hn:=gC (G:=G) cs[i].2.1 c1;have hb:=rG (G:=G) cs[i].2.2 cs[i].2.2 c2;rw[tO]at hb;simp[aI,hg];refine⟨gE.mk (by kernel_rfl),?_⟩;refine aE.mk gV hn ?_;simp[aI,hg];refine aE.mk mU hb ?_;simp;exact bJ.mk ⟨i+1,aI⟩ (by simp[hw]) (by simp;omega)
 .have hie:i=cs.length:=by omega
  subst hie;simp
end
section
open Go Go.VM
variable {G:GT}
structure WMo (m:gZ):Prop where
 e0V:m.uW.length<=900000000
 d0H:m.oJ.length<=900000000
 e0W:m.insts.length<=900000000
 e0X:m.uX.length<=900000000
 e0Y:m.xV.length<=900000000
 e4O:m.defs.length<=900000000
 uW:∀d∈m.uW,WDa d
 oJ:∀d∈m.oJ,WCl d
 insts:∀d∈m.insts,WIn d
 uX:∀d∈m.uX,WMe d
 xV:∀d∈m.xV,WQu d
 defs:∀d∈m.defs,WD d
theorem c6Z(d:a3Q):uZ d=c4q d:=rfl
theorem c7a(d:a0A):xW d=c4r d:=rfl
theorem b7Q:VM.Enters prog 23:=.mk func23 rfl
theorem b4D(m:gZ)(h:WMo m):CS prog G 23 [.agg (a0E m),.agg (a0E m)] (.d (.bool true)) none:=by
 obtain⟨da,cl,ins,me,qu,de⟩:=m;obtain⟨l1,l2,l3,l4,l5,l6,h1,h2,h3,h4,h5,h6⟩:=h;simp only at l1 l2 l3 l4 l5 l6 h1 h2 h3 h4 h5 h6;have hde:=a0T (G:=G) de l6 h6;refine CS.aZ func23 rfl ntmps23 rfl ?_;simp[a0E];refine SW.eL (ι:={i:Nat//i<=da.length}) (λi=>[(5,.d (.int .i64 i.1))]) (λ_=>[(2,.cells [.d (.sl (da.map uZ)),.d (.sl (cl.map xW)),.d (.sl (ins.map a0C)),.d (.sl (me.map zS)),.d (.sl (qu.map a0D)),.d (.sl (de.map a1c))]),(3,.cells [.d (.sl (da.map uZ)),.d (.sl (cl.map xW)),.d (.sl (ins.map a0C)),.d (.sl (me.map zS)),.d (.sl (qu.map a0D)),.d (.sl (de.map a1c))])]) (λ_=>[]) (λi=>da.length-i.1) ⟨0,by simp⟩ (by simp) ?_;rintro⟨i,hi⟩;by_cases aI:i<da.length
 .have hg:=c6Z da[i];have hw:=bC (show i<9223372036854775807 by omega);have hsi:=a8m (G:=G) da[i] (h1 _ (List.getElem_mem aI));simp[aI,hg];refine⟨gE.mk (by kernel_rfl),?_⟩;refine aE.mk a9k hsi ?_;simp;exact bJ.mk ⟨i+1,aI⟩ (by simp[hw]) (by simp;omega)
 .have hie:i=da.length:=by omega
  subst hie;simp;refine SW.eL (ι:={i:Nat//i<=cl.length}) (λi=>[(6,.d (.int .i64 i.1))]) (λ_=>[(2,.cells [.d (.sl (da.map uZ)),.d (.sl (cl.map xW)),.d (.sl (ins.map a0C)),.d (.sl (me.map zS)),.d (.sl (qu.map a0D)),.d (.sl (de.map a1c))]),(3,.cells [.d (.sl (da.map uZ)),.d (.sl (cl.map xW)),.d (.sl (ins.map a0C)),.d (.sl (me.map zS)),.d (.sl (qu.map a0D)),.d (.sl (de.map a1c))])]) (λ_=>[]) (λi=>cl.length-i.1) ⟨0,by simp⟩ (by simp) ?_;rintro⟨i,hi⟩;by_cases aI:i<cl.length
  .have hg:=c7a cl[i];have hw:=bC (show i<9223372036854775807 by omega);have hsi:=a6P (G:=G) cl[i] (h2 _ (List.getElem_mem aI));simp[aI,hg];refine⟨gE.mk (by kernel_rfl),?_⟩;refine aE.mk a8l hsi ?_;simp;exact bJ.mk ⟨i+1,aI⟩ (by simp[hw]) (by simp;omega)
  .have hie:i=cl.length:=by omega
   subst hie;simp;refine SW.eL (ι:={i:Nat//i<=ins.length}) (λi=>[(7,.d (.int .i64 i.1))]) (λ_=>[(2,.cells [.d (.sl (da.map uZ)),.d (.sl (cl.map xW)),.d (.sl (ins.map a0C)),.d (.sl (me.map zS)),.d (.sl (qu.map a0D)),.d (.sl (de.map a1c))]),(3,.cells [.d (.sl (da.map uZ)),.d (.sl (cl.map xW)),.d (.sl (ins.map a0C)),.d (.sl (me.map zS)),.d (.sl (qu.map a0D)),.d (.sl (de.map a1c))])]) (λ_=>[]) (λi=>ins.length-i.1) ⟨0,by simp⟩ (by simp) ?_;rintro⟨i,hi⟩;by_cases aI:i<ins.length
   .have hg:=c0x ins[i];have hw:=bC (show i<9223372036854775807 by omega);have hsi:=a3i (G:=G) ins[i] (h3 _ (List.getElem_mem aI)).type (h3 _ (List.getElem_mem aI)).oP (h3 _ (List.getElem_mem aI)).len (h3 _ (List.getElem_mem aI)).defs;simp[aI,hg];refine⟨gE.mk (by kernel_rfl),?_⟩;refine aE.mk a4v hsi ?_;simp;exact bJ.mk ⟨i+1,aI⟩ (by simp[hw]) (by simp;omega)
   .have hie:i=ins.length:=by omega
    subst hie;simp;refine SW.eL (ι:={i:Nat//i<=me.length}) (λi=>[(8,.d (.int .i64 i.1))]) (λ_=>[(2,.cells [.d (.sl (da.map uZ)),.d (.sl (cl.map xW)),.d (.sl (ins.map a0C)),.d (.sl (me.map zS)),.d (.sl (qu.map a0D)),.d (.sl (de.map a1c))]),(3,.cells [.d (.sl (da.map uZ)),.d (.sl (cl.map xW)),.d (.sl (ins.map a0C)),.d (.sl (me.map zS)),.d (.sl (qu.map a0D)),.d (.sl (de.map a1c))])]) (λ_=>[]) (λi=>me.length-i.1) ⟨0,by simp⟩ (by simp) ?_;rintro⟨i,hi⟩;by_cases aI:i<me.length
    .have hg:=c0A me[i];have hw:=bC (show i<9223372036854775807 by omega);have hsi:=a4w (G:=G) me[i] (h4 _ (List.getElem_mem aI));simp[aI,hg];refine⟨gE.mk (by kernel_rfl),?_⟩;refine aE.mk a5l hsi ?_;simp;exact bJ.mk ⟨i+1,aI⟩ (by simp[hw]) (by simp;omega)
    .have hie:i=me.length:=by omega
     subst hie;simp;refine SW.eL (ι:={i:Nat//i<=qu.length}) (λi=>[(9,.d (.int .i64 i.1))]) (λ_=>[(2,.cells [.d (.sl (da.map uZ)),.d (.sl (cl.map xW)),.d (.sl (ins.map a0C)),.d (.sl (me.map zS)),.d (.sl (qu.map a0D)),.d (.sl (de.map a1c))]),(3,.cells [.d (.sl (da.map uZ)),.d (.sl (cl.map xW)),.d (.sl (ins.map a0C)),.d (.sl (me.map zS)),.d (.sl (qu.map a0D)),.d (.sl (de.map a1c))])]) (λ_=>[]) (λi=>qu.length-i.1) ⟨0,by simp⟩ (by simp) ?_;rintro⟨i,hi⟩;by_cases aI:i<qu.length
     .have hg:=c0B qu[i];have hw:=bC (show i<9223372036854775807 by omega);have hsi:=a8k (G:=G) qu[i] (h5 _ (List.getElem_mem aI)).vars (h5 _ (List.getElem_mem aI)).body;simp[aI,hg];refine⟨gE.mk (by kernel_rfl),?_⟩;refine aE.mk a9j hsi ?_;simp;exact bJ.mk ⟨i+1,aI⟩ (by simp[hw]) (by simp;omega)
     .have hie:i=qu.length:=by omega
      subst hie;simp;refine aE.mk a1Q hde ?_;simp
end
section
open Go Go.VM
section
variable {l:List Tok} (hE:qS l)
include hE
theorem a8n{kw:Nm->Bool}(v:Bool):aU l (λb:List zN=>b.length<=l.length) (qG kw l v):=λi b j hi h=>by
 have a1:∀out:List zN,aA l 1 (do
   let b <- (if v then dR l [118] else pure false)
   let name <- (if b then pure [118] else bS kw l)
   aV l [[58]]
   let s <- vN kw l
   pure (out++[(name,s)])):=λout=>by
  refine aA.br (aA.ite (aA.skip hE _) (aA.aT _)) λb=>?_;refine aA.br (aA.ite (aA.aT _) ((aA.word hE).le (by omega))) λnm=>?_;exact(aA.exp hE _ _).bl λ_=>((aA.sort hE).le (by omega)).bl λ_=>aA.aT _
 unfold qG at h;exact(pY hE (P:=λ_=>True) (λout i b j hi h=>by obtain⟨_,_,_,h⟩:=bG h;obtain⟨_,_,_,h⟩:=bG h;obtain⟨_,_,_,h⟩:=bG h;obtain⟨_,_,_,h⟩:=bG h;cases h;exact⟨_,rfl,trivial⟩) a1 i b j hi h).1
theorem b5Y{kw:Nm->Bool}:aU l (λb:List zN=>b.length<=l.length) (pN kw l):=λi b j hi h=>by unfold pN at h;exact(pY hE (P:=λ_=>True) (λout i b j hi h=>by obtain⟨_,_,_,h⟩:=bG h;obtain⟨_,_,_,h⟩:=bG h;cases h;exact⟨_,rfl,trivial⟩) (λout=>(aA.title hE).bl λ_=>((aA.word hE).le (by omega)).bl λ_=>aA.aT _) i b j hi h).1
end
section
variable {G:GT} {aG:List Tok->Nat->Nat->kX Pr} {l:List Tok} (hV:kU G aG l)
include hV
theorem c7b:aU l (λb:pM=>b.vars.length<=l.length/\cB b.hyp<=900000000/\cB b.goal<=900000000) (pO aX aG l):=by have hE:=hV.fin;unfold pO;refine aU.skip ((aA.word hE).le (by omega)) λnm=>aU.skip ((aA.exp hE _ _).le (by omega)) λ_=>?_;refine aU.bind (a8n hE false) ((aA.vars hE false).le (by omega)) λvs hv=>aU.skip ((aA.exp hE _ _).le (by omega)) λ_=>?_;refine aU.bind (a1P hV) (hV.oB.pred) λh hh=>aU.skip ((aA.exp hE _ _).le (by omega)) λ_=>?_;refine aU.bind (a1P hV) (hV.oB.pred) λg hg=>aU.skip ((aA.exp hE _ _).le (by omega)) λ_=>?_;exact aU.aT ⟨hv,hh,hg⟩
theorem e0Z:aU l (λvs:List Nm=>vs.length<=l.length) (do
  let w <- bS aX l
  let ws <- mX l (λi=>mH aX (aR l i)) (λout=>do let w <- bS aX l;pure (out++[w])) [w]
  aV l [[46]]
  pure ws:bB (List Nm)):=λi b j hi h=>by
 have hE:=hV.fin;obtain⟨w,k,e1,h⟩:=bG h;obtain⟨ws,m,e2,h⟩:=bG h;obtain⟨_,_,_,h⟩:=bG h;cases h;have k1:=aA.word hE i w k hi e1;unfold mX at e2;exact(b3t (P:=λ_=>True) (λout=>aU.skip ((aA.word hE).le (by omega)) λw=>aU.aT ⟨w,rfl,trivial⟩) (λout=>(aA.word hE).bl λ_=>aA.aT _) _ [w] k _ m k1.2 (by simp;omega) (λ_ _=>trivial) e2).1
theorem d0I(e:Nat):aU l (λms:List Pr=>ms.length<=l.length/\∀p∈ms,cB p<=900000000) (gA l [44] (λout=>do
  let p <- (λj=>aG l j e:bB Pr)
  pure (out++[p])) []):=by
 have hE:=hV.fin;have a0:aA l 1 (λj=>aG l j e:bB Pr):=λi p j hi h=>by have h1:=hV.oB e i p j hi h;have h2:=(hV.nod i e p j hi h).1;have h3:=b1Q p;omega
 refine pY hE (P:=λp=>cB p<=900000000) (λout=>aU.bind (P:=λp=>cB p<=900000000) (λi p j hi h=>?_) (a0.le (by omega)) λp hp=>aU.aT ⟨p,rfl,hp⟩) λout=>a0.bl λ_=>aA.aT _;have h1:=(hV.nod i _ p j hi h).1;have h2:=hV.oB _ i p j hi h;have h3:=hV.len;omega
theorem b7R:aU l WS (wW aX bI aG l):=by
 have hE:=hV.fin;have hP:=hV.oB.pred;have hl:=hV.len;unfold wW;refine aU.skip (aA.skip hE _) λb=>aU.bind (P:=λvs:List Nm=>vs.length<=l.length) (aU.ite (e0Z hV) (aU.aT (by simp))) (aA.ite (((aA.word hE).le (by omega)).bl λ_=>(aA.many (λa=>((aA.word hE).le (by omega)).bl λ_=>aA.aT _) _).bl λ_=>((aA.exp hE _ _).le (by omega)).bl λ_=>aA.aT _) (aA.aT _)) λvs h1=>?_;refine aU.skip (aA.skip hE _) λb=>aU.bind (P:=λvs:List zN=>vs.length<=l.length) (aU.ite (aU.bind (b5Y hE) ((aA.oP hE).le (by omega)) λns hn=>aU.skip ((aA.exp hE _ _).le (by omega)) λ_=>aU.aT hn) (aU.aT (by simp))) (aA.ite (((aA.oP hE).le (by omega)).bl λ_=>((aA.exp hE _ _).le (by omega)).bl λ_=>aA.aT _) (aA.aT _)) λns h2=>?_;refine aU.skip (aA.skip hE _) λb=>aU.bind (P:=λvs:List zN=>vs.length<=l.length) (aU.ite (aU.bind (a8n hE false) ((aA.vars hE _).le (by omega)) λns hn=>aU.skip ((aA.exp hE _ _).le (by omega)) λ_=>aU.aT hn) (aU.aT (by simp))) (aA.ite (((aA.vars hE _).le (by omega)).bl λ_=>((aA.exp hE _ _).le (by omega)).bl λ_=>aA.aT _) (aA.aT _)) λab h3=>?_;refine aU.bind (P:=λbs:List pM=>bs.length<=l.length/\∀b∈bs,b.vars.length<=l.length/\cB b.hyp<=900000000/\cB b.goal<=900000000) (a8i (λout=>aU.skip ((aA.exp hE _ _).le (by omega)) λ_=>aU.bind (c7b hV) ((aA.bound hE hP).le (by omega)) λb hb=>aU.aT ⟨b,rfl,hb⟩) (λout=>(aA.exp hE _ _).bl λ_=>((aA.bound hE hP).le (by omega)).bl λ_=>aA.aT _)) (aA.many (λa=>((aA.exp hE _ _).le (by omega)).bl λ_=>((aA.bound hE hP).le (by omega)).bl λ_=>aA.aT _) _) λbs h4=>?_;refine aU.bind (yP hV) ((aA.typ hE hP).le (by omega)) λt h5=>aU.skip (aA.skip hE _) λb=>?_;refine aU.bind (P:=λms:List Pr=>ms.length<=l.length/\∀p∈ms,cB p<=900000000) (aU.ite (λi b j hi h=>d0I hV _ i b j hi h) (aU.aT (by simp))) (aA.ite (λi a j hi h=>?_) (aA.aT _)) λms h6=>?_
 .refine aA.list hE (m:=0) (λa=>aA.bl (m:=0) (λi' p j' hi' h'=>?_) λ_=>aA.aT _) _ i a j hi h;have:=hV.oB _ _ _ _ hi' h';omega
 .exact aU.aT ⟨Nat.le_trans h1 (by omega),Nat.le_trans h2 (by omega),Nat.le_trans h3 (by omega),Nat.le_trans h4.1 (by omega),λb hb=>⟨by have:=(h4.2 b hb).1;omega,(h4.2 b hb).2⟩,h5,Nat.le_trans h6.1 (by omega),h6.2⟩
theorem b3w(mode:Int):aU l WD (uI aX l mode):=λi d j hi h=>by
 have hE:=hV.fin;have hl:=hV.len;unfold uI at h;obtain⟨nm,k,e1,h⟩:=bG h;obtain⟨ps,m,e2,h⟩:=bG h;cases h;have k1:=aA.word hE i nm k hi e1;refine⟨?_,.leaf _ _ _,⟨by simp[uV],by simp[uV],by simp[uV],by simp[uV],by simp[uV],WB.zero,by simp[uV],by simp[uV]⟩⟩
 show ps.length<=_
 split at e2
 .split at e2
  .cases e2;simp
  .have:=a9f hE k ps j k1.2 e2;omega
 .cases e2;simp
theorem c1g{d:eX}(hd:WD d):aU l (λo:Option eX=>∀d,o=some d->WD d) (uJ aX bI aG l d):=by have hE:=hV.fin;unfold uJ;exact aU.skip ((aA.exp hE _ _).le (by omega)) λ_=>aU.bind (c1f hV) ((aA.expr hE hV.oB.pred).le (by omega)) λe he=>aU.aT λd' h=>by cases h;exact⟨hd.params,he,hd.sig⟩
omit hV in
theorem WD.typed{d:eX}(hd:WD d){s:a7u}(hs:WS s):WD {d with typed:=true,sig:=s}:=⟨hd.params,hd.body,hs⟩
theorem c1h:aU l (λo:Option eX=>∀d,o=some d->WD d) (tJ aX bI aG l):=λi o j hi h=>by
 have hE:=hV.fin;have hP:=hV.oB.pred;have aS:=aA.sig (kw:=aX) (andP:=bI) hE hV.oB;unfold tJ at h;split at h
 .rename_i hs;have hi1:=aF hE hi hs;refine aU.bind (Q:=λo:Option eX=>∀d,o=some d->WD d) (b3w hV 0) ((aA.head hE 0).le (by omega)) (λd hd=>aU.skip (aA.skip hE _) λb=>aU.bind (P:=WD) (aU.ite (aU.bind (b7R hV) (aS.le (by omega)) λs hs=>aU.aT (hd.typed hs)) (aU.aT hd)) (aA.ite (aA.bl (aS.le (by omega)) λ_=>aA.aT _) (aA.aT _)) λd hd=>c1g hV hd) (i+1) o j hi1 h
 .split at h
  .rename_i hs;have hi1:=aF hE hi hs;refine aU.bind (Q:=λo:Option eX=>∀d,o=some d->WD d) (b3w hV 1) ((aA.head hE 1).le (by omega)) (λd hd=>aU.skip ((aA.exp hE _ _).le (by omega)) λb=>aU.bind (b7R hV) (aS.le (by omega)) λs hs=>aU.aT λd' h=>by cases h;exact hd.typed hs) (i+1) o j hi1 h
  .split at h
   .rename_i hs;have hi1:=aF hE hi hs;refine aU.bind (Q:=λo:Option eX=>∀d,o=some d->WD d) (b3w hV 2) ((aA.head hE 2).le (by omega)) (λd hd=>aU.skip ((aA.exp hE _ _).le (by omega)) λb=>aU.bind (b7R hV) (aS.le (by omega)) λs hs=>c1g hV (hd.typed hs)) (i+1) o j hi1 h
   .cases h;intro d hd;cases hd
theorem d5K:aU l (λc:a3P=>c.names.length<=900000000/\c.fields.length<=900000000/\∀t∈c.fields,WB 900000000 t) (a1E aX bI aG l):=by have hE:=hV.fin;have hl:=hV.len;have at1:aA l 1 (dW aX bI aG l):=aA.typ hE hV.oB.pred;unfold a1E;refine aU.skip ((aA.title hE).le (by omega)) λnm=>aU.skip (aA.skip hE _) λb=>aU.ite ?_ (aU.aT ⟨by simp,by simp,λt ht=>by cases ht⟩);refine aU.bind (a9e hE (P:=WB 900000000) (λout=>aU.skip ((aA.word hE).le (by omega)) λw=>aU.skip ((aA.exp hE _ _).le (by omega)) λ_=>aU.bind (yP hV) (at1.le (by omega)) λt ht=>aU.aT ⟨t,by simp,rfl,ht⟩) λout=>(aA.word hE).bl λ_=>((aA.exp hE _ _).le (by omega)).bl λ_=>(at1.le (by omega)).bl λ_=>aA.aT _) (aA.list hE (λout=>((aA.word hE).le (by omega)).bl λ_=>((aA.exp hE _ _).le (by omega)).bl λ_=>(at1.le (by omega)).bl λ_=>aA.aT _) _) λx hx=>?_;exact aU.skip ((aA.exp hE _ _).le (by omega)) λ_=>aU.aT ⟨Nat.le_trans hx.1 (by omega),Nat.le_trans hx.2.1 (by omega),hx.2.2⟩
theorem d0J:aU l WDa (uK aX bI aG l):=by have hE:=hV.fin;have hl:=hV.len;have aC:=aA.con (kw:=aX) (andP:=bI) hE hV.oB.pred;unfold uK;refine aU.skip ((aA.title hE).le (by omega)) λnm=>aU.bind (P:=λvs:List Nm=>vs.length<=l.length/\∀v∈vs,True) (a8i (P:=λ_=>True) (λout=>aU.skip ((aA.word hE).le (by omega)) λw=>aU.aT ⟨w,rfl,trivial⟩) (λout=>(aA.word hE).bl λ_=>aA.aT _)) (aA.many (λa=>((aA.word hE).le (by omega)).bl λ_=>aA.aT _) _) λvs h1=>?_;refine aU.skip (aA.skip hE _) λb=>aU.bind (P:=λvs:List zN=>vs.length<=l.length) (aU.ite (aU.bind (a8n hE false) ((aA.vars hE _).le (by omega)) λns hn=>aU.skip ((aA.exp hE _ _).le (by omega)) λ_=>aU.aT hn) (aU.aT (by simp))) (aA.ite (((aA.vars hE _).le (by omega)).bl λ_=>((aA.exp hE _ _).le (by omega)).bl λ_=>aA.aT _) (aA.aT _)) λps h2=>?_;refine aU.skip ((aA.exp hE _ _).le (by omega)) λ_=>aU.bind (pY hE (λout=>aU.bind (d5K hV) (aC.le (by omega)) λc hc=>aU.aT ⟨c,rfl,hc⟩) λout=>aC.bl λ_=>aA.aT _) (aA.list hE (λout=>(aC.le (by omega)).bl λ_=>aA.aT _) _) λcs h3=>?_;exact aU.aT ⟨Nat.le_trans h1.1 (by omega),Nat.le_trans h2 (by omega),Nat.le_trans h3.1 (by omega),h3.2⟩
theorem d5L:aU l WCl (qR aX bI aG l):=by have hE:=hV.fin;have hl:=hV.len;have at1:aA l 1 (dW aX bI aG l):=aA.typ hE hV.oB.pred;unfold qR;refine aU.skip ((aA.title hE).le (by omega)) λnm=>aU.skip ((aA.word hE).le (by omega)) λv=>aU.skip ((aA.exp hE _ _).le (by omega)) λ_=>?_;refine aU.bind (pY hE (P:=λp:Nm×Ty=>WB 900000000 p.2) (λout=>aU.skip ((aA.word hE).le (by omega)) λw=>aU.skip ((aA.exp hE _ _).le (by omega)) λ_=>aU.bind (yP hV) (at1.le (by omega)) λt ht=>aU.aT ⟨(w,t),rfl,ht⟩) λout=>(aA.word hE).bl λ_=>((aA.exp hE _ _).le (by omega)).bl λ_=>(at1.le (by omega)).bl λ_=>aA.aT _) (aA.list hE (λout=>((aA.word hE).le (by omega)).bl λ_=>((aA.exp hE _ _).le (by omega)).bl λ_=>(at1.le (by omega)).bl λ_=>aA.aT _) _) λms h=>?_;exact aU.aT ⟨Nat.le_trans h.1 (by omega),h.2⟩
theorem d0K:aU l WQu (vT aX aG l):=by have hE:=hV.fin;have hl:=hV.len;unfold vT;refine aU.skip ((aA.word hE).le (by omega)) λnm=>aU.skip ((aA.exp hE _ _).le (by omega)) λ_=>aU.bind (a8n hE true) ((aA.vars hE _).le (by omega)) λvs h1=>aU.skip ((aA.exp hE _ _).le (by omega)) λ_=>?_;exact aU.bind (a1P hV) hV.oB.pred λp hp=>aU.aT ⟨Nat.le_trans h1 (by omega),hp⟩
omit hV in
theorem WD.zero:WD ⟨[],[],zO,0,false,uV⟩:=⟨by simp,.leaf _ _ _,⟨by simp[uV],by simp[uV],by simp[uV],by simp[uV],by simp[uV],WB.zero,by simp[uV],by simp[uV]⟩⟩
theorem d0L:aU l WIn (vQ aX bI aG l):=by
 have hE:=hV.fin;have hl:=hV.len;have hP:=hV.oB.pred;have at1:aA l 1 (dW aX bI aG l):=aA.typ hE hP;unfold vQ;refine aU.skip ((aA.title hE).le (by omega)) λc=>aU.bind (b3u hV (yP hV) (at1.le (by omega)) λi t j hi h=>a4l hV _ i t j hi h) ((aA.uL hE (at1.le (by omega)) hP).le (by omega)) λt h1=>?_;refine aU.skip (aA.skip hE _) λb=>aU.bind (P:=λns:List zN=>ns.length<=l.length) (aU.ite (b5Y hE) (aU.aT (by simp))) (aA.ite ((aA.oP hE).le (by omega)) (aA.aT _)) λns h2=>?_;refine aU.skip ((aA.exp hE _ _).le (by omega)) λ_=>aU.bind (a8i (P:=WD) (λout=>aU.bind (c1h hV) (aA.b3W hE hV.oB) λd hd=>aU.skip ((aA.exp hE _ _).le (by omega)) λ_=>aU.aT ⟨d.getD ⟨[],[],zO,0,false,uV⟩,rfl,by
  cases d with
  |none=>exact WD.zero
  |some d=>exact hd d rfl⟩) (λout=>aA.br (aA.b3W hE hV.oB) λ_=>(aA.exp hE _ _).bl λ_=>aA.aT _)) (aA.many (λa=>(aA.b3W hE hV.oB).bl λ_=>((aA.exp hE _ _).le (by omega)).bl λ_=>aA.aT _) _) λds h3=>?_
 exact aU.skip ((aA.exp hE _ _).le (by omega)) λ_=>aU.aT ⟨h1,Nat.le_trans h2 (by omega),Nat.le_trans h3.1 (by omega),h3.2⟩
theorem d0M:aU l WMe (vR aX aG l):=by
 have hE:=hV.fin;have hl:=hV.len;have hP:=hV.oB.pred;have aN:aA l 0 (λi=>if aQ l i [40] then dH aX l i else .ok [] i:bB (List Nm)):=λi a j hi h=>by
  dsimp only at h
  split at h
  .exact((aA.words hE).le (by omega)) _ _ _ hi h
  .cases h;omega
 have gN:aU l (λns:List Nm=>ns.length<=l.length) (λi=>if aQ l i [40] then dH aX l i else .ok [] i:bB (List Nm)):=λi a j hi h=>by
  dsimp only at h
  split at h
  .exact a9f hE _ _ _ hi h
  .cases h;simp
 unfold vR;refine aU.skip ((aA.word hE).le (by omega)) λnm=>aU.skip ((aA.exp hE _ _).le (by omega)) λ_=>aU.skip ((aA.title hE).le (by omega)) λd=>aU.skip ((aA.exp hE _ _).le (by omega)) λ_=>aU.skip ((aA.sort hE).le (by omega)) λs=>aU.skip ((aA.exp hE _ _).le (by omega)) λ_=>?_;refine aU.bind (pY hE (P:=λc:Nm×List Nm×Pr=>c.2.1.length<=900000000/\cB c.2.2<=900000000) (λout=>aU.skip ((aA.title hE).le (by omega)) λc=>aU.bind gN aN λns hn=>aU.skip ((aA.exp hE _ _).le (by omega)) λ_=>aU.bind (a1P hV) hP λp hp=>aU.aT ⟨(c,ns,p),rfl,Nat.le_trans hn (by omega),hp⟩) λout=>(aA.title hE).bl λ_=>aN.bl λ_=>((aA.exp hE _ _).le (by omega)).bl λ_=>hP.bl λ_=>aA.aT _) (aA.list hE (λout=>((aA.title hE).le (by omega)).bl λ_=>aN.bl λ_=>((aA.exp hE _ _).le (by omega)).bl λ_=>hP.bl λ_=>aA.aT _) _) λcs h=>?_;refine aU.skip ((aA.exp hE _ _).le (by omega)) λ_=>aU.skip (aA.skip hE _) λb=>aU.bind (P:=λp=>cB p<=900000000) (aU.ite (a1P hV) (aU.aT (by simp[mL,cB,dT]))) (aA.ite hP (aA.aT _)) λp hp=>?_;exact aU.aT ⟨Nat.le_trans h.1 (by omega),hp,h.2⟩
omit hV in
theorem a1R{α:Type}{P:α->Prop}{l:List α}{x:α}(h:∀y∈l,P y)(hx:P x):∀y∈l++[x],P y:=λy hy=>by
 rcases List.mem_append.1 hy with hy|hy
 .exact h y hy
 .rw[f2U]at hy;rw[hy];exact hx
structure MoI (k:Nat) (m:gZ):Prop where
 e0V:m.uW.length<=k
 d0H:m.oJ.length<=k
 e0W:m.insts.length<=k
 e0X:m.uX.length<=k
 e0Y:m.xV.length<=k
 e4O:m.defs.length<=k
 uW:∀d∈m.uW,WDa d
 oJ:∀d∈m.oJ,WCl d
 insts:∀d∈m.insts,WIn d
 uX:∀d∈m.uX,WMe d
 xV:∀d∈m.xV,WQu d
 defs:∀d∈m.defs,WD d
theorem d0N{m b:gZ}{k i j:Nat}(hi:i<l.length)(hm:MoI k m)(h:pP aX bI aG l m i=.ok b j):MoI (k+1) b:=by
 have hE:=hV.fin;obtain⟨l1,l2,l3,l4,l5,l6,h1,h2,h3,h4,h5,h6⟩:=hm;unfold pP at h;split at h
 .rename_i hs;obtain⟨x,k,hx,h⟩:=bG h;have hg:=d0J hV _ x k (aF hE hi hs) hx;cases h;exact⟨by simp;omega,by show m.oJ.length<=_;omega,by show m.insts.length<=_;omega,by show m.uX.length<=_;omega,by show m.xV.length<=_;omega,by show m.defs.length<=_;omega,a1R h1 hg,h2,h3,h4,h5,h6⟩
 split at h
 .rename_i hs;obtain⟨x,k,hx,h⟩:=bG h;have hg:=d5L hV _ x k (aF hE hi hs) hx;cases h;exact⟨by show m.uW.length<=_;omega,by simp;omega,by show m.insts.length<=_;omega,by show m.uX.length<=_;omega,by show m.xV.length<=_;omega,by show m.defs.length<=_;omega,h1,a1R h2 hg,h3,h4,h5,h6⟩
 split at h
 .rename_i hs;obtain⟨x,k,hx,h⟩:=bG h;have hg:=d0L hV _ x k (aF hE hi hs) hx;cases h;exact⟨by show m.uW.length<=_;omega,by show m.oJ.length<=_;omega,by simp;omega,by show m.uX.length<=_;omega,by show m.xV.length<=_;omega,by show m.defs.length<=_;omega,h1,h2,a1R h3 hg,h4,h5,h6⟩
 split at h
 .rename_i hs;obtain⟨x,k,hx,h⟩:=bG h;have hg:=d0M hV _ x k (aF hE hi hs) hx;cases h;exact⟨by show m.uW.length<=_;omega,by show m.oJ.length<=_;omega,by show m.insts.length<=_;omega,by simp;omega,by show m.xV.length<=_;omega,by show m.defs.length<=_;omega,h1,h2,h3,a1R h4 hg,h5,h6⟩
 split at h
 .rename_i hs;obtain⟨x,k,hx,h⟩:=bG h;have hg:=d0K hV _ x k (aF hE hi hs) hx;cases h;exact⟨by show m.uW.length<=_;omega,by show m.oJ.length<=_;omega,by show m.insts.length<=_;omega,by show m.uX.length<=_;omega,by simp;omega,by show m.defs.length<=_;omega,h1,h2,h3,h4,a1R h5 hg,h6⟩
 obtain⟨x,k,hx,h⟩:=bG h;have hg:=c1h hV _ x k hi hx;cases x with
 |none=>simp only[dU]at h;cases h
 |some d=>cases h;exact⟨by show m.uW.length<=_;omega,by show m.oJ.length<=_;omega,by show m.insts.length<=_;omega,by show m.uX.length<=_;omega,by show m.xV.length<=_;omega,by simp;omega,h1,h2,h3,h4,h5,a1R h6 (hg d rfl)⟩
theorem c1i:∀(g:Nat) (m:gZ) (i:Nat) (b:gZ) (j:Nat),i<l.length->MoI i m->cV (λi=> !decide ((aR l i).kind=0)) (λm=>do
  let m <- pP aX bI aG l m
  aV l [[59]]
  pure m) g m i=.ok b j->MoI l.length b
 |0,m,i,b,j,_,_,h=>by unfold cV at h;cases h
 |g+1,m,i,b,j,hi,hm,h=>by
  have hE:=hV.fin;unfold cV at h;split at h
  .split at h
   .cases h
   .rename_i b' j' ho;obtain⟨m',k,e1,ho⟩:=bG ho;obtain⟨u,k',e2,ho⟩:=bG ho;cases ho;have k1:=aA.decl hE hV.oB m i _ k hi e1;have k2:=aA.exp hE _ _ k u j' k1.2 e2;have hm':=d0N hV hi hm e1;obtain⟨l1,l2,l3,l4,l5,l6,h1,h2,h3,h4,h5,h6⟩:=hm';exact c1i g _ j' b j k2.2 ⟨by omega,by omega,by omega,by omega,by omega,by omega,h1,h2,h3,h4,h5,h6⟩ h
  .cases h;obtain⟨l1,l2,l3,l4,l5,l6,h1,h2,h3,h4,h5,h6⟩:=hm;exact⟨by omega,by omega,by omega,by omega,by omega,by omega,h1,h2,h3,h4,h5,h6⟩
theorem d5M:aU l WMo (a3R aX bI aG l):=λi m j hi h=>by have hl:=hV.len;obtain⟨l1,l2,l3,l4,l5,l6,h1,h2,h3,h4,h5,h6⟩:=c1i hV _ _ i m j hi ⟨by simp,by simp,by simp,by simp,by simp,by simp,(λd hd=>by cases hd),(λd hd=>by cases hd),(λd hd=>by cases hd),(λd hd=>by cases hd),(λd hd=>by cases hd),λd hd=>by cases hd⟩ h;exact⟨by omega,by omega,by omega,by omega,by omega,by omega,h1,h2,h3,h4,h5,h6⟩
end
end
section
def spB(b:UInt8):List UInt8:=if b=32 then [32,10,32,35,32,120,32,61,32,40,10,9] else [b]
def spT(s:List UInt8):List UInt8:=s.flatMap spB
def c4I:List Tok->List Tok->Prop
 |[],[]=>True
 |a::l,b::l'=>(b.kind=a.kind/\b.text=a.text/\b.n=a.n)/\c4I l l'
 |_,_=>False
def d7L:Except Int (List Tok)->Except Int (List Tok)->Prop
 | .ok l,.ok l'=>c4I l l'
 | .error _,.error _=>True
 |_,_=>False
theorem b3x{c:UInt8}(h:c≠32)(r:List UInt8):spT (c::r)=c::spT r:=by simp[spT,spB,h]
theorem c3m(r:List UInt8):spT (32::r)=32::10::32::35::32::120::32::61::32::40::10::9::spT r:=by simp[spT,spB]
theorem c4J:∀(w:List UInt8),(∀b∈w,b≠32)->∀r,spT (w++r)=w++spT r
 |[],_,r=>rfl
 |c::w,h,r=>by rw[List.cons_append,b3x (h c (.head _)),c4J w (λb hb=>h b (.tail _ hb)) r,List.cons_append]
theorem e1a(s:List UInt8):∃w r,s=w++r/\(∀b∈w,b≠32)/\(r=[]\/∃r',r=32::r'):=by
 induction s with
 |nil=>exact⟨[],[],rfl,(λb hb=>by cases hb),.inl rfl⟩
 |cons c s ih=>
  by_cases hc:c=32
  .subst hc;exact⟨[],32::s,rfl,(λb hb=>by cases hb),.inr ⟨s,rfl⟩⟩
  .obtain⟨w,r,rfl,h1,h2⟩:=ih;exact⟨c::w,r,rfl,(λb hb=>by
    rcases List.mem_cons.1 hb with rfl|hb
    .exact hc
    .exact h1 b hb),h2⟩
theorem d0O{num:List UInt8->Int×Bool}{c:UInt8}{r:List UInt8}(hc:c≠32):firstT num (c::spT r)=firstT num (c::r)/\((firstT num (c::r)).2.2.2=true->∃x,c::r=(firstT num (c::r)).2.1++x/\∀b∈(firstT num (c::r)).2.1,b≠32):=by
 obtain⟨w,x,rfl,h1,h2⟩:=e1a r;rw[c4J w h1];have e1:firstT num (c::(w++spT x))=firstT num (c::w):=b5d (s:=c::w) (by simp) λb hb=>by
  rcases h2 with rfl|⟨r',rfl⟩
  .simp[spT]at hb
  .rw[c3m]at hb;simp at hb;subst hb;decide
 have e2:firstT num (c::(w++x))=firstT num (c::w):=b5d (s:=c::w) (by simp) λb hb=>by
  rcases h2 with rfl|⟨r',rfl⟩
  .simp at hb
  .simp at hb;subst hb;decide
 refine⟨e1.trans e2.symm,λh=>?_⟩;rw[e2]at h|-;obtain⟨_,⟨y,hy⟩,_⟩:=a7s h;refine⟨y++x,by rw[<-List.append_assoc,hy];rfl,λb hb=>?_⟩;have:b∈c::w:=by rw[<-hy];exact List.mem_append_left _ hb
 rcases List.mem_cons.1 this with rfl|hw
 .exact hc
 .exact h1 b hw
theorem a9l{num:List UInt8->Int×Bool}:∀(s:List UInt8) (k:Nat) (ln ln':Int),(∀b∈s,b≠35)->(∀b∈s.take k,b≠32)->d7L (jH num s k ln false) (jH num (spT s) k ln' false)
 |[],k,ln,ln',_,_=>by simp[spT,jH,d7L,c4I]
 |c::r,k+1,ln,ln',h35,h32=>by rw[b3x (h32 c (by simp)),jH,jH];exact a9l r k ln ln' (λb hb=>h35 b (.tail _ hb)) λb hb=>h32 b (by simp[hb])
 |c::r,0,ln,ln',h35,h32=>by
  have d5N:∀b∈r,b≠35:=λb hb=>h35 b (.tail _ hb);by_cases hc:c=32
  .subst hc;rw[c3m];have ih:=a9l (num:=num) r 0 ln (ln'+1+1) d5N (by simp);simpa[jH]using ih
  .rw[b3x hc];obtain⟨e1,e2⟩:=d0O (num:=num) (r:=r) hc;by_cases h10:c=10
   .subst h10;have ih:=a9l (num:=num) r 0 (ln+1) (ln'+1) d5N (by simp);simpa[jH]using ih
   .by_cases h9:c=9
    .subst h9;have ih:=a9l (num:=num) r 0 ln ln' d5N (by simp);simpa[jH]using ih
    .have hn:=h35 c (.head _);have hg: ¬(false=true\/c=32\/c=9):=by simp[hc,h9]
     rw[jH,if_neg h10,if_neg hg,if_neg hn,jH,if_neg h10,if_neg hg,if_neg hn,e1];by_cases hf:(firstT num (c::r)).2.2.2=true
     .rw[if_pos hf,if_pos hf];obtain⟨x,hx,hb⟩:=e2 hf;have ih:=a9l (num:=num) r ((firstT num (c::r)).2.1.length-1) ln ln' d5N (λb hb'=>hb b (by
       cases ht:(firstT num (c::r)).2.1 with
       |nil=>rw[ht]at hb';simp at hb'
       |cons a t=>
        rw[ht]at hx hb';rw[List.cons_append]at hx;injection hx with _ hx
        rw[hx]at hb';simp at hb';exact .tail _ hb'))
      cases h1:jH num r ((firstT num (c::r)).2.1.length-1) ln false with
      |error e=>
       cases h2:jH num (spT r) ((firstT num (c::r)).2.1.length-1) ln' false with
       |error e=>trivial
       |ok l=>rw[h1,h2]at ih;exact ih.elim
      |ok l=>
       cases h2:jH num (spT r) ((firstT num (c::r)).2.1.length-1) ln' false with
       |error e=>rw[h1,h2]at ih;exact ih.elim
       |ok l'=>rw[h1,h2]at ih;exact⟨⟨rfl,rfl,rfl⟩,ih⟩
     .rw[if_neg hf,if_neg hf];trivial
end
section
structure TEq (l l':List Tok):Prop where
 len:l'.length=l.length
 tok:∀i:Nat,(l'[i]?).map (λt:Tok=>(t.kind,t.text,t.n))=(l[i]?).map (λt:Tok=>(t.kind,t.text,t.n))
theorem TEq.of:∀ {l l':List Tok},c4I l l'->TEq l l'
 |[],[],_=>⟨rfl,λi=>rfl⟩
 |a::l,b::l',h=>by
  obtain⟨⟨h1,h2,h3⟩,h⟩:=h;have ih:=TEq.of h;refine⟨by simp[ih.len],λi=>?_⟩;cases i with
  |zero=>simp[h1,h2,h3]
  |succ i=>simpa using ih.tok i
theorem TEq.drop{l l':List Tok}(h:TEq l l')(i:Nat):TEq (l.drop i) (l'.drop i):=⟨by simp[h.len],λj=>by simpa using h.tok (i+j)⟩
theorem TEq.take{l l':List Tok}(h:TEq l l')(i:Nat):TEq (l.take i) (l'.take i):=⟨by simp[h.len],λj=>by
 rw[List.getElem?_take,List.getElem?_take];split
 .exact h.tok j
 .rfl⟩
section
variable {kw:List UInt8->Bool} {l l':List Tok} (h:TEq l l')
include h
theorem TEq.cases(i:Nat):(l'[i]? =none/\l[i]? =none)\/∃t t',l'[i]? =some t'/\l[i]? =some t/\t'.kind=t.kind/\t'.text=t.text/\t'.n=t.n:=by
 have:=h.tok i;cases h1:l'[i]? with
 |none=>
  cases h2:l[i]? with
  |none=>exact .inl ⟨rfl,rfl⟩
  |some t=>rw[h1,h2]at this;simp at this
 |some t'=>
  cases h2:l[i]? with
  |none=>rw[h1,h2]at this;simp at this
  |some t=>rw[h1,h2]at this;simp at this;exact .inr ⟨t,t',rfl,rfl,this.1,this.2.1,this.2.2⟩
theorem TEq.sg:tU l'=tU l:=by
 funext i s;unfold tU;rcases h.cases i with⟨h1,h2⟩|⟨t,t',h1,h2,e1,e2,e3⟩
 .rw[h1,h2]
 .rw[h1,h2];simp[e1,e2]
theorem TEq.kd:kdB l'=kdB l:=by
 funext i k;unfold kdB;rcases h.cases i with⟨h1,h2⟩|⟨t,t',h1,h2,e1,e2,e3⟩
 .rw[h1,h2]
 .rw[h1,h2];simp[e1]
theorem TEq.wt:wtB l'=wtB l:=by funext i;unfold wtB;rw[h.kd]
theorem TEq.tx:txA l'=txA l:=by
 funext i;unfold txA;rcases h.cases i with⟨h1,h2⟩|⟨t,t',h1,h2,e1,e2,e3⟩
 .rw[h1,h2]
 .rw[h1,h2];simp[e2]
theorem TEq.nm:nmA l'=nmA l:=by
 funext i;unfold nmA;rcases h.cases i with⟨h1,h2⟩|⟨t,t',h1,h2,e1,e2,e3⟩
 .rw[h1,h2]
 .rw[h1,h2];simp[e3]
theorem TEq.parts:∀(f i:Nat) (s:List UInt8),qJ l' f i s=qJ l f i s
 |0,i,s=>rfl
 |f+1,i,s=>by unfold qJ;simp only[h.sg,h.wt,h.kd,h.tx,TEq.parts f]
theorem TEq.opA:b7y l'=b7y l:=by funext n k;unfold b7y;rw[h.sg]
theorem TEq.e8i:b0i l'=b0i l:=by funext n;unfold b0i;rw[h.sg]
theorem TEq.nmR:xX kw l'=xX kw l:=by funext i;unfold xX c6C;rw[h.wt,h.tx,h.len,h.parts]
theorem TEq.chain(rd:Nat->Nat->Option (Pr×Nat))(k:Nat):∀(g:Nat) (a:Pr) (n:Nat),eU rd l' k g a n=eU rd l k g a n
 |0,a,n=>rfl
 |g+1,a,n=>by unfold eU;simp only[h.opA,TEq.chain rd k g]
theorem TEq.args(rd:Nat->Nat->Option (Pr×Nat)):∀(g i:Nat) (acc:List Pr),jX rd l' g i acc=jX rd l g i acc
 |0,i,acc=>rfl
 |g+1,i,acc=>by unfold jX;simp only[h.sg,TEq.args rd g]
theorem TEq.list(rd:Nat->Nat->Option (Pr×Nat)):wZ rd l'=wZ rd l:=by funext i;unfold wZ;rw[h.sg,h.len,h.args]
theorem TEq.e8j(rd:Nat->Nat->Option (Pr×Nat)):a2T kw rd l'=a2T kw rd l:=by
 funext i;unfold a2T;rcases h.cases i with⟨h1,h2⟩|⟨t,t',h1,h2,e1,e2,e3⟩
 .rw[h1,h2]
 .rw[h1,h2];simp only[e1,e2,e3,h.sg,h.kd,h.nm,h.nmR,h.list rd]
theorem TEq.cmp(rd:Nat->Nat->Option (Pr×Nat)):a5f rd l'=a5f rd l:=by funext i;unfold a5f;rw[h.e8i]
theorem TEq.imp(rd:Nat->Nat->Option (Pr×Nat)):b7z rd l'=b7z rd l:=by funext i;unfold b7z;rw[h.sg]
theorem TEq.at(rd:Nat->Nat->Option (Pr×Nat)):atG kw rd l'=atG kw rd l:=by funext i k;unfold atG;simp only[h.imp rd,h.sg,h.cmp rd,h.e8j rd,h.len,h.chain rd]
theorem TEq.oG:∀f:Nat,Go.Proofs.YtjpodcmhcenjjaaGreatDoor.oG kw l' f=Go.Proofs.YtjpodcmhcenjjaaGreatDoor.oG kw l f
 |0=>rfl
 |f+1=>by
  funext i k
  show atG kw (Go.Proofs.YtjpodcmhcenjjaaGreatDoor.oG kw l' f) l' i k=atG kw (Go.Proofs.YtjpodcmhcenjjaaGreatDoor.oG kw l f) l i k
  rw[TEq.oG f,h.at]
theorem TEq.a2U:Go.Proofs.YtjpodcmhcenjjaaGreatDoor.a2U l'=Go.Proofs.YtjpodcmhcenjjaaGreatDoor.a2U l:=by
 show Go.Proofs.YtjpodcmhcenjjaaGreatDoor.oG aX l' (mu l'.length 0 1) 0 1=_
 rw[h.len,h.oG]
 rfl
end
end
section
theorem TEq.sim{l l':List Tok}(h:TEq l l'):a9Q l l':=by
 have key:∀i,(aR l' i).kind=(aR l i).kind/\(aR l' i).text=(aR l i).text/\(aR l' i).n=(aR l i).n:=λi=>by
  have one:∀i:Nat,(((l'[i]?).getD ⟨0,[],0,0⟩).kind=((l[i]?).getD ⟨0,[],0,0⟩).kind/\((l'[i]?).getD ⟨0,[],0,0⟩).text=((l[i]?).getD ⟨0,[],0,0⟩).text/\((l'[i]?).getD ⟨0,[],0,0⟩).n=((l[i]?).getD ⟨0,[],0,0⟩).n):=λi=>by
   rcases h.cases i with⟨h1,h2⟩|⟨t,t',h1,h2,e1,e2,e3⟩
   .rw[h1,h2];exact⟨rfl,rfl,rfl⟩
   .rw[h1,h2];exact⟨e1,e2,e3⟩
  unfold aR;rw[h.len];split
  .rw[List.getD_eq_getElem?_getD,List.getD_eq_getElem?_getD];exact one i
  .rw[List.getLastD_eq_getLast?,List.getLastD_eq_getLast?,List.getLast?_eq_getElem?,List.getLast?_eq_getElem?,h.len];exact one _
 exact⟨h.len,λi=>(key i).1,λi=>(key i).2.1,λi=>(key i).2.2⟩
theorem TEq.rd{l l':List Tok}(h:TEq l l')(i e:Nat):bL (rdQ l' i e) (rdQ l i e):=by
 unfold rdQ;rw[((h.take e).drop (min i e)).a2U];split
 .rfl
 .split
  .exact⟨rfl,rfl⟩
  .rfl
theorem b0U:∀s:List UInt8,(spT s).length<=12*s.length
 |[]=>by simp[spT]
 |c::s=>by
  have:=b0U s;by_cases h:c=32
  .subst h;rw[c3m];simp;omega
  .rw[b3x h];simp;omega
theorem c3n{α:Type}{x:List Tok->bB α}(hx:∀l l',TEq l l'->aB (x l') (x l)){s:List UInt8}(h35:∀b∈s,b≠35)(hs:s.length<=3000):bL (cG x (spT s)) (cG x s):=by
 have hl:=b0U s;have h:=a9l (num:=oS) s 0 1 1 h35 (by simp);unfold cG;rw[if_neg (by omega),if_neg (by omega)];cases h1:jH oS s 0 1 false with
 |error e=>
  cases h2:jH oS (spT s) 0 1 false with
  |error e'=>rfl
  |ok l'=>rw[h1,h2]at h;exact h.elim
 |ok l=>
  cases h2:jH oS (spT s) 0 1 false with
  |error e'=>rw[h1,h2]at h;exact h.elim
  |ok l'=>
   rw[h1,h2]at h;have ht:=TEq.of h;have h3:=hx l l' ht 0;simp only;cases h4:x l 0 with
   |bad n e=>
    cases h5:x l' 0 with
    |bad n' e'=>rw[h4,h5]at h3;exact h3
    |ok a j=>rw[h4,h5]at h3;exact h3.elim
   |ok a j=>
    cases h5:x l' 0 with
    |bad n' e'=>rw[h4,h5]at h3;exact h3.elim
    |ok b k=>
     rw[h4,h5]at h3;obtain⟨rfl,rfl⟩:=h3;have h6:=aB.fin ht.sim k;simp only;cases h7:uY l k with
     |bad n e=>
      cases h8:uY l' k with
      |bad n' e'=>rw[h7,h8]at h6;exact h6
      |ok u j=>rw[h7,h8]at h6;exact h6.elim
     |ok u j=>
      cases h8:uY l' k with
      |bad n' e'=>rw[h7,h8]at h6;exact h6.elim
      |ok u' j'=>exact⟨rfl,rfl⟩
theorem e1b{s:List UInt8}(h35:∀b∈s,b≠35)(hs:s.length<=3000):bL (cG tyM (spT s)) (cG tyM s):=c3n (λl l' h=>aB.typ h.sim λi=>by
 show bL (rdQ l' i l'.length) (rdQ l i l.length)
 rw[h.len];exact h.rd i _) h35 hs
theorem d5O{s:List UInt8}(h35:∀b∈s,b≠35)(hs:s.length<=3000):bL (cG exM (spT s)) (cG exM s):=c3n (λl l' h=>aB.expr h.sim h.rd) h35 hs
theorem e1c{s:List UInt8}(h35:∀b∈s,b≠35)(hs:s.length<=3000):bL (cG moQ (spT s)) (cG moQ s):=c3n (λl l' h=>aB.mod h.sim h.rd) h35 hs
end
section
open Go Go.VM
theorem c1j(s t:List UInt8):spT (s++t)=spT s++spT t:=by simp[spT]
theorem b3y:VM.Enters prog 31:=.mk func31 rfl
theorem b4E{G:GT}(s:List UInt8)(hs:s.length<=100000000):CS prog G 31 [.str s] (.d (.str (spT s))) none:=by
 refine CS.aZ func31 rfl ntmps31 rfl ?_;simp;refine SW.eL (ι:={i:Nat//i<=s.length}) (λi=>[(3,.d (.str (spT (s.take i.1)))),(4,.d (.int .i64 i.1))]) (λ_=>[]) (λ_=>[]) (λi=>s.length-i.1) ⟨0,by simp⟩ (by simp[spT]) ?_;rintro⟨i,hi⟩;have hl:=b0U (s.take i);have hl2:(s.take i).length<=s.length:=by simp;omega
 by_cases aI:i<s.length
 .have hw:=bC (show i<9223372036854775807 by omega);have ht:s.take (i+1)=s.take i++[s[i]]:=(List.take_append_getElem aI).symm;have cc:=a8L s[i] 32 (by omega);simp at cc;by_cases h32:s[i]=32
  .have e:=cc.2 h32;have hb:spT [(32:UInt8)]=[32,10,32,35,32,120,32,61,32,40,10,9]:=by decide
   simp[aI,h32];refine b3v (by omega) ?_;simp;exact bJ.mk ⟨i+1,aI⟩ (by simp[hw,ht,h32,c1j,hb]) (by simp;omega)
  .have e: ¬s[i].toNat=32:=λh=>h32 (cc.1 h);have hb:spT [s[i]]=[s[i]]:=by rw[b3x h32];rfl
   have hd:List.drop i (List.take (i+1) s)=[s[i]]:=by
    rw[ht,List.drop_append_of_le_length (by simp;omega),List.drop_eq_nil_of_le (by simp;omega)]
    rfl
   have h1:i+1<=s.length:=aI;have hsp:spT (s.take (i+1))=spT (s.take i)++[s[i]]:=by rw[ht,c1j,hb]
   simp[aI,e,hw,h1,hd];refine b3v (by omega) ?_;simp;exact bJ.mk ⟨i+1,aI⟩ (by simp[hw,hsp]) (by simp;omega)
 .have hie:i=s.length:=by omega
  subst hie;simp
theorem d0P{α:Type}{z:α}{r r':kX α}(h:bL r' r):tS z r'=tS z r/\a1k r'=a1k r:=by
 cases r with
 |ok a j=>cases r' with
  |ok b k=>obtain⟨rfl,rfl⟩:=h;exact⟨rfl,rfl⟩
  |bad n e=>exact h.elim
 |bad n e=>cases r' with
  |ok b k=>exact h.elim
  |bad n' e'=>exact⟨rfl,h⟩
theorem e4P(s:List UInt8):WMo (tS b4C (cG moQ s)):=by
 cases h:cG moQ s with
 |bad n e=>exact⟨by simp[tS,b4C],by simp[tS,b4C],by simp[tS,b4C],by simp[tS,b4C],by simp[tS,b4C],by simp[tS,b4C],(λd hd=>by cases hd),(λd hd=>by cases hd),(λd hd=>by cases hd),(λd hd=>by cases hd),(λd hd=>by cases hd),λd hd=>by cases hd⟩
 |ok m j=>obtain⟨hs,l,hl,hx,_⟩:=a9d h;have hV:kU G0 rdQ l:=a5b sP hl (by omega);exact d5M hV 0 m j (List.length_pos_iff.2 hV.fin.1) hx
theorem e1d(s:List UInt8):WE 900000000 (tS zO (cG exM s)):=by
 cases h:cG exM s with
 |bad n e=>exact .leaf _ _ _
 |ok m j=>exact d5J h
theorem e4Q(s:List UInt8):WB 900000000 (tS sF (cG tyM s)):=by
 cases h:cG tyM s with
 |bad n e=>exact WB.zero
 |ok m j=>exact e0U h
theorem a6Q(s:List UInt8)(hs:s.length<=100000000):CS prog G0 9 [.str s] (.d (.bool true)) none:=by
 by_cases b1:400<s.length
 .have e1:(400:Int)<s.length:=by omega
  refine CS.aZ func9 rfl ntmps9 rfl ?_;simp[e1,b1];refine aE.mk a1m (a2B ) ?_;simp
 have e1: ¬(400:Int)<s.length:=by omega
 have hc:=b3s (G:=G0) s (by omega);have hsp:=b4E (G:=G0) s (by omega);have hln:=b0U s;have p1:=pX (G:=G0) sP vC s (by omega);have p2:=pX (G:=G0) sP vC (spT s) (by omega);have p3:=kW (G:=G0) sP vC s (by omega);have p4:=kW (G:=G0) sP vC (spT s) (by omega);have p5:=wK (G:=G0) sP vC s (by omega);have p6:=wK (G:=G0) sP vC (spT s) (by omega);have w1:=b4D (G:=G0) _ (e4P s);have w2:=a5P (G:=G0) _ (e1d s);have w3:=gW (G:=G0) _ (e4Q s);cases h1:hasB 35 s with
 |true=>rw[h1]at hc;refine CS.aZ func9 rfl ntmps9 rfl ?_;simp[e1,b1];refine aE.mk a2V hc ?_;simp;refine aE.mk a1m (a2B ) ?_;simp
 |false=>
 rw[h1]at hc;have n35:=c3j h1;obtain⟨v1,u1⟩:=d0P (z:=b4C) (e1c n35 (by omega));obtain⟨v2,u2⟩:=d0P (z:=zO) (d5O n35 (by omega));obtain⟨v3,u3⟩:=d0P (z:=sF) (e1b n35 (by omega));rw[v1,u1]at p2;rw[v2,u2]at p4;rw[v3,u3]at p6;generalize tS b4C (cG moQ s)=m at p1 p2 w1;generalize a1k (cG moQ s)=x1 at p1 p2;generalize c0T (cG moQ s)=n1 at p1;generalize c0T (cG moQ (spT s))=n2 at p2;generalize tS zO (cG exM s)=e at p3 p4 w2;generalize a1k (cG exM s)=x2 at p3 p4;generalize tS sF (cG tyM s)=t at p5 p6 w3;generalize a1k (cG tyM s)=x3 at p5 p6;simp only[a0E]at p1 p2 w1;refine CS.aZ func9 rfl ntmps9 rfl ?_;simp[e1,b1];refine aE.mk a2V hc ?_;simp;refine aE.mk b3y hsp ?_;simp;refine aE.mk oX p1 ?_;simp;refine aE.mk oX p2 ?_;simp;refine aE.mk jS p3 ?_;simp;refine aE.mk jS p4 ?_;simp;refine aE.mk uT p5 ?_;simp;refine aE.mk uT p6 ?_;simp;refine aE.mk b7Q w1 ?_;simp;refine aE.mk yO w2 ?_;simp;refine aE.mk mB w3 ?_;simp;refine aE.mk a1m (a2B ) ?_;simp
theorem parseBlanks_all(xs:List D)(h:a7n prog [9] xs)(hU:szL xs<=1048576):CS prog G0 9 xs (.d (.bool true)) none:=by
 match xs,h with
 |[a],⟨h1,_⟩=>obtain⟨s,rfl,_⟩:=c5C tu9 h1;simp only[szL,szD]at hU;exact a6Q s (by omega)
end
end Go.Proofs.YtjpodcmhcenjjaaGreatDoor
