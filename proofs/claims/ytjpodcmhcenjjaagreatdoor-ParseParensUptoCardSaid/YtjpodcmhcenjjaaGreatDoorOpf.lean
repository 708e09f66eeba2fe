/- Lemmas that the law of this claim needs (PvC PuB PuC PuF PuH PuI Fit PvG PvH). No condition. -/
import Derived.Test.YtjpodcmhcenjjaaGreatDoorOpe
set_option linter.unusedVariables false
set_option linter.unusedSimpArgs false
set_option linter.unusedSectionVars false
set_option maxRecDepth 100000
set_option maxHeartbeats 64000000
namespace Go.Proofs.YtjpodcmhcenjjaaGreatDoor
section
open Go Go.VM
variable {G:GT}
def cG {α:Type}(l:List Tok)(P:α→Prop)(x:aS α):Prop:=∀i a j,i<l.length→x i= .ok a j→P a
section
variable {α β:Type} {l:List Tok} {P:α→Prop} {Q:β→Prop}
theorem cG.aO {a:α}(h:P a):cG l P (pure a:aS α):=fun i b j hi hx=>by rw [gA] at hx;cases hx;exact h
theorem cG.any (x:aS α):cG l (fun _=>True) x:=fun _ _ _ _ _=>trivial
theorem cG.ite {c:Prop}[Decidable c]{x y:aS α}(hx:cG l P x)(hy:cG l P y):cG l P (if c then x else y):=by
 split
 ·exact hx
 ·exact hy
theorem cG.bind {x:aS α}{f:α→aS β}(hx:cG l P x)(ax:aA l 0 x)(hf:∀a,P a→cG l Q (f a)):cG l Q (x >>=f):=fun i b j hi h=>by
 rw [eF] at h;cases h1:x i with
 |bad n e=>rw [h1] at h;cases h
 |ok a k=>rw [h1] at h;exact hf a (hx i a k hi h1) k b j (ax i a k hi h1).2 h
theorem cG.skip {x:aS α}{f:α→aS β}(ax:aA l 0 x)(hf:∀a,cG l Q (f a)):cG l Q (x >>=f):=cG.bind (cG.any x) ax fun a _=>hf a
variable (hE:pE l)
include hE
def Snc (l:List Tok)(P:β→Prop)(one:List β→aS (List β)):Prop:=∀out,cG l (fun b=>∃y,b=out++[y]∧P y) (one out)
theorem b6Y {P:β→Prop}{c:Nm}{one:List β→aS (List β)}(h1:Snc l P one)(a1:∀out,aA l 1 (one out)):∀(g:Nat) (out:List β) (i:Nat) (b:List β) (j:Nat),i<l.length→out.length≤i→(∀y∈out,P y)→gV l c one g out i= .ok b j→b.length≤l.length∧∀y∈b,P y
 |0,out,i,b,j,_,_,_,h=>by unfold gV at h;cases h
 |g+1,out,i,b,j,hi,hl,hp,h=>by
  unfold gV at h;split at h
  ·cases h
  ·rename_i b' j' ho;have k1:=a1 out i b' j' hi ho;obtain ⟨y,rfl,hy⟩:=h1 out i b' j' hi ho;have hall:∀z∈out++[y],P z:=fun z hz=>by
    rcases List.mem_append.1 hz with hz|hz
    ·exact hp z hz
    ·rw [d7d] at hz;rw [hz];exact hy
   split at h
   ·rename_i hs;exact b6Y h1 a1 g _ (j'+1) b j (aF hE k1.2 hs) (by simp;omega) hall h
   ·cases h;exact ⟨by simp;omega,hall⟩
theorem zN {P:β→Prop}{c:Nm}{one:List β→aS (List β)}(h1:Snc l P one)(a1:∀out,aA l 1 (one out)):cG l (fun b=>b.length≤l.length∧∀y∈b,P y) (dT l c one []):=fun i b j hi h=>b6Y hE h1 a1 _ [] i b j hi (Nat.zero_le _) (fun y hy=>by cases hy) h
omit hE in
theorem b6Z {P:β→Prop}{c:Nat→Bool}{one:List β→aS (List β)}(h1:Snc l P one)(a1:∀out,aA l 1 (one out)):∀(g:Nat) (out:List β) (i:Nat) (b:List β) (j:Nat),i<l.length→out.length≤i→(∀y∈out,P y)→dK c one g out i= .ok b j→b.length≤l.length∧∀y∈b,P y
 |0,out,i,b,j,_,_,_,h=>by unfold dK at h;cases h
 |g+1,out,i,b,j,hi,hl,hp,h=>by
  unfold dK at h;split at h
  ·split at h
   ·cases h
   ·rename_i b' j' ho;have k1:=a1 out i b' j' hi ho;obtain ⟨y,rfl,hy⟩:=h1 out i b' j' hi ho;exact b6Z h1 a1 g _ j' b j k1.2 (by simp;omega) (fun z hz=>by
     rcases List.mem_append.1 hz with hz|hz
     ·exact hp z hz
     ·rw [d7d] at hz;rw [hz];exact hy) h
  ·cases h;exact ⟨by omega,hp⟩
omit hE in
theorem c5o {P:β→Prop}{c:Nat→Bool}{one:List β→aS (List β)}(h1:Snc l P one)(a1:∀out,aA l 1 (one out)):cG l (fun b=>b.length≤l.length∧∀y∈b,P y) (oT l c one []):=fun i b j hi h=>b6Z h1 a1 _ [] i b j hi (Nat.zero_le _) (fun y hy=>by cases hy) h
theorem b2y {P:β→Prop}{c:Nm}{one:List Nm×List β→aS (List Nm×List β)}(h1:∀out,cG l (fun b=>∃y,b.1.length≤out.1.length+1∧b.2=out.2++[y]∧P y) (one out))(a1:∀out,aA l 1 (one out)):∀(g:Nat) (out:List Nm×List β) (i:Nat) (b:List Nm×List β) (j:Nat),i<l.length→out.1.length≤i→out.2.length≤i→(∀y∈out.2,P y)→gV l c one g out i= .ok b j→b.1.length≤l.length∧b.2.length≤l.length∧∀y∈b.2,P y
 |0,out,i,b,j,_,_,_,_,h=>by unfold gV at h;cases h
 |g+1,out,i,b,j,hi,hl,hl2,hp,h=>by
  unfold gV at h;split at h
  ·cases h
  ·rename_i b' j' ho;have k1:=a1 out i b' j' hi ho;obtain ⟨y,e1,e2,hy⟩:=h1 out i b' j' hi ho;have hall:∀z∈b'.2,P z:=fun z hz=>by
    rw [e2] at hz;rcases List.mem_append.1 hz with hz|hz
    ·exact hp z hz
    ·rw [d7d] at hz;rw [hz];exact hy
   have hlen:b'.2.length=out.2.length+1:=by rw [e2];simp
   split at h
   ·rename_i hs;exact b2y h1 a1 g _ (j'+1) b j (aF hE k1.2 hs) (by omega) (by omega) hall h
   ·cases h;exact ⟨by omega,by omega,hall⟩
theorem b2z {P:β→Prop}{c:Nm}{one:List Nm×List β→aS (List Nm×List β)}(h1:∀out,cG l (fun b=>∃y,b.1.length≤out.1.length+1∧b.2=out.2++[y]∧P y) (one out))(a1:∀out,aA l 1 (one out)):cG l (fun b=>b.1.length≤l.length∧b.2.length≤l.length∧∀y∈b.2,P y) (dT l c one ([],[])):=fun i b j hi h=>b2y hE h1 a1 _ ([],[]) i b j hi (Nat.zero_le _) (Nat.zero_le _) (fun y hy=>by cases hy) h
theorem c2o {kw:Nm→Bool}:cG l (fun b:List Nm=>b.length≤l.length) (cZ kw l):=by unfold cZ;refine cG.skip ((aA.exp hE _ _).le (by omega)) fun _=>cG.bind (zN hE (P:=fun _=>True) (fun out=>cG.skip ((aA.word hE).le (by omega)) fun w=>cG.aO ⟨w,rfl,trivial⟩) fun out=>(aA.word hE).bl fun _=>aA.aO _) (aA.list hE (m:=0) (fun out=>((aA.word hE).le (by omega)).bl fun _=>aA.aO _) _) fun b hb=>cG.skip ((aA.exp hE _ _).le (by omega)) fun _=>cG.aO hb.1
end
theorem WB.zero:WB 900000000 oL:= .mk _ _ _ _ _ _ (by simp) (by simp) (by simp [kS,dF,eE]) (by simp) (fun q hq=>by cases hq) (fun k hk=>by cases hk)
theorem WB.small (op:Int)(nm:Nm){l:List Ty}{ns:List Nm}{ps:List Pr}(h1:l.length≤900000000)(h2:ns.length≤900000000)(h3:ps.length≤900000000)(h4:∀q∈ps,dF q≤900000000)(h5:∀k∈l,WB 900000000 k):WB 900000000 ⟨op,nm,l,ns,kS,ps⟩:= .mk _ _ _ _ _ _ h1 h2 (by simp [kS,dF,eE]) h3 h4 h5
theorem WB.psT (op:Int)(nm:Nm):WB 900000000 (psT op nm):=WB.small op nm (by simp) (by simp) (by simp) (fun q hq=>by cases hq) (fun k hk=>by cases hk)
theorem WB.pred {t:Ty}(h:WB 900000000 t){p:Pr}(hp:dF p≤900000000):WB 900000000 { t with pred:=p }:=by
 cases h with
 |mk _ _ _ _ _ _ h1 h2 h3 h4 h5 h6=>exact .mk _ _ _ _ _ _ h1 h2 hp h4 h5 h6
section
variable {rdP:List Tok→Nat→Nat→kY Pr} {l:List Tok} (hV:kQ G rdP l)
include hV
theorem c5p:cG l (fun p=>dF p≤900000000) (dH rdP l):=fun i p j hi h=>by have h1:=(hV.nod i _ p j hi h).1;have h2:=hV.pJ _ i p j hi h;have h3:=hV.len;omega
theorem b7a:cG l (fun o:Option Ty=>∀t,o=some t→WB 900000000 t) (gI aX l):=fun i o j hi h=>by
 intro t ht;subst ht;unfold gI at h
 repeat' split at h
 all_goals first|(cases h;exact WB.psT _ _)|cases h
section
variable {ty:aS Ty} (hty:cG l (WB 900000000) ty) (aty:aA l 1 ty) (ity:∀i t j,i<l.length→ty i= .ok t j→TyI t i j)
include hty aty ity
theorem b7b:cG l (WB 900000000) (oU bE rdP l ty):=fun i t j hi h=>by
 have inv:=b6l hV aty ity i t j hi h;have ha:=aA.a8M (andP:=bE) hV.fin (aty.le (by omega)) hV.pJ.pred i t j hi h;have hl:=hV.len;have hn:dF t.pred≤900000000:=by have:=inv.2;omega
 unfold oU at h;obtain ⟨_,k1,h1,h⟩:=bW h;have q1:=aA.exp hV.fin _ _ i _ k1 hi h1;obtain ⟨t0,k2,h2,h⟩:=bW h;have w:=hty k1 t0 k2 q1.2 h2;split at h
 ·unfold cQ at h;cases h
 ·obtain ⟨_,k3,h3,h⟩:=bW h;obtain ⟨p,k4,h4,h⟩:=bW h;obtain ⟨_,k5,h5,h⟩:=bW h;cases h;exact w.pred hn
theorem c2p:cG l (WB 900000000) (do aL l [[40]];let t ← ty;aL l [[41]];pure t:aS Ty):=cG.skip ((aA.exp hV.fin _ _).le (by omega)) fun _=>cG.bind hty (aty.le (by omega)) fun t ht=>cG.skip ((aA.exp hV.fin _ _).le (by omega)) fun _=>cG.aO ht
theorem b9e:cG l (WB 900000000) (eG aX bE rdP l ty):=by
 unfold eG;refine cG.bind (b7a hV) (aA.base hV.fin) fun o ho=>?_
 cases o with
 |some t=>exact cG.aO (ho t rfl)
 |none=>
  intro i t j hi h;simp only at h;split at h
  ·cases h;exact WB.psT _ _
  ·split at h
   ·exact b7b hV hty aty ity i t j hi h
   ·exact c2p hV hty aty ity i t j hi h
theorem c2q:cG l (WB 900000000) (oF aX bE rdP l ty):=by
 have hl:=hV.len;unfold oF;have ash:aA l 1 (eG aX bE rdP l ty):=aA.tF hV.fin (aty.le (by omega)) hV.pJ.pred;refine cG.skip ((aA.title hV.fin).le (by omega)) fun nm=>cG.bind (c5o (P:=WB 900000000) (fun out=>cG.bind (b9e hV hty aty ity) (ash.le (by omega)) fun t ht=>cG.aO ⟨t,rfl,ht⟩) fun out=>ash.bl fun _=>aA.aO _) (aA.many (fun out=>(ash.le (by omega)).bl fun _=>aA.aO _) _) fun args hargs=>cG.skip (aA.skip hV.fin _) fun b=>cG.ite ?_ (cG.aO ?_)
 ·refine cG.bind (zN hV.fin (P:=fun p=>dF p≤900000000) (fun out=>cG.skip ((aA.exp hV.fin _ _).le (by omega)) fun _=>cG.bind (c5p hV) hV.pJ.pred fun p hp=>cG.aO ⟨p,rfl,hp⟩) fun out=>(aA.exp hV.fin _ _).bl fun _=>hV.pJ.pred.bl fun _=>aA.aO _) (aA.list hV.fin (fun out=>((aA.exp hV.fin _ _).le (by omega)).bl fun _=>hV.pJ.pred.bl fun _=>aA.aO _) _) fun ps hps=>cG.skip ((aA.exp hV.fin _ _).le (by omega)) fun _=>cG.aO ?_
  exact WB.small (ns:=[]) 4 nm (by have:=hargs.1;omega) (by simp) (by have:=hps.1;omega) hps.2 hargs.2
 ·exact WB.small (ns:=[]) (ps:=[]) 4 nm (by have:=hargs.1;omega) (by simp) (by simp) (fun q hq=>by cases hq) hargs.2
theorem c5q:cG l (WB 900000000) (qS aX l ty):=by
 have hl:=hV.len;have hE:=hV.fin;have a1:∀out:List Nm×List Ty,aA l 1 (do let w ← bL aX l;aL l [[58]];let t ← ty;pure (out.1++[w],out.2++[t]):aS (List Nm×List Ty)):=fun out=>(aA.word hE).bl fun _=>((aA.exp hE _ _).le (by omega)).bl fun _=>(aty.le (by omega)).bl fun _=>aA.aO _
 have a2:∀out:List Nm×List Ty,aA l 1 (do let t ← ty;pure (out.1,out.2++[t]):aS (List Nm×List Ty)):=fun out=>aty.bl fun _=>aA.aO _
 have g1:∀out:List Nm×List Ty,cG l (fun b=>∃y,b.1.length≤out.1.length+1∧b.2=out.2++[y]∧WB 900000000 y) (do let w ← bL aX l;aL l [[58]];let t ← ty;pure (out.1++[w],out.2++[t]):aS (List Nm×List Ty)):=fun out=>cG.skip ((aA.word hE).le (by omega)) fun w=>cG.skip ((aA.exp hE _ _).le (by omega)) fun _=>cG.bind hty (aty.le (by omega)) fun t ht=>cG.aO ⟨t,by simp,rfl,ht⟩
 have g2:∀out:List Nm×List Ty,cG l (fun b=>∃y,b.1.length≤out.1.length+1∧b.2=out.2++[y]∧WB 900000000 y) (do let t ← ty;pure (out.1,out.2++[t]):aS (List Nm×List Ty)):=fun out=>cG.bind hty (aty.le (by omega)) fun t ht=>cG.aO ⟨t,by simp,rfl,ht⟩
 unfold qS;refine cG.skip ((aA.exp hE _ _).le (by omega)) fun _=>cG.bind (P:=fun b:List Nm×List Ty=>b.1.length≤l.length∧b.2.length≤l.length∧∀y∈b.2,WB 900000000 y) (fun i b j hi h=>?_) (fun i b j hi h=>?_) fun q hq=>?_
 ·split at h
  ·exact b2z hE g1 a1 i b j hi h
  ·exact b2z hE g2 a2 i b j hi h
 ·split at h
  ·exact aA.list hE (fun out=>(a1 out).le (by omega)) _ i b j hi h
  ·exact aA.list hE (fun out=>(a2 out).le (by omega)) _ i b j hi h
 ·obtain ⟨ns,ts⟩:=q;obtain ⟨q1,q2,q3⟩:=hq;simp only at q1 q2 q3;refine cG.skip ((aA.exp hE _ _).le (by omega)) fun _=>fun i t j hi h=>?_
  split at h
  ·rename_i hc;simp only [d6W,decide_eq_true_eq] at hc;cases h
   match ts,hc.1.2,q3 with
   |[t],_,q3=>exact q3 t (.head _)
  ·refine (cG.skip ((aA.exp hE _ _).le (by omega)) (fun _=>cG.bind hty (aty.le (by omega)) fun t ht=>cG.aO ?_):cG l (WB 900000000) _) i t j hi h;refine WB.small (ps:=[]) 6 [] (by simp;omega) (by omega) (by simp) (fun q hq=>by cases hq) fun k hk=>?_
   rcases List.mem_append.1 hk with hk|hk
   ·exact q3 k hk
   ·rw [d7d] at hk;rw [hk];exact ht
theorem c5r:cG l (WB 900000000) (oV aX bE rdP l ty):=by
 unfold oV;refine cG.bind (b7a hV) (aA.base hV.fin) fun o ho=>?_
 cases o with
 |some t=>exact cG.aO (ho t rfl)
 |none=>
  intro i t j hi h;simp only at h;split at h
  ·exact c2q hV hty aty ity i t j hi h
  ·split at h
   ·exact b7b hV hty aty ity i t j hi h
   ·exact c5q hV hty aty ity i t j hi h
end
theorem b7c:∀n,cG l (WB 900000000) (kZ aX bE rdP l n)
 |0=>fun i a j hi h=>by unfold kZ at h;cases h
 |n+1=>c5r hV (b7c n) (aA.a4E hV.fin hV.pJ.pred n) fun i t j hi h=>a5a hV n i t j hi h
theorem a5u:cG l (WB 900000000) (cK aX bE rdP l):=b7c hV _
theorem b2A:cG l (fun ts:List Ty=>ts.length≤l.length∧∀t∈ts,WB 900000000 t) (oG aX bE rdP l):=by have hE:=hV.fin;have at1:aA l 1 (cK aX bE rdP l):=aA.vF hE hV.pJ.pred;unfold oG;refine cG.skip (aA.skip hE _) fun b=>cG.ite (cG.bind (zN hE (P:=WB 900000000) (fun out=>cG.bind (a5u hV) (at1.le (by omega)) fun t ht=>cG.aO ⟨t,rfl,ht⟩) fun out=>at1.bl fun _=>aA.aO _) (aA.list hE (fun out=>(at1.le (by omega)).bl fun _=>aA.aO _) _) fun ts h=>cG.skip ((aA.exp hE _ _).le (by omega)) fun _=>cG.aO h) (cG.aO ⟨by simp,fun t ht=>by cases ht⟩)
omit hV in
theorem WE.op (op:Int){ks:List bY}(h:ks.length≤900000000)(hk:∀k∈ks,WE 900000000 k):WE 900000000 (bV op ks):= .mk _ h (by simp [bV]) (by simp [bV]) (by simp [bV]) hk (fun p hp=>by cases hp) (fun a ha=>by cases ha) (fun a ha=>by cases ha) (fun t ht=>by cases ht)
omit hV in
theorem WE.one (op:Int){a:bY}(h:WE 900000000 a):WE 900000000 (bV op [a]):=WE.op op (by simp) fun k hk=>by rw [d7d] at hk;rw [hk];exact h
omit hV in
theorem WE.two (op:Int){a b:bY}(h1:WE 900000000 a)(h2:WE 900000000 b):WE 900000000 (bV op [a,b]):=WE.op op (by simp) fun k hk=>by simp at hk;rcases hk with rfl|rfl<;>assumption
omit hV in
theorem WE.leaf (op:Int)(nm:Nm)(n:Int):WE 900000000 ⟨op,nm,n,[],[],[],[]⟩:= .mk _ (by simp) (by simp) (by simp) (by simp) (fun k hk=>by cases hk) (fun p hp=>by cases hp) (fun a ha=>by cases ha) (fun a ha=>by cases ha) (fun t ht=>by cases ht)
section
variable {ex:Nat→aS bY} (hx:∀k,cG l (WE 900000000) (ex k)) (ax:∀k,aA l 1 (ex k))
include hx ax
theorem a6j:cG l (fun ks:List bY=>ks.length≤l.length∧∀k∈ks,WE 900000000 k) (eR l ex):=by have hE:=hV.fin;unfold eR;exact cG.skip ((aA.exp hE _ _).le (by omega)) fun _=>cG.bind (zN hE (P:=WE 900000000) (fun out=>cG.bind (hx 0) ((ax 0).le (by omega)) fun e he=>cG.aO ⟨e,rfl,he⟩) fun out=>(ax 0).bl fun _=>aA.aO _) (aA.list hE (fun out=>((ax 0).le (by omega)).bl fun _=>aA.aO _) _) fun ks h=>cG.skip ((aA.exp hE _ _).le (by omega)) fun _=>cG.aO h
theorem b7d (op:Int):cG l (WE 900000000) (tD l ex op):=by have hE:=hV.fin;unfold tD;exact cG.skip ((aA.exp hE _ _).le (by omega)) fun _=>cG.bind (hx 0) ((ax 0).le (by omega)) fun e he=>cG.skip ((aA.exp hE _ _).le (by omega)) fun _=>cG.aO (WE.one op he)
theorem c5s:cG l (WE 900000000) (uV aX bE rdP l ex):=by
 have hE:=hV.fin;have at0:aA l 0 (cK aX bE rdP l):=(aA.vF hE hV.pJ.pred).le (by omega);unfold uV;refine cG.skip ((aA.word hE).le (by omega)) fun nm=>cG.skip (aA.skip hE _) fun b=>cG.bind (P:=fun ts:List Ty=>ts.length≤1∧∀t∈ts,WB 900000000 t) (cG.ite (cG.bind (a5u hV) at0 fun t ht=>cG.aO ⟨by simp,fun t' ht'=>by rw [d7d] at ht';rw [ht'];exact ht⟩) (cG.aO ⟨by simp,fun t ht=>by cases ht⟩)) (aA.ite (at0.bl fun _=>aA.aO _) (aA.aO _)) fun ts hts=>?_
 refine cG.skip ((aA.exp hE _ _).le (by omega)) fun _=>cG.bind (hx 0) ((ax 0).le (by omega)) fun a ha=>cG.skip ((aA.exp hE _ _).le (by omega)) fun _=>cG.bind (hx 0) ((ax 0).le (by omega)) fun c hc=>cG.aO ?_
 exact .mk _ (by simp [bV]) (by simp [bV]) (by simp [bV]) (by have:=hts.1;simp only;omega) (fun k hk=>by simp [bV] at hk;rcases hk with rfl|rfl<;>assumption) (fun p hp=>by cases hp) (fun a ha=>by cases ha) (fun a ha=>by cases ha) hts.2
theorem b9f:cG l (WE 900000000) (oM aX l ex):=by
 have hE:=hV.fin;have hl:=hV.len;have aw:aA l 0 (fun i=>if aI l i [40] then cZ aX l i else .ok [] i:aS (List Nm)):=fun i b j hi h=>by
  simp only at h;split at h
  ·exact ((aA.words hE).le (by omega)) _ _ _ hi h
  ·cases h;omega
 have gw:cG l (fun ns:List Nm=>ns.length≤l.length) (fun i=>if aI l i [40] then cZ aX l i else .ok [] i:aS (List Nm)):=fun i b j hi h=>by
  simp only at h;split at h
  ·exact c2o hE i b j hi h
  ·cases h;simp
 unfold oM;have a1:∀out:List (Nm×List Nm×bY),aA l 1 (do
  let c ← eQ l
  let ns ← (fun i=>if aI l i [40] then cZ aX l i else .ok [] i:aS (List Nm))
  aL l [[45,62]]
  let b ← ex 0
  pure (out++[(c,ns,b)]):aS (List (Nm×List Nm×bY))):=fun out=>(aA.title hE).bl fun _=>aw.bl fun _=>((aA.exp hE _ _).le (by omega)).bl fun _=>((ax 0).le (by omega)).bl fun _=>aA.aO _
 refine cG.bind (hx 0) ((ax 0).le (by omega)) fun e he=>cG.skip ((aA.exp hE _ _).le (by omega)) fun _=>cG.bind (zN hE (P:=fun a:Nm×List Nm×bY=>a.2.1.length≤900000000∧WE 900000000 a.2.2) (fun out=>?_) a1) (aA.list hE (fun out=>(a1 out).le (by omega)) _) fun alts h=>cG.skip ((aA.exp hE _ _).le (by omega)) fun _=>cG.aO ?_
 ·exact cG.skip ((aA.title hE).le (by omega)) fun c=>cG.bind gw aw fun ns hns=>cG.skip ((aA.exp hE _ _).le (by omega)) fun _=>cG.bind (hx 0) ((ax 0).le (by omega)) fun b hb=>cG.aO ⟨_,rfl,by simp only;omega,hb⟩
 ·exact .mk _ (by simp [bV]) (by simp [bV]) (by have:=h.1;simp only;omega) (by simp [bV]) (fun k hk=>by simp [bV] at hk;rw [hk];exact he) (fun p hp=>by cases hp) (fun a ha=>(h.2 a ha).1) (fun a ha=>(h.2 a ha).2) (fun t ht=>by cases ht)
theorem c5t:cG l (WE 900000000) (uW aX bE rdP l ex):=by
 have hE:=hV.fin;have hl:=hV.len;have at0:aA l 0 (cK aX bE rdP l):=(aA.vF hE hV.pJ.pred).le (by omega);have at1:∀b:Bool,aA l 0 (if b then cK aX bE rdP l else pure oL):=fun b=>aA.ite at0 (aA.aO _)
 have a1:∀out:List (Nm×Ty),aA l 1 (do
  let w ← bL aX l
  let b ← cR l [58]
  let t ← (if b then cK aX bE rdP l else pure oL)
  pure (out++[(w,t)]):aS (List (Nm×Ty))):=fun out=>(aA.word hE).bl fun _=>(aA.skip hE _).bl fun b=>(at1 b).bl fun _=>aA.aO _
 unfold uW;refine cG.skip ((aA.exp hE _ _).le (by omega)) fun _=>cG.bind (zN hE (P:=fun p:Nm×Ty=>WB 900000000 p.2) (fun out=>?_) a1) (aA.list hE (fun out=>(a1 out).le (by omega)) _) fun ps h=>cG.skip ((aA.exp hE _ _).le (by omega)) fun _=>cG.bind (hx 0) ((ax 0).le (by omega)) fun e he=>cG.aO ?_
 ·exact cG.skip ((aA.word hE).le (by omega)) fun w=>cG.skip (aA.skip hE _) fun b=>cG.bind (cG.ite (a5u hV) (cG.aO WB.zero)) (at1 b) fun t ht=>cG.aO ⟨_,rfl,ht⟩
 ·exact .mk _ (by simp [bV]) (by have:=h.1;simp only;omega) (by simp [bV]) (by simp [bV]) (fun k hk=>by simp [bV] at hk;rw [hk];exact he) h.2 (fun a ha=>by cases ha) (fun a ha=>by cases ha) (fun t ht=>by cases ht)
theorem b7e:cG l (WE 900000000) (gQ aX bE rdP l ex):=by
 have hE:=hV.fin;have at0:aA l 0 (cK aX bE rdP l):=(aA.vF hE hV.pJ.pred).le (by omega);unfold gQ;refine cG.skip ((aA.exp hE _ _).le (by omega)) fun _=>fun i e j hi h=>?_
 split at h
 ·cases h;exact WE.leaf _ _ _
 ·refine (cG.bind (hx 0) ((ax 0).le (by omega)) fun e he=>cG.skip (aA.skip hE _) fun b=>cG.bind (P:=WE 900000000) (cG.ite (cG.bind (a5u hV) at0 fun t ht=>cG.aO ?_) (cG.aO he)) (aA.ite (at0.bl fun _=>aA.aO _) (aA.aO _)) fun e he=>cG.skip ((aA.exp hE _ _).le (by omega)) fun _=>cG.aO he:cG l (WE 900000000) _) i e j hi h;exact .mk _ (by simp [bV]) (by simp [bV]) (by simp [bV]) (by simp) (fun k hk=>by simp [bV] at hk;rw [hk];exact he) (fun p hp=>by cases hp) (fun a ha=>by cases ha) (fun a ha=>by cases ha) (fun t' ht'=>by rw [d7d] at ht';rw [ht'];exact ht)
omit hx ax in
theorem c0l (op:Int)(nm:Nm){ts:List Ty}{ks:List bY}(ht:ts.length≤l.length∧∀t∈ts,WB 900000000 t)(hk:ks.length≤l.length∧∀k∈ks,WE 900000000 k):WE 900000000 { bV op ks with name:=nm,types:=ts }:=by have hl:=hV.len;exact .mk _ (by have:=hk.1;simp only [bV];omega) (by simp [bV]) (by simp [bV]) (by have:=ht.1;simp only;omega) hk.2 (fun p hp=>by cases hp) (fun a ha=>by cases ha) (fun a ha=>by cases ha) ht.2
theorem c2r:cG l (WE 900000000) (mF aX bE rdP l ex):=fun i e j hi h=>by
 have hE:=hV.fin;have atys:aA l 0 (oG aX bE rdP l):=aA.types hE hV.pJ.pred;have aargs:aA l 0 (eR l ex):=(aA.gJ hE ax).le (by omega);unfold mF at h;split at h
 ·cases h;exact WE.leaf _ _ _
 split at h
 ·cases h;exact WE.leaf _ _ _
 split at h
 ·cases h;exact WE.leaf _ _ _
 split at h
 ·rename_i hs;exact b7d hV hx ax 22 (i+1) e j (aF hE hi hs) h
 split at h
 ·rename_i hs;exact b7d hV hx ax 23 (i+1) e j (aF hE hi hs) h
 split at h
 ·rename_i hs;exact (cG.skip ((aA.exp hE _ _).le (by omega)) (fun _=>cG.bind (hx 0) ((ax 0).le (by omega)) fun a ha=>cG.skip ((aA.exp hE _ _).le (by omega)) fun _=>cG.bind (hx 0) ((ax 0).le (by omega)) fun b hb=>cG.skip ((aA.exp hE _ _).le (by omega)) fun _=>cG.aO (WE.two 24 ha hb)):cG l (WE 900000000) _) (i+1) e j (aF hE hi hs) h
 split at h
 ·rename_i hs;have hn:=a5N hE hi hs;split at h
  ·cases h;exact WE.leaf _ _ _
  ·exact (cG.bind (b2A hV) atys fun ts ht=>cG.bind (a6j hV hx ax) aargs fun ks hk=>cG.aO (c0l hV 5 _ ht hk):cG l (WE 900000000) _) (i+1) e j hn h
 split at h
 ·rename_i hs;have hn:=a2n hE hi hs;refine (cG.bind (b2A hV) atys fun ts ht=>cG.bind (P:=fun ks:List bY=>ks.length≤l.length∧∀k∈ks,WE 900000000 k) (fun i b j hi h=>?_) (fun i b j hi h=>?_) fun ks hk=>cG.aO (c0l hV 4 _ ht hk):cG l (WE 900000000) _) (i+1) e j hn h
  ·split at h
   ·exact a6j hV hx ax i b j hi h
   ·cases h;exact ⟨by simp,fun k hk=>by cases hk⟩
  ·split at h
   ·exact aargs i b j hi h
   ·cases h;omega
 ·exact b7e hV hx ax i e j hi h
theorem c0m:cG l (WE 900000000) (qW aX bE rdP l ex):=fun i e j hi h=>by
 have hE:=hV.fin;unfold qW at h;split at h
 ·rename_i hs;exact (cG.bind (hx 7) ((ax 7).le (by omega)) fun e he=>cG.aO (WE.one 15 he):cG l (WE 900000000) _) (i+1) e j (aF hE hi hs) h
 ·exact c2r hV hx ax i e j hi h
omit hx ax in
theorem b2B {ops:List (Nm×Int)}{one:aS bY}(h0:cG l (WE 900000000) one)(a0:aA l 0 one):∀(g:Nat) (e:bY),WE 900000000 e→cG l (WE 900000000) (dC l ops one g e)
 |0,e,_=>fun i a j hi h=>by unfold dC at h;cases h
 |g+1,e,he=>fun i a j hi h=>by
  unfold dC at h;split at h
  ·cases h;exact he
  ·rename_i p hp;have hs:aI l i p.1=true:=by simpa using List.find?_some hp
   have hn:=aF hV.fin hi hs;split at h
   ·cases h
   ·rename_i x k hk;exact b2B h0 a0 g _ (WE.two p.2 he (h0 (i+1) x k hn hk)) k a j (a0 (i+1) x k hn hk).2 h
omit hx ax in
theorem a7Q {ops:List (Nm×Int)}{one:aS bY}(h0:cG l (WE 900000000) one)(a0:aA l 0 one):cG l (WE 900000000) (rR l ops one):=by unfold rR;exact cG.bind h0 a0 fun e he=>b2B hV h0 a0 _ e he
theorem c5u:cG l (WE 900000000) (dB aX bE rdP l ex):=a7Q hV (a7Q hV (c0m hV hx ax) ((aA.unG hV.fin ax hV.pJ.pred).le (by omega))) ((aA.b5J hV.fin ax hV.pJ.pred).le (by omega))
theorem c5v:cG l (WE 900000000) (rK aX bE rdP l ex):=by
 have hE:=hV.fin;unfold rK;have hs:cG l (WE 900000000) (dB aX bE rdP l ex):=c5u hV hx ax;have ha:aA l 0 (dB aX bE rdP l ex):=(aA.a2H hE ax hV.pJ.pred).le (by omega);refine cG.bind hs ha fun e he=>fun i a j hi h=>?_
 have one:∀(f:bY→bY) (w:Nm),(∀x,WE 900000000 x→WE 900000000 (f x))→aI l i w=true→(dB aX bE rdP l ex >>=fun x=>pure (f x)) (i+1)= .ok a j→WE 900000000 a:=fun f w hf hw h=>(cG.bind hs ha fun x hx=>cG.aO (hf x hx):cG l (WE 900000000) _) (i+1) a j (aF hE hi hw) h
 split at h
 ·rename_i hw;exact one _ _ (fun x hx=>WE.two _ he hx) hw h
 split at h
 ·rename_i hw;exact one _ _ (fun x hx=>WE.one _ (WE.two _ he hx)) hw h
 split at h
 ·rename_i hw;exact one _ _ (fun x hx=>WE.two _ he hx) hw h
 split at h
 ·rename_i hw;exact one _ _ (fun x hx=>WE.two _ he hx) hw h
 split at h
 ·rename_i hw;exact one _ _ (fun x hx=>WE.two _ hx he) hw h
 split at h
 ·rename_i hw;exact one _ _ (fun x hx=>WE.two _ hx he) hw h
 cases h;exact he
theorem b7f:cG l (WE 900000000) (pT aX bE rdP l ex):=fun i e j hi h=>by
 have hE:=hV.fin;unfold pT at h;split at h
 ·rename_i hs;exact (cG.bind (hx 3) ((ax 3).le (by omega)) fun e he=>cG.aO (WE.one 21 he):cG l (WE 900000000) _) (i+1) e j (aF hE hi hs) h
 ·exact c5v hV hx ax i e j hi h
theorem c9I:cG l (WE 900000000) (a2Z aX bE rdP l ex):=a7Q hV (a7Q hV (b7f hV hx ax) ((aA.a2I hV.fin ax hV.pJ.pred).le (by omega))) ((aA.lvl hV.fin (aA.a2I hV.fin ax hV.pJ.pred)).le (by omega))
theorem c9J:cG l (WE 900000000) (uI aX bE rdP l ex):=fun i e j hi h=>by
 have hE:=hV.fin;have hl:=hV.len;have ax0:aA l 0 (ex 0):=(ax 0).le (by omega);unfold uI at h;split at h
 ·rename_i hs;exact c5s hV hx ax (i+1) e j (aF hE hi hs) h
 split at h
 ·rename_i hs;exact (cG.bind (hx 0) ax0 fun a ha=>cG.skip ((aA.exp hE _ _).le (by omega)) fun _=>cG.bind (hx 0) ax0 fun b hb=>cG.skip ((aA.exp hE _ _).le (by omega)) fun _=>cG.bind (hx 0) ax0 fun c hc=>cG.aO (WE.op 8 (by simp) fun k hk=>by simp at hk;rcases hk with rfl|rfl|rfl<;>assumption):cG l (WE 900000000) _) (i+1) e j (aF hE hi hs) h
 split at h
 ·rename_i hs;exact b9f hV hx ax (i+1) e j (aF hE hi hs) h
 split at h
 ·rename_i hs;exact c5t hV hx ax (i+1) e j (aF hE hi hs) h
 split at h
 ·rename_i hs;refine (cG.skip ((aA.word hE).le (by omega)) fun nm=>cG.bind (a6j hV hx ax) ((aA.gJ hE ax).le (by omega)) fun ks hk=>cG.skip ((aA.exp hE _ _).le (by omega)) fun _=>cG.bind (hx 0) ax0 fun b hb=>cG.aO ?_:cG l (WE 900000000) _) (i+1) e j (aF hE hi hs) h;exact .mk _ (by have:=hk.1;simp [bV];omega) (by simp [bV]) (by simp [bV]) (by simp [bV]) (fun k hk2=>by
   simp [bV] at hk2;rcases hk2 with hk2|rfl
   ·exact hk.2 k hk2
   ·exact hb) (fun p hp=>by cases hp) (fun a ha=>by cases ha) (fun a ha=>by cases ha) (fun t ht=>by cases ht)
 ·exact c9I hV hx ax i e j hi h
end
theorem c0n:∀n k,cG l (WE 900000000) (mL aX bE rdP l n k)
 |0,k=>fun i a j hi h=>by unfold mL at h;cases h
 |n+1,k=>by
  have hx:=c0n n;have ax:=aA.exF (kw:=aX) (andP:=bE) hV.fin hV.pJ.pred n;unfold mL;split
  ·exact c0m hV hx ax
  ·split
   ·exact b7f hV hx ax
   ·exact c9J hV hx ax
theorem c5w:cG l (WE 900000000) (a1u aX bE rdP l):=c0n hV _ 0
end
end
section
section
variable {α β:Type} {kw:Nm→Bool} {andP:Pr→Pr→Pr} {rdP:List Tok→Nat→Nat→kY Pr} {l l':List Tok} {N d:Nat} {W W':Nat→Prop} {u:Nm}
variable (hE:pE l) (hN:a6i l l' N d u)
include hE hN
theorem aC.words:aC N d W (cZ kw l) (cZ kw l'):=by
 unfold cZ;have a1:∀a:List Nm,aA l 0 (do let w ← bL kw l;pure (a++[w]):aS (List Nm)):=fun a=>((aA.word hE).le (by omega)).bl fun _=>aA.aO _
 have n1:∀a:List Nm,aC N d wT (do let w ← bL kw l;pure (a++[w]):aS (List Nm)) (do let w ← bL kw l';pure (a++[w]):aS (List Nm)):=fun a=>aC.bT hN (aC.word hN) (fun _=>aC.aO _) ((aA.word hE).le (by omega)) fun _=>aA.aO _
 have a2:∀out:List Nm,aA l 0 (do aL l [[41]];pure out:aS (List Nm)):=fun out=>((aA.exp hE _ _).le (by omega)).bl fun _=>aA.aO _
 refine aC.bT hN (aC.exp hE hN _) (fun _=>?_) ((aA.exp hE _ _).le (by omega)) fun _=>(aA.list hE a1 _).bl a2
 exact aC.bT hN (aC.list hE hN (by decide) (by decide) (fun _ _ _=>trivial) n1 a1 _) (fun _=>aC.bT hN (aC.exp hE hN _) (fun _=>aC.aO _) ((aA.exp hE _ _).le (by omega)) fun _=>aA.aO _) (aA.list hE a1 _) a2
omit hE in
theorem aC.base:aC N d W (gI kw l) (gI kw l'):=fun i a j hi h hj hw=>by
 have e1:=gX hN (s:=[73,110,116]) (by decide) (by decide) hi;have e2:=gX hN (s:=[66,111,111,108]) (by decide) (by decide) hi;have e3:=gX hN (s:=[67,101,108,108]) (by decide) (by decide) hi;have e4:=a5r (kw:=kw) hN hi;unfold gI at h ⊢;rw [e1,e2,e3,e4];split at h
 ·rename_i h1;rw [if_pos h1];cases h;rw [show i+1+d=i+d+1 by omega]
 rename_i h1;rw [if_neg h1];split at h
 ·rename_i h2;rw [if_pos h2];cases h;rw [show i+1+d=i+d+1 by omega]
 rename_i h2;rw [if_neg h2];split at h
 ·rename_i h3;rw [if_pos h3];cases h;rw [show i+1+d=i+d+1 by omega]
 rename_i h3;rw [if_neg h3];split at h
 ·rename_i h4;rw [if_pos h4,hN.text i (by cases h;omega)];cases h;rw [show i+1+d=i+d+1 by omega]
 rename_i h4;rw [if_neg h4];cases h
 rfl
variable (hwf:c5m l)
section
variable {ty ty':aS Ty} (hty:aC N d (Fol kw l) ty ty') (aty:aA l 0 ty) (hP:aC N d (b9a kw l) (dH rdP l) (dH rdP l')) (aP:aA l 0 (dH rdP l))
include hty aty hP aP hwf
theorem aC.a8M:aC N d W (oU andP rdP l ty) (oU andP rdP l' ty'):=by
 unfold oU;have a3:∀(t:Ty) (p:Pr),aA l 0 (do aL l [[125]];pure { t with pred:=if t.pred.op=0 then p else andP t.pred p }:aS Ty):=fun t p=>((aA.exp hE _ _).le (by omega)).bl fun _=>aA.aO _
 have a2:∀t:Ty,aA l 0 (do aL l [[124]];let p ← dH rdP l;aL l [[125]];pure { t with pred:=if t.pred.op=0 then p else andP t.pred p }:aS Ty):=fun t=>((aA.exp hE _ _).le (by omega)).bl fun _=>aP.bl fun p=>a3 t p
 refine aC.bT hN (aC.exp hE hN _) (fun _=>?_) ((aA.exp hE _ _).le (by omega)) fun _=>aty.bl fun t=>aA.ite aA.failed (a2 t)
 refine aC.bnd hN hty (fun t=>aC.ite aC.failed ?_) aty (fun t=>aA.ite aA.failed (a2 t)) fun t k b j hk h hj hw=>?_
 ·refine aC.bT hN (aC.exp hE hN _) (fun _=>?_) ((aA.exp hE _ _).le (by omega)) fun _=>aP.bl fun p=>a3 t p
  refine aC.bnd hN hP (fun p=>aC.bT hN (aC.exp hE hN _) (fun _=>aC.aO _) ((aA.exp hE _ _).le (by omega)) fun _=>aA.aO _) aP (a3 t) fun p k b j hk h hj hw=>?_
  rw [eF] at h;split at h
  ·rename_i u k2 he;exact c0j (a0y he) (by decide) (by decide)
  ·cases h
 ·split at h
  ·unfold cQ at h;cases h
  ·rw [eF] at h;split at h
   ·rename_i u k2 he;exact yT hwf (a0y he) rfl (by decide)
   ·cases h
theorem aC.tF:aC N d W (eG kw andP rdP l ty) (eG kw andP rdP l' ty'):=by
 unfold eG;have ap:∀t:Ty,aA l 0 (do aL l [[41]];pure t:aS Ty):=fun t=>((aA.exp hE _ _).le (by omega)).bl fun _=>aA.aO _
 have ar:aA l 0 (oU andP rdP l ty):=(aA.a8M hE aty aP).le (by omega);have a2:∀b:Option Ty,aA l 0 (match b with
  |some t=>pure t
  |none=>fun i=>
   if kT (aJ l i) then .ok (psT 4 (aJ l i).text) (i+1)
   else if aI l i [123] then oU andP rdP l ty i
   else (do aL l [[40]];let t ← ty;aL l [[41]];pure t:aS Ty) i:aS Ty):=fun b=>by
  cases b with
  |some t=>exact aA.aO _
  |none=>
   intro i a j hi h;simp only at h;split at h
   ·rename_i hs;have:=a2n hE hi hs;cases h;omega
   ·split at h
    ·exact ar i a j hi h
    ·exact (((aA.exp hE _ _).le (by omega:0≤1)).bl fun _=>aty.bl ap) i a j hi h
 refine aC.bT hN (aC.base hN) (fun b=>?_) (aA.base hE) a2;cases b with
 |some t=>exact aC.aO _
 |none=>
  intro i a j hi h hj hw;simp only at h ⊢;rw [a5s hN hi,gX hN (by decide) (by decide) hi];split at h
  ·rename_i h1;rw [if_pos h1,hN.text i (by cases h;omega)];cases h;rw [show i+1+d=i+d+1 by omega]
  ·rename_i h1;rw [if_neg h1];split at h
   ·rename_i h2;rw [if_pos h2];exact aC.a8M hE hN hwf hty aty hP aP i a j hi h hj hw
   ·rename_i h2;rw [if_neg h2];refine (aC.bT hN (aC.exp hE hN _) (fun _=>?_) ((aA.exp hE _ _).le (by omega)) (fun _=>aty.bl ap):aC N d W _ _) i a j hi h hj hw;refine aC.bnd hN hty (fun t=>aC.bT hN (aC.exp hE hN _) (fun _=>aC.aO _) ((aA.exp hE _ _).le (by omega)) fun _=>aA.aO _) aty ap fun t k b j hk h hj hw=>?_
    rw [eF] at h;split at h
    ·rename_i u k2 he;exact yT hwf (a0y he) rfl (by decide)
    ·cases h
theorem aC.b1L:aC N d (Fol kw l) (oF kw andP rdP l ty) (oF kw andP rdP l' ty'):=by
 have a1:∀out:List Pr,aA l 0 (do aL l [[118],[46]];let p ← dH rdP l;pure (out++[p]):aS (List Pr)):=fun out=>((aA.exp hE _ _).le (by omega)).bl fun _=>aP.bl fun _=>aA.aO _
 have n1:∀out:List Pr,aC N d (b9a kw l) (do aL l [[118],[46]];let p ← dH rdP l;pure (out++[p]):aS (List Pr)) (do aL l' [[118],[46]];let p ← dH rdP l';pure (out++[p]):aS (List Pr)):=fun out=>aC.bT hN (aC.exp hE hN _) (fun _=>aC.bnd hN hP (fun _=>aC.aO _) aP (fun _=>aA.aO _) fun p k b j hk h hj hw=>by cases h;exact hw) ((aA.exp hE _ _).le (by omega)) fun _=>aP.bl fun _=>aA.aO _
 have ash:aA l 0 (eG kw andP rdP l ty):=(aA.tF hE aty aP).le (by omega);have a2:∀out:List Ty,aA l 0 (do let t ← eG kw andP rdP l ty;pure (out++[t]):aS (List Ty)):=fun out=>ash.bl fun _=>aA.aO _
 have n2:∀out:List Ty,aC N d wT (do let t ← eG kw andP rdP l ty;pure (out++[t]):aS (List Ty)) (do let t ← eG kw andP rdP l' ty';pure (out++[t]):aS (List Ty)):=fun out=>aC.bT hN (aC.tF hE hN hwf hty aty hP aP) (fun _=>aC.aO _) ash fun _=>aA.aO _
 have a3:∀(nm:Nm) (args:List Ty) (ps:List Pr),aA l 0 (do aL l [[62]];pure { psT 4 nm with args:=args,a4A:=ps }:aS Ty):=fun nm args ps=>((aA.exp hE _ _).le (by omega)).bl fun _=>aA.aO _
 have a4:∀(nm:Nm) (args:List Ty) (b:Bool),aA l 0 (if b then do
   let ps ← dT l [44] (fun out=>do
    aL l [[118],[46]]
    let p ← dH rdP l
    pure (out++[p])) []
   aL l [[62]]
   pure { psT 4 nm with args:=args,a4A:=ps }
  else pure { psT 4 nm with args:=args }:aS Ty):=fun nm args b=>aA.ite ((aA.list hE a1 _).bl fun ps=>a3 nm args ps) (aA.aO _)
 unfold oF;refine aC.bT hN (aC.title hN) (fun nm=>?_) ((aA.title hE).le (by omega)) fun nm=>(aA.many a2 _).bl fun args=>(aA.skip hE _).bl fun b=>a4 nm args b
 refine aC.bT hN (aC.many hN (fun i hi=>?_) n2 a2 _) (fun args=>?_) (aA.many a2 _) fun args=>(aA.skip hE _).bl fun b=>a4 nm args b
 ·unfold a8J;rw [a5r hN hi,a5s hN hi,gX hN (by decide) (by decide) hi,gX hN (by decide) (by decide) hi]
 refine aC.bT hN (aC.skip hN (by decide) (by decide)) (fun b=>aC.ite ?_ (aC.aO _)) (aA.skip hE _) fun b=>a4 nm args b
 refine aC.bnd hN (aC.list hE hN (by decide) (by decide) (fun j _ hs=>c0j hs (by decide) (by decide)) n1 a1 _) (fun ps=>aC.bT hN (aC.exp hE hN _) (fun _=>aC.aO _) ((aA.exp hE _ _).le (by omega)) fun _=>aA.aO _) (aA.list hE a1 _) (a3 nm args) fun ps k b j hk h hj hw=>?_
 rw [eF] at h;split at h
 ·rename_i u k2 he;have hk2:=c0i hE (by have:=hN.len;omega) he;simp only [List.length_cons,List.length_nil] at hk2;cases h;rw [hk2] at hw;exact c9F (a0y he) hw
 ·cases h
omit hP aP in
theorem aC.b7Z:aC N d (Fol kw l) (qS kw l ty) (qS kw l' ty'):=by
 have a1:∀out:List Nm×List Ty,aA l 0 (do let w ← bL kw l;aL l [[58]];let t ← ty;pure (out.1++[w],out.2++[t]):aS (List Nm×List Ty)):=fun out=>((aA.word hE).le (by omega)).bl fun _=>((aA.exp hE _ _).le (by omega)).bl fun _=>aty.bl fun _=>aA.aO _
 have a2:∀out:List Nm×List Ty,aA l 0 (do let t ← ty;pure (out.1,out.2++[t]):aS (List Nm×List Ty)):=fun out=>aty.bl fun _=>aA.aO _
 have n2:∀out:List Nm×List Ty,aC N d (Fol kw l) (do let t ← ty;pure (out.1,out.2++[t]):aS (List Nm×List Ty)) (do let t ← ty';pure (out.1,out.2++[t]):aS (List Nm×List Ty)):=fun out=>aC.bnd hN hty (fun _=>aC.aO _) aty (fun _=>aA.aO _) fun t k b j hk h hj hw=>by cases h;exact hw
 have n1:∀out:List Nm×List Ty,aC N d (Fol kw l) (do let w ← bL kw l;aL l [[58]];let t ← ty;pure (out.1++[w],out.2++[t]):aS (List Nm×List Ty)) (do let w ← bL kw l';aL l' [[58]];let t ← ty';pure (out.1++[w],out.2++[t]):aS (List Nm×List Ty)):=fun out=>aC.bT hN (aC.word hN) (fun w=>aC.bT hN (aC.exp hE hN _) (fun _=>aC.bnd hN hty (fun _=>aC.aO _) aty (fun _=>aA.aO _) fun t k b j hk h hj hw=>by cases h;exact hw) ((aA.exp hE _ _).le (by omega)) fun _=>aty.bl fun _=>aA.aO _) ((aA.word hE).le (by omega)) fun _=>((aA.exp hE _ _).le (by omega)).bl fun _=>aty.bl fun _=>aA.aO _
 have hsep:∀j,j<N→aI l j [44]=true→Fol kw l j:=fun j _ hs=>yT hwf hs rfl (by decide)
 have aend:∀(ns:List Nm) (ts:List Ty),aA l 0 (fun i=>if decide (ns.length=0)&&decide (ts.length=1)&& !aI l i [45,62] then .ok (ts.headD oL) i else (do aL l [[45,62]];let t ← ty;pure { psT 6 [] with names:=ns,args:=ts++[t] }:aS Ty) i:aS Ty):=fun ns ts i a j hi h=>by
  simp only at h;split at h
  ·cases h;omega
  ·exact (((aA.exp hE _ _).le (by omega:0≤1)).bl fun _=>aty.bl fun _=>aA.aO _) i a j hi h
 have amid:aA l 0 (fun i=>if gU kw (aJ l i)&&cU (aJ l (i+1)) [58] then
   dT l [44] (fun (out:List Nm×List Ty)=>do
    let w ← bL kw l
    aL l [[58]]
    let t ← ty
    pure (out.1++[w],out.2++[t])) ([],[]) i
  else dT l [44] (fun (out:List Nm×List Ty)=>do
    let t ← ty
    pure (out.1,out.2++[t])) ([],[]) i:aS (List Nm×List Ty)):=fun i a j hi h=>by
  simp only at h;split at h
  ·exact aA.list hE a1 _ i a j hi h
  ·exact aA.list hE a2 _ i a j hi h
 have atail:∀q:List Nm×List Ty,aA l 0 (do
   aL l [[41]]
   fun i=>if decide (q.1.length=0)&&decide (q.2.length=1)&& !aI l i [45,62] then .ok (q.2.headD oL) i else (do aL l [[45,62]];let t ← ty;pure { psT 6 [] with names:=q.1,args:=q.2++[t] }:aS Ty) i:aS Ty):=fun q=>((aA.exp hE _ _).le (by omega)).bl fun _=>aend q.1 q.2
 unfold qS;refine aC.bT hN (aC.exp hE hN _) (fun _=>?_) ((aA.exp hE _ _).le (by omega)) fun _=>amid.bl atail
 refine aC.bnd (W':=Fol kw l) hN (fun i a j hi h hj hw=>?_) (fun q=>?_) amid atail fun q k b j hk h hj hw=>?_
 ·have e2:cU (aJ l' (i+d+1)) [58]=cU (aJ l (i+1)) [58]∨gU kw (aJ l i)=false:=by
   cases hwd:gU kw (aJ l i) with
   |false=>exact .inr rfl
   |true=>have:=d1n hN hi hwd;left;have:=gX hN (s:=[58]) (by decide) (by decide) (i:=i+1) (by omega);rw [show i+1+d=i+d+1 by omega] at this;exact this
  have e:(gU kw (aJ l' (i+d))&&cU (aJ l' (i+d+1)) [58])=(gU kw (aJ l i)&&cU (aJ l (i+1)) [58]):=by
   rw [a5r hN hi];rcases e2 with e2|e2
   ·rw [e2]
   ·rw [e2];rfl
  split at h
  ·rename_i h1;exact (if_pos (by rw [e];exact h1)).trans (aC.list hE hN (by decide) (by decide) hsep n1 a1 _ i a j hi h hj hw)
  ·rename_i h1;exact (if_neg (by rw [e];exact h1)).trans (aC.list hE hN (by decide) (by decide) hsep n2 a2 _ i a j hi h hj hw)
 ·obtain ⟨ns,ts⟩:=q;refine aC.bT hN (aC.exp hE hN _) (fun _=>fun i a j hi h hj hw=>?_) ((aA.exp hE _ _).le (by omega)) fun _=>aend ns ts
  simp only at h ⊢;rw [gX hN (by decide) (by decide) hi];split at h
  ·rename_i h1;rw [if_pos h1];cases h
   rfl
  ·rename_i h1;rw [if_neg h1];exact (aC.bT hN (aC.exp hE hN _) (fun _=>aC.bnd hN hty (fun _=>aC.aO _) aty (fun _=>aA.aO _) fun t k b j hk h hj hw=>by cases h;exact hw) ((aA.exp hE _ _).le (by omega)) (fun _=>aty.bl fun _=>aA.aO _):aC N d (Fol kw l) _ _) i a j hi h hj hw
 ·obtain ⟨ns,ts⟩:=q;exact yT hwf (a2b h) rfl (by decide)
theorem aC.c1a:aC N d (Fol kw l) (oV kw andP rdP l ty) (oV kw andP rdP l' ty'):=by
 unfold oV;have a2:∀b:Option Ty,aA l 0 (match b with
  |some t=>pure t
  |none=>fun i=>
   if kT (aJ l i) then oF kw andP rdP l ty i
   else if aI l i [123] then oU andP rdP l ty i
   else qS kw l ty i:aS Ty):=fun b=>by
  cases b with
  |some t=>exact aA.aO _
  |none=>
   intro i a j hi h;simp only at h;split at h
   ·exact ((aA.b1L hE aty aP).le (by omega:0≤1)) i a j hi h
   ·split at h
    ·exact ((aA.a8M hE aty aP).le (by omega:0≤1)) i a j hi h
    ·exact ((aA.b7Z hE aty aP).le (by omega:0≤1)) i a j hi h
 refine aC.bT hN (aC.base hN) (fun b=>?_) (aA.base hE) a2;cases b with
 |some t=>exact aC.aO _
 |none=>
  intro i a j hi h hj hw;simp only at h ⊢;rw [a5s hN hi,gX hN (by decide) (by decide) hi];split at h
  ·rename_i h1;rw [if_pos h1];exact aC.b1L hE hN hwf hty aty hP aP i a j hi h hj hw
  ·rename_i h1;rw [if_neg h1];split at h
   ·rename_i h2;rw [if_pos h2];exact aC.a8M hE hN hwf hty aty hP aP i a j hi h hj hw
   ·rename_i h2;rw [if_neg h2];exact aC.b7Z hE hN hwf hty aty i a j hi h hj hw
end
section
variable (hP:aC N d (b9a kw l) (dH rdP l) (dH rdP l')) (aP:aA l 0 (dH rdP l))
include hP aP hwf
theorem aC.a4E:∀n n',n≤n'→aC N d (Fol kw l) (kZ kw andP rdP l n) (kZ kw andP rdP l' n')
 |0,n',_=>fun i a j hi h hj hw=>by unfold kZ at h;cases h
 |n+1,n',hn=>by obtain ⟨n',rfl⟩:∃k,n'=k+1:=⟨n'-1,by omega⟩;exact aC.c1a hE hN hwf (aC.a4E n n' (by omega)) ((aA.a4E hE aP n).le (by omega)) hP aP
theorem aC.vF:aC N d (Fol kw l) (cK kw andP rdP l) (cK kw andP rdP l'):=aC.a4E hE hN hwf hP aP _ _ (by have:=hN.le;omega)
theorem aC.types:aC N d W (oG kw andP rdP l) (oG kw andP rdP l'):=by
 have at0:aA l 0 (cK kw andP rdP l):=(aA.vF hE aP).le (by omega);have a1:∀out:List Ty,aA l 0 (do let t ← cK kw andP rdP l;pure (out++[t]):aS (List Ty)):=fun out=>at0.bl fun _=>aA.aO _
 have n1:∀out:List Ty,aC N d (Fol kw l) (do let t ← cK kw andP rdP l;pure (out++[t]):aS (List Ty)) (do let t ← cK kw andP rdP l';pure (out++[t]):aS (List Ty)):=fun out=>aC.bnd hN (aC.vF hE hN hwf hP aP) (fun _=>aC.aO _) at0 (fun _=>aA.aO _) fun t k b j hk h hj hw=>by cases h;exact hw
 have a2:∀out:List Ty,aA l 0 (do aL l [[93]];pure out:aS (List Ty)):=fun out=>((aA.exp hE _ _).le (by omega)).bl fun _=>aA.aO _
 unfold oG;refine aC.bT hN (aC.skip hN (by decide) (by decide)) (fun b=>aC.ite ?_ (aC.aO _)) (aA.skip hE _) fun b=>aA.ite ((aA.list hE a1 _).bl a2) (aA.aO _)
 refine aC.bnd hN (aC.list hE hN (by decide) (by decide) (fun j _ hs=>yT hwf hs rfl (by decide)) n1 a1 _) (fun out=>aC.bT hN (aC.exp hE hN _) (fun _=>aC.aO _) ((aA.exp hE _ _).le (by omega)) fun _=>aA.aO _) (aA.list hE a1 _) a2 fun out k b j hk h hj hw=>?_
 rw [eF] at h;split at h
 ·rename_i u k2 he;exact yT hwf (a0y he) rfl (by decide)
 ·cases h
end
end
end
section
section
variable {α β:Type} {kw:Nm→Bool} {andP:Pr→Pr→Pr} {rdP:List Tok→Nat→Nat→kY Pr} {l l':List Tok} {N d:Nat} {W W':Nat→Prop} {u:Nm}
variable (hE:pE l) (hN:a6i l l' N d u) (hwf:c5m l) (hP:aC N d (b9a kw l) (dH rdP l) (dH rdP l')) (aP:aA l 0 (dH rdP l))
include hE hN
section
variable {ex ex':Nat→aS bY} (hx:∀k,aC N d wT (ex k) (ex' k)) (ax:∀k,aA l 1 (ex k))
include hx ax
theorem aC.gJ:aC N d W (eR l ex) (eR l' ex'):=by
 unfold eR;have a1:∀out:List bY,aA l 0 (do let e ← ex 0;pure (out++[e]):aS (List bY)):=fun out=>((ax 0).le (by omega)).bl fun _=>aA.aO _
 have n1:∀out:List bY,aC N d wT (do let e ← ex 0;pure (out++[e]):aS (List bY)) (do let e ← ex' 0;pure (out++[e]):aS (List bY)):=fun out=>aC.bT hN (hx 0) (fun _=>aC.aO _) ((ax 0).le (by omega)) fun _=>aA.aO _
 have a2:∀out:List bY,aA l 0 (do aL l [[41]];pure out:aS (List bY)):=fun out=>((aA.exp hE _ _).le (by omega)).bl fun _=>aA.aO _
 refine aC.bT hN (aC.exp hE hN _) (fun _=>?_) ((aA.exp hE _ _).le (by omega)) fun _=>(aA.list hE a1 _).bl a2
 exact aC.bT hN (aC.list hE hN (by decide) (by decide) (fun _ _ _=>trivial) n1 a1 _) (fun _=>aC.bT hN (aC.exp hE hN _) (fun _=>aC.aO _) ((aA.exp hE _ _).le (by omega)) fun _=>aA.aO _) (aA.list hE a1 _) a2
theorem aC.b0D (op:Int):aC N d W (tD l ex op) (tD l' ex' op):=by
 unfold tD;have a2:∀e:bY,aA l 0 (do aL l [[41]];pure (bV op [e]):aS bY):=fun e=>((aA.exp hE _ _).le (by omega)).bl fun _=>aA.aO _
 refine aC.bT hN (aC.exp hE hN _) (fun _=>?_) ((aA.exp hE _ _).le (by omega)) fun _=>((ax 0).le (by omega)).bl a2
 exact aC.bT hN (hx 0) (fun e=>aC.bT hN (aC.exp hE hN _) (fun _=>aC.aO _) ((aA.exp hE _ _).le (by omega)) fun _=>aA.aO _) ((ax 0).le (by omega)) a2
omit hE hN hx ax in
theorem b9g (hE:pE l):aA l 0 (fun i=>if aI l i [40] then cZ kw l i else .ok [] i:aS (List Nm)):=fun i b j hi h=>by
 simp only at h;split at h
 ·exact ((aA.words hE).le (by omega)) _ _ _ hi h
 ·cases h;omega
omit hx ax in
theorem c9K:aC N d W (fun i=>if aI l i [40] then cZ kw l i else .ok [] i:aS (List Nm)) (fun i=>if aI l' i [40] then cZ kw l' i else .ok [] i:aS (List Nm)):=fun i b j hi h hj hw=>by
 simp only at h ⊢;rw [gX hN (by decide) (by decide) hi];split at h
 ·rename_i h1;rw [if_pos h1];exact aC.words hE hN i b j hi h hj hw
 ·rename_i h1;rw [if_neg h1];cases h
  rfl
theorem aC.a8N:aC N d W (oM kw l ex) (oM kw l' ex'):=by
 unfold oM;have a1:∀out:List (Nm×List Nm×bY),aA l 0 (do
  let c ← eQ l
  let ns ← (fun i=>if aI l i [40] then cZ kw l i else .ok [] i:aS (List Nm))
  aL l [[45,62]]
  let b ← ex 0
  pure (out++[(c,ns,b)]):aS (List (Nm×List Nm×bY))):=fun out=>((aA.title hE).le (by omega)).bl fun _=>(b9g hE).bl fun _=>((aA.exp hE _ _).le (by omega)).bl fun _=>((ax 0).le (by omega)).bl fun _=>aA.aO _
 have n1:∀out:List (Nm×List Nm×bY),aC N d (fun j=>j<N) (do
  let c ← eQ l
  let ns ← (fun i=>if aI l i [40] then cZ kw l i else .ok [] i:aS (List Nm))
  aL l [[45,62]]
  let b ← ex 0
  pure (out++[(c,ns,b)]):aS (List (Nm×List Nm×bY))) (do
  let c ← eQ l'
  let ns ← (fun i=>if aI l' i [40] then cZ kw l' i else .ok [] i:aS (List Nm))
  aL l' [[45,62]]
  let b ← ex' 0
  pure (out++[(c,ns,b)]):aS (List (Nm×List Nm×bY))):=fun out=>aC.bT hN (aC.title hN) (fun c=>aC.bT hN (c9K hE hN) (fun ns=>aC.bT hN (aC.exp hE hN _) (fun _=>aC.bT hN (hx 0) (fun _=>aC.aO _) ((ax 0).le (by omega)) fun _=>aA.aO _) ((aA.exp hE _ _).le (by omega)) fun _=>((ax 0).le (by omega)).bl fun _=>aA.aO _) (b9g hE) fun _=>((aA.exp hE _ _).le (by omega)).bl fun _=>((ax 0).le (by omega)).bl fun _=>aA.aO _) ((aA.title hE).le (by omega)) fun _=>(b9g hE).bl fun _=>((aA.exp hE _ _).le (by omega)).bl fun _=>((ax 0).le (by omega)).bl fun _=>aA.aO _
 have a3:∀(e:bY) (alts:List (Nm×List Nm×bY)),aA l 0 (do aL l [[125]];pure { bV 9 [e] with alts:=alts }:aS bY):=fun e alts=>((aA.exp hE _ _).le (by omega)).bl fun _=>aA.aO _
 refine aC.bT hN (hx 0) (fun e=>?_) ((ax 0).le (by omega)) fun e=>((aA.exp hE _ _).le (by omega)).bl fun _=>(aA.list hE a1 _).bl (a3 e)
 refine aC.bT hN (aC.exp hE hN _) (fun _=>?_) ((aA.exp hE _ _).le (by omega)) fun _=>(aA.list hE a1 _).bl (a3 e)
 refine aC.bnd hN (aC.d5G hE hN n1 a1 _) (fun alts=>aC.bT hN (aC.exp hE hN _) (fun _=>aC.aO _) ((aA.exp hE _ _).le (by omega)) fun _=>aA.aO _) (aA.list hE a1 _) (a3 e) fun alts k b j hk h hj hw=>?_
 have:=((aA.exp hE _ _).bl fun _=>aA.aO _:aA l 1 (do aL l [[125]];pure { bV 9 [e] with alts:=alts }:aS bY)) k b j (by have:=hN.len;omega) h;omega
include hwf hP aP
theorem aC.c3H:aC N d W (uV kw andP rdP l ex) (uV kw andP rdP l' ex'):=by
 unfold uV;have at0:aA l 0 (cK kw andP rdP l):=(aA.vF hE aP).le (by omega);have a5:∀(nm:Nm) (ts:List Ty) (a:bY),aA l 0 (do aL l [[105,110]];let c ← ex 0;pure { bV 7 [a,c] with name:=nm,types:=ts }:aS bY):=fun nm ts a=>((aA.exp hE _ _).le (by omega)).bl fun _=>((ax 0).le (by omega)).bl fun _=>aA.aO _
 have a4:∀(nm:Nm) (ts:List Ty),aA l 0 (do aL l [[61]];let a ← ex 0;aL l [[105,110]];let c ← ex 0;pure { bV 7 [a,c] with name:=nm,types:=ts }:aS bY):=fun nm ts=>((aA.exp hE _ _).le (by omega)).bl fun _=>((ax 0).le (by omega)).bl fun a=>a5 nm ts a
 have a3:∀b:Bool,aA l 0 (if b then do let t ← cK kw andP rdP l;pure [t] else pure []:aS (List Ty)):=fun b=>aA.ite (at0.bl fun _=>aA.aO _) (aA.aO _)
 have n3:∀b:Bool,aC N d (Fol kw l) (if b then do let t ← cK kw andP rdP l;pure [t] else pure []:aS (List Ty)) (if b then do let t ← cK kw andP rdP l';pure [t] else pure []:aS (List Ty)):=fun b=>aC.ite (aC.bnd hN (aC.vF hE hN hwf hP aP) (fun _=>aC.aO _) at0 (fun _=>aA.aO _) fun t k b j hk h hj hw=>by cases h;exact hw) (aC.aO _)
 refine aC.bT hN (aC.word hN) (fun nm=>?_) ((aA.word hE).le (by omega)) fun nm=>(aA.skip hE _).bl fun b=>(a3 b).bl fun ts=>a4 nm ts
 refine aC.bT hN (aC.skip hN (by decide) (by decide)) (fun b=>?_) (aA.skip hE _) fun b=>(a3 b).bl fun ts=>a4 nm ts
 refine aC.bnd hN (n3 b) (fun ts=>?_) (a3 b) (fun ts=>a4 nm ts) fun ts k b j hk h hj hw=>yT hwf (a2b h) rfl (by decide)
 refine aC.bT hN (aC.exp hE hN _) (fun _=>?_) ((aA.exp hE _ _).le (by omega)) fun _=>((ax 0).le (by omega)).bl fun a=>a5 nm ts a
 refine aC.bT hN (hx 0) (fun a=>?_) ((ax 0).le (by omega)) fun a=>a5 nm ts a
 exact aC.bT hN (aC.exp hE hN _) (fun _=>aC.bT hN ((hx 0).mono fun _ _ _=>trivial) (fun _=>aC.aO _) ((ax 0).le (by omega)) fun _=>aA.aO _) ((aA.exp hE _ _).le (by omega)) fun _=>((ax 0).le (by omega)).bl fun _=>aA.aO _
theorem aC.c3I:aC N d W (uW kw andP rdP l ex) (uW kw andP rdP l' ex'):=by
 unfold uW;have at0:aA l 0 (cK kw andP rdP l):=(aA.vF hE aP).le (by omega);have at1:∀b:Bool,aA l 0 (if b then cK kw andP rdP l else pure oL):=fun b=>aA.ite at0 (aA.aO _)
 have nt1:∀b:Bool,aC N d (Fol kw l) (if b then cK kw andP rdP l else pure oL) (if b then cK kw andP rdP l' else pure oL):=fun b=>aC.ite (aC.vF hE hN hwf hP aP) (aC.aO _)
 have a1:∀out:List (Nm×Ty),aA l 0 (do
  let w ← bL kw l
  let b ← cR l [58]
  let t ← (if b then cK kw andP rdP l else pure oL)
  pure (out++[(w,t)]):aS (List (Nm×Ty))):=fun out=>((aA.word hE).le (by omega)).bl fun _=>(aA.skip hE _).bl fun b=>(at1 b).bl fun _=>aA.aO _
 have n1:∀out:List (Nm×Ty),aC N d (Fol kw l) (do
  let w ← bL kw l
  let b ← cR l [58]
  let t ← (if b then cK kw andP rdP l else pure oL)
  pure (out++[(w,t)]):aS (List (Nm×Ty))) (do
  let w ← bL kw l'
  let b ← cR l' [58]
  let t ← (if b then cK kw andP rdP l' else pure oL)
  pure (out++[(w,t)]):aS (List (Nm×Ty))):=fun out=>aC.bT hN (aC.word hN) (fun w=>aC.bT hN (aC.skip hN (by decide) (by decide)) (fun b=>aC.bnd hN (nt1 b) (fun _=>aC.aO _) (at1 b) (fun _=>aA.aO _) fun t k b j hk h hj hw=>by cases h;exact hw) (aA.skip hE _) fun b=>(at1 b).bl fun _=>aA.aO _) ((aA.word hE).le (by omega)) fun _=>(aA.skip hE _).bl fun b=>(at1 b).bl fun _=>aA.aO _
 have a2:∀ps:List (Nm×Ty),aA l 0 (do aL l [[41],[45,62]];let e ← ex 0;pure { bV 6 [e] with params:=ps }:aS bY):=fun ps=>((aA.exp hE _ _).le (by omega)).bl fun _=>((ax 0).le (by omega)).bl fun _=>aA.aO _
 refine aC.bT hN (aC.exp hE hN _) (fun _=>?_) ((aA.exp hE _ _).le (by omega)) fun _=>(aA.list hE a1 _).bl a2
 refine aC.bnd hN (aC.list hE hN (by decide) (by decide) (fun j _ hs=>yT hwf hs rfl (by decide)) n1 a1 _) (fun ps=>?_) (aA.list hE a1 _) a2 fun ps k b j hk h hj hw=>yT hwf (a2b h) rfl (by decide)
 exact aC.bT hN (aC.exp hE hN _) (fun _=>aC.bT hN ((hx 0).mono fun _ _ _=>trivial) (fun _=>aC.aO _) ((ax 0).le (by omega)) fun _=>aA.aO _) ((aA.exp hE _ _).le (by omega)) fun _=>((ax 0).le (by omega)).bl fun _=>aA.aO _
theorem aC.a4F:aC N d W (gQ kw andP rdP l ex) (gQ kw andP rdP l' ex'):=by
 unfold gQ;have hlen:=hN.len;have at0:aA l 0 (cK kw andP rdP l):=(aA.vF hE aP).le (by omega);have a3:∀e:bY,aA l 0 (do aL l [[41]];pure e:aS bY):=fun e=>((aA.exp hE _ _).le (by omega)).bl fun _=>aA.aO _
 have a2:∀(e:bY) (b:Bool),aA l 0 (if b then do let t ← cK kw andP rdP l;pure { bV 26 [e] with types:=[t] } else pure e:aS bY):=fun e b=>aA.ite (at0.bl fun _=>aA.aO _) (aA.aO _)
 have n2:∀(e:bY) (b:Bool),aC N d (Fol kw l) (if b then do let t ← cK kw andP rdP l;pure { bV 26 [e] with types:=[t] } else pure e:aS bY) (if b then do let t ← cK kw andP rdP l';pure { bV 26 [e] with types:=[t] } else pure e:aS bY):=fun e b=>aC.ite (aC.bnd hN (aC.vF hE hN hwf hP aP) (fun _=>aC.aO _) at0 (fun _=>aA.aO _) fun t k b j hk h hj hw=>by cases h;exact hw) (aC.aO _)
 have arest:∀e:bY,aA l 0 (do
   let b ← cR l [58]
   let e ← (if b then do let t ← cK kw andP rdP l;pure { bV 26 [e] with types:=[t] } else pure e:aS bY)
   aL l [[41]]
   pure e:aS bY):=fun e=>(aA.skip hE _).bl fun b=>(a2 e b).bl a3
 have ainner:aA l 0 (fun i=>
  if aI l i [45]&&decide ((aJ l (i+1)).kind=3)&&cU (aJ l (i+2)) [41] then .ok ⟨1,[], -(aJ l (i+1)).n,[],[],[],[]⟩ (i+3)
  else (do
   let e ← ex 0
   let b ← cR l [58]
   let e ← (if b then do let t ← cK kw andP rdP l;pure { bV 26 [e] with types:=[t] } else pure e:aS bY)
   aL l [[41]]
   pure e:aS bY) i:aS bY):=fun i a j hi h=>by
  simp only at h;split at h
  ·rename_i hc;simp only [d6W,decide_eq_true_eq] at hc;have n1:=aF hE hi hc.1.1;have n2:=oH hE n1 (by omega);have n3:=oH hE n2 (pU hE hc.2);cases h;omega
  ·exact (((ax 0).le (by omega:0≤1)).bl arest) i a j hi h
 refine aC.bT hN (aC.exp hE hN _) (fun _=>fun i a j hi h hj hw=>?_) ((aA.exp hE _ _).le (by omega)) fun _=>ainner
 simp only at h ⊢;by_cases hc:(aI l i [45]&&decide ((aJ l (i+1)).kind=3)&&cU (aJ l (i+2)) [41])=true
 ·rw [if_pos hc] at h;cases h;have e1:aI l' (i+d) [45]=aI l i [45]:=a5q hN (by omega) _;have e2:(aJ l' (i+d+1)).kind=(aJ l (i+1)).kind:=by
   have:=hN.kind (i+1) (by omega)
   rwa [show i+1+d=i+d+1 by omega] at this
  have e3:cU (aJ l' (i+d+2)) [41]=cU (aJ l (i+2)) [41]:=by
   have:=a5p hN (i:=i+2) (by omega) [41]
   rwa [show i+2+d=i+d+2 by omega] at this
  have e4:(aJ l' (i+d+1)).n=(aJ l (i+1)).n:=by
   have:=hN.n (i+1) (by omega)
   rwa [show i+1+d=i+d+1 by omega] at this
  rw [e1,e2,e3,e4,if_pos hc,show i+3+d=i+d+3 by omega]
 ·rw [if_neg hc] at h;rw [eF] at h;cases hxi:ex 0 i with
  |bad n e=>rw [hxi] at h;cases h
  |ok e k=>
   rw [hxi] at h;have k1:=(ax 0) i e k (by omega) hxi;have k3:k<j:=by
    have hb:aA l 1 (do
     let b ← cR l [58]
     let e ← (if b then do let t ← cK kw andP rdP l;pure { bV 26 [e] with types:=[t] } else pure e:aS bY)
     aL l [[41]]
     pure e:aS bY):=aA.br (aA.skip hE _) fun b=>aA.br (a2 e b) fun x=>(aA.exp hE _ _).bl fun _=>aA.aO x
    have:=hb k a j k1.2 h;omega
   have hc': ¬(aI l' (i+d) [45]&&decide ((aJ l' (i+d+1)).kind=3)&&cU (aJ l' (i+d+2)) [41])=true:=by
    intro hcc;simp only [d6W,decide_eq_true_eq] at hcc;obtain ⟨⟨c1,c2⟩,c3⟩:=hcc;rw [gX hN (by decide) (by decide) hi] at c1;have l1:=is_lt hN (by decide) (by decide) hi c1;have e2:(aJ l (i+1)).kind=3:=by
     by_cases h1:i+1<N
     ·have:=hN.kind (i+1) h1;rw [show i+1+d=i+d+1 by omega] at this;rw [← this];exact c2
     ·have h1:i+1=N:=by omega
      have:=hN.a7B.1;rw [← h1,show i+1+d=i+d+1 by omega] at this;omega
    have h1:i+1<N:=by
     by_cases h1:i+1<N
     ·exact h1
     ·have h1:i+1=N:=by omega
      rw [h1] at e2;rcases hN.stp with q|⟨q,_⟩<;>omega
    by_cases h2:i+2<N
    ·have e3:=a5p hN h2 [41];rw [show i+2+d=i+d+2 by omega] at e3;rw [e3] at c3;exact hc (by simp [c1,e2,c3])
    ·have hk:k=i+1:=by omega
     subst hk;have nos:∀s:Nm,aI l (i+1) s=false:=fun s=>by unfold aI cU;simp [e2]
     simp only at h;have hsk:cR l [58] (i+1)= .ok false (i+1):=by
      unfold cR;rw [nos]
      rfl
     rw [bF hsk] at h;have:=a2b h;rw [nos] at this;cases this
   rw [if_neg hc'];have hk:=hx 0 i e k hi hxi (by omega) trivial;rw [bF hk];refine (aC.bT hN (aC.skip hN (by decide) (by decide)) (fun b=>?_) (aA.skip hE _) (fun b=>(a2 e b).bl a3):aC N d W _ _) k a j (by omega) h hj hw;exact aC.bnd hN (n2 e b) (fun x=>aC.bT hN (aC.exp hE hN _) (fun _=>aC.aO _) ((aA.exp hE _ _).le (by omega)) fun _=>aA.aO _) (a2 e b) a3 fun x k b j hk h hj hw=>yT hwf (a2b h) rfl (by decide)
theorem aC.b5I:aC N d W (mF kw andP rdP l ex) (mF kw andP rdP l' ex'):=fun i a j hi h hj hw=>by
 have hlen:=hN.len;have anext:∀ {m:Nat} {x:aS bY} {s:Nm},aI l i s=true→aA l m x→x (i+1)= .ok a j→i+1≤j:=fun hs hx h=>by have:=hx (i+1) a j (aF hE (by omega) hs) h;omega
 have at0:aA l 0 (oG kw andP rdP l):=aA.types hE aP;have aargs:aA l 0 (eR l ex):=(aA.gJ hE ax).le (by omega);have shift:∀ {y:aS bY},y (i+1+d)= .ok a (j+d)→y (i+d+1)= .ok a (j+d):=fun h=>by rwa [show i+d+1=i+1+d by omega]
 unfold mF at h ⊢;have ek:(aJ l' (i+d)).kind=3↔(aJ l i).kind=3:=by
  by_cases h1:i=N
  ·subst h1;have:=hN.a7B.1;rcases hN.stp with q|⟨q,_⟩<;>omega
  ·rw [hN.kind i (by omega)]
 by_cases c0:(aJ l i).kind=3
 ·rw [if_pos c0] at h;rw [if_pos (ek.2 c0),hN.n i (by cases h;omega)];cases h;rw [show i+1+d=i+d+1 by omega]
 rw [if_neg c0] at h;rw [if_neg (fun e=>c0 (ek.1 e))];have eis:∀s:Nm,s≠[41]→s≠[59]→aI l' (i+d) s=aI l i s:=fun s h1 h2=>gX hN h1 h2 hi
 rw [eis _ (by decide) (by decide),eis _ (by decide) (by decide),eis _ (by decide) (by decide),eis _ (by decide) (by decide),eis _ (by decide) (by decide),a5r hN hi,a5s hN hi];split at h
 ·rename_i h1;rw [if_pos h1];cases h;rw [show i+1+d=i+d+1 by omega]
 rename_i h1;rw [if_neg h1];split at h
 ·rename_i h2;rw [if_pos h2];cases h;rw [show i+1+d=i+d+1 by omega]
 rename_i h2;rw [if_neg h2];split at h
 ·rename_i h3;rw [if_pos h3];have:=anext h3 (aA.b0D hE ax 22) h;exact shift (aC.b0D hE hN hx ax 22 (i+1) a j (by omega) h hj hw)
 rename_i h3;rw [if_neg h3];split at h
 ·rename_i h4;rw [if_pos h4];have:=anext h4 (aA.b0D hE ax 23) h;exact shift (aC.b0D hE hN hx ax 23 (i+1) a j (by omega) h hj hw)
 rename_i h4;rw [if_neg h4];split at h
 ·rename_i h5;rw [if_pos h5];have a5:∀x y:bY,aA l 0 (do aL l [[41]];pure (bV 24 [x,y]):aS bY):=fun x y=>((aA.exp hE _ _).le (by omega)).bl fun _=>aA.aO _
  have a4:∀x:bY,aA l 0 (do aL l [[44]];let y ← ex 0;aL l [[41]];pure (bV 24 [x,y]):aS bY):=fun x=>((aA.exp hE _ _).le (by omega)).bl fun _=>((ax 0).le (by omega)).bl (a5 x)
  have a3:aA l 0 (do aL l [[40]];let x ← ex 0;aL l [[44]];let y ← ex 0;aL l [[41]];pure (bV 24 [x,y]):aS bY):=((aA.exp hE _ _).le (by omega)).bl fun _=>((ax 0).le (by omega)).bl a4
  have:=anext h5 a3 h;refine shift ((aC.bT hN (aC.exp hE hN _) (fun _=>aC.bT hN (hx 0) (fun x=>aC.bT hN (aC.exp hE hN _) (fun _=>aC.bT hN (hx 0) (fun y=>aC.bT hN (aC.exp hE hN _) (fun _=>aC.aO _) ((aA.exp hE _ _).le (by omega)) fun _=>aA.aO _) ((ax 0).le (by omega)) (a5 x)) ((aA.exp hE _ _).le (by omega)) fun _=>((ax 0).le (by omega)).bl (a5 x)) ((ax 0).le (by omega)) a4) ((aA.exp hE _ _).le (by omega)) (fun _=>((ax 0).le (by omega)).bl a4):aC N d W _ _) (i+1) a j (by omega) h hj hw)
 rename_i h5;rw [if_neg h5];split at h
 ·rename_i h6;rw [if_pos h6];have hlt:=d1n hN hi h6;have e1:∀s:Nm,s≠[41]→s≠[59]→aI l' (i+d+1) s=aI l (i+1) s:=fun s q1 q2=>by
   have:=gX hN q1 q2 (i:=i+1) (by omega)
   rwa [show i+1+d=i+d+1 by omega] at this
  rw [e1 _ (by decide) (by decide),e1 _ (by decide) (by decide),hN.text i hlt];split at h
  ·rename_i h7;rw [if_pos h7];cases h;rw [show i+1+d=i+d+1 by omega]
  ·rename_i h7;rw [if_neg h7];refine shift ((aC.bT hN (aC.types hE hN hwf hP aP) (fun ts=>aC.bT hN (aC.gJ hE hN hx ax) (fun _=>aC.aO _) aargs fun _=>aA.aO _) at0 (fun ts=>aargs.bl fun _=>aA.aO _):aC N d W _ _) (i+1) a j (by omega) h hj hw)
 rename_i h6;rw [if_neg h6];split at h
 ·rename_i h7;rw [if_pos h7];have hlt:=d5F hN hi h7;rw [hN.text i hlt];have aa:aA l 0 (fun j=>if aI l j [40] then eR l ex j else .ok [] j:aS (List bY)):=fun i b j hi h=>by
   simp only at h;split at h
   ·exact aargs _ _ _ hi h
   ·cases h;omega
  have na:aC N d wT (fun j=>if aI l j [40] then eR l ex j else .ok [] j:aS (List bY)) (fun j=>if aI l' j [40] then eR l' ex' j else .ok [] j:aS (List bY)):=fun i b j hi h hj hw=>by
   simp only at h ⊢;rw [gX hN (by decide) (by decide) hi];split at h
   ·rename_i h1;rw [if_pos h1];exact aC.gJ hE hN hx ax i b j hi h hj hw
   ·rename_i h1;rw [if_neg h1];cases h
    rfl
  refine shift ((aC.bT hN (aC.types hE hN hwf hP aP) (fun ts=>aC.bT hN na (fun _=>aC.aO _) aa fun _=>aA.aO _) at0 (fun ts=>aa.bl fun _=>aA.aO _):aC N d W _ _) (i+1) a j (by omega) h hj hw)
 rename_i h7;rw [if_neg h7];exact aC.a4F hE hN hwf hP aP hx ax i a j hi h hj hw
theorem aC.unG:aC N d W (qW kw andP rdP l ex) (qW kw andP rdP l' ex'):=fun i a j hi h hj hw=>by
 have hlen:=hN.len;unfold qW at h ⊢;rw [gX hN (by decide) (by decide) hi];split at h
 ·rename_i h1;rw [if_pos h1];have hlt:=is_lt hN (by decide) (by decide) hi h1;have:=(aC.bT hN (hx 7) (fun _=>aC.aO _) ((ax 7).le (by omega)) (fun _=>aA.aO _):aC N d W _ _) (i+1) a j (by omega) h hj hw
  rwa [show i+1+d=i+d+1 by omega] at this
 ·rename_i h1;rw [if_neg h1];exact aC.b5I hE hN hwf hP aP hx ax i a j hi h hj hw
omit hwf hP aP hx ax in
theorem c2s {ops:List (Nm×Int)}(ho:∀p∈ops,p.1≠[41]∧p.1≠[59]){i:Nat}(hi:i≤N):(ops.find? fun p=>aI l' (i+d) p.1)=ops.find? fun p=>aI l i p.1:=find_congr fun p hp=>gX hN (ho p hp).1 (ho p hp).2 hi
omit hwf hP aP hx ax in
theorem aC.chain {ops:List (Nm×Int)}{one one':aS bY}(ho:∀p∈ops,p.1≠[41]∧p.1≠[59])(h0:aC N d wT one one')(a0:aA l 0 one):∀(g g':Nat) (e0:bY),g≤g'→aC N d W (dC l ops one g e0) (dC l' ops one' g' e0)
 |0,g',e0,hg=>fun i b j hi h hj _=>by unfold dC at h;cases h
 |g+1,g',e0,hg=>fun i b j hi h hj hw=>by
  obtain ⟨g',rfl⟩:∃k,g'=k+1:=⟨g'-1,by omega⟩;have hlen:=hN.len;unfold dC at h ⊢;rw [c2s hE hN ho hi];split at h
  ·rename_i hf;cases h
   rfl
  ·rename_i p hp;have hs:aI l i p.1=true:=by simpa using List.find?_some hp
   have hn:=aF hE (by omega) hs;have hlt:=is_lt hN (ho p (List.mem_of_find?_eq_some hp)).1 (ho p (List.mem_of_find?_eq_some hp)).2 hi hs;split at h
   ·cases h
   ·rename_i x k hk;have k1:=a0 (i+1) x k hn hk;have k2:=aA.chain hE a0 g (bV p.2 [e0,x]) k b j k1.2 h;have:=h0 (i+1) x k (by omega) hk (by omega) trivial;rw [show i+1+d=i+d+1 by omega] at this;rw [this];exact aC.chain ho h0 a0 g g' _ (by omega) k b j (by omega) h hj hw
omit hwf hP aP hx ax in
theorem aC.lvl {ops:List (Nm×Int)}{one one':aS bY}(ho:∀p∈ops,p.1≠[41]∧p.1≠[59])(h0:aC N d wT one one')(a0:aA l 0 one):aC N d W (rR l ops one) (rR l' ops one'):=by unfold rR;exact aC.bT hN h0 (fun e=>aC.chain hE hN ho h0 a0 _ _ e (by have:=hN.le;omega)) a0 fun e=>aA.chain hE a0 _ e
theorem aC.a2H:aC N d W (dB kw andP rdP l ex) (dB kw andP rdP l' ex'):=
 aC.lvl hE hN (by decide) (aC.lvl hE hN (by decide) (aC.unG hE hN hwf hP aP hx ax) ((aA.unG hE ax aP).le (by omega))) ((aA.b5J hE ax aP).le (by omega))
theorem aC.a0i:aC N d W (rK kw andP rdP l ex) (rK kw andP rdP l' ex'):=by
 unfold rK;have hlen:=hN.len;have hs:aC N d wT (dB kw andP rdP l ex) (dB kw andP rdP l' ex'):=aC.a2H hE hN hwf hP aP hx ax;have ha:aA l 0 (dB kw andP rdP l ex):=(aA.a2H hE ax aP).le (by omega);have a1:∀f:bY→bY,aA l 0 (dB kw andP rdP l ex >>=fun x=>pure (f x)):=fun f=>ha.bl fun _=>aA.aO _
 have n1:∀f:bY→bY,aC N d W (dB kw andP rdP l ex >>=fun x=>pure (f x)) (dB kw andP rdP l' ex' >>=fun x=>pure (f x)):=fun f=>aC.bT hN hs (fun _=>aC.aO _) ha fun _=>aA.aO _
 have one:∀(f:bY→bY) (i:Nat) (w:Nm) (a:bY) (j:Nat),w≠[41]→w≠[59]→i≤N→aI l i w=true→(dB kw andP rdP l ex >>=fun x=>pure (f x)) (i+1)= .ok a j→j≤N→W j→(dB kw andP rdP l' ex' >>=fun x=>pure (f x)) (i+d+1)= .ok a (j+d):=fun f i w a j w1 w2 hi hw h hj hW=>by
  have hlt:=is_lt hN w1 w2 hi hw;have:=n1 f (i+1) a j (by omega) h hj hW
  rwa [show i+1+d=i+d+1 by omega] at this
 have arest:∀e:bY,aA l 0 (fun i=>
  if aI l i [61,61] then (do let x ← dB kw andP rdP l ex;pure (bV 16 [e,x]):aS bY) (i+1)
  else if aI l i [33,61] then (do let x ← dB kw andP rdP l ex;pure (bV 21 [bV 16 [e,x]]):aS bY) (i+1)
  else if aI l i [60] then (do let x ← dB kw andP rdP l ex;pure (bV 17 [e,x]):aS bY) (i+1)
  else if aI l i [60,61] then (do let x ← dB kw andP rdP l ex;pure (bV 18 [e,x]):aS bY) (i+1)
  else if aI l i [62] then (do let x ← dB kw andP rdP l ex;pure (bV 17 [x,e]):aS bY) (i+1)
  else if aI l i [62,61] then (do let x ← dB kw andP rdP l ex;pure (bV 18 [x,e]):aS bY) (i+1)
  else .ok e i:aS bY):=fun e i a j hi h=>by
  have nx:∀(f:bY→bY) (w:Nm),aI l i w=true→(dB kw andP rdP l ex >>=fun x=>pure (f x)) (i+1)= .ok a j→i+0≤j∧j<l.length:=fun f w hw h=>by have:=a1 f (i+1) a j (aF hE hi hw) h;omega
  simp only at h;split at h
  ·rename_i hw;exact nx _ _ hw h
  split at h
  ·rename_i hw;exact nx _ _ hw h
  split at h
  ·rename_i hw;exact nx _ _ hw h
  split at h
  ·rename_i hw;exact nx _ _ hw h
  split at h
  ·rename_i hw;exact nx _ _ hw h
  split at h
  ·rename_i hw;exact nx _ _ hw h
  cases h;omega
 refine aC.bT hN hs (fun e=>fun i a j hi h hj hW=>?_) ha arest;have eis:∀s:Nm,s≠[41]→s≠[59]→aI l' (i+d) s=aI l i s:=fun s h1 h2=>gX hN h1 h2 hi
 split at h
 ·rename_i hw;exact (if_pos ((eis _ (by decide) (by decide)).trans hw)).trans (one _ i _ a j (by decide) (by decide) hi hw h hj hW)
 rename_i hw;refine (if_neg (fun q=>hw ((eis _ (by decide) (by decide)).symm.trans q))).trans ?_
 split at h
 ·rename_i hw;exact (if_pos ((eis _ (by decide) (by decide)).trans hw)).trans (one _ i _ a j (by decide) (by decide) hi hw h hj hW)
 rename_i hw;refine (if_neg (fun q=>hw ((eis _ (by decide) (by decide)).symm.trans q))).trans ?_
 split at h
 ·rename_i hw;exact (if_pos ((eis _ (by decide) (by decide)).trans hw)).trans (one _ i _ a j (by decide) (by decide) hi hw h hj hW)
 rename_i hw;refine (if_neg (fun q=>hw ((eis _ (by decide) (by decide)).symm.trans q))).trans ?_
 split at h
 ·rename_i hw;exact (if_pos ((eis _ (by decide) (by decide)).trans hw)).trans (one _ i _ a j (by decide) (by decide) hi hw h hj hW)
 rename_i hw;refine (if_neg (fun q=>hw ((eis _ (by decide) (by decide)).symm.trans q))).trans ?_
 split at h
 ·rename_i hw;exact (if_pos ((eis _ (by decide) (by decide)).trans hw)).trans (one _ i _ a j (by decide) (by decide) hi hw h hj hW)
 rename_i hw;refine (if_neg (fun q=>hw ((eis _ (by decide) (by decide)).symm.trans q))).trans ?_
 split at h
 ·rename_i hw;exact (if_pos ((eis _ (by decide) (by decide)).trans hw)).trans (one _ i _ a j (by decide) (by decide) hi hw h hj hW)
 rename_i hw;refine (if_neg (fun q=>hw ((eis _ (by decide) (by decide)).symm.trans q))).trans ?_
 cases h
 rfl
theorem aC.a2I:aC N d W (pT kw andP rdP l ex) (pT kw andP rdP l' ex'):=fun i a j hi h hj hw=>by
 have hlen:=hN.len;unfold pT at h ⊢;rw [gX hN (by decide) (by decide) hi];split at h
 ·rename_i h1;rw [if_pos h1];have hlt:=is_lt hN (by decide) (by decide) hi h1;have:=(aC.bT hN (hx 3) (fun _=>aC.aO _) ((ax 3).le (by omega)) (fun _=>aA.aO _):aC N d W _ _) (i+1) a j (by omega) h hj hw
  rwa [show i+1+d=i+d+1 by omega] at this
 ·rename_i h1;rw [if_neg h1];exact aC.a0i hE hN hwf hP aP hx ax i a j hi h hj hw
theorem aC.orG:aC N d W (a2Z kw andP rdP l ex) (a2Z kw andP rdP l' ex'):=
 aC.lvl hE hN (by decide) (aC.lvl hE hN (by decide) (aC.a2I hE hN hwf hP aP hx ax) ((aA.a2I hE ax aP).le (by omega))) ((aA.lvl hE (aA.a2I hE ax aP)).le (by omega))
theorem aC.exG:aC N d W (uI kw andP rdP l ex) (uI kw andP rdP l' ex'):=fun i a j hi h hj hw=>by
 have hlen:=hN.len;have ax0:aA l 0 (ex 0):=(ax 0).le (by omega);have aargs:aA l 0 (eR l ex):=(aA.gJ hE ax).le (by omega);have shift:∀ {y:aS bY},y (i+1+d)= .ok a (j+d)→y (i+d+1)= .ok a (j+d):=fun h=>by rwa [show i+d+1=i+1+d by omega]
 have ilt:∀ {s:Nm},s≠[41]→s≠[59]→aI l i s=true→i+1≤N:=fun h1 h2 hs=>is_lt hN h1 h2 hi hs
 unfold uI at h ⊢;have eis:∀s:Nm,s≠[41]→s≠[59]→aI l' (i+d) s=aI l i s:=fun s h1 h2=>gX hN h1 h2 hi
 rw [eis _ (by decide) (by decide),eis _ (by decide) (by decide),eis _ (by decide) (by decide),eis _ (by decide) (by decide),eis _ (by decide) (by decide)];split at h
 ·rename_i h1;rw [if_pos h1];exact shift (aC.c3H hE hN hwf hP aP hx ax (i+1) a j (ilt (by decide) (by decide) h1) h hj hw)
 rename_i h1;rw [if_neg h1];split at h
 ·rename_i h2;rw [if_pos h2];have a5:∀x y:bY,aA l 0 (do aL l [[101,108,115,101]];let z ← ex 0;pure (bV 8 [x,y,z]):aS bY):=fun x y=>((aA.exp hE _ _).le (by omega)).bl fun _=>ax0.bl fun _=>aA.aO _
  have a4:∀x:bY,aA l 0 (do aL l [[116,104,101,110]];let y ← ex 0;aL l [[101,108,115,101]];let z ← ex 0;pure (bV 8 [x,y,z]):aS bY):=fun x=>((aA.exp hE _ _).le (by omega)).bl fun _=>ax0.bl (a5 x)
  exact shift ((aC.bT hN (hx 0) (fun x=>aC.bT hN (aC.exp hE hN _) (fun _=>aC.bT hN (hx 0) (fun y=>aC.bT hN (aC.exp hE hN _) (fun _=>aC.bT hN (hx 0) (fun _=>aC.aO _) ax0 fun _=>aA.aO _) ((aA.exp hE _ _).le (by omega)) fun _=>ax0.bl fun _=>aA.aO _) ax0 (a5 x)) ((aA.exp hE _ _).le (by omega)) fun _=>ax0.bl (a5 x)) ax0 a4:aC N d W _ _) (i+1) a j (ilt (by decide) (by decide) h2) h hj hw)
 rename_i h2;rw [if_neg h2];split at h
 ·rename_i h3;rw [if_pos h3];exact shift (aC.a8N hE hN hx ax (i+1) a j (ilt (by decide) (by decide) h3) h hj hw)
 rename_i h3;rw [if_neg h3];split at h
 ·rename_i h4;rw [if_pos h4];exact shift (aC.c3I hE hN hwf hP aP hx ax (i+1) a j (ilt (by decide) (by decide) h4) h hj hw)
 rename_i h4;rw [if_neg h4];split at h
 ·rename_i h5;rw [if_pos h5];have a5:∀(nm:Nm) (ks:List bY),aA l 0 (do aL l [[105,110]];let b ← ex 0;pure { bV 25 (ks++[b]) with name:=nm }:aS bY):=fun nm ks=>((aA.exp hE _ _).le (by omega)).bl fun _=>ax0.bl fun _=>aA.aO _
  exact shift ((aC.bT hN (aC.word hN) (fun nm=>aC.bT hN (aC.gJ hE hN hx ax) (fun ks=>aC.bT hN (aC.exp hE hN _) (fun _=>aC.bT hN (hx 0) (fun _=>aC.aO _) ax0 fun _=>aA.aO _) ((aA.exp hE _ _).le (by omega)) fun _=>ax0.bl fun _=>aA.aO _) aargs (a5 nm)) ((aA.word hE).le (by omega)) (fun nm=>aargs.bl (a5 nm)):aC N d W _ _) (i+1) a j (ilt (by decide) (by decide) h5) h hj hw)
 rename_i h5;rw [if_neg h5];exact aC.orG hE hN hwf hP aP hx ax i a j hi h hj hw
end
include hwf hP aP
theorem aC.exF:∀n n',n≤n'→∀k,aC N d wT (mL kw andP rdP l n k) (mL kw andP rdP l' n' k)
 |0,n',_,k=>fun i a j hi h hj hw=>by unfold mL at h;cases h
 |n+1,n',hn,k=>by
  obtain ⟨n',rfl⟩:∃k,n'=k+1:=⟨n'-1,by omega⟩;have hx:=aC.exF n n' (by omega);have ax:=aA.exF (kw:=kw) (andP:=andP) hE aP n;unfold mL;split
  ·exact aC.unG hE hN hwf hP aP hx ax
  ·split
   ·exact aC.a2I hE hN hwf hP aP hx ax
   ·exact aC.exG hE hN hwf hP aP hx ax
end
end
section
theorem c0o (l:List Tok){i:Nat}(hi:i≤l.length):uP l i l.length=match RR aX (l.drop i) 0 1 with
 |none=> .bad (aJ l i).line 14
 |some (p,n)=>if a5R p=0 then .ok p (i+n) else .bad (aJ l i).line (a5R p):=by
 unfold uP;rw [List.take_of_length_le (d7m _),Nat.min_eq_left hi]
 rfl
theorem a6k {l:List Tok}{i:Nat}(hi:i<l.length):l[i]? =some (aJ l i):=by
 unfold aJ;rw [if_pos hi,List.getD_eq_getElem?_getD,d7a hi]
 rfl
section
variable {l l':List Tok} {N d:Nat} {u:Nm}
theorem c5x (hN:a6i l l' N d u){i:Nat}(hi:i≤N):yU (l.drop i) (l'.drop (i+d)) (N-i):=by
 have h1:=hN.len;have h2:=hN.b1j;have hu:u=[41]∨u=[59]:=hN.uu;refine ⟨fun m hm=>?_,?_,?_⟩
 ·refine ⟨aJ l (i+m),aJ l' (i+m+d),?_,?_,hN.kind _ (by omega),hN.text _ (by omega),hN.n _ (by omega)⟩
  ·rw [d7p,a6k (by omega)]
  ·rw [d7p,show i+d+m=i+m+d by omega,a6k (by omega)]
 ·refine ⟨aJ l N,?_,?_⟩
  ·rw [d7p,show i+(N-i)=N by omega,a6k h1]
  ·rcases hN.stp with h|⟨h,h3⟩
   ·exact .inl h
   ·exact .inr ⟨h,by rw [h3];exact hu⟩
 ·refine ⟨aJ l' (N+d),?_,?_⟩
  ·rw [d7p,show i+d+(N-i)=N+d by omega,a6k h2]
  ·exact .inr ⟨hN.a7B.1,by rw [hN.a7B.2];exact hu⟩
theorem aC.d1o (hE:pE l)(hN:a6i l l' N d u):aC N d (b9a aX l) (dH uP l) (dH uP l'):=fun i p j hi h hj hw=>by
 have h1:=hN.len;have h2:=hN.b1j;unfold dH at h ⊢;rw [c0o l (by omega)] at h;rw [c0o l' (by omega)];split at h
 ·cases h
 ·rename_i q n hr;split at h
  ·rename_i hc;cases h;have hx:=d3F (c5x hN hi) hr (by omega) ?_
   ·rw [hx];simp only;rw [if_pos hc,show i+d+n=i+n+d by omega]
   ·rintro ⟨s,hs,hd⟩;have hkt:(aJ l (i+n)).kind=4∧(aJ l (i+n)).text=s:=by unfold jC at hs;rw [d7p,a6k (by omega)] at hs;simpa using hs
    have hf:=hw hkt.1;rw [hkt.2] at hf;rcases hd with hd|⟨hd,hno⟩
    ·exact hf.1 hd
    ·rcases hf.2 with hf|hf
     ·omega
     ·refine hno ⟨aJ l (i+n+1),?_,hf⟩;have:=oH hE (i:=i+n) (by omega) (by omega);rw [d7p,show i+(n+1)=i+n+1 by omega,a6k this]
  ·cases h
end
end
section
def a0V (l:List Tok)(i:Nat)(w:Nm):Prop:=(aJ l i).kind=4∧(aJ l i).text=w
def b7g (l:List Tok)(i:Nat):Prop:=(aJ l i).kind=0
section
variable {kw:Nm→Bool} {andP:Pr→Pr→Pr} {rdP:List Tok→Nat→Nat→kY Pr} {l:List Tok} {ex:Nat→aS bY} {i j k k1 k2 k3:Nat} {a b c e:bY}
theorem a0V.is {w:Nm}(h:a0V l i w)(s:Nm):aI l i s=decide (w=s):=by unfold aI cU;rw [h.1,h.2];simp
theorem a0V.no {w s:Nm}(h:a0V l i w)(hs:w≠s):aI l i s=false:=by rw [h.is];simp [hs]
theorem b7g.no (h:b7g l i)(s:Nm):aI l i s=false:=by unfold aI cU;rw [h];simp
def b1l (l:List Tok)(k:Nat)(ops:List (Nm×Int)):Prop:=∀p∈ops,aI l k p.1=false
theorem b7g.a7D (h:b7g l k)(ops:List (Nm×Int)):b1l l k ops:=fun p _=>h.no _
theorem a0V.a7D {w:Nm}(h:a0V l k w){ops:List (Nm×Int)}(hw:∀p∈ops,w≠p.1):b1l l k ops:=fun p hp=>h.no (hw p hp)
theorem c9L {ops:List (Nm×Int)}(h:b1l l k ops):(ops.find? fun p=>aI l k p.1)=none:=List.find?_eq_none.2 fun p hp=>by rw [h p hp];decide
theorem c5y {ops:List (Nm×Int)}{one:aS bY}(g:Nat):dC l ops one (g+1) e k=match ops.find? fun p=>aI l k p.1 with
  |none=> .ok e k
  |some p=>match one (k+1) with
   | .bad n e=> .bad n e
   | .ok x j=>dC l ops one g (bV p.2 [e,x]) j:=by
 rw [dC]
 rfl
theorem c5z {ops:List (Nm×Int)}{one:aS bY}(h:b1l l k ops)(g:Nat):dC l ops one (g+1) e k= .ok e k:=by rw [c5y,c9L h]
theorem d3I {ops:List (Nm×Int)}{one:aS bY}(h1:one i= .ok e k):rR l ops one i=dC l ops one (l.length+2) e k:=by unfold rR;rw [bF h1]
theorem b4t {ops:List (Nm×Int)}{one:aS bY}(h1:one i= .ok e k)(h:b1l l k ops):rR l ops one i= .ok e k:=by rw [d3I h1,c5z h]
abbrev c9M:List (Nm×Int):=[([42],12),([100,105,118],13),([109,111,100],14)]
abbrev d3J:List (Nm×Int):=[([43],10),([45],11)]
abbrev d3K:List (Nm×Int):=[([38,38],19)]
abbrev d5I:List (Nm×Int):=[([124,124],20)]
def b7h (l:List Tok)(k:Nat):Prop:=b7g l k∨a0V l k [41]
theorem b7h.a7D (h:b7h l k){ops:List (Nm×Int)}(ho:∀p∈ops,[41]≠p.1):b1l l k ops:=by
 rcases h with h|h
 ·exact h.a7D _
 ·exact h.a7D ho
theorem b7h.no (h:b7h l k){s:Nm}(hs:[41]≠s):aI l k s=false:=by
 rcases h with h|h
 ·exact h.no _
 ·exact h.no hs
theorem c5A (h1:dB kw andP rdP l ex i= .ok e k)(h:∀s∈([[61,61],[33,61],[60],[60,61],[62],[62,61]]:List Nm),aI l k s=false):rK kw andP rdP l ex i= .ok e k:=by
 unfold rK;refine (bF h1).trans ?_
 refine (if_neg (by rw [h _ (by simp)];decide)).trans ?_
 refine (if_neg (by rw [h _ (by simp)];decide)).trans ?_
 refine (if_neg (by rw [h _ (by simp)];decide)).trans ?_
 refine (if_neg (by rw [h _ (by simp)];decide)).trans ?_
 refine (if_neg (by rw [h _ (by simp)];decide)).trans ?_
 exact if_neg (by rw [h _ (by simp)];decide)
theorem c5B (h:aI l i [33]=false):pT kw andP rdP l ex i=rK kw andP rdP l ex i:=by unfold pT;exact if_neg (by rw [h];decide)
theorem d1p (h:aI l i [45]=false):qW kw andP rdP l ex i=mF kw andP rdP l ex i:=by unfold qW;exact if_neg (by rw [h];decide)
theorem c5C (h:qW kw andP rdP l ex i= .ok e k)(h1:b1l l k c9M)(h2:b1l l k d3J):dB kw andP rdP l ex i= .ok e k:=b4t (b4t h h1) h2
theorem d1q (h:pT kw andP rdP l ex i= .ok e k)(h1:b1l l k d3K)(h2:b1l l k d5I):a2Z kw andP rdP l ex i= .ok e k:=b4t (b4t h h1) h2
theorem b7h.cmp (h:b7h l k):∀s∈([[61,61],[33,61],[60],[60,61],[62],[62,61]]:List Nm),aI l k s=false:=fun s hs=>h.no (by simp at hs;rcases hs with rfl|rfl|rfl|rfl|rfl|rfl<;>decide)
theorem c5D (h:a0V l i [40]):uI kw andP rdP l ex i=a2Z kw andP rdP l ex i:=by
 unfold uI;refine (if_neg (by rw [h.is];decide)).trans ?_
 refine (if_neg (by rw [h.is];decide)).trans ?_
 refine (if_neg (by rw [h.is];decide)).trans ?_
 refine (if_neg (by rw [h.is];decide)).trans ?_
 exact if_neg (by rw [h.is];decide)
theorem c5E (h:a0V l i [40]):qW kw andP rdP l ex i=gQ kw andP rdP l ex i:=by
 rw [d1p (h.no (by decide))];have hk:(aJ l i).kind=4:=h.1;have hwd:gU kw (aJ l i)=false:=by unfold gU;rw [hk];simp
 have hti:kT (aJ l i)=false:=by unfold kT;rw [hk];simp
 unfold mF;refine (if_neg (by omega)).trans ?_
 refine (if_neg (by rw [h.is];decide)).trans ?_
 refine (if_neg (by rw [h.is];decide)).trans ?_
 refine (if_neg (by rw [h.is];decide)).trans ?_
 refine (if_neg (by rw [h.is];decide)).trans ?_
 refine (if_neg (by rw [h.is];decide)).trans ?_
 refine (if_neg (by rw [hwd];decide)).trans ?_
 exact if_neg (by rw [hti];decide)
theorem d5J (hs:a0V l i [40])(h:gQ kw andP rdP l ex i= .ok e k)(hk:b7h l k):uI kw andP rdP l ex i= .ok e k:=by
 rw [c5D hs];refine d1q ?_ (hk.a7D (by decide)) (hk.a7D (by decide))
 rw [c5B (hs.no (by decide))];refine c5A (c5C ?_ (hk.a7D (by decide)) (hk.a7D (by decide))) hk.cmp;rw [c5E hs];exact h
theorem c2t (h0:a0V l i [40])(hn: ¬(aI l (i+1) [45]=true∧(aJ l (i+2)).kind=3∧cU (aJ l (i+3)) [41]=true))(h1:ex 0 (i+1)= .ok e k)(hk:a0V l k [41]):gQ kw andP rdP l ex i= .ok e (k+1):=by
 have e1:aL l [[40]] i= .ok () (i+1):=by
  show (if aI l i [40]=true then aL l [] (i+1) else cQ l i)=_
  rw [if_pos (by rw [h0.is];decide)]
  rfl
 have e2:aL l [[41]] k= .ok () (k+1):=by
  show (if aI l k [41]=true then aL l [] (k+1) else cQ l k)=_
  rw [if_pos (by rw [hk.is];decide)]
  rfl
 have e3:cR l [58] k= .ok false k:=by unfold cR;rw [if_neg (by rw [hk.is];decide)]
 unfold gQ;refine (bF e1).trans ?_
 refine (if_neg (by simp only [d6W,decide_eq_true_eq];exact fun q=>hn ⟨q.1.1,q.1.2,q.2⟩)).trans ?_
 refine (bF h1).trans ((bF e3).trans ?_)
 show (aL l [[41]] >>=fun _=>pure e) k=_
 exact (bF e2).trans rfl
end
end
section
structure c5F (l:List Tok):Prop where
 fin:pE l
 wf:c5m l
 wd:WfD l
 pJ:uX uP l
theorem c0p {s:List UInt8}{k:Nat}{ln:Int}{cm:Bool}{l:List Tok}(h:gS kV s k ln cm= .ok l):c5F l:=by
 obtain ⟨l0,ln',e,hk⟩:=b0n (rC s k ln cm l h);have hend:l[l.length-1]? =some (rW ln'):=by rw [e];simp
 refine ⟨⟨by rw [e];simp,by rw [a0Q hend]⟩,(lex_wf h).1,(lex_wf h).2,fun e i p j hi hx=>b4i (fun t ht=>?_) e i p j hi hx⟩;rw [hend] at ht;cases ht
 rfl
theorem b2C {s:List UInt8}{k:Nat}{ln:Int}{cm:Bool}{l0:List Tok}{ln':Int}(h:gS kV s k ln cm= .ok (l0++[rW ln'])){j:Nat}(hj:j<(l0++[rW ln']).length)(hk:(aJ (l0++[rW ln']) j).kind=0):j=l0.length:=by
 obtain ⟨l1,ln1,e,hk1⟩:=b0n (rC s k ln cm _ h);have e2:l0=l1:=by have:=congrArg List.dropLast e;simpa using this
 subst e2;by_cases h1:j<l0.length
 ·have:aJ (l0++[rW ln']) j=l0[j]:=a0Q (by rw [d7h h1,d7a h1]);rw [this] at hk;exact absurd hk (hk1 _ (List.getElem_mem h1))
 ·simp at hj;omega
section
variable {kw:Nm→Bool} {andP:Pr→Pr→Pr} {rdP:List Tok→Nat→Nat→kY Pr} {l l':List Tok} {N d:Nat} {u:Nm}
variable {ex ex':Nat→aS bY} {i j k:Nat} {a e:bY}
theorem c0q {s:Nm}(h:aI l i s=true):aL l [s] i= .ok () (i+1):=by
 show (if aI l i s=true then aL l [] (i+1) else cQ l i)=_
 rw [if_pos h]
 rfl
end
section
variable {l0:List Tok}
theorem b0p {l0:List Tok}{ln ln1 ln2 ln3:Int}:a6i (l0++[rW ln]) (tL ln1 [40]::(l0++[tL ln2 [41],rW ln3])) l0.length 1 [41]:=by
 have hget:∀i,i<l0.length→aJ (tL ln1 [40]::(l0++[tL ln2 [41],rW ln3])) (i+1)=aJ (l0++[rW ln]) i:=fun i hi=>by rw [a0Q (t:=l0[i]) (by rw [List.getElem?_cons_succ,d7h hi,d7a hi]),a0Q (t:=l0[i]) (by rw [d7h hi,d7a hi])]
 refine ⟨by simp,by simp,by simp,fun i hi=>by rw [hget i hi],fun i hi=>by rw [hget i hi],fun i hi=>by rw [hget i hi],.inl ?_,?_,.inl rfl⟩
 ·rw [a0Q (t:=rW ln) (by simp)]
 ·rw [a0Q (t:=tL ln2 [41]) (by simp)];exact ⟨rfl,rfl⟩
theorem b2D {s:List UInt8}(h35:∀b∈s,b≠35){l:List Tok}(h:gS kV s 0 1 false= .ok l):∃l0 ln',l=l0++[rW ln']∧gS kV (40::(s++[41])) 0 1 false= .ok (tL 1 [40]::(l0++[tL ln' [41],rW ln'])):=by
 rcases a5t kV [] s 0 1 h35 (Nat.zero_le _) with ⟨l0,ln',e1,e2⟩|⟨e,e1,_⟩
 ·rw [h] at e1;cases e1;refine ⟨l0,ln',rfl,?_⟩;have:=c9m (num:=kV) (ln:=1) (r:=s++[41]);unfold Lx at this;rw [show 40::(s++[41])=[40]++(s++[41]) from rfl,this,e2];simp [d3u,gS]
 ·rw [h] at e1;cases e1
end
section
variable {l0:List Tok} {ln ln1 ln2 ln3:Int}
theorem a0z (l0:List Tok)(ln1 ln2 ln3:Int):a0V (tL ln1 [40]::(l0++[tL ln2 [41],rW ln3])) 0 [40]∧a0V (tL ln1 [40]::(l0++[tL ln2 [41],rW ln3])) (l0.length+1) [41]∧b7g (tL ln1 [40]::(l0++[tL ln2 [41],rW ln3])) (l0.length+2):=by
 refine ⟨?_,?_,?_⟩
 ·unfold a0V;rw [a0Q (t:=tL ln1 [40]) (by simp)];exact ⟨rfl,rfl⟩
 ·unfold a0V;rw [a0Q (t:=tL ln2 [41]) (by simp)];exact ⟨rfl,rfl⟩
 ·unfold b7g;rw [a0Q (t:=rW ln3) (by simp)]
theorem c2u (h:c5F (l0++[rW ln])){t:Ty}(ht:tyM (l0++[rW ln]) 0= .ok t l0.length):tyM (tL ln1 [40]::(l0++[tL ln2 [41],rW ln3])) 0= .ok t (l0.length+2):=by
 have hN:=b0p (l0:=l0) (ln:=ln) (ln1:=ln1) (ln2:=ln2) (ln3:=ln3);obtain ⟨h0,h1,h2⟩:=a0z l0 ln1 ln2 ln3;obtain ⟨l',hl'⟩:∃l',tL ln1 [40]::(l0++[tL ln2 [41],rW ln3])=l':=⟨_,rfl⟩;have hlen:l'.length=l0.length+3:=by rw [← hl'];simp
 rw [hl'] at hN h0 h1 h2 ⊢;have aP:aA (l0++[rW ln]) 0 (dH uP (l0++[rW ln])):=h.pJ.pred;have hP:=aC.d1o h.fin hN;have hfol:Fol aX (l0++[rW ln]) l0.length:= .inl (by rw [a0Q (t:=rW ln) (by simp)]);have hin:kZ aX bE uP l' (l'.length+1) 1= .ok t (l0.length+1):=aC.a4E (andP:=bE) h.fin hN h.wf hP aP ((l0++[rW ln]).length+2) (l'.length+1) (by simp [hlen]) 0 t l0.length (Nat.zero_le _) ht (d7m _) hfol;have hpos:0<l0.length:=by have:=(aA.vF (kw:=aX) (andP:=bE) h.fin aP) 0 t l0.length (by simp) ht;omega
 have hnm:(gU aX (aJ l' 1)&&cU (aJ l' 2) [58])=false:=by
  cases hw:gU aX (aJ l' 1) with
  |false=>rfl
  |true=>
   have hw0:gU aX (aJ (l0++[rW ln]) 0)=true:=by have:=c0h (kw:=aX) hN (i:=0) hpos;rw [← this];exact hw
   have hk0:(aJ (l0++[rW ln]) 0).kind=1:=by unfold gU at hw0;simp only [d6W,decide_eq_true_eq] at hw0;exact hw0.1
   have hb:gI aX (l0++[rW ln]) 0= .ok (some (psT 5 (aJ (l0++[rW ln]) 0).text)) 1∨∃t,gI aX (l0++[rW ln]) 0= .ok (some t) 1:=by
    unfold gI;split
    ·exact .inr ⟨_,rfl⟩
    split
    ·exact .inr ⟨_,rfl⟩
    split
    ·exact .inr ⟨_,rfl⟩
    first
     |exact .inl rfl
     |(rw [if_pos hw0];exact .inl rfl)
   have hb:∃t,gI aX (l0++[rW ln]) 0= .ok (some t) 1:=by
    rcases hb with hb|hb
    ·exact ⟨_,hb⟩
    ·exact hb
   obtain ⟨t1,hb⟩:=hb;have hone:l0.length=1:=by
    have h3:oV aX bE uP (l0++[rW ln]) (kZ aX bE uP (l0++[rW ln]) ((l0++[rW ln]).length+1)) 0= .ok t l0.length:=ht;unfold oV at h3;have h3:=(bF hb).symm.trans h3;simp only [gA] at h3;injection h3 with h4 h5
    exact h5.symm
   have hsg:a0V l' 2 [41]:=by rw [hone] at h1;exact h1
   have:cU (aJ l' 2) [58]=false:=hsg.no (by decide);rw [this]
   rfl
 have hb0:gI aX l' 0= .ok none 0:=by
  have hwd:gU aX (aJ l' 0)=false:=by unfold gU;rw [h0.1];simp
  unfold gI;rw [if_neg (by rw [h0.is];decide),if_neg (by rw [h0.is];decide),if_neg (by rw [h0.is];decide),if_neg (by rw [hwd];decide)]
 have hti:kT (aJ l' 0)=false:=by unfold kT;rw [h0.1];simp
 show oV aX bE uP l' (kZ aX bE uP l' (l'.length+1)) 0=_
 unfold oV;refine (bF hb0).trans ?_
 refine (if_neg (by rw [hti];decide)).trans ?_
 refine (if_neg (by rw [h0.is];decide)).trans ?_
 unfold qS;refine (bF (c0q (by rw [h0.is];decide))).trans ?_
 have hlist:dT l' [44] (fun (out:List Nm×List Ty)=>do
    let t ← kZ aX bE uP l' (l'.length+1)
    pure (out.1,out.2++[t])) ([],[]) 1= .ok ([],[t]) (l0.length+1):=by
  unfold dT;have ho:(do let t ← kZ aX bE uP l' (l'.length+1);pure (([]:List Nm),([]:List Ty)++[t]):aS (List Nm×List Ty)) 1= .ok ([],[t]) (l0.length+1):=(bF hin).trans rfl;rw [gV];simp only;rw [ho];simp only;rw [if_neg (by rw [h1.is];decide)]
 have hmid:(fun i=>if gU aX (aJ l' i)&&cU (aJ l' (i+1)) [58] then
   dT l' [44] (fun (out:List Nm×List Ty)=>do
    let w ← bL aX l'
    aL l' [[58]]
    let t ← kZ aX bE uP l' (l'.length+1)
    pure (out.1++[w],out.2++[t])) ([],[]) i
  else dT l' [44] (fun (out:List Nm×List Ty)=>do
    let t ← kZ aX bE uP l' (l'.length+1)
    pure (out.1,out.2++[t])) ([],[]) i:aS (List Nm×List Ty)) 1= .ok ([],[t]) (l0.length+1):=(if_neg (by rw [hnm];decide)).trans hlist
 refine (bF hmid).trans ?_
 refine (bF (c0q (by rw [h1.is];decide))).trans ?_
 exact (if_pos (by
  have:aI l' (l0.length+1+1) [45,62]=false:=h2.no _;rw [this]
  rfl)).trans rfl
theorem c5G (l:List Tok):exM l=uI aX bE uP l (mL aX bE uP l (l.length+1)):=rfl
theorem b9h (h:c5F (l0++[rW ln])){a:bY}(ha:exM (l0++[rW ln]) 0= .ok a l0.length)(hneg: ¬ ∃n,a=bV 15 [⟨1,[],n,[],[],[],[]⟩]):exM (tL ln1 [40]::(l0++[tL ln2 [41],rW ln3])) 0= .ok a (l0.length+2):=by
 have hN:=b0p (l0:=l0) (ln:=ln) (ln1:=ln1) (ln2:=ln2) (ln3:=ln3);obtain ⟨h0,h1,h2⟩:=a0z l0 ln1 ln2 ln3;obtain ⟨l',hl'⟩:∃l',tL ln1 [40]::(l0++[tL ln2 [41],rW ln3])=l':=⟨_,rfl⟩;have hlen:l'.length=l0.length+3:=by rw [← hl'];simp
 rw [hl'] at hN h0 h1 h2 ⊢;have aP:aA (l0++[rW ln]) 0 (dH uP (l0++[rW ln])):=h.pJ.pred;have hP:=aC.d1o h.fin hN;have hin:mL aX bE uP l' (l'.length+1) 0 1= .ok a (l0.length+1):=aC.exF (andP:=bE) h.fin hN h.wf hP aP ((l0++[rW ln]).length+2) (l'.length+1) (by simp [hlen]) 0 0 a l0.length (Nat.zero_le _) ha (d7m _) trivial;have hno: ¬(aI l' (0+1) [45]=true∧(aJ l' (0+2)).kind=3∧cU (aJ l' (0+3)) [41]=true):=by
  rintro ⟨c1,c2,c3⟩;have c1:aI l' (0+1) [45]=true:=c1;rw [gX hN (by decide) (by decide) (Nat.zero_le _)] at c1;have l1:=is_lt hN (by decide) (by decide) (Nat.zero_le _) c1;have c2':(aJ (l0++[rW ln]) 1).kind=3:=by
   by_cases q:1<l0.length
   ·have:=hN.kind 1 q;rw [← this];exact c2
   ·have q:l0.length=1:=by omega
    rw [q] at h1;have g1:(aJ l' 2).kind=4:=h1.1;have g2:(aJ l' 2).kind=3:=c2;omega
  have l2:1<l0.length:=by
   by_cases q:1<l0.length
   ·exact q
   ·have q:l0.length=1:=by omega
    rw [a0Q (t:=rW ln) (by simp [q])] at c2';cases c2'
  have hstop:b7h (l0++[rW ln]) 2:=by
   by_cases q:2<l0.length
   ·right;have e3:=a5p hN q [41];have c3:cU (aJ l' (2+1)) [41]=true:=c3;rw [e3] at c3;have hw:=h.wf 2 (pU h.fin c3);unfold cU at c3;simp only [d6W,decide_eq_true_eq] at c3;rw [c3.2] at hw;have:(4:Int)=(aJ (l0++[rW ln]) 2).kind:=congrArg (fun x=>x.1) hw;exact ⟨this.symm,c3.2⟩
   ·left;have q:l0.length=2:=by omega
    unfold b7g;rw [a0Q (t:=rW ln) (by simp [q])]
  have hsg:a0V (l0++[rW ln]) 0 [45]:=by have hw:=h.wf 0 (pU h.fin c1);unfold aI cU at c1;simp only [d6W,decide_eq_true_eq] at c1;rw [c1.2] at hw;have:(4:Int)=(aJ (l0++[rW ln]) 0).kind:=congrArg (fun x=>x.1) hw;exact ⟨this.symm,c1.2⟩
  have hat:∀ex,mF aX bE uP (l0++[rW ln]) ex 1= .ok ⟨1,[],(aJ (l0++[rW ln]) 1).n,[],[],[],[]⟩ 2:=fun ex=>by unfold mF;exact if_pos c2'
  have hun7:∀m,mL aX bE uP (l0++[rW ln]) (m+1) 7 1= .ok ⟨1,[],(aJ (l0++[rW ln]) 1).n,[],[],[],[]⟩ 2:=fun m=>by
   show qW aX bE uP (l0++[rW ln]) (mL aX bE uP (l0++[rW ln]) m) 1=_
   rw [d1p (by unfold aI cU;rw [c2'];simp)];exact hat _
  have hun:qW aX bE uP (l0++[rW ln]) (mL aX bE uP (l0++[rW ln]) ((l0++[rW ln]).length+1)) 0= .ok (bV 15 [⟨1,[],(aJ (l0++[rW ln]) 1).n,[],[],[],[]⟩]) 2:=by
   unfold qW;refine (if_pos (by rw [hsg.is];decide)).trans ?_
   exact (bF (hun7 _)).trans rfl
  have hall:exM (l0++[rW ln]) 0= .ok (bV 15 [⟨1,[],(aJ (l0++[rW ln]) 1).n,[],[],[],[]⟩]) 2:=by
   rw [c5G];unfold uI;refine (if_neg (by rw [hsg.is];decide)).trans ?_
   refine (if_neg (by rw [hsg.is];decide)).trans ?_
   refine (if_neg (by rw [hsg.is];decide)).trans ?_
   refine (if_neg (by rw [hsg.is];decide)).trans ?_
   refine (if_neg (by rw [hsg.is];decide)).trans ?_
   refine d1q ?_ (hstop.a7D (by decide)) (hstop.a7D (by decide))
   rw [c5B (hsg.no (by decide))];exact c5A (c5C hun (hstop.a7D (by decide)) (hstop.a7D (by decide))) hstop.cmp
  rw [ha] at hall;injection hall with h5 h6
  exact hneg ⟨_,h5⟩
 rw [c5G];exact d5J h0 (c2t h0 hno hin h1) (.inl h2)
end
theorem b1m {s:List UInt8}(h35:∀b∈s,b≠35)(hs:s.length≤30000){t:Ty}{j:Nat}(h:dM tyM s= .ok t j):∃k,dM tyM (40::(s++[41]))= .ok t k:=by obtain ⟨_,l,hl,hx,hk⟩:=a2D h;obtain ⟨l0,ln',e,hl'⟩:=b2D h35 hl;subst e;have ht:=c0p hl;have hj:=(aA.vF (kw:=aX) (andP:=bE) ht.fin ht.pJ.pred) 0 t j (by simp) hx;have hj0:=b2C hl hj.2 hk;subst hj0;refine ⟨l0.length+2,b6R (by simp;omega) hl' (c2u ht hx) ?_⟩;exact (a0z l0 1 ln' ln').2.2
theorem b0q {s:List UInt8}(h35:∀b∈s,b≠35)(hs:s.length≤30000){a:bY}{j:Nat}(h:dM exM s= .ok a j)(hneg: ¬ ∃n,a=bV 15 [⟨1,[],n,[],[],[],[]⟩]):∃k,dM exM (40::(s++[41]))= .ok a k:=by obtain ⟨_,l,hl,hx,hk⟩:=a2D h;obtain ⟨l0,ln',e,hl'⟩:=b2D h35 hl;subst e;have ht:=c0p hl;have hj:=(aA.exF (kw:=aX) (andP:=bE) ht.fin ht.pJ.pred _ 0) 0 a j (by simp) hx;have hj0:=b2C hl hj.2 hk;subst hj0;refine ⟨l0.length+2,b6R (by simp;omega) hl' (b9h ht hx hneg) ?_⟩;exact (a0z l0 1 ln' ln').2.2
end
section
open Go Go.VM
def TL:List TypeId:=[5,9,37,39,199,257,260,261]
theorem b9i:xR Tryz.prog TL=true:=by kernel_rfl
theorem rY:laidOutB Tryz.prog=true:=by kernel_rfl
theorem hmr:mapsRowed Tryz.prog=true:=by kernel_rfl
theorem hsf:((List.range Tryz.prog.types.size).all fun t=>match Tryz.prog.underlying t with|some (.slice e)=>decide (0<Tryz.prog.cellsOf e)|_=>true)=true:=by kernel_rfl
theorem jR:ownKnob Tryz.prog.godebug=none:=by kernel_rfl
theorem tu9:Tryz.prog.underlying 9=some .string:=by kernel_rfl
end
section
open Go Go.VM
theorem c0r {s:List UInt8}{n e:Int}(h:dM exM s= .bad n e):e≠0:=zL (fun l n e hE hB hp h=>aB.expr (low:=0) hE hB (a6g l) 0 n e (Nat.zero_le _) hp h) h
theorem c9N {s:List UInt8}{e:bY}{j:Nat}(h:dM exM s= .ok e j):WE 900000000 e:=by obtain ⟨hs,l,hl,hx,_⟩:=a2D h;have hV:kQ G0 uP l:=a6f sS hl (by omega);exact c5w hV 0 e j (List.length_pos_iff.2 hV.fin.1) hx
theorem b0r {P:Program}{G:GT}{q:Bool}{x:VM.Out}{c:Prop}[Decidable c]{dst:Option Tmp}{all:Array Oper}{rest:List Oper}{k:List KI}{Q:Exit→St→Prop}(hc:c)(h:a6B P G q (some x) dst all rest k Q):a6B P G q (if c then some x else none) dst all rest k Q:=by rw [if_pos hc];exact h
end
section
open Go Go.VM
theorem a5v (k:bY):(wW k).length=7:=by rw [dG];rfl
theorem a5w (k:bY):(wW k)[0]? =some (.int .i64 k.op):=by rw [dG];rfl
theorem a2E (k:bY):(wW k).head? =some (.int .i64 k.op):=by rw [dG];rfl
theorem d3L {s:List UInt8}{n e:Int}(h:dM tyM s= .bad n e):e≠0:=zL (fun l n e hE hB hp h=>aB.vF (low:=0) hE hB (a6g l) 0 n e (Nat.zero_le _) hp h) h
theorem d3M {s:List UInt8}{t:Ty}{j:Nat}(h:dM tyM s= .ok t j):WB 900000000 t:=by obtain ⟨hs,l,hl,hx,_⟩:=a2D h;have hV:kQ G0 uP l:=a6f sS hl (by omega);exact a5u hV 0 t j (List.length_pos_iff.2 hV.fin.1) hx
theorem a4b (s:List UInt8)(hs:s.length≤100000000):CS Tryz.prog G0 10 [.str s] (.d (.bool true)) none:=by
 by_cases b1:400<s.length
 ·have e1:(400:Int)<s.length:=by omega
  refine CS.bI Tryz.func10 rfl Tryz.ntmps10 rfl ?_
  simp [e1,b1];refine aH.mk dN (eC ) ?_
  simp
 have e1: ¬(400:Int)<s.length:=by omega
 have hc:=b0o (G:=G0) s (by omega);have px:=kE (G:=G0) sS vH s (by omega);have py:=kE (G:=G0) sS vH (40::(s++[41])) (by simp;omega);have pz:=tX (G:=G0) sS vH s (by omega);have pw:=tX (G:=G0) sS vH (40::(s++[41])) (by simp;omega);obtain ⟨ra,hra⟩:∃r,dM exM s=r:=⟨_,rfl⟩;obtain ⟨rb,hrb⟩:∃r,dM exM (40::(s++[41]))=r:=⟨_,rfl⟩;obtain ⟨rc,hrc⟩:∃r,dM tyM s=r:=⟨_,rfl⟩;obtain ⟨rd,hrd⟩:∃r,dM tyM (40::(s++[41]))=r:=⟨_,rfl⟩;rw [hra] at px;rw [hrb] at py;rw [hrc] at pz;rw [hrd] at pw;refine CS.bI Tryz.func10 rfl Tryz.ntmps10 rfl ?_
 simp [e1,b1];refine aH.mk a7C hc ?_
 cases h1:hasB 35 s with
 |true=>
  simp;refine aH.mk dN (eC ) ?_
  simp
 |false=>
 have n35:=b9d h1;simp;refine aH.mk jI px ?_
 simp
 repeat (refine b0r (by first|omega|(simp;omega)) ?_;simp)
 refine aH.mk jI py ?_
 simp;refine aH.mk sM pz ?_
 simp
 repeat (refine b0r (by first|omega|(simp;omega)) ?_;simp)
 refine aH.mk sM pw ?_
 have tl:∀t k,rc= .ok t k→WB 900000000 t∧∃k',rd= .ok t k':=fun t k e=>by rw [e] at hrc;obtain ⟨k',hk⟩:=b1m n35 (by omega) hrc;exact ⟨d3M hrc,k',hrd.symm.trans hk⟩
 have el:∀a k,ra= .ok a k→(¬ ∃n,a=bV 15 [⟨1,[],n,[],[],[],[]⟩])→WE 900000000 a∧∃k',rb= .ok a k':=fun a k e hn=>by rw [e] at hra;obtain ⟨k',hk⟩:=b0q n35 (by omega) hra hn;exact ⟨c9N hra,k',hrb.symm.trans hk⟩
 cases hc':rc with
 |bad n e=>
  subst hc';have hy:=d3L hrc;cases ra with
  |bad n e=>
   have hz:=c0r hra;simp [sQ,sP,hz,hy];refine aH.mk dN (eC ) ?_
   simp
  |ok a ja=>
  by_cases hn:a.op=15∧∃k,a.kids=[k]∧k.op=1
  ·obtain ⟨g1,k,g2,g3⟩:=hn;simp [sQ,sP,g1,g2,a5v k,a5w k,a2E k,g3,hy];refine aH.mk dN (eC ) ?_
   simp
  obtain ⟨wa,ka,rfl⟩:=el a ja rfl (by rintro ⟨n,rfl⟩;exact hn ⟨rfl,_,rfl,rfl⟩);have w1:=a3n (G:=G0) a wa;by_cases g1:a.op=15
  ·match g2:a.kids with
   |[]=>
    unfold rM at w1;simp [g1,g2] at w1;simp [sQ,sP,g1,g2,hy];refine aH.mk jB w1 ?_
    simp [hy];refine aH.mk dN (eC ) ?_
    simp
   |k1::k2::ks=>
    have g3: ¬((ks.length:Int)+1+1=1):=by omega
    unfold rM at w1;simp [g1,g2] at w1;simp [sQ,sP,g1,g2,g3,hy];refine aH.mk jB w1 ?_
    simp [hy];refine aH.mk dN (eC ) ?_
    simp
   |[k]=>
    have g3: ¬k.op=1:=fun h=>hn ⟨g1,k,g2,h⟩
    unfold rM at w1;simp [g1,g2] at w1;simp [sQ,sP,g1,g2,a5v k,a5w k,a2E k,g3,hy];refine aH.mk jB w1 ?_
    simp [hy];refine aH.mk dN (eC ) ?_
    simp
  ·simp [sQ,sP,g1,hy];refine aH.mk jB w1 ?_
   simp [hy];refine aH.mk dN (eC ) ?_
   simp
 |ok t jt=>
  obtain ⟨wb,kt,rfl⟩:=tl t jt hc';subst hc';have wt:=sN (G:=G0) t wb;cases ra with
  |bad n e=>
   have hz:=c0r hra;simp [sQ,sP,hz];refine aH.mk gF wt ?_
   simp;refine aH.mk dN (eC ) ?_
   simp
  |ok a ja=>
  by_cases hn:a.op=15∧∃k,a.kids=[k]∧k.op=1
  ·obtain ⟨g1,k,g2,g3⟩:=hn;simp [sQ,sP,g1,g2,a5v k,a5w k,a2E k,g3];refine aH.mk gF wt ?_
   simp;refine aH.mk dN (eC ) ?_
   simp
  obtain ⟨wa,ka,rfl⟩:=el a ja rfl (by rintro ⟨n,rfl⟩;exact hn ⟨rfl,_,rfl,rfl⟩);have w1:=a3n (G:=G0) a wa;by_cases g1:a.op=15
  ·match g2:a.kids with
   |[]=>
    unfold rM at w1;simp [g1,g2] at w1;simp [sQ,sP,g1,g2];refine aH.mk jB w1 ?_
    simp;refine aH.mk gF wt ?_
    simp;refine aH.mk dN (eC ) ?_
    simp
   |k1::k2::ks=>
    have g3: ¬((ks.length:Int)+1+1=1):=by omega
    unfold rM at w1;simp [g1,g2] at w1;simp [sQ,sP,g1,g2,g3];refine aH.mk jB w1 ?_
    simp;refine aH.mk gF wt ?_
    simp;refine aH.mk dN (eC ) ?_
    simp
   |[k]=>
    have g3: ¬k.op=1:=fun h=>hn ⟨g1,k,g2,h⟩
    unfold rM at w1;simp [g1,g2] at w1;simp [sQ,sP,g1,g2,a5v k,a5w k,a2E k,g3];refine aH.mk jB w1 ?_
    simp;refine aH.mk gF wt ?_
    simp;refine aH.mk dN (eC ) ?_
    simp
  ·simp [sQ,sP,g1];refine aH.mk jB w1 ?_
   simp;refine aH.mk gF wt ?_
   simp;refine aH.mk dN (eC ) ?_
   simp
theorem a7E (xs:List D)(h:a4u Tryz.prog [9] xs)(hsz:szL xs≤1048576):CS Tryz.prog G0 10 xs (.d (.bool true)) none:=by
 match xs,h with
 |[a],⟨h1,_⟩=>obtain ⟨s,rfl,_⟩:=c0X tu9 h1;simp only [szL,szD] at hsz;exact a4b s (by omega)
end
end Go.Proofs.YtjpodcmhcenjjaaGreatDoor
