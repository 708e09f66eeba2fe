/- Lemmas that the law of this claim needs (PwD PwR PwS PwT PwU PwV PwW PwX PwY PtJ VmRH PvA PvD PvE PuA PuE PuG PvC). No condition. -/
import Derived.Test.YtjpodcmhcenjjaaGreatDoorOta
import Derived.Test.YtjpodcmhcenjjaaGreatDoorOtc
import Derived.Test.YtjpodcmhcenjjaaGreatDoorOtd
import Derived.Test.YtjpodcmhcenjjaaGreatDoorOte
import Derived.Test.YtjpodcmhcenjjaaGreatDoorOtf
import Derived.Test.YtjpodcmhcenjjaaGreatDoorOtg
import Derived.Test.YtjpodcmhcenjjaaGreatDoorOth
import Derived.Test.YtjpodcmhcenjjaaGreatDoorOti
import Derived.OrdersHeld
set_option linter.unusedVariables false
set_option linter.unusedSimpArgs false
set_option linter.unusedSectionVars false
set_option maxRecDepth 100000
set_option maxHeartbeats 64000000
open Go.Proofs.Tryz
namespace Go.Proofs.YtjpodcmhcenjjaaGreatDoor
section
section
variable {kw:Nm->Bool} {andP:Pr->Pr->Pr} {aE:List Tok->Nat->Nat->kJ Pr} {l:List Tok} {low m:Nat} {α β γ:Type} {ln:Int}
variable (hE:oK l) (hW:∀i,TkW (aG l i)) (aP:a1S aE l) (hN:∀i e n x,i<l.length->aE l i e=.bad n x->x≠0)
include hE hW aP hN
section
variable {ex:Nat->bE cG} {ex':Nat->RM cG} (hex:∀k,aM l (low+1) (ex k) (ex' k)) (eV:∀k,aB l 1 (ex k))
include hex eV
theorem aM.mZ:aM l low (jH l ex) (sB l ex'):=by unfold jH sB;have aO:∀out:List cG,aB l 0 (ex 0 >>=λt=>pure (out++[t])):=λout=>((eV 0).le (by omega)).bl λ_=>aB.bY _;exact aM.tA hE hW (by decide) (aM.nil (aM.b0 (m:=0) (aM.list hE hW (by decide) (λa=>aM.b0 (hex 0) (eV 0) λt=>aM.bY _) aO _) (aB.list hE aO _) λout=>aM.tA hE hW (by decide) (aM.nil (aM.bY _))))
theorem aM.d5H(op:Int):aM l low (a1Q l ex op) (b6w l ex' op):=by unfold a1Q b6w;exact aM.tA hE hW (by decide) (aM.nil (aM.b0 (hex 0) (eV 0) λe=>aM.tA hE hW (by decide) (aM.nil (aM.bY _))))
theorem aM.f5Z(op:Int):aM l low (aY l [[40]] >>=λ_=>ex 0 >>=λa=>aY l [[44]] >>=λ_=>ex 0 >>=λb=>aY l [[41]] >>=λ_=>pure (cD op [a,b])) (c2n l ex' op):=by unfold c2n;exact aM.tA hE hW (by decide) (aM.nil (aM.b0 (hex 0) (eV 0) λe=>aM.tA hE hW (by decide) (aM.nil (aM.b0 ((hex 0).up (by omega)) (eV 0) λe=>aM.tA hE hW (by decide) (aM.nil (aM.bY _))))))
theorem vY.closed{i:Nat}(h1:low<=i)(h2:i<l.length)(hs:aH l i [40]=true):vY ln (pU kw andP aE l ex i) (c5Q kw andP aE l ex' ⟨i,0,ln⟩):=by
 have hr:aM l low (aY l [[40]] >>=λ_=>ex 0 >>=λe=>cQ l [58] >>=λb=>(if b then jI kw andP aE l >>=λt=>pure {cD 26 [e]with types:=[t]} else pure e:bE cG) >>=λe=>aY l [[41]] >>=λ_=>pure e) (bQ l [40] >>=λ_=>ex' 0 >>=λe=>jQ l [58] >>=λb=>(if b then yA kw andP aE l >>=λt=>pure {cD 26 [e]with types:=[t]} else pure e:RM cG) >>=λe=>bQ l [41] >>=λ_=>pure e):=
  aM.tA hE hW (by decide) (aM.nil (aM.b0 (hex 0) (eV 0) λe=>aM.b0 (aM.b6C hE hW (by decide)) (aB.skip hE _) λb=>aM.b0 (m:=0) (aM.ite (aM.b0 (aM.typ hE hW aP hN) (aB.typ hE aP.pred) λt=>aM.bY _) (aM.bY _)) (aB.ite (((aB.typ hE aP.pred).le (by omega)).bl λ_=>aB.bY _) (aB.bY _)) λe=>aM.tA hE hW (by decide) (aM.nil (aM.bY _))))
 have hr:=hr.sim i ln h1 h2;rw[b1g hs]at hr;unfold pU c5Q;refine vY.f4Y hs ?_;have hk:decide ((eT l 2 ⟨i,0,ln⟩).kind=3)=decide ((aG l (i+1+1)).kind=3):=by rw[c0q hE]
 have h3:cF l 3 [41] ⟨i,0,ln⟩=cV (aG l (i+1+2)) [41]:=a7M hE hW 3 i (by decide);rw[a7M hE hW 1 i (t:=[45]) (by decide),hk,h3, <- Bool.and_assoc]
 show vY ln (if (aH l (i+1) [45]&&decide ((aG l (i+1+1)).kind=3)&&cV (aG l (i+1+2)) [41])=true then _ else _) _
 cases hc:(aH l (i+1) [45]&&decide ((aG l (i+1+1)).kind=3)&&cV (aG l (i+1+2)) [41])with
 |true=>
  rw[if_pos rfl,if_pos rfl];simp only[g0W,decide_eq_true_eq]at hc;have aF:i+2<l.length:=by
   rcases Nat.lt_or_ge (i+2) l.length with h|h
   .exact h
   .have:=b6B hE (i:=i+2) (by omega);rw[hc.1.2]at this;cases this
  rw[b4S aF]
  rfl
 |false=>rw[if_neg (by decide),if_neg (by decide)];exact hr
theorem aM.f2n(ti call:Bool)(nm:Nm){Y:bE (List cG)}(hY:aM l low Y (a0n (λs=>call||cF l 0 [40] s) >>=λc=>if c then sB l ex' else pure [])):aM l low (rY kw andP aE l >>=λts=>Y >>=λks=>pure ⟨if call then 5 else if ti then 4 else 3,nm,0,ks,[],[],ts⟩) (a9A kw andP aE l ex' ti call nm):=by unfold a9A;refine aM.b0 (aM.types hE hW aP hN) (aB.types hE aP.pred) λts=>?_;exact⟨λi ln h1 h2=>vY.yK (hY.sim i ln h1 h2) (λa=>xF.bY _) λa j h=>rfl,xF.yK hY.tR λa=>xF.bY _⟩
theorem vY.app{i:Nat}(h1:low<=i)(h2:i<l.length)(hwt:(jV kw (aG l i)||qJ (aG l i))=true):
  vY ln (if jV kw (aG l i) then
  (if !aH l (i+1) [91]&& !aH l (i+1) [40] then .ok {cD 3 []with name:=(aG l i).text} (i+1)
  else(do
   let ts <- rY kw andP aE l
   let ks <- jH l ex
   pure {cD 5 ks with name:=(aG l i).text,types:=ts}:bE cG) (i+1))
 else(do
  let ts <- rY kw andP aE l
  let ks <- (λj=>if aH l j [40] then jH l ex j else .ok [] j:bE (List cG))
  pure {cD 4 ks with name:=(aG l i).text,types:=ts}:bE cG) (i+1)) (b2r kw andP aE l ex' ⟨i,0,ln⟩):=by
 have hn:i+1<l.length:=by
  simp only[g1i]at hwt;rcases hwt with h|h
  .exact a3O hE h2 h
  .exact a3N hE h2 h
 have ht:rZ l true ⟨i,0,ln⟩=((aG l i).text,⟨i+1,0,ln⟩):=by unfold rZ;rw[if_pos ⟨rfl,rfl⟩,a0E (by omega)]
 unfold b2r;rw[ht,a7N h2,a7M hE hW 1 i (t:=[91]) (by decide),a7M hE hW 1 i (t:=[40]) (by decide)];have hA:=aM.mZ hE hW aP hN hex eV;have hT:aM l low (jH l ex) (a0n (λs=>true||cF l 0 [40] s) >>=λc=>if c then sB l ex' else pure []):=⟨λi ln h1 h2=>hA.sim i ln h1 h2,hA.tR⟩;have hF:aM l low (λj=>if aH l j [40] then jH l ex j else .ok [] j:bE (List cG)) (a0n (λs=>false||cF l 0 [40] s) >>=λc=>if c then sB l ex' else pure []):=by
  refine aM.test (λb=>?_) λi ln h1 h2=>?_
  .cases b
   .exact xF.bY _
   .exact hA.tR
  .rw[Bool.false_or,qA hE hW i (t:=[40]) (by decide)];cases aH l i [40]with
   |true=>exact hA.sim i ln h1 h2
   |false=>rfl
 cases hti:qJ (aG l i)with
 |true=>
  have hw:jV kw (aG l i)=false:=by unfold qJ at hti;unfold jV;simp only[decide_eq_true_eq]at hti;simp[hti]
  rw[hw,if_neg (by decide)];exact(aM.f2n hE hW aP hN hex eV true false _ hF).sim (i+1) ln (by omega) hn
 |false=>
  rw[hti,Bool.or_false]at hwt;rw[hwt,if_pos rfl];cases hc:(aH l (i+1) [91]||aH l (i+1) [40])with
  |true=>
   have e:(!aH l (i+1) [91]&& !aH l (i+1) [40])=false:=by rw[<-Bool.not_or,hc];rfl
   rw[e,if_neg (by decide)];exact(aM.f2n hE hW aP hN hex eV false true _ hT).sim (i+1) ln (by omega) hn
  |false=>
   have e:(!aH l (i+1) [91]&& !aH l (i+1) [40])=true:=by rw[<-Bool.not_or,hc];rfl
   rw[e,if_pos rfl];simp only[Bool.or_eq_false_iff]at hc;have q1:cF l 0 [91] ⟨i+1,0,ln⟩=false:=(qA hE hW _ (by decide)).trans hc.1;have q2:(false||cF l 0 [40] ⟨i+1,0,ln⟩)=false:=(qA hE hW _ (by decide)).trans hc.2
   show a9A kw andP aE l ex' false false (aG l i).text ⟨i+1,0,ln⟩=_
   unfold a9A;rw[cO,d6o q1,a7K,cO,d6o q2]
   rfl
theorem aM.c0d:aM l low (xW kw andP aE l ex) (a7L kw andP aE l ex'):=⟨λi ln h1 h2=>by
 unfold xW a7L;rw[if_pos rfl,a0E h2,uU hE hW h2 (t:=[116,114,117,101]) (by decide) (by decide),uU hE hW h2 (t:=[102,97,108,115,101]) (by decide) (by decide),uU hE hW h2 (t:=[110,101,119]) (by decide) (by decide),uU hE hW h2 (t:=[103,101,116]) (by decide) (by decide),uU hE hW h2 (t:=[115,101,116]) (by decide) (by decide),qA hE hW i (t:=[40]) (by decide),a4Q kw h2,a7N h2];by_cases k3:(aG l i).kind=3
 .rw[if_pos k3,if_pos k3];rfl
 rw[if_neg k3,if_neg k3];by_cases b1:aH l i [116,114,117,101]=true
 .rw[if_pos b1,if_pos b1];rfl
 rw[if_neg b1,if_neg b1];by_cases b2:aH l i [102,97,108,115,101]=true
 .rw[if_pos b2,if_pos b2];rfl
 rw[if_neg b2,if_neg b2];by_cases b3:aH l i [110,101,119]=true
 .rw[if_pos b3,if_pos b3];exact(aM.d5H hE hW aP hN hex eV _).sim (i+1) ln (by omega) (aK hE h2 b3)
 rw[if_neg b3,if_neg b3];by_cases b4:aH l i [103,101,116]=true
 .rw[if_pos b4,if_pos b4];exact(aM.d5H hE hW aP hN hex eV _).sim (i+1) ln (by omega) (aK hE h2 b4)
 rw[if_neg b4,if_neg b4];by_cases b5:aH l i [115,101,116]=true
 .rw[if_pos b5,if_pos b5];exact(aM.f5Z hE hW aP hN hex eV _).sim (i+1) ln (by omega) (aK hE h2 b5)
 rw[if_neg b5,if_neg b5];cases b6:aH l i [40]with
 |true=>
  have k4:(aG l i).kind=4:=by have e:aH l i [40]=_:=(hW i).sg (by decide);rw[e]at b6;simp only[g0W,decide_eq_true_eq]at b6;exact b6.1
  have hw:jV kw (aG l i)=false:=by unfold jV;simp[k4]
  have ht:qJ (aG l i)=false:=by unfold qJ;simp[k4]
  rw[hw,ht,if_neg (by decide),if_neg (by decide),if_pos rfl];exact vY.closed hE hW aP hN hex eV h1 h2 b6
 |false=>
  rw[if_neg (show ¬false=true by decide)];cases hwt:(jV kw (aG l i)||qJ (aG l i))with
  |true=>
   have h:=vY.app (ln:=ln) (andP:=andP) hE hW aP hN hex eV h1 h2 hwt;rw[if_pos rfl];cases hw:jV kw (aG l i)with
   |true=>rw[hw,if_pos rfl]at h;rw[if_pos rfl];exact h
   |false=>rw[hw,Bool.false_or]at hwt;rw[hw,if_neg (by decide)]at h;rw[if_neg (by decide),hwt,if_pos rfl];exact h
  |false=>simp only[Bool.or_eq_false_iff]at hwt;rw[hwt.1,hwt.2,if_neg (by decide),if_neg (by decide),if_neg (by decide)];unfold pU;exact vY.e1H b6 (vY.fail h2 _),λs hs=>by
 unfold a7L;rw[if_neg hs]⟩
theorem aM.unG:aM l low (a3K kw andP aE l ex) (b3D kw andP aE l ex'):=⟨λi ln h1 h2=>by
 unfold a3K b3D;rw[qA hE hW i (t:=[45]) (by decide)];cases hs:aH l i [45]with
 |true=>exact(aM.b0 (hex 7) (eV 7) λe=>aM.bY _).sim (i+1) ln (by omega) (aK hE h2 hs)
 |false=>exact(aM.c0d hE hW aP hN hex eV).sim i ln h1 h2,λs hs=>by
 unfold b3D;rw[vZ hs,if_neg (by decide)];exact(aM.c0d hE hW aP hN hex eV).tR s hs⟩
end
def e2U(ops:List (Nm×Int))(ops':List (Nm×Bool×Int)):Bool:=decide (ops=ops'.map λp=>(p.1,p.2.2))&&ops'.all λp=>(if p.2.1 then smU (p.1.headD 0)&& !caU (p.1.headD 0) else sgN p.1)&& !decide (p.2.2=0)
omit aP hN in
theorem d7L{ops:List (Nm×Int)}:∀ {ops':List (Nm×Bool×Int)},e2U ops ops'=true->∀ {i:Nat},i<l.length->vT l ops' ⟨i,0,ln⟩=(match ops.find? λp=>aH l i p.1 with
  |none=>0
  |some p=>p.2)/\∀p,(ops.find? λp=>aH l i p.1)=some p->p.2≠0:=λ{ops'} h {i} hi=>by
 simp only[e2U,g0W,decide_eq_true_eq]at h;obtain⟨rfl,h⟩:=h;have hp:∀p∈ops',(if p.2.1 then oL l p.1 ⟨i,0,ln⟩ else cF l 0 p.1 ⟨i,0,ln⟩)=aH l i p.1:=λp hp=>by
  have h:=g0Z.1 h p hp;simp only[g0W]at h;cases hb:p.2.1 with
  |true=>have h:=h.1;rw[hb,if_pos rfl]at h;simp only[g0W,Bool.not_eq_true']at h;rw[if_pos rfl];exact uU hE hW hi h.1 h.2
  |false=>have h:=h.1;rw[hb,if_neg (by decide)]at h;rw[if_neg (by decide)];exact qA hE hW i h
 unfold vT;rw[find_congr hp,List.find?_map]
 show(match ops'.find? (λp=>aH l i p.1)with|none=>0|some p=>p.2.2)=(match (ops'.find? (λp=>aH l i p.1)).map (λp=>(p.1,p.2.2))with|none=>0|some p=>p.2)/\∀p,(ops'.find? (λp=>aH l i p.1)).map (λp=>(p.1,p.2.2))=some p->p.2≠0
 cases hf:ops'.find? (λp=>aH l i p.1)with
 |none=>exact⟨rfl,λp h=>by cases h⟩
 |some q=>refine⟨rfl,λp hp=>?_⟩;cases hp;have h:=g0Z.1 h q (List.mem_of_find?_eq_some hf);simp only[g0W,Bool.not_eq_true',decide_eq_false_iff_not]at h;exact h.2
omit aP hN in
theorem vY.chain{ops:List (Nm×Int)}{ops':List (Nm×Bool×Int)}(ho:e2U ops ops'=true){one:bE cG}{pP:RM cG}(h0:aM l low one pP)(a0:aB l 0 one):∀(g:Nat) (e:cG) (i:Nat),low<=i->i<l.length->l.length<g+i->vY ln (gB l ops one g e i) (yB l ops' pP g e ⟨i,0,ln⟩)
 |0,e,i,h1,h2,h3=>absurd h3 (by omega)
 |g+1,e,i,h1,h2,h3=>by
  unfold gB yB;have hq:=d7L hE hW (ln:=ln) ho h2;rw[hq.1];cases hf:ops.find? λp=>aH l i p.1 with
  |none=>
   rw[if_neg (λh=>h.2 rfl)]
   rfl
  |some p=>
   have hp:=hq.2 p hf;have hn:=aK hE h2 (show aH l i p.1=true from List.find?_some (p:=λq:Nm×Int=>aH l i q.1) hf);rw[if_pos ⟨rfl,hp⟩];have h:=h0.sim (i+1) ln (by omega) hn;simp only;cases hx:one (i+1)with
   |bad n x=>
    rw[hx]at h;obtain⟨k1,k2,k3⟩:x≠0/\_:=h;have k4:(pP ⟨i+1,0,ln⟩).2.er≠0:=by rw[k2];exact k1
    have hk:∀(g:Nat) (e:cG),(yB l ops' pP g e (pP ⟨i+1,0,ln⟩).2).2=(pP ⟨i+1,0,ln⟩).2:=λg e=>by
     cases g with
     |zero=>rfl
     |succ g=>unfold yB;rw[if_neg (λh=>k4 h.1)]
    exact⟨k1,by rw[hk];exact k2,by rw[hk];exact k3⟩
   |ok x j=>rw[hx]at h;have h:pP ⟨i+1,0,ln⟩=(x,⟨j,0,ln⟩):=h;have ha:=a0 (i+1) x j hn hx;rw[h];exact vY.chain ho h0 a0 g _ j (by omega) ha.2 (by omega)
omit aP hN in
theorem aM.lvl{ops:List (Nm×Int)}{ops':List (Nm×Bool×Int)}(ho:e2U ops ops'=true){one:bE cG}{pP:RM cG}(h0:aM l low one pP)(a0:aB l 1 one):aM l low (a0M l ops one) (b3E l ops' pP):=by unfold a0M b3E;refine aM.b0 h0 a0 λe=>⟨λi ln h1 h2=>vY.chain hE hW ho h0 (a0.le (by omega)) _ _ _ h1 h2 (by omega),λs hs=>?_⟩;unfold yB;rw[if_neg (λh=>hs h.1)]
section
variable {ex:Nat->bE cG} {ex':Nat->RM cG} (hex:∀k,aM l (low+1) (ex k) (ex' k)) (eV:∀k,aB l 1 (ex k))
include hex eV
theorem aM.a6B:aM l low (oR kw andP aE l ex) (a0D kw andP aE l ex'):=aM.lvl hE hW (by decide) (aM.lvl hE hW (by decide) (aM.unG hE hW aP hN hex eV) (aB.unG hE eV aP.pred)) (aB.c5n hE eV aP.pred)
theorem aM.a8g:aM l low (a3l kw andP aE l ex) (b6x kw andP aE l ex'):=by
 unfold a3l b6x;have hs:=aM.a6B (kw:=kw) (andP:=andP) hE hW aP hN hex eV;have asu:=aB.a6B (kw:=kw) (andP:=andP) hE eV aP.pred;refine aM.b0 hs asu λe=>⟨λi ln h1 h2=>?_,λs h=>by rw[if_neg (by rw[b1f h];decide)]⟩;rw[a0E h2];have go:∀(s:Nm) (F:cG->cG),aH l i s=true->vY ln ((oR kw andP aE l ex >>=λx=>pure (F x)) (i+1)) ((a0D kw andP aE l ex' >>=λx=>pure (F x)) ⟨i+1,0,ln⟩):=λs F h=>(aM.b0 hs asu λx=>aM.bY _).sim (i+1) ln (by omega) (aK hE h2 h);have ee:∀s,sgN s=true->aH l i s=(decide ((aG l i).kind=4)&&decide ((aG l i).text=s)):=λs h=>(hW i).sg h;have e1:=ee [61,61] (by decide);have e2:=ee [33,61] (by decide);have e3:=ee [60] (by decide);have e4:=ee [60,61] (by decide);have e5:=ee [62] (by decide);have e6:=ee [62,61] (by decide);by_cases k4:(aG l i).kind=4
 .rw[if_pos k4];simp only[k4,decide_true,Bool.true_and]at e1 e2 e3 e4 e5 e6;by_cases x1:(aG l i).text=[61,61]
  .rw[if_pos x1,if_pos (by rw[e1];simpa using x1)];exact go [61,61] (λx=>cD 16 [e,x]) (by rw[e1];simpa using x1)
  rw[if_neg x1,if_neg (by rw[e1];simpa using x1)];by_cases x2:(aG l i).text=[33,61]
  .rw[if_pos x2,if_pos (by rw[e2];simpa using x2)];exact go [33,61] _ (by rw[e2];simpa using x2)
  rw[if_neg x2,if_neg (by rw[e2];simpa using x2)];by_cases x3:(aG l i).text=[60]
  .rw[if_pos x3,if_pos (by rw[e3];simpa using x3)];exact go [60] _ (by rw[e3];simpa using x3)
  rw[if_neg x3,if_neg (by rw[e3];simpa using x3)];by_cases x4:(aG l i).text=[60,61]
  .rw[if_pos x4,if_pos (by rw[e4];simpa using x4)];exact go [60,61] _ (by rw[e4];simpa using x4)
  rw[if_neg x4,if_neg (by rw[e4];simpa using x4)];by_cases x5:(aG l i).text=[62]
  .rw[if_pos x5,if_pos (by rw[e5];simpa using x5)];exact go [62] _ (by rw[e5];simpa using x5)
  rw[if_neg x5,if_neg (by rw[e5];simpa using x5)];by_cases x6:(aG l i).text=[62,61]
  .rw[if_pos x6,if_pos (by rw[e6];simpa using x6)];exact go [62,61] _ (by rw[e6];simpa using x6)
  rw[if_neg x6,if_neg (by rw[e6];simpa using x6)]
  rfl
 .rw[if_neg k4];simp only[k4,decide_false,Bool.false_and]at e1 e2 e3 e4 e5 e6;rw[e1,e2,e3,e4,e5,e6]
  rfl
theorem aM.a8h:aM l low (zA kw andP aE l ex) (a9B kw andP aE l ex'):=⟨λi ln h1 h2=>by
 unfold zA a9B;rw[qA hE hW i (t:=[33]) (by decide)];cases hs:aH l i [33]with
 |true=>exact(aM.b0 (hex 3) (eV 3) λe=>aM.bY _).sim (i+1) ln (by omega) (aK hE h2 hs)
 |false=>exact(aM.a8g hE hW aP hN hex eV).sim i ln h1 h2,λs hs=>by
 unfold a9B;rw[vZ hs,if_neg (by decide)];exact(aM.a8g hE hW aP hN hex eV).tR s hs⟩
theorem aM.orG:aM l low (b6b kw andP aE l ex) (d6k kw andP aE l ex'):=aM.lvl hE hW (by decide) (aM.lvl hE hW (by decide) (aM.a8h hE hW aP hN hex eV) (aB.a8h hE eV aP.pred)) (aB.lvl hE (aB.a8h hE eV aP.pred))
omit aP hN hex eV in
theorem aM.e2V:aM l low (λi=>if aH l i [40] then gA kw l i else .ok [] i:bE (List Nm)) (a0n (cF l 0 [40]) >>=λb=>if b then sA kw l else pure []):=by
 refine aM.test (λb=>?_) λi ln h1 h2=>?_
 .cases b
  .exact xF.bY _
  .exact(aM.words (low:=0) hE hW).tR
 .rw[qA hE hW i (t:=[40]) (by decide)];cases aH l i [40]with
  |true=>exact(aM.words (low:=low) hE hW).sim i ln h1 h2
  |false=>rfl
omit aP hN hex eV hW in
theorem aB.e2V:aB l 0 (λi=>if aH l i [40] then gA kw l i else .ok [] i:bE (List Nm)):=λi b j hi h=>by
 have h:(if aH l i [40]=true then gA kw l i else .ok [] i)=.ok b j:=h;split at h
 .exact((aB.words hE).le (by omega)) _ _ _ hi h
 .cases h;omega
omit aP hN in
theorem aM.c8z:aM l (low+1) (vQ kw l ex) (ex' 0 >>=λa=>wT l [111,102] >>=λ_=>b1c kw l ex' >>=λalts=>pure {cD 9 [a]with alts:=alts}):=by unfold vQ b1c;have aO:∀out:List (Nm×List Nm×cG),aB l 0 (gT l >>=λc=>(λi=>if aH l i [40] then gA kw l i else .ok [] i:bE (List Nm)) >>=λns=>aY l [[45,62]] >>=λ_=>ex 0 >>=λb=>pure (out++[(c,ns,b)])):=λout=>((aB.title hE).le (by omega)).bl λc=>(aB.e2V hE).bl λns=>((aB.exp hE _ _).le (by omega)).bl λ_=>((eV 0).le (by omega)).bl λ_=>aB.bY _;refine aM.b0 (hex 0) (eV 0) λe=>aM.key hE hW (by decide) (by decide) λ_=>aM.a7O (aM.tA hE hW (by decide) (aM.nil (aM.a7O (aM.b0 (m:=0) (aM.list hE hW (by decide) (λout=>?_) aO _) (aB.list hE aO _) λalts=>aM.a7O (aM.tA hE hW (by decide) (aM.nil (aM.bY _)))))));exact aM.b0 aM.title (aB.title hE) λc=>aM.d6n (aM.b0 (m:=0) (aM.e2V hE hW) (aB.e2V hE) λns=>aM.tA hE hW (by decide) (aM.nil (aM.b0 ((hex 0).up (by omega)) (eV 0) λb=>aM.bY _)))
theorem aM.e7k:aM l (low+1) (a3k kw andP aE l ex) (a1U kw andP aE l >>=λps=>bQ l [45,62] >>=λ_=>ex' 0 >>=λe=>pure {cD 6 [e]with params:=ps}):=by unfold a3k a1U;have aT:=aB.typ (kw:=kw) (andP:=andP) hE aP.pred;have aO:∀out:List (Nm×Ty),aB l 0 (bW kw l >>=λw=>cQ l [58] >>=λb=>(if b then jI kw andP aE l else pure mO) >>=λt=>pure (out++[(w,t)])):=λout=>((aB.word hE).le (by omega)).bl λ_=>(aB.skip hE _).bl λ_=>(aB.ite (aT.le (by omega)) (aB.bY _)).bl λ_=>aB.bY _;refine aM.a7O (aM.tA hE hW (by decide) (aM.nil (aM.a7O (aM.b0 (m:=0) (aM.list hE hW (by decide) (λout=>?_) aO _) (aB.list hE aO _) λps=>aM.a7O (aM.tA hE hW (by decide) (aM.f4W (aM.tA hE hW (by decide) (aM.nil (aM.b0 ((hex 0).up (by omega)) (eV 0) λe=>aM.bY _)))))))));exact aM.b0 aM.word (aB.word hE) λw=>aM.b0 (aM.b6C hE hW (by decide)) (aB.skip hE _) λb=>aM.b0 (m:=0) (aM.ite (aM.typ hE hW aP hN) (aM.bY _)) (aB.ite (aT.le (by omega)) (aB.bY _)) λt=>aM.bY _
theorem aM.e7j:aM l (low+1) (a3j kw andP aE l ex) (b6y kw andP aE l ex'):=by unfold a3j b6y;have aT:=aB.typ (kw:=kw) (andP:=andP) hE aP.pred;exact aM.b0 aM.word (aB.word hE) λw=>aM.b0 (aM.b6C hE hW (by decide)) (aB.skip hE _) λb=>aM.b0 (m:=0) (aM.ite (aM.b0 (aM.typ hE hW aP hN) aT λt=>aM.bY _) (aM.bY _)) (aB.ite ((aT.le (by omega)).bl λt=>aB.bY _) (aB.bY _)) λts=>aM.tA hE hW (by decide) (aM.nil (aM.b0 ((hex 0).up (by omega)) (eV 0) λa=>aM.key hE hW (by decide) (by decide) λ_=>aM.nil (aM.b0 ((hex 0).up (by omega)) (eV 0) λc=>aM.bY _)))
theorem aM.exG:aM l low (a6u kw andP aE l ex) (b6z kw andP aE l ex'):=⟨λi ln h1 h2=>by
 unfold a6u b6z;rw[if_pos rfl,uU hE hW h2 (t:=[108,101,116]) (by decide) (by decide),uU hE hW h2 (t:=[105,102]) (by decide) (by decide),uU hE hW h2 (t:=[99,97,115,101]) (by decide) (by decide),uU hE hW h2 (t:=[102,117,110]) (by decide) (by decide),uU hE hW h2 (t:=[117,115,101]) (by decide) (by decide)];by_cases b1:aH l i [108,101,116]=true
 .rw[if_pos b1,if_pos b1];exact(aM.e7j hE hW aP hN hex eV).sim (i+1) ln (by omega) (aK hE h2 b1)
 rw[if_neg b1,if_neg b1];by_cases b2:aH l i [105,102]=true
 .rw[if_pos b2,if_pos b2];have h:aM l (low+1) (ex 0 >>=λa=>aY l [[116,104,101,110]] >>=λ_=>ex 0 >>=λb=>aY l [[101,108,115,101]] >>=λ_=>ex 0 >>=λc=>pure (cD 8 [a,b,c])) (ex' 0 >>=λa=>wT l [116,104,101,110] >>=λ_=>ex' 0 >>=λb=>wT l [101,108,115,101] >>=λ_=>ex' 0 >>=λc=>pure (cD 8 [a,b,c])):=aM.b0 (hex 0) (eV 0) λa=>aM.key hE hW (by decide) (by decide) λ_=>aM.nil (aM.b0 ((hex 0).up (by omega)) (eV 0) λb=>aM.key hE hW (by decide) (by decide) λ_=>aM.nil (aM.b0 ((hex 0).up (by omega)) (eV 0) λc=>aM.bY _));exact h.sim (i+1) ln (by omega) (aK hE h2 b2)
 rw[if_neg b2,if_neg b2];by_cases b3:aH l i [99,97,115,101]=true
 .rw[if_pos b3,if_pos b3];exact(aM.c8z (kw:=kw) hE hW hex eV).sim (i+1) ln (by omega) (aK hE h2 b3)
 rw[if_neg b3,if_neg b3];by_cases b4:aH l i [102,117,110]=true
 .rw[if_pos b4,if_pos b4];exact(aM.e7k hE hW aP hN hex eV).sim (i+1) ln (by omega) (aK hE h2 b4)
 rw[if_neg b4,if_neg b4];by_cases b5:aH l i [117,115,101]=true
 .rw[if_pos b5,if_pos b5];have h:aM l (low+1) (bW kw l >>=λname=>jH l ex >>=λks=>aY l [[105,110]] >>=λ_=>ex 0 >>=λb=>pure {cD 25 (ks++[b])with name:=name}) (oF kw l >>=λname=>sB l ex' >>=λks=>wT l [105,110] >>=λ_=>ex' 0 >>=λb=>pure {cD 25 (ks++[b])with name:=name}):=aM.b0 aM.word (aB.word hE) λname=>aM.b0 ((aM.mZ hE hW aP hN hex eV).up (by omega)) (aB.mZ hE eV) λks=>aM.key hE hW (by decide) (by decide) λ_=>aM.nil (aM.b0 ((hex 0).up (by omega)) (eV 0) λc=>aM.bY _);exact h.sim (i+1) ln (by omega) (aK hE h2 b5)
 rw[if_neg b5,if_neg b5];exact(aM.orG hE hW aP hN hex eV).sim i ln h1 h2,λs hs=>by
 unfold b6z;rw[if_neg hs]⟩
end
theorem aM.exF:∀(n low:Nat),l.length<n+low->∀k,aM l low (vD kw andP aE l n k) (b1d kw andP aE l n k)
 |0,low,h,k=>⟨λi ln h1 h2=>absurd h (by omega),λs _=>rfl⟩
 |n+1,low,h,k=>by
  have ih:=aM.exF n (low+1) (by omega);have ax:=λk=>aB.exF (kw:=kw) (andP:=andP) hE aP.pred n k;unfold vD b1d;by_cases k7:k=7
  .rw[if_pos k7,if_pos k7];exact aM.unG hE hW aP hN ih ax
  rw[if_neg k7,if_neg k7];by_cases k3:k=3
  .rw[if_pos k3,if_pos k3];exact aM.a8h hE hW aP hN ih ax
  rw[if_neg k3,if_neg k3];exact aM.exG hE hW aP hN ih ax
theorem aM.expr:aM l low (a4B kw andP aE l) (c8N kw andP aE l):=aM.exF hE hW aP hN _ _ (by omega) 0
end
end
section
open Go Go.VM
variable {G:GT}
theorem a7m:VM.Enters prog 105:=.mk func105 rfl
theorem a2e:VM.Enters prog 195:=.mk func195 rfl
theorem b9o:VM.Enters prog 196:=.mk func196 rfl
theorem a7n:VM.Enters prog 197:=.mk func197 rfl
theorem gX:VM.Enters prog 56:=.mk func56 rfl
theorem kH:VM.Enters prog 106:=.mk func106 rfl
theorem b1P:VM.Enters prog 150:=.mk func150 rfl
section
variable {aE:List Tok->Nat->Nat->kJ Pr} {l:List Tok} (hV:vW G aE l)
include hV
omit hV in
theorem RfG.drop{α:Type}{f:FuncId}{ds:List D}{s:dW}{y:α×dW}{enc:α->DV}{own:List (TypeId×List VM.Loc)}(h:RfG G f ds l s y enc own):eR G f ds l s y enc:=CH.drop (own1:=own) h
section
variable {ex:Nat->bE cG} {ex':Nat->RM cG} {low:Nat} (hM:∀k,aM l (low+1) (ex k) (ex' k)) (ax:∀k,aB l 1 (ex k)) (h0:∀s,dS l s->(s.er=0->low+1<=s.pl)->eR G 56 [] l s (ex' 0 s) gQ)
include hM ax h0
abbrev e5m(ex':Nat->RM cG)(out:List cG):RM (List cG):=do let e <- ex' 0;pure (out++[e])
theorem b3Z(s:dW)(hv:dS l s)(cC:s.er=0->low<=s.pl):RfG G 105 [] l s (sB l ex' s) (λes=>.d (.sl (es.map a0Y))) [(30,[.t 0])]:=by
 have hl:=hV.len;obtain⟨s0,rfl⟩:∃s0,s0=s:=⟨_,rfl⟩;have v0:=hv;refine eR.bL func105 rfl ntmps105 rfl ?_;intro Q Q0;unfold sB at Q0;simp;refine rfM Q0 v0 hV.fin λu1 s1 h1 Q1 p1 v1=>?_;have l1:s1.er=0->low+1<=s1.pl:=λh=>by have:=p1 h;have:=cC this.1;omega
 simp;refine b2s hV.fin [44] (e5m ex') (λa=>a.length) (λ_=>True) 4 (λa=>[(3,.d (.sl (a.map a0Y)))]) (λ_ s=>rfH l s) (λ_=>[(30,[.t 3])]) (l.length+2) [] s1 (by omega) v1 rfl trivial (by simp) ?_ ?_
 .intro a s0 e0 i0 bs la _ R hR;have v0:dS l s0:=λ_=>i0;have l0:s0.er=0->low+1<=s0.pl:=λ_=>Nat.le_trans (l1 bs.1) bs.2;simp[e0];refine eB gX (h0 s0 v0 l0) (λe s1 h1=>?_);have p1:RfP l 1 s0 s1:=(hM 0).kL (ax 0) v0 l0 h1;have v1:=dS.next p1;simp;refine kK (by first|omega|(simp[bT];omega)|exact⟨λx hx=>by obtain⟨y,_,rfl⟩:=List.mem_map.1 hx;first|rfl|(rw[bT];rfl),by omega⟩|exact⟨rfl,by omega⟩) ?_;simp;refine eB cT (eQ (by omega) [44] s1 v1) (λbh sh hh=>?_);simp;refine hR _ (a++[e]) s1 (by simp only[cO,h1];rfl) (by rw[hh];simp[bT]) (λh=>?_) (by simp) trivial;have:=(p1) h;omega
 ·
  intro a s2 m hm sE la hJ v2 hy R;have hm':m=false\/(m=true/\ ¬s2.er=0):=by
   cases m
   .exact .inl rfl
   .rcases hm with h|h
    .cases h
    .exact .inr ⟨rfl,h⟩
  have Q2:=Q1.step (x:=sZ l [44] (e5m ex') []) hy;rcases hm' with rfl|⟨rfl,h⟩
  all_goals
   first
    |simp[h]
    |simp
   refine rfM Q2 v2 hV.fin λu3 s3 h3 Q3 p3 v3=>?_;simp;exact Q3.ok _ _ (.inr rfl) (by simp)
theorem c9I(s:dW)(hv:dS l s)(cC:s.er=0->low<=s.pl):eR G 105 [] l s (sB l ex' s) (λes=>.d (.sl (es.map a0Y))):=RfG.drop (b3Z hV hM ax h0 s hv cC)
theorem c3t(s:dW)(hn:∀i, -9223372036854775807<=(aG l i).n/\(aG l i).n<=9223372036854775807)(he:s.er=0)(hv:s.pl<l.length)(cC:low<=s.pl):eR G 196 [] l s (c5Q aJ aZ aE l ex' s) gQ:=by
 have hl:=hV.len;obtain⟨s0,rfl⟩:∃s0,s0=s:=⟨_,rfl⟩;have v0:dS l s0:=λ_=>hv;have hs1:eR G 92 [.int .i64 1,.str [45]] l s0 _ _:=uB (by omega) 1 [45] s0 v0 (by omega);have hs3:eR G 92 [.int .i64 3,.str [41]] l s0 _ _:=uB (by omega) 3 [41] s0 v0 (by omega);have hp2:eR G 45 [.int .i64 2] l s0 _ _:=oG (by omega) 2 s0 v0 (by omega);have hnn: -9223372036854775807<=(eT l 2 s0).n/\(eT l 2 s0).n<=9223372036854775807:=by
  unfold eT;split
  .exact hn _
  .simp
 refine eR.a0k func196 rfl ntmps196 rfl ?_;intro Q Q0;unfold c5Q at Q0;refine SW.jW (SW.xk ?_);simp;obtain⟨c,hc⟩:∃c,(cF l 1 [45] s0&&(decide ((eT l 2 s0).kind=3)&&cF l 3 [41] s0))=c:=⟨_,rfl⟩;refine SW.jW (SW.d2g [(16,.d (.bool c))] ([(2,.cells [.d (.int .i64 0),.d (.str []),.d (.int .i64 0),.d .aD,.d .aD,.d .aD,.d .aD])]++rfH l s0) [] (SW.xk ?_) (SW.xk ?_))
 .simp;refine eB dB hs1 (λb x hx=>?_);cases hx;rcases Bool.eq_false_or_eq_true (cF l 1 [45] s0)with w1|w1
  .rw[w1];simp;refine eB gU hp2 (λT x hx=>?_);cases hx;generalize eT l 2 s0=T at hc|-;obtain⟨a,b,n,d⟩:=T;by_cases k3:a=3
   .simp[bJ,k3];refine eB dB hs3 (λb x hx=>?_);cases hx;simp[<-hc,w1,k3]
   .simp[bJ,k3];simp[<-hc,w1,k3]
  .rw[w1];simp[<-hc,w1]
 rw[hc]at Q0;cases c with
 |true=>
  have Q0:=Q0.tH rfl;have aF:s0.pl+2<l.length:=by
   simp only[g0W,decide_eq_true_eq]at hc;have h:=hc.2.1;unfold eT at h;split at h
   .rename_i h2;exact h2.2
   .cases h
  have hw:IntKind.i64.wrap ((s0.pl:Int)+4)=((s0.pl+4:Nat):Int):=by rw[wrap64 (by omega)];omega
  simp;refine eB gU hp2 (λT x hx=>?_);cases hx;generalize eT l 2 s0=T at hnn Q0|-;obtain⟨a,b,n,d⟩:=T;simp only at hnn;have hwn:IntKind.i64.wrap (-n)= -n:=wrap64 (by omega);simp[bJ,hw,hwn];exact Q0.ok _ _ (.inr rfl) (by simp)
 |false=>
  have Q0:=Q0.rF (by decide);simp;refine SW.xk ?_;simp;refine rfM Q0 v0 hV.fin λu1 s1 h1 Q1 p1 v1=>?_;have l1:s1.er=0->low+1<=s1.pl:=λh=>by have:=p1 h;omega
  simp;refine eB gX (h0 s1 v1 l1) (λe s2 h2=>?_);have Q2:=Q1.step h2;have p2:RfP l 1 s1 s2:=(hM 0).kL (ax 0) v1 l1 h2;have v2:=dS.next p2;simp;refine eB cT (eQ (by omega) [58] s2 v2) (λb3 s3 h3=>?_);have Q3:=Q2.step h3;have p3:=a4W hV.fin v2 h3;have v3:=dS.next p3;rcases mK hV.fin h3 with⟨_,rfl,_,_,_,_⟩|⟨_,rfl,_⟩
  .simp;refine kP 3 [2] (.op 0 (.op 1 (.call [4,5,6] .none) (.call [1,4,5,6] .none)) (.call [0,1,4,5,6] .none)) true (by kernel_rfl) (by kernel_rfl) ?_;simp;refine⟨⟨?_,?_⟩,?_⟩
   all_goals
    refine rfZ sC (a7S hV s3 v3) (λt s4 h4=>?_);have p4:=a7T hV v3 h4;have v4:=dS.next p4;rw[if_pos rfl]at Q3;have Q4:=Q3.step (show(yA aJ aZ aE l >>=λt=>pure {cD 26 [e]with types:=[t]}:RM cG) s3=(_,s4) by rw[cO,h4];rfl);refine cJ.mk ?_;simp;refine rfM Q4 v4 hV.fin λu5 s5 h5 Q5 p5 v5=>?_;simp;exact Q5.ok _ _ (.inr rfl) (by simp[bT,bV])
  .simp;rw[if_neg (by decide)]at Q3;have Q3:=Q3.step (show(pure e:RM cG) s3=(e,s3) from rfl);refine rfM Q3 v3 hV.fin λu4 s4 h4 Q4 p4 v4=>?_;simp;exact Q4.ok _ _ (.inr rfl) (by simp)
end
end
end
section
open Go Go.VM
variable {G:GT}
theorem c7e:VM.Enters prog 185:=.mk func185 rfl
def b2M(l:List Tok)(ex:RM cG):Nat->Nat->List cG->RM (List cG)
 |0,_,ks=>pure ks
 |g+1,i,ks=>do
  (if 0<i then bQ l [44] else pure ())
  let e <- ex
  b2M l ex g (i+1) (ks++[e])
section
variable {aE:List Tok->Nat->Nat->kJ Pr} {l:List Tok} (hV:vW G aE l)
include hV
section
variable {ex:Nat->bE cG} {ex':Nat->RM cG} {low:Nat} (hM:∀k,aM l (low+1) (ex k) (ex' k)) (ax:∀k,aB l 1 (ex k)) (h0:∀s,dS l s->(s.er=0->low+1<=s.pl)->eR G 56 [] l s (ex' 0 s) gQ)
include hM ax h0
theorem a8S(op:Int)(n:Nat)(hn:n<=2)(i:Nat)(s0:dW)(hi:s0.pl=i+1)(v0:dS l s0)(hs:i<l.length)(cC:s0.er=0->low<=s0.pl):eR G 195 [.int .i64 op,.int .i64 n] l ⟨i,s0.er,s0.ln⟩ ((do
  bQ l [40]
  let ks <- b2M l (ex' 0) n 0 []
  bQ l [41]
  pure (cD op ks):RM cG) s0) gQ:=by
 have hl:=hV.len;have hw:IntKind.i64.wrap ((i:Int)+1)=(s0.pl:Int):=by rw[wrap64 (by omega)];omega
 refine eR.bL func195 rfl ntmps195 rfl ?_;intro Q Q0;simp[hw];refine rfM Q0 v0 hV.fin λu1 s1 h1 Q1 p1 v1=>?_;have l1:s1.er=0->low+1<=s1.pl:=λh=>by have:=p1 h;have:=cC this.1;omega
 simp;obtain⟨Y,hY⟩:∃Y,b2M l (ex' 0) n 0 [] s1=Y:=⟨_,rfl⟩;have Q1:=Q1.step hY;refine SW.vR (ι:={x:Nat×List cG×dW//x.1<=n/\x.2.1.length=x.1/\dS l x.2.2/\(x.2.2.er=0->low+1<=x.2.2.pl)/\b2M l (ex' 0) (n-x.1) x.1 x.2.1 x.2.2=Y}) (λx=>[(8,.d (.int .i64 (x.1.1:Nat)))]) (λx=>(7,.cells [.d (.int .i64 op),.d (.str []),.d (.int .i64 0),.d (.sl (x.1.2.1.map a0Y)),.d .aD,.d .aD,.d .aD])::(6,.cells [.d (.int .i64 0),.d (.str []),.d (.int .i64 0),.d .aD,.d .aD,.d .aD,.d .aD])::rfH l x.1.2.2) (λ_=>[(30,[.c 7 3])]) (λx=>n-x.1.1) ⟨(0,[],s1),by simp,rfl,v1,l1,hY⟩ (by simp) ?_;rintro⟨⟨k,ks,s⟩,hk,hks,v,lo,hy⟩;simp only at hk hks v lo hy;by_cases hkn:k<n
 .obtain⟨g,hg⟩:∃g,n-k=g+1:=⟨n-k-1,by omega⟩;rw[hg]at hy;unfold b2M at hy;have hwk:=bA (show k<9223372036854775807 by omega);have hgk:n-(k+1)=g:=by omega
  simp[hkn];by_cases hk0:0<k
  case' pos=>
   rw[if_pos hk0]at hy;simp[hk0];obtain⟨s1,rfl⟩:∃s1,s1=s:=⟨_,rfl⟩;have v1:=v;refine rfN [44] v1 hV.fin λu2 s2 h2 p2 v2=>?_;rw[cO,h2]at hy;have lo2:s2.er=0->low+1<=s2.pl:=λh=>by have:=p2 h;have:=lo this.1;omega
   simp
  case' neg=>
   rw[if_neg hk0]at hy;simp[hk0];obtain⟨s2,rfl⟩:∃s2,s2=s:=⟨_,rfl⟩;have v2:=v;have lo2:=lo
   replace hy:(ex' 0 >>=λe=>b2M l (ex' 0) g (k+1) (ks++[e])) s2=Y:=hy
  all_goals
   refine gC [0] 3 [2] (.op 1 (.call [4,5,6,7] .none) (.call [1,4,5,6,7] .none)) true (by kernel_rfl) (by kernel_rfl) ?_;simp;refine⟨?_,?_⟩
   all_goals
    refine rfZ gX (h0 s2 v2 lo2) (λe s3 h3=>?_);have p3:RfP l _ s2 s3:=(hM 0).kL (ax 0) v2 lo2 h3;have v3:=dS.next p3;refine cJ.mk ?_;simp
   all_goals
    refine cK (by first|omega|(simp[bT];omega)|exact⟨λx hx=>by obtain⟨y,_,rfl⟩:=List.mem_map.1 hx;first|rfl|(rw[bT];rfl),by omega⟩|exact⟨rfl,by omega⟩) ?_;simp[hwk];rw[cO,h3]at hy;exact bC.mk ⟨(k+1,ks++[e],s3),by simp only;omega,by simp[hks],v3,λh=>by have:=p3 h;have:=lo2 this.1;simp only;omega,by simp only;rw[hgk];exact hy⟩ (by simp[bT]) (by simp only;omega)
 .have f6a:k=n:=by omega
  subst f6a
  replace hy:(ks,s)=Y:=by
   rw[<-hy,Nat.sub_self]
   rfl
  subst hy;simp;obtain⟨s1,rfl⟩:∃s1,s1=s:=⟨_,rfl⟩;have v1:=v;refine rfM Q1 v1 hV.fin λu2 s2 h2 Q2 p2 v2=>?_;simp;exact Q2.ok _ _ (.inr rfl) (by simp[cD])
theorem c1d(op:Int)(i:Nat)(s0:dW)(hi:s0.pl=i+1)(v0:dS l s0)(hs:i<l.length)(cC:s0.er=0->low<=s0.pl):eR G 195 [.int .i64 op,.int .i64 1] l ⟨i,s0.er,s0.ln⟩ (b6w l ex' op s0) gQ:=a8S hV hM ax h0 op 1 (by omega) i s0 hi v0 hs cC
theorem d3E(op:Int)(i:Nat)(s0:dW)(hi:s0.pl=i+1)(v0:dS l s0)(hs:i<l.length)(cC:s0.er=0->low<=s0.pl):eR G 195 [.int .i64 op,.int .i64 2] l ⟨i,s0.er,s0.ln⟩ (c2n l ex' op s0) gQ:=a8S hV hM ax h0 op 2 (by omega) i s0 hi v0 hs cC
theorem b9p(s:dW)(he:s.er=0)(hv:s.pl<l.length)(cC:low<=s.pl)(hwt:(vH aJ l 0 s||xC l s)=true):eR G 197 [] l s (b2r aJ aZ aE l ex' s) gQ:=by
 have hl:=hV.len;obtain⟨s0,rfl⟩:∃s0,s0=s:=⟨_,rfl⟩;have v0:dS l s0:=λ_=>hv;have g1:eR G 92 [.int .i64 1,.str [91]] l s0 _ _:=uB (by omega) 1 [91] s0 v0 (by omega);have g2:eR G 92 [.int .i64 1,.str [40]] l s0 _ _:=uB (by omega) 1 [40] s0 v0 (by omega);refine eR.a0k func197 rfl ntmps197 rfl ?_;intro Q Q0;refine SW.jW (SW.xk ?_);simp;refine SW.jW (SW.xk ?_);simp;obtain⟨op,oV⟩:∃op:Int,(if xC l s0 then 4 else 3)=op:=⟨_,rfl⟩;obtain⟨c,hc⟩:∃c,(!xC l s0&&(cF l 1 [91] s0||cF l 1 [40] s0))=c:=⟨_,rfl⟩;refine SW.d2g [] ([(3,.cells [.d (.int .i64 op),.d (.str []),.d (.int .i64 0),.d .aD,.d .aD,.d .aD,.d .aD])]++[(2,.cells [.d (.int .i64 0),.d (.str []),.d (.int .i64 0),.d .aD,.d .aD,.d .aD,.d .aD])]++rfH l s0) [] (SW.xk ?_) ?_
 .simp;refine eB uS (wX (by omega) s0 v0) (λb x hx=>?_);cases hx;rcases Bool.eq_false_or_eq_true (xC l s0)with w|w
  all_goals
   rw[w]at oV|-;subst oV;simp
 simp;refine SW.d2g [(4,.d (.bool c))] ([(3,.cells [.d (.int .i64 op),.d (.str []),.d (.int .i64 0),.d .aD,.d .aD,.d .aD,.d .aD])]++[(2,.cells [.d (.int .i64 0),.d (.str []),.d (.int .i64 0),.d .aD,.d .aD,.d .aD,.d .aD])]++rfH l s0) [] (SW.xk ?_) ?_
 .rcases Bool.eq_false_or_eq_true (xC l s0)with w|w
  .rw[w]at oV hc;subst oV;subst hc;simp
  .rw[w]at oV hc;subst oV;simp;refine eB dB g1 (λb x hx=>?_);cases hx;rcases Bool.eq_false_or_eq_true (cF l 1 [91] s0)with w1|w1
   .rw[w1]at hc|-;subst hc;simp
   .rw[w1]at hc|-;simp;refine eB dB g2 (λb x hx=>?_);cases hx;simp[<-hc]
 simp;refine SW.jW (SW.xk ?_);simp;refine eB gV (oH (by omega) true s0 v0) (λnm s1 h1=>?_);have Q1:=Q0.eq (show b2r aJ aZ aE l ex' s0=a9A aJ aZ aE l ex' (xC l s0) c nm s1 by unfold b2r;rw[hc,h1])
 have p1:RfP l 1 s0 s1:=zK hV.fin (λ_=>by unfold vH xC at hwt;simp only[g1i,g0W,decide_eq_true_eq]at hwt;omega) v0 h1
 have v1:=dS.next p1;unfold a9A at Q1;simp;obtain⟨ts,s2,h2⟩:∃ts s2,(a0n (cF l 0 [91]) >>=λc=>if c then a4P aJ aZ aE l else pure []:RM (List Ty)) s1=(ts,s2):=⟨_,_,rfl⟩;have Q2:=Q1.step h2;have p2:RfP l 0 s1 s2:=(aM.types (low:=0) hV.fin hV.tkw hV.kL hV.nz).kL ((aB.types hV.fin hV.kL.pred).le (by omega)) v1 (λ_=>Nat.zero_le _) h2;have v2:=dS.next p2;have l2:s2.er=0->low<=s2.pl:=λh=>by have:=(RfP.tr p1 p2) h;omega
 refine SW.d2g [] ([(3,.cells [.d (.int .i64 op),.d (.str nm),.d (.int .i64 0),.d .aD,.d .aD,.d .aD,.d (.sl (ts.map tyC))])]++[(2,.cells [.d (.int .i64 0),.d (.str []),.d (.int .i64 0),.d .aD,.d .aD,.d .aD,.d .aD])]++rfH l s2) [] (SW.xk ?_) (SW.xk ?_)
 .replace h2:(if cF l 0 [91] s1=true then a4P aJ aZ aE l else pure []:RM (List Ty)) s1=(ts,s2):=h2
  simp;refine eB dB (gW hV [91] s1 v1) (λb x hx=>?_);cases hx;rcases Bool.eq_false_or_eq_true (cF l 0 [91] s1)with w|w
  .rw[w,if_pos rfl]at h2;rw[w];simp;refine eB c2C (c6f hV s1 v1) (λb x hx=>?_);cases hx.symm.trans h2;simp
  .rw[w,if_neg (by decide)]at h2;cases h2;rw[w];simp
 have hA:=c9I hV hM ax h0 s2 v2 l2;cases c with
 |true=>simp;refine eB a7m hA (λks s3 h3=>?_);have Q3:=Q2.step (show(a0n (λs=>true||cF l 0 [40] s) >>=λc=>if c then sB l ex' else pure []:RM (List cG)) s2=(ks,s3) from h3);simp;exact Q3.ok _ _ (.inr rfl) (by simp)
 |false=>
  simp;refine eB dB (gW hV [40] s2 v2) (λb x hx=>?_);cases hx;rcases Bool.eq_false_or_eq_true (cF l 0 [40] s2)with w|w
  .rw[w];simp;refine eB a7m hA (λks s3 h3=>?_);have Q3:=Q2.step (show(a0n (λs=>false||cF l 0 [40] s) >>=λc=>if c then sB l ex' else pure []:RM (List cG)) s2=(ks,s3) by
    show(if (false||cF l 0 [40] s2)=true then _ else _:RM _) s2=_
    rw[w];exact h3)
   simp;exact Q3.ok _ _ (.inr rfl) (by simp[<-oV])
  .rw[w];simp;have Q3:=Q2.step (show(a0n (λs=>false||cF l 0 [40] s) >>=λc=>if c then sB l ex' else pure []:RM (List cG)) s2=([],s2) by
    show(if (false||cF l 0 [40] s2)=true then _ else _:RM _) s2=_
    rw[w]
    rfl)
   exact Q3.ok _ _ (.inr rfl) (by simp[<-oV])
end
end
end
section
open Go Go.VM
variable {G:GT}
theorem c3u:VM.Enters prog 151:=.mk func151 rfl
section
variable {aE:List Tok->Nat->Nat->kJ Pr} {l:List Tok} (hV:vW G aE l)
include hV
theorem oY{t:Nm}{s s1:dW}{b:Bool}(h:b1b l t s=(b,s1)):(oL l t s=true/\b=true/\s1=⟨s.pl+1,s.er,s.ln⟩/\dS l s1)\/(oL l t s=false/\b=false/\s1=s):=by
 have hx:=λhv=>c0E hV.fin (t:=t) (s:=s) (s1:=s1) (b:=b) hv h;unfold b1b at h;split at h
 .rename_i hs;cases h;refine .inl ⟨hs,rfl,rfl,λh1=>?_⟩;exact(c0E hV.fin (t:=t) (s:=s) (s1:=⟨s.pl+1,s.er,s.ln⟩) (b:=true) (λ_=>by
   unfold oL eT at hs;by_cases h2:s.er=0/\s.pl+0<l.length
   .exact h2.2
   .rw[if_neg h2]at hs;simp at hs) (by unfold b1b;rw[if_pos hs]) h1).2.2
 .rename_i hs;cases h;exact .inr ⟨Bool.eq_false_iff.2 hs,rfl,rfl⟩
theorem a8c{t:Nm}{s:dW}(h:oL l t s=true):s.er=0/\s.pl+1<l.length:=by
 rcases oY hV (t:=t) (s:=s) (s1:=⟨s.pl+1,s.er,s.ln⟩) (b:=true) (by unfold b1b;rw[if_pos h])with⟨_,_,_,h2⟩|⟨h2,_⟩
 .have he:s.er=0:=by
   by_cases he:s.er=0
   .exact he
   .rw[e2h he]at h;cases h
  exact⟨he,h2 he⟩
 .rw[h2]at h;cases h
section
variable {ex:Nat->bE cG} {ex':Nat->RM cG} {low:Nat} (hM:∀k,aM l (low+1) (ex k) (ex' k)) (ax:∀k,aB l 1 (ex k)) (h0:∀s,dS l s->(s.er=0->low+1<=s.pl)->eR G 56 [] l s (ex' 0 s) gQ)
include hM ax h0
theorem c9J(hn:∀i, -9223372036854775807<=(aG l i).n/\(aG l i).n<=9223372036854775807)(s:dW)(hv:dS l s)(cC:s.er=0->low<=s.pl):eR G 185 [] l s (a7L aJ aZ aE l ex' s) gQ:=by
 have hl:=hV.len;obtain⟨s0,rfl⟩:∃s0,s0=s:=⟨_,rfl⟩;have v0:=hv;have hp:eR G 45 [.int .i64 0] l s0 _ _:=oG (by omega) 0 s0 v0 (by omega);refine eR.bL func185 rfl ntmps185 rfl ?_;intro Q Q0;unfold a7L at Q0;simp;refine eB gU hp (λT x hx=>?_);cases hx;obtain⟨T,hT⟩:∃T,eT l 0 s0=T:=⟨_,rfl⟩;rw[hT];rw[hT]at Q0;obtain⟨a,b,n,d⟩:=T;by_cases he:s0.er=0;rotate_left
 .have Q0:=Q0.rF he;simp[he,bJ];exact Q0.ok _ _ (.inr rfl) (by simp[xS])
 have he':(s0.er=0)=True:=eq_true he;have Q0:=Q0.tH he;have h1:=hv he;have hw:=bA (show s0.pl<9223372036854775807 by omega);have lo:=cC he;simp[he',bJ];by_cases k3:a=3
 .have Q0:=Q0.tH k3;simp[k3,hw];exact Q0.ok _ _ (.inr rfl) (by simp)
 have Q0:=Q0.rF k3;simp[k3];refine eB mJ (pX (by omega) [116,114,117,101] s0 v0) (λb x hx=>?_);rcases oY hV hx with⟨w,rfl,rfl,_⟩|⟨w,rfl,rfl⟩
 .have Q0:=Q0.tH w;simp;exact Q0.ok _ _ (.inr rfl) (by simp)
 have Q0:=Q0.rF (by rw[w];decide);simp;refine eB mJ (pX (by omega) [102,97,108,115,101] x v0) (λb x1 hx=>?_);rcases oY hV hx with⟨w,rfl,rfl,_⟩|⟨w,rfl,rfl⟩
 .have Q0:=Q0.tH w;simp;exact Q0.ok _ _ (.inr rfl) (by simp)
 have Q0:=Q0.rF (by rw[w];decide);simp;obtain⟨x,rfl⟩:∃x,x=x1:=⟨_,rfl⟩;have key:∀t,eR G 85 [.str t] l x (oL l t x,x) (λb=>.d (.bool b)):=λt=>uT (by omega) t x v0;refine eB pG (key [110,101,119]) (λb x1 hx=>?_);cases hx;rcases Bool.eq_false_or_eq_true (oL l [110,101,119] x)with w|w
 .have Q0:=Q0.tH w;rw[w];simp;refine eB a2e (c1d hV hM ax h0 22 x.pl ⟨x.pl+1,x.er,x.ln⟩ rfl (λ_=>(a8c hV w).2) h1 (λ_=>by simp only;omega)) (λe s2 h2=>?_);have Q0:=Q0.eq h2;simp;exact Q0.ok _ _ (.inr rfl) (by simp)
 have Q0:=Q0.rF (by rw[w];decide);rw[w];simp;refine eB pG (key [103,101,116]) (λb x1 hx=>?_);cases hx;rcases Bool.eq_false_or_eq_true (oL l [103,101,116] x)with w|w
 .have Q0:=Q0.tH w;rw[w];simp;refine eB a2e (c1d hV hM ax h0 23 x.pl ⟨x.pl+1,x.er,x.ln⟩ rfl (λ_=>(a8c hV w).2) h1 (λ_=>by simp only;omega)) (λe s2 h2=>?_);have Q0:=Q0.eq h2;simp;exact Q0.ok _ _ (.inr rfl) (by simp)
 have Q0:=Q0.rF (by rw[w];decide);rw[w];simp;refine eB pG (key [115,101,116]) (λb x1 hx=>?_);cases hx;rcases Bool.eq_false_or_eq_true (oL l [115,101,116] x)with w|w
 .have Q0:=Q0.tH w;rw[w];simp;refine eB a2e (d3E hV hM ax h0 24 x.pl ⟨x.pl+1,x.er,x.ln⟩ rfl (λ_=>(a8c hV w).2) h1 (λ_=>by simp only;omega)) (λe s2 h2=>?_);have Q0:=Q0.eq h2;simp;exact Q0.ok _ _ (.inr rfl) (by simp)
 have Q0:=Q0.rF (by rw[w];decide);rw[w];simp;refine eB dB (gW hV [40] x v0) (λb x1 hx=>?_);cases hx;rcases Bool.eq_false_or_eq_true (cF l 0 [40] x)with w|w
 .have Q0:=Q0.tH w;rw[w];simp;refine eB b9o (c3t hV hM ax h0 x hn he h1 lo) (λe s2 h2=>?_);have Q0:=Q0.eq h2;simp;exact Q0.ok _ _ (.inr rfl) (by simp)
 have Q0:=Q0.rF (by rw[w];decide);rw[w];simp;have hA:=λhw=>b9p hV hM ax h0 x he h1 lo hw;have hF:=a1V (G:=G) (l:=l) (by omega) x v0;refine eB wV (a2R hV x v0) (λb x1 hx=>?_);cases hx;rcases Bool.eq_false_or_eq_true (vH aJ l 0 x)with w1|w1
 .have w2:(vH aJ l 0 x||xC l x)=true:=by rw[w1];rfl
  have Q0:=Q0.tH w2;rw[w1];simp;refine eB a7n (hA w2) (λe s2 h2=>?_);have Q0:=Q0.eq h2;simp;exact Q0.ok _ _ (.inr rfl) (by simp)
 rw[w1];simp;refine eB uS (wX (by omega) x v0) (λb x1 hx=>?_);cases hx;rcases Bool.eq_false_or_eq_true (xC l x)with w|w
 .have w2:(vH aJ l 0 x||xC l x)=true:=by rw[w,Bool.or_true]
  have Q0:=Q0.tH w2;rw[w];simp;refine eB a7n (hA w2) (λe s2 h2=>?_);have Q0:=Q0.eq h2;simp;exact Q0.ok _ _ (.inr rfl) (by simp)
 have Q0:=Q0.rF (by rw[w1,w];decide);rw[w];simp;refine eB wU hF (λu s2 h2=>?_);cases h2;simp;exact Q0.ok _ _ (.inr rfl) (by simp[xS])
end
end
end
section
open Go Go.VM
variable {G:GT}
section
variable {aE:List Tok->Nat->Nat->kJ Pr} {l:List Tok} (hV:vW G aE l)
include hV
theorem c7f(n:Nat)(hn:n=1\/n=2\/n=4\/n=5)(s:dW)(hv:dS l s):eR G 151 [.int .i64 n] l s (uR l (uA n) s) (λo=>.d (.int .i64 o)):=by
 have hl:=hV.len;have hh:∀t,eR G 62 [.str t] l s (jQ l t s) (λb=>.d (.bool b)):=λt=>eQ (by omega) t s hv;have hb:∀t,eR G 100 [.str t] l s (b1b l t s) (λb=>.d (.bool b)):=λt=>pX (by omega) t s hv;rcases hn with rfl|rfl|rfl|rfl
 .refine eR.bL func151 rfl ntmps151 rfl ?_;intro Q Q0;simp;refine eB cT (hh [124,124]) (λb s1 h1=>?_);rcases mK hV.fin h1 with⟨w,rfl,rfl,_,_,_⟩|⟨w,rfl,rfl⟩
  .have Q0:=Q0.eq (show _=((20:Int),_) by simp[uR,vT,uA,w,List.find?];rfl);simp;exact Q0.ok _ _ (.inr rfl) (by simp)
  .have Q0:=Q0.eq (show _=((0:Int),_) by simp[uR,vT,uA,w,List.find?];rfl);simp;exact Q0.ok _ _ (.inr rfl) (by simp)
 .refine eR.bL func151 rfl ntmps151 rfl ?_;intro Q Q0;simp;refine eB cT (hh [38,38]) (λb s1 h1=>?_);rcases mK hV.fin h1 with⟨w,rfl,rfl,_,_,_⟩|⟨w,rfl,rfl⟩
  .have Q0:=Q0.eq (show _=((19:Int),_) by simp[uR,vT,uA,w,List.find?];rfl);simp;exact Q0.ok _ _ (.inr rfl) (by simp)
  .have Q0:=Q0.eq (show _=((0:Int),_) by simp[uR,vT,uA,w,List.find?];rfl);simp;exact Q0.ok _ _ (.inr rfl) (by simp)
 .refine eR.bL func151 rfl ntmps151 rfl ?_;intro Q Q0;simp;refine eB cT (hh [43]) (λb s1 h1=>?_);rcases mK hV.fin h1 with⟨w,rfl,rfl,_,_,_⟩|⟨w,rfl,e⟩
  .have Q0:=Q0.eq (show _=((10:Int),_) by simp[uR,vT,uA,w,List.find?];rfl);simp;exact Q0.ok _ _ (.inr rfl) (by simp)
  .cases e;simp;refine eB cT (hh [45]) (λb s1 h1=>?_);rcases mK hV.fin h1 with⟨w2,rfl,rfl,_,_,_⟩|⟨w2,rfl,rfl⟩
   .have Q0:=Q0.eq (show _=((11:Int),_) by simp[uR,vT,uA,w,w2,List.find?];rfl);simp;exact Q0.ok _ _ (.inr rfl) (by simp)
   .have Q0:=Q0.eq (show _=((0:Int),_) by simp[uR,vT,uA,w,w2,List.find?];rfl);simp;exact Q0.ok _ _ (.inr rfl) (by simp)
 .refine eR.bL func151 rfl ntmps151 rfl ?_;intro Q Q0;simp;refine eB cT (hh [42]) (λb s1 h1=>?_);rcases mK hV.fin h1 with⟨w,rfl,rfl,_,_,_⟩|⟨w,rfl,e⟩
  .have Q0:=Q0.eq (show _=((12:Int),_) by simp[uR,vT,uA,w,List.find?];rfl);simp;exact Q0.ok _ _ (.inr rfl) (by simp)
  .cases e;simp;refine eB mJ (hb [100,105,118]) (λb s1 h1=>?_);rcases oY hV h1 with⟨w2,rfl,rfl,_⟩|⟨w2,rfl,e⟩
   .have Q0:=Q0.eq (show _=((13:Int),_) by simp[uR,vT,uA,w,w2,List.find?];rfl);simp;exact Q0.ok _ _ (.inr rfl) (by simp)
   .cases e;simp;refine eB mJ (hb [109,111,100]) (λb s1 h1=>?_);rcases oY hV h1 with⟨w3,rfl,rfl,_⟩|⟨w3,rfl,rfl⟩
    .have Q0:=Q0.eq (show _=((14:Int),_) by simp[uR,vT,uA,w,w2,w3,List.find?];rfl);simp;exact Q0.ok _ _ (.inr rfl) (by simp)
    .have Q0:=Q0.eq (show _=((0:Int),_) by simp[uR,vT,uA,w,w2,w3,List.find?];rfl);simp;exact Q0.ok _ _ (.inr rfl) (by simp)
section
variable {ex:Nat->bE cG} {ex':Nat->RM cG} {low:Nat} (hM:∀k,aM l (low+1) (ex k) (ex' k)) (ax:∀k,aB l 1 (ex k)) (h0:∀s,dS l s->(s.er=0->low+1<=s.pl)->eR G 56 [] l s (ex' 0 s) gQ) (h7:∀s,dS l s->s.er=0->low+1<=s.pl->eR G 150 [] l s (ex' 7 s) gQ)
include hM ax h0 h7
theorem b4a(hn:∀i, -9223372036854775807<=(aG l i).n/\(aG l i).n<=9223372036854775807)(s:dW)(hv:dS l s)(cC:s.er=0->low<=s.pl):eR G 150 [] l s (b3D aJ aZ aE l ex' s) gQ:=by
 have hl:=hV.len;obtain⟨s0,rfl⟩:∃s0,s0=s:=⟨_,rfl⟩;have v0:=hv;have hA:=c9J hV hM ax h0 hn s0 v0 cC;refine eR.bL func150 rfl ntmps150 rfl ?_;intro Q Q0;unfold b3D at Q0;simp;refine eB cT (eQ (by omega) [45] s0 v0) (λb s1 h1=>?_);rcases mK hV.fin h1 with⟨w,rfl,e1,e2,e3,v1⟩|⟨w,rfl,rfl⟩
 .have Q0:=Q0.tH w;rw[<-e1]at Q0;have f1:s1.er=0:=by rw[e1];exact e2
  have f2:=cC e2;simp;refine eB b1P (h7 s1 v1 f1 (by omega)) (λe s2 h2=>?_);have Q0:=Q0.step h2;simp;exact Q0.ok _ _ (.inr rfl) (by simp[bT])
 .have Q0:=Q0.rF (by rw[w];decide);simp;refine eB c7e hA (λe s2 h2=>?_);have Q0:=Q0.eq h2;simp;exact Q0.ok _ _ (.inr rfl) (by simp)
end
theorem c9K{ops:List (Nm×Bool×Int)}{s:dW}(h:vT l ops s≠0):s.er=0/\s.pl+1<l.length:=by
 unfold vT at h;split at h
 .exact absurd rfl h
 .rename_i p hp;have h2:(if p.2.1 then oL l p.1 s else cF l 0 p.1 s)=true:=List.find?_some (p:=λp:Nm×Bool×Int=>if p.2.1 then oL l p.1 s else cF l 0 p.1 s) hp;split at h2
  .exact a8c hV h2
  .exact a3V hV.fin h2
theorem a2Y(n:Nat)(hn:n=1\/n=2\/n=4\/n=5){low:Nat}{one:bE cG}{pP:RM cG}(h1:aM l low one pP)(a1:aB l 1 one)(jS:∀s,dS l s->(s.er=0->low<=s.pl)->eR G 106 [.int .i64 (n+1:Nat)] l s (pP s) gQ)(s:dW)(hv:dS l s)(cC:s.er=0->low<=s.pl):eR G 106 [.int .i64 n] l s (b3E l (uA n) pP s) gQ:=by
 have hl:=hV.len;have hw:IntKind.i64.wrap ((n:Int)+1)=((n+1:Nat):Int):=by rcases hn with rfl|rfl|rfl|rfl<;>rfl
 have hn3: ¬n=3:=by omega
 have hn6: ¬n=6:=by omega
 have f6b: ¬(n:Int)=3:=by omega
 have f6c: ¬(n:Int)=6:=by omega
 have hI:=λs hv=>c7f hV n hn s hv;obtain⟨s0,rfl⟩:∃s0,s0=s:=⟨_,rfl⟩;have v0:=hv;refine eR.bL func106 rfl ntmps106 rfl ?_;intro Q Q0;unfold b3E at Q0;simp[hn3,hn6,f6b,f6c,hw];refine eB kH (jS s0 v0 cC) (λe s1 h2=>?_);have Q0:=Q0.step h2;have p1:=h1.kL a1 v0 cC h2;have v1:=dS.next p1;obtain⟨Y,hY⟩:∃Y,yB l (uA n) pP (l.length+2) e s1=Y:=⟨_,rfl⟩;have Q0:=Q0.eq hY;simp;refine SW.vR (ι:={x:cG×dW×Nat//dS l x.2.1/\(x.2.1.er=0->low<=x.2.1.pl)/\(x.2.1.er=0->l.length<x.2.2+x.2.1.pl)/\yB l (uA n) pP x.2.2 x.1 x.2.1=Y}) (λ_=>[]) (λx=>[(4,.cells [.d (.int .i64 0),.d (.str []),.d (.int .i64 0),.d .aD,.d .aD,.d .aD,.d .aD]),(5,.cells ((yL x.1.1).map .d))]++rfH l x.1.2.1) (λ_=>[]) (λx=>if x.1.2.1.er=0 then l.length-x.1.2.1.pl+1 else 0) ⟨(e,s1,l.length+2),v1,λh=>by have:=p1 h;have:=cC this.1;simp only;omega,λh=>by simp only;omega,hY⟩ (by simp) ?_;rintro⟨⟨e2,s2,g⟩,v2,l2,g2,hy⟩;simp only at v2 l2 g2 hy;by_cases he:s2.er=0
 .have he':(s2.er=0)=True:=eq_true he;have hi2:=v2 he;have lo2:=l2 he;have hg2:=g2 he;obtain⟨g,rfl⟩:∃k,g=k+1:=⟨g-1,by omega⟩;unfold yB at hy;simp[he'];refine eB c3u (hI s2 v2) (λo s3 h3=>?_);unfold uR at h3;by_cases ho:vT l (uA n) s2=0
  .rw[if_pos ho]at h3;cases h3;rw[if_neg (λh=>h.2 ho)]at hy;cases hy;simp;exact Q0.ok _ _ (.inr rfl) (by simp)
  .rw[if_neg ho]at h3;obtain⟨rfl,e3⟩:=Prod.mk.inj h3;rw[if_pos ⟨he,ho⟩]at hy;have hnx:=c9K hV ho;generalize vT l (uA n) s2=o at ho hy|-;rw[e3]at hy;have v3:dS l s3:=λ_=>by rw[<-e3];exact hnx.2
   have q3:s3.pl=s2.pl+1:=by rw[<-e3]
   simp[ho];refine gC [0] 5 [2,3,4] (.op 1 (.call [6,7,8] .none) (.call [1,6,7,8] .none)) true (by kernel_rfl) (by kernel_rfl) ?_;simp[hw];refine⟨?_,?_⟩
   all_goals
    refine rfZ kH (jS s3 v3 (λ_=>by omega)) (λx s4 h4=>?_);have p4:=h1.kL a1 v3 (λ_=>by omega) h4;have v4:=dS.next p4;rw[h4]at hy;refine cJ.mk ?_;simp;refine bC.mk ⟨(cD o [e2,x],s4,g),v4,λh=>?_,λh=>?_,hy⟩ (by simp[bT]) ?_
    .have:=p4 h;simp only;omega
    .have:=p4 h;simp only;omega
    .simp only[he,if_true];split
     .rename_i h;have:=p4 h;omega
     .omega
 .have hy:(e2,s2)=Y:=by
   rw[<-hy];cases g with
   |zero=>rfl
   |succ g=>unfold yB;rw[if_neg (λh=>he h.1)]
  subst hy;simp[he];exact Q0.ok _ _ (.inr rfl) (by simp)
end
end
section
open Go Go.VM
variable {G:GT}
theorem b4G:VM.Enters prog 149:=.mk func149 rfl
section
variable {aE:List Tok->Nat->Nat->kJ Pr} {l:List Tok} (hV:vW G aE l)
include hV
section
variable {ex:Nat->bE cG} {ex':Nat->RM cG} {low:Nat} (hM:∀k,aM l (low+1) (ex k) (ex' k)) (ax:∀k,aB l 1 (ex k))
include hM ax
theorem b8f(b4j:∀s,dS l s->(s.er=0->low<=s.pl)->eR G 106 [.int .i64 4] l s (a0D aJ aZ aE l ex' s) gQ)(s:dW)(hv:dS l s)(cC:s.er=0->low<=s.pl):eR G 149 [] l s (b6x aJ aZ aE l ex' s) gQ:=by
 have hl:=hV.len;have hS:=aM.a6B (kw:=aJ) (andP:=aZ) hV.fin hV.tkw hV.kL hV.nz hM ax;have aS:=aB.a6B (kw:=aJ) (andP:=aZ) hV.fin ax hV.kL.pred;obtain⟨s0,rfl⟩:∃s0,s0=s:=⟨_,rfl⟩;have v0:=hv;refine eR.bL func149 rfl ntmps149 rfl ?_;intro Q Q0;unfold b6x at Q0;generalize a0D aJ aZ aE l ex'=S at b4j hS Q0;simp;refine eB kH (b4j s0 v0 cC) (λe s1 h1=>?_);have Q1:=Q0.step h1;have p1:=hS.kL aS v0 cC h1;have v1:=dS.next p1;simp;have hp:eR G 45 [.int .i64 0] l s1 _ _:=oG (by omega) 0 s1 v1 (by omega);refine eB gU hp (λT x hx=>?_);cases hx;obtain⟨T,hT⟩:∃T,eT l 0 s1=T:=⟨_,rfl⟩;rw[hT];rw[hT]at Q1;by_cases k4:T.kind=4;rotate_left
 .have Q2:=Q1.rF k4
  clear Q1
  obtain⟨a,b,n,d⟩:=T;simp only at k4;simp[bJ,k4];exact Q2.ok _ _ (.inr rfl) (by simp)
 have hnx:s1.er=0/\s1.pl+1<l.length:=by
  unfold eT at hT;by_cases h:s1.er=0/\s1.pl+0<l.length
  .rw[if_pos h]at hT;refine⟨h.1,qM hV.fin (i:=s1.pl) h.2 ?_⟩;simp only[Nat.add_zero]at hT;rw[hT,k4];decide
  .rw[if_neg h]at hT;rw[<-hT]at k4;cases k4
 have Q1:=Q1.tH k4;obtain⟨a,b,n,d⟩:=T;simp only at k4;have lo1:=p1 hnx.1;have lo0:=cC lo1.1;obtain⟨s2,hs2⟩:∃s2:dW,(⟨s1.pl+1,s1.er,s1.ln⟩:dW)=s2:=⟨_,rfl⟩;have hw:IntKind.i64.wrap ((s1.pl:Int)+1)=(s2.pl:Int):=by rw[<-hs2,wrap64 (by omega)];simp
 have v2:dS l s2:=λ_=>by rw[<-hs2];exact hnx.2
 have q2:s2.pl=s1.pl+1:=by rw[<-hs2]
 have q3:s1.er=s2.er/\s1.ln=s2.ln:=by rw[<-hs2];exact⟨rfl,rfl⟩
 rw[hs2]at Q1;simp only at Q1;by_cases x1:b=[61,61]
 .have Q1:=Q1.tH x1;simp[bJ,k4,x1,hw];refine eB (hH:=by simp[q3]) kH (b4j s2 v2 (λ_=>by omega)) (λx s3 h3=>?_);have Q3:=Q1.step h3;simp;exact Q3.ok _ _ (.inr rfl) (by simp[bT])
 have Q1:=Q1.rF x1;by_cases x2:b=[33,61]
 .have Q1:=Q1.tH x2;simp[bJ,k4,x2,hw];refine eB (hH:=by simp[q3]) kH (b4j s2 v2 (λ_=>by omega)) (λx s3 h3=>?_);have Q3:=Q1.step h3;simp;exact Q3.ok _ _ (.inr rfl) (by simp[bT])
 have Q1:=Q1.rF x2;by_cases x3:b=[60]
 .have Q1:=Q1.tH x3;simp[bJ,k4,x3,hw];refine eB (hH:=by simp[q3]) kH (b4j s2 v2 (λ_=>by omega)) (λx s3 h3=>?_);have Q3:=Q1.step h3;simp;exact Q3.ok _ _ (.inr rfl) (by simp[bT])
 have Q1:=Q1.rF x3;by_cases x4:b=[60,61]
 .have Q1:=Q1.tH x4;simp[bJ,k4,x4,hw];refine eB (hH:=by simp[q3]) kH (b4j s2 v2 (λ_=>by omega)) (λx s3 h3=>?_);have Q3:=Q1.step h3;simp;exact Q3.ok _ _ (.inr rfl) (by simp[bT])
 have Q1:=Q1.rF x4;by_cases x5:b=[62]
 .have Q1:=Q1.tH x5;simp[bJ,k4,x5,hw];refine eB (hH:=by simp[q3]) kH (b4j s2 v2 (λ_=>by omega)) (λx s3 h3=>?_);have Q3:=Q1.step h3;simp;exact Q3.ok _ _ (.inr rfl) (by simp[bT])
 have Q1:=Q1.rF x5;by_cases x6:b=[62,61]
 .have Q1:=Q1.tH x6;simp[bJ,k4,x6,hw];refine eB (hH:=by simp[q3]) kH (b4j s2 v2 (λ_=>by omega)) (λx s3 h3=>?_);have Q3:=Q1.step h3;simp;exact Q3.ok _ _ (.inr rfl) (by simp[bT])
 have Q1:=Q1.rF x6;simp[bJ,k4,x1,x2,x3,x4,x5,x6];exact Q1.ok _ _ (.inr rfl) (by simp)
section
variable (h0:∀s,dS l s->(s.er=0->low+1<=s.pl)->eR G 56 [] l s (ex' 0 s) gQ) (h7:∀s,dS l s->s.er=0->low+1<=s.pl->eR G 150 [] l s (ex' 7 s) gQ) (hn:∀i, -9223372036854775807<=(aG l i).n/\(aG l i).n<=9223372036854775807)
include h0 h7 hn
theorem c3v(s:dW)(hv:dS l s)(cC:s.er=0->low<=s.pl):eR G 106 [.int .i64 (6:Nat)] l s (b3D aJ aZ aE l ex' s) gQ:=by have hu:=b4a hV hM ax h0 h7 hn s hv cC;obtain⟨s0,rfl⟩:∃s0,s0=s:=⟨_,rfl⟩;refine eR.bL func106 rfl ntmps106 rfl ?_;intro Q Q0;simp;refine eB b1P hu (λe s2 h2=>?_);have Q0:=Q0.eq h2;simp;exact Q0.ok _ _ (.inr rfl) (by simp)
theorem d3F(s:dW)(hv:dS l s)(cC:s.er=0->low<=s.pl):eR G 106 [.int .i64 4] l s (a0D aJ aZ aE l ex' s) gQ:=by have hU:=aM.unG (kw:=aJ) (andP:=aZ) hV.fin hV.tkw hV.kL hV.nz hM ax;have aU:=aB.unG (kw:=aJ) (andP:=aZ) hV.fin ax hV.kL.pred;have aP:=aB.c5n (kw:=aJ) (andP:=aZ) hV.fin ax hV.kL.pred;exact a2Y hV 4 (by decide) (aM.lvl hV.fin hV.tkw (ops:=_) (ops':=uA 5) (by decide) hU aU) aP (λs hv cC=>a2Y hV 5 (by decide) hU aU (λs hv cC=>c3v hV hM ax h0 h7 hn s hv cC) s hv cC) s hv cC
section
variable (h3:∀s,dS l s->s.er=0->low+1<=s.pl->eR G 106 [.int .i64 3] l s (ex' 3 s) gQ)
include h3
theorem c1e(s:dW)(hv:dS l s)(cC:s.er=0->low<=s.pl):eR G 106 [.int .i64 3] l s (a9B aJ aZ aE l ex' s) gQ:=by
 have hl:=hV.len;have hc:=b8f hV hM ax (d3F hV hM ax h0 h7 hn) s hv cC;obtain⟨s0,rfl⟩:∃s0,s0=s:=⟨_,rfl⟩;have v0:=hv;refine eR.bL func106 rfl ntmps106 rfl ?_;intro Q Q0;unfold a9B at Q0;simp;refine eB cT (eQ (by omega) [33] s0 v0) (λb s1 h1=>?_);rcases mK hV.fin h1 with⟨w,rfl,e1,e2,e4,v1⟩|⟨w,rfl,rfl⟩
 .have Q0:=Q0.tH w;rw[<-e1]at Q0;have f1:s1.er=0:=by rw[e1];exact e2
  have f2:=cC e2;simp;refine eB kH (h3 s1 v1 f1 (by omega)) (λe s2 h2=>?_);have Q0:=Q0.step h2;simp;exact Q0.ok _ _ (.inr rfl) (by simp[bT])
 .have Q0:=Q0.rF (by rw[w];decide);simp;refine eB b4G hc (λe s2 h2=>?_);have Q0:=Q0.eq h2;simp;exact Q0.ok _ _ (.inr rfl) (by simp)
theorem d7M(s:dW)(hv:dS l s)(cC:s.er=0->low<=s.pl):eR G 106 [.int .i64 1] l s (d6k aJ aZ aE l ex' s) gQ:=by have hN:=aM.a8h (kw:=aJ) (andP:=aZ) hV.fin hV.tkw hV.kL hV.nz hM ax;have aN:=aB.a8h (kw:=aJ) (andP:=aZ) hV.fin ax hV.kL.pred;exact a2Y hV 1 (by decide) (aM.lvl hV.fin hV.tkw (ops:=[([38,38],19)]) (ops':=uA 2) (by decide) hN aN) (aB.lvl hV.fin aN) (λs hv cC=>a2Y hV 2 (by decide) hN aN (λs hv cC=>c1e hV hM ax h0 h7 hn h3 s hv cC) s hv cC) s hv cC
end
end
end
end
end
section
open Go Go.VM
variable {G:GT}
theorem c7g:VM.Enters prog 102:=.mk func102 rfl
theorem b9q:VM.Enters prog 103:=.mk func103 rfl
theorem c9L:VM.Enters prog 101:=.mk func101 rfl
theorem b0b{α β:Type}(f:β->α){l:List Tok}{sep:Nm}{one:α->RM α}{pP:β->RM β}(h:∀b s,one (f b) s=(f (pP b s).1,(pP b s).2)):∀g b s,pR l sep one g (f b) s=(f (pR l sep pP g b s).1,(pR l sep pP g b s).2)
 |0,b,s=>rfl
 |g+1,b,s=>by
  unfold pR;rw[h];split
  .split
   .exact b0b f h g _ _
   .rfl
  .rfl
theorem c7h{α:Type}(f g:α->List D)(h:∀a,WkL (f a) (g a))(l:List α):c1F (l.map f) (l.map g):=by
 refine⟨by simp,λi d d' h1 h2=>?_⟩;rw[g1g]at h1 h2;cases hx:l[i]? with
 |none=>rw[hx]at h1;cases h1
 |some a=>rw[hx]at h1 h2;cases h1;cases h2;exact h a
section
variable {aE:List Tok->Nat->Nat->kJ Pr} {l:List Tok} (hV:vW G aE l)
include hV
abbrev f2p(aE:List Tok->Nat->Nat->kJ Pr)(l:List Tok)(out:List (Nm×Ty)):RM (List (Nm×Ty)):=do
 let w <- oF aJ l
 let b <- jQ l [58]
 let t <- (if b then yA aJ aZ aE l else pure mO)
 pure (out++[(w,t)])
abbrev d7N(aE:List Tok->Nat->Nat->kJ Pr)(l:List Tok)(out:List (Nm×Option Ty)):RM (List (Nm×Option Ty)):=do
 let w <- oF aJ l
 let b <- jQ l [58]
 let t <- (if b then yA aJ aZ aE l >>=λt=>pure (some t) else pure none:RM (Option Ty))
 pure (out++[(w,t)])
def c7i(p:Nm×Option Ty):Nm×Ty:=(p.1,p.2.getD mO)
def c7j(p:Nm×Option Ty):List D:=match p.2 with
 |some t=>.str p.1::tyD t
 |none=>[.str p.1,.int .i64 0,.str [],.aD,.aD,.int .i64 0,.str [],.int .i64 0,.aD,.aD]
omit hV in
theorem e2W(a:List (Nm×Option Ty))(s:dW):f2p aE l (a.map c7i) s=((d7N aE l a s).1.map c7i,(d7N aE l a s).2):=by
 show(oF aJ l >>=λw=>jQ l [58] >>=λb=>(if b then yA aJ aZ aE l else pure mO) >>=λt=>pure (a.map c7i++[(w,t)])) s=(((oF aJ l >>=λw=>jQ l [58] >>=λb=>(if b then yA aJ aZ aE l >>=λt=>pure (some t) else pure none:RM (Option Ty)) >>=λt=>pure (a++[(w,t)])) s).1.map c7i,_)
 simp only[cO,a7K];cases (jQ l [58] (oF aJ l s).2).1<;>simp[c7i,cO,a7K]
omit hV in
theorem e8B(a:List (Nm×Option Ty)):c1F (a.map c7j) ((a.map c7i).map a4F):=by rw[List.map_map];refine c7h _ _ (λp=>?_) a;obtain⟨w,t⟩:=p;cases t<;>simp[c7j,c7i,a2U,mO,eY,strs]
omit hV in
theorem c1f{a:List (Nm×Option Ty)}{c:List D}(hc:c∈a.map c7j):(c.length==prog.cellsOf 135)=true:=by obtain⟨y,_,rfl⟩:=List.mem_map.1 hc;unfold c7j;split<;>rfl
omit hV in
theorem c7k{a:List (Nm×Option Ty)}(h:a.length<=50000):((a.map c7j).length+1)*(prog.bytesOf 135+1)<=140737488355328:=by
 have hb:prog.bytesOf 135<=1000:=by decide
 rw[List.length_map]
 calc (a.length+1)*(prog.bytesOf 135+1)<=50001*1001:=Nat.mul_le_mul (by omega) (by omega)
  _<=140737488355328:=by decide
theorem c3w(s:dW)(hv:dS l s):eR G 103 [] l s (a1U aJ aZ aE l s) (λps=>.d (.sl (ps.map a4F))):=by
 have hl:=hV.len;obtain⟨s0,rfl⟩:∃s0,s0=s:=⟨_,rfl⟩;have v0:=hv;refine eR.bL func103 rfl ntmps103 rfl ?_;intro Q Q0;unfold a1U at Q0;simp;refine rfM Q0 v0 hV.fin λu1 s1 h1 Q1 p1 v1=>?_;simp;refine b2s hV.fin [44] (d7N aE l) (λa=>a.length) (λ_=>True) 4 (λa=>[(3,.d (.sl (a.map c7j)))]) (λ_ s=>rfH l s) (λ_=>[(135,[.t 3])]) (l.length+2) [] s1 (by omega) v1 rfl trivial (by simp) ?_ ?_
 .intro a s0 e0 i0 bs la _ R hR;have v0:dS l s0:=λ_=>i0;simp[e0];refine rfL v0 wW (zF (by omega) s0 v0) (zM hV.fin) λw s1 h1 p1 v1=>?_;simp;refine eB cT (eQ (by omega) [58] s1 v1) (λb s2 h2=>?_);have p2:RfP l 0 s1 s2:=a4W hV.fin v1 h2;have v2:=dS.next p2;cases b with
  |true=>
   simp;refine rfL v2 sC (a7S hV s2 v2) (a7T hV) λt s3 h3 p3 v3=>?_;simp;refine kK ⟨rfl,g0Z.2 λc hc=>c1f hc,c7k (by omega)⟩ ?_;simp;have ho:d7N aE l a s0=(a++[(w,some t)],s3):=by
    show(oF aJ l >>=λw=>jQ l [58] >>=λb=>(if b then yA aJ aZ aE l >>=λt=>pure (some t) else pure none:RM (Option Ty)) >>=λt=>pure (a++[(w,t)])) s0=_
    rw[cO,h1,cO,h2,if_pos rfl,cO,cO,h3]
    rfl
   refine eB cT (eQ (by omega) [44] s3 v3) (λbh sh hh=>?_);simp;refine hR _ (a++[(w,some t)]) s3 ho (by rw[hh];simp[c7j]) (λh=>?_) (by simp) trivial;have:=((p1.tr p2).tr p3) h;omega
  |false=>
   simp;refine kK ⟨rfl,g0Z.2 λc hc=>c1f hc,c7k (by omega)⟩ ?_;simp;have ho:d7N aE l a s0=(a++[(w,none)],s2):=by
    show(oF aJ l >>=λw=>jQ l [58] >>=λb=>(if b then yA aJ aZ aE l >>=λt=>pure (some t) else pure none:RM (Option Ty)) >>=λt=>pure (a++[(w,t)])) s0=_
    rw[cO,h1,cO,h2]
    rfl
   refine eB cT (eQ (by omega) [44] s2 v2) (λbh sh hh=>?_);simp;refine hR _ (a++[(w,none)]) s2 ho (by rw[hh];simp[c7j]) (λh=>?_) (by simp) trivial;have:=(p1.tr p2) h;omega
 ·
  intro a s2 m hm sE la hJ v2 hy R;have hm':m=false\/(m=true/\ ¬s2.er=0):=by
   cases m
   .exact .inl rfl
   .rcases hm with h|h
    .cases h
    .exact .inr ⟨rfl,h⟩
  have Q2:=Q1.step (x:=sZ l [44] (f2p aE l) []) ((b0b (List.map c7i) e2W _ [] s1).trans (by rw[hy]));have hwk:=e8B a;rcases hm' with rfl|⟨rfl,h⟩
  all_goals
   first
    |simp[h]
    |simp
   refine rfM Q2 v2 hV.fin λu3 s3 h3 Q3 p3 v3=>?_;simp;exact Q3.ok _ _ (.inr rfl) (by simpa using hwk)
section
variable {ex:Nat->bE cG} {ex':Nat->RM cG} {low:Nat} (hM:∀k,aM l (low+1) (ex k) (ex' k)) (ax:∀k,aB l 1 (ex k)) (h0:∀s,dS l s->(s.er=0->low+1<=s.pl)->eR G 56 [] l s (ex' 0 s) gQ)
include hM ax h0
abbrev f2q(l:List Tok)(ex':Nat->RM cG)(out:List a8L):RM (List a8L):=do
 let c <- zX l
 let b <- a0n (cF l 0 [40])
 let ns <- (if b then sA aJ l else pure []:RM (List Nm))
 bQ l [45,62]
 let b <- ex' 0
 pure (out++[(c,ns,b)])
abbrev b2N:=Nm×Option (List Nm)×cG
omit hV hM ax h0 in
abbrev d7O(l:List Tok)(ex':Nat->RM cG)(out:List b2N):RM (List b2N):=do
 let c <- zX l
 let b <- a0n (cF l 0 [40])
 let ns <- (if b then sA aJ l >>=λns=>pure (some ns) else pure none:RM (Option (List Nm)))
 bQ l [45,62]
 let b <- ex' 0
 pure (out++[(c,ns,b)])
def c7l(p:b2N):a8L:=(p.1,p.2.1.getD [],p.2.2)
def c9M(p:b2N):List D:=.str p.1::(match p.2.1 with
 |some ns=>.sl (strs ns)
 |none=>.aD)::yL p.2.2
omit hV hM ax h0 in
theorem e2X(a:List b2N)(s:dW):f2q l ex' (a.map c7l) s=((d7O l ex' a s).1.map c7l,(d7O l ex' a s).2):=by
 show(zX l >>=λc=>a0n (cF l 0 [40]) >>=λb=>(if b then sA aJ l else pure []:RM (List Nm)) >>=λns=>bQ l [45,62] >>=λ_=>ex' 0 >>=λb=>pure (a.map c7l++[(c,ns,b)])) s=(((zX l >>=λc=>a0n (cF l 0 [40]) >>=λb=>(if b then sA aJ l >>=λns=>pure (some ns) else pure none:RM (Option (List Nm))) >>=λns=>bQ l [45,62] >>=λ_=>ex' 0 >>=λb=>pure (a++[(c,ns,b)])) s).1.map c7l,_)
 simp only[cO,a7K];cases (a0n (cF l 0 [40]) (zX l s).2).1<;>simp[c7l,cO,a7K]
omit hV hM ax h0 in
theorem e8C(a:List b2N):c1F (a.map c9M) ((a.map c7l).map b0K):=by rw[List.map_map];refine c7h _ _ (λp=>?_) a;obtain⟨w,t,e⟩:=p;cases t<;>simp[c9M,c7l,a7Z,strs]
theorem c9N(s:dW)(hv:dS l s)(cC:s.er=0->low<=s.pl):eR G 102 [] l s (b1c aJ l ex' s) (λps=>.d (.sl (ps.map b0K))):=by
 have hl:=hV.len;obtain⟨s0,rfl⟩:∃s0,s0=s:=⟨_,rfl⟩;have v0:=hv;refine eR.bL func102 rfl ntmps102 rfl ?_;intro Q Q0;unfold b1c at Q0;simp;refine rfM Q0 v0 hV.fin λu1 s1 h1 Q1 p1 v1=>?_;have l1:s1.er=0->low+1<=s1.pl:=λh=>by have:=p1 h;have:=cC this.1;omega
 simp;refine b2s hV.fin [59] (d7O l ex') (λa=>a.length) (λ_=>True) 4 (λa=>[(3,.d (.sl (a.map c9M)))]) (λ_ s=>rfH l s) (λ_=>[(91,[.t 3])]) (l.length+2) [] s1 (by omega) v1 rfl trivial (by simp) ?_ ?_
 .intro a s0 e0 i0 bs la _ R hR;have v0:dS l s0:=λ_=>i0;have l0:s0.er=0->low+1<=s0.pl:=λ_=>Nat.le_trans (l1 bs.1) bs.2;simp[e0];refine eB uS (wX (by omega) s0 v0) (λb x hx=>?_);cases hx;simp;refine eB gV (oH (by omega) (xC l s0) s0 v0) (λc s1 h1=>?_);have h1:zX l s0=(c,s1):=h1;have p1:RfP l 1 s0 s1:=zK hV.fin (λhb=>by unfold xC at hb;simp only[decide_eq_true_eq]at hb;omega) v0 h1
  have v1:=dS.next p1;simp;refine eB dB (gW hV [40] s1 v1) (λb x hx=>?_);cases hx;rcases Bool.eq_false_or_eq_true (cF l 0 [40] s1)with w|w
  .rw[w];simp;refine eB c2B (c5Z hV s1 v1) (λns s2 h2=>?_);have p2:RfP l 1 s1 s2:=(aM.words (low:=0) hV.fin hV.tkw).kL (aB.words hV.fin) v1 (λ_=>Nat.zero_le _) h2;have v2:=dS.next p2;simp;refine rfN [45,62] v2 hV.fin λu3 s3 h3 p3 v3=>?_;have l3:s3.er=0->low+1<=s3.pl:=λh=>by have:=(RfP.tr (RfP.tr p1 p2) p3) h;have:=l0 this.1;omega
   simp;refine eB gX (h0 s3 v3 l3) (λe s4 h4=>?_);have p4:RfP l 1 s3 s4:=(hM 0).kL (ax 0) v3 l3 h4;have v4:=dS.next p4;simp;refine kK (by first|omega|(simp[c9M];omega)|exact⟨λx hx=>by obtain⟨y,_,rfl⟩:=List.mem_map.1 hx;rfl,by omega⟩) ?_;simp;have ho:d7O l ex' a s0=(a++[(c,some ns,e)],s4):=by
    show(zX l >>=λc=>a0n (cF l 0 [40]) >>=λb=>(if b then sA aJ l >>=λns=>pure (some ns) else pure none:RM (Option (List Nm))) >>=λns=>bQ l [45,62] >>=λ_=>ex' 0 >>=λb=>pure (a++[(c,ns,b)])) s0=_
    rw[cO,h1]
    show((if cF l 0 [40] s1 then sA aJ l >>=λns=>pure (some ns) else pure none:RM (Option (List Nm))) >>=λns=>bQ l [45,62] >>=λ_=>ex' 0 >>=λb=>pure (a++[(c,ns,b)])) s1=_
    have hN:(sA aJ l >>=λns=>pure (some ns):RM (Option (List Nm))) s1=(some ns,s2):=by
     rw[cO,h2]
     rfl
    rw[w,if_pos rfl,cO,hN]
    show(bQ l [45,62] >>=λ_=>ex' 0 >>=λb=>pure (a++[(c,some ns,b)])) s2=_
    rw[cO,h3,cO,h4]
    rfl
   refine eB cT (eQ (by omega) [59] s4 v4) (λbh sh hh=>?_);simp;refine hR _ (a++[(c,some ns,e)]) s4 ho (by rw[hh];simp[c9M]) (λh=>?_) (by simp) trivial;have:=(((p1.tr p2).tr p3).tr p4) h;omega
  .rw[w];simp;refine rfN [45,62] v1 hV.fin λu3 s3 h3 p3 v3=>?_;have l3:s3.er=0->low+1<=s3.pl:=λh=>by have:=(RfP.tr p1 p3) h;have:=l0 this.1;omega
   simp;refine eB gX (h0 s3 v3 l3) (λe s4 h4=>?_);have p4:RfP l 1 s3 s4:=(hM 0).kL (ax 0) v3 l3 h4;have v4:=dS.next p4;simp;refine kK (by first|omega|(simp[c9M];omega)|exact⟨λx hx=>by obtain⟨y,_,rfl⟩:=List.mem_map.1 hx;rfl,by omega⟩) ?_;simp;have ho:d7O l ex' a s0=(a++[(c,none,e)],s4):=by
    show(zX l >>=λc=>a0n (cF l 0 [40]) >>=λb=>(if b then sA aJ l >>=λns=>pure (some ns) else pure none:RM (Option (List Nm))) >>=λns=>bQ l [45,62] >>=λ_=>ex' 0 >>=λb=>pure (a++[(c,ns,b)])) s0=_
    rw[cO,h1]
    show((if cF l 0 [40] s1 then sA aJ l >>=λns=>pure (some ns) else pure none:RM (Option (List Nm))) >>=λns=>bQ l [45,62] >>=λ_=>ex' 0 >>=λb=>pure (a++[(c,ns,b)])) s1=_
    rw[w,if_neg (by decide)]
    show(bQ l [45,62] >>=λ_=>ex' 0 >>=λb=>pure (a++[(c,none,b)])) s1=_
    rw[cO,h3,cO,h4]
    rfl
   refine eB cT (eQ (by omega) [59] s4 v4) (λbh sh hh=>?_);simp;refine hR _ (a++[(c,none,e)]) s4 ho (by rw[hh];simp[c9M]) (λh=>?_) (by simp) trivial;have:=((p1.tr p3).tr p4) h;omega
 ·
  intro a s2 m hm sE la hJ v2 hy R;have hm':m=false\/(m=true/\ ¬s2.er=0):=by
   cases m
   .exact .inl rfl
   .rcases hm with h|h
    .cases h
    .exact .inr ⟨rfl,h⟩
  have Q2:=Q1.step (x:=sZ l [59] (f2q l ex') []) ((b0b (List.map c7l) e2X _ [] s1).trans (by rw[hy]));have hwk:=e8C a;rcases hm' with rfl|⟨rfl,h⟩
  all_goals
   first
    |simp[h]
    |simp
   refine rfM Q2 v2 hV.fin λu3 s3 h3 Q3 p3 v3=>?_;simp;exact Q3.ok _ _ (.inr rfl) (by simpa using hwk)
theorem d3G(s:dW)(hv:dS l s)(cC:s.er=0->low+1<=s.pl):eR G 101 [] l s (b6y aJ aZ aE l ex' s) gQ:=by
 have hl:=hV.len;obtain⟨s0,rfl⟩:∃s0,s0=s:=⟨_,rfl⟩;have v0:=hv;refine eR.a0k func101 rfl ntmps101 rfl ?_;intro Q Q0;unfold b6y at Q0;refine SW.jW (SW.xk ?_);simp;refine SW.jW (SW.xk ?_);simp;refine rfG Q0 v0 wW (zF (by omega) s0 v0) (zM hV.fin) λnm s1 h1 Q1 p1 v1=>?_;simp;obtain⟨b,s2,h2⟩:∃b s2,jQ l [58] s1=(b,s2):=⟨_,_,rfl⟩;have Q2:=Q1.step h2;have p2:RfP l 0 s1 s2:=a4W hV.fin v1 h2;have v2:=dS.next p2;obtain⟨ts,s3,h3⟩:∃ts s3,(if b=true then yA aJ aZ aE l >>=λt=>pure [t] else pure []:RM (List Ty)) s2=(ts,s3):=⟨_,_,rfl⟩;have Q3:=Q2.step h3;have p3:RfP l 0 s2 s3:=by
  intro h;cases b with
  |true=>
   obtain⟨t,s',ht⟩:∃t s',yA aJ aZ aE l s2=(t,s'):=⟨_,_,rfl⟩;rw[if_pos rfl,cO,ht]at h3;cases h3;have:=a7T hV v2 ht h;refine⟨this.1,?_,this.2.2⟩
   show s2.pl+0<=s'.pl
   omega
  |false=>rw[if_neg (by decide)]at h3;cases h3;exact⟨h,g1m _,v2 h⟩
 have v3:=dS.next p3;refine SW.d2g [] ([(3,.cells [.d (.int .i64 7),.d (.str nm),.d (.int .i64 0),.d .aD,.d .aD,.d .aD,.d (.sl (ts.map tyC))]),(2,.cells [.d (.int .i64 0),.d (.str []),.d (.int .i64 0),.d .aD,.d .aD,.d .aD,.d .aD])]++rfH l s3) [] (SW.xk ?_) (SW.xk ?_)
 .simp;refine eB cT (eQ (by omega) [58] s1 v1) (λb2 x hx=>?_);cases hx.symm.trans h2;cases b with
  |true=>rw[if_pos rfl]at h3;simp;refine eB sC (a7S hV s2 v2) (λt x hx=>?_);rw[cO,hx]at h3;cases h3;simp[bV]
  |false=>rw[if_neg (by decide)]at h3;cases h3;simp
 simp;refine rfM Q3 v3 hV.fin λu4 s4 h4 Q4 p4 v4=>?_;have l4:s4.er=0->low+1<=s4.pl:=λh=>by have:=(RfP.tr (RfP.tr (RfP.tr p1 p2) p3) p4) h;have:=cC this.1;omega
 simp;refine eB gX (h0 s4 v4 l4) (λa s5 h5=>?_);have Q5:=Q4.step h5;have p5:RfP l 1 s4 s5:=(hM 0).kL (ax 0) v4 l4 h5;have v5:=dS.next p5;simp;refine eB pG (uT (by omega) [105,110] s5 v5) (λc x hx=>?_);cases hx;simp;refine eB gV (oH (by omega) (oL l [105,110] s5) s5 v5) (λu6 s6 h6=>?_);have Q6:=Q5.step (x:=wT l [105,110]) h6;have p6:=zL hV.fin v5 h6;have v6:=dS.next p6;have l6:s6.er=0->low+1<=s6.pl:=λh=>by have:=(RfP.tr p5 p6) h;have:=l4 this.1;omega
 simp;refine kP 2 [1] (.op 0 (.call [3,4,5] .none) (.call [0,3,4,5] .none)) true (by kernel_rfl) (by kernel_rfl) ?_;simp;refine⟨?_,?_⟩
 all_goals
  refine rfZ gX (h0 s6 v6 l6) (λc s7 h7=>?_);have Q7:=Q6.step h7;refine cJ.mk ?_;simp;exact Q7.ok _ _ (.inr rfl) (by simp[bT])
end
end
end
section
open Go Go.VM
variable {G:GT}
section
variable {β:Type} {Q:Exit->St->Prop} {l:List Tok} {s:dW} {enc:β->DV} {o:TypeId}
theorem f6d{f:FuncId}{ds:List D}{av:List DV}{y:β×dW}{st:St}{ls:List (Option VM.Loc)}{dst:Option Tmp}{all:Array Oper}{ops:List Oper}{k:List XI}(he:VM.Enters prog f)(hc:RfG G f ds l s y enc [(o,[.t 0])])(oI:∀a s1,y=(a,s1)->XK prog G (.ops all ops::k) .normal (bG K1 dst st st.own (enc a) (rfH l s1) [(o,[.t 0])]) Q)(hk:∀a,aQ K1 (enc a)=true/\bF K1 (enc a)=enc a:=by intro a;exact⟨rfl,rfl⟩)(hw:WkT av (.ptr 100000 0::ds.map .d):=by simp)(hH:getKey 100000 st.H=some (rfO l s):=by simp):dO prog G f av ls dst all ops k st Q:=by
 refine dO.mk (tF.mk (x:=.inl (enc y.1,rfH l y.2,[(o,[.t 0])])) he hc K1 (λd H1 own1 hx=>?_) (λv hx=>by cases hx) ?_ ?_ rfl rfl (λd H1 own1 hx=>?_) (λv hx=>by cases hx) (rest:=st.own))
 .cases hx;simp[aL,aQ,aW,aV,eF,bH,getKey,(hk y.1).1]
 .simpa[aR,bF,rk,jP]using hw
 .simp only[cX,rfO,List.map_cons,List.map_nil,rk,if_true,dD,aR,bF,WkH,and_true];exact⟨_,hH,by simp[WkO]⟩
 .cases hx;exact oI y.1 y.2 rfl
end
theorem b8g{β:Type}{l:List Tok}{sep:Nm}{one:List β->RM (List β)}(h:∀a s,(one a s).1.length<=a.length+1):∀g a s,(pR l sep one g a s).1.length<=a.length+g
 |0,a,s=>g1m _
 |g+1,a,s=>by
  unfold pR;have h1:=h a s;split
  .split
   .have:=b8g (l:=l) (sep:=sep) h g (one a s).1 ⟨(one a s).2.pl+1,(one a s).2.er,(one a s).2.ln⟩;omega
   .omega
  .simp
theorem c9O{l:List Tok}{ex':Nat->RM cG}(s:dW):(sB l ex' s).1.length<=l.length+2:=by
 have h:∀s,(sZ l [44] (λout:List cG=>do let e <- ex' 0;pure (out++[e])) [] s).1.length<=0+(l.length+2):=λs=>b8g (λa s=>by simp[cO]) _ _ _;have h2:=h (bQ l [40] s).2
 show(sZ l [44] (λout:List cG=>do let e <- ex' 0;pure (out++[e])) [] (bQ l [40] s).2).1.length<=_
 omega
section
variable {aE:List Tok->Nat->Nat->kJ Pr} {l:List Tok} (hV:vW G aE l)
include hV
omit hV in
theorem b0c(s:dW)(hs:s.er≠0):eR G 56 [] l s (xS,s) gQ:=by obtain⟨i,e,ln⟩:=s;refine eR.bL func56 rfl ntmps56 rfl ?_;intro Q Q0;simp[hs];exact Q0.ok _ _ (.inr rfl) (by simp[xS])
theorem c3x{s s1:dW}{ps:List (Nm×Ty)}(hv:dS l s)(h:a1U aJ aZ aE l s=(ps,s1)):RfP l 0 s s1:=by
 have hE:=hV.fin;have hW:=hV.tkw;have aT:=aB.typ (kw:=aJ) (andP:=aZ) hE hV.kL.pred;have aO:∀out:List (Nm×Ty),aB l 0 (bW aJ l >>=λw=>cQ l [58] >>=λb=>(if b then jI aJ aZ aE l else pure mO) >>=λt=>pure (out++[(w,t)])):=λout=>((aB.word hE).le (by omega)).bl λ_=>(aB.skip hE _).bl λ_=>aB.bl (aB.ite (aT.le (by omega)) (aB.bY _)) λ_=>aB.bY _;have hM:aM l 0 (aY l [[40]] >>=λ_=>dP l [44] (λout=>bW aJ l >>=λw=>cQ l [58] >>=λb=>(if b then jI aJ aZ aE l else pure mO) >>=λt=>pure (out++[(w,t)])) [] >>=λps=>aY l [[41]] >>=λ_=>pure ps) (a1U aJ aZ aE l):=
  aM.tA hE hW (by decide) (aM.nil (aM.b0 (m:=0) (aM.list hE hW (by decide) (λout=>aM.b0 aM.word (aB.word hE) λw=>aM.b0 (aM.b6C hE hW (by decide)) (aB.skip hE _) λb=>aM.b0 (m:=0) (aM.ite (aM.typ hE hW hV.kL hV.nz) (aM.bY _)) (aB.ite (aT.le (by omega)) (aB.bY _)) λt=>aM.bY _) aO _) (aB.list hE aO _) λps=>aM.tA hE hW (by decide) (aM.nil (aM.bY _))))
 exact hM.kL (((aB.exp hE _ _).le (by omega)).bl λ_=>(aB.list hE aO _).bl λ_=>((aB.exp hE _ _).le (by omega)).bl λ_=>aB.bY _) hv (λ_=>Nat.zero_le _) h
section
variable {ex:Nat->bE cG} {ex':Nat->RM cG} {low:Nat} (hM:∀k,aM l (low+1) (ex k) (ex' k)) (ax:∀k,aB l 1 (ex k)) (h0:∀s,dS l s->(s.er=0->low+1<=s.pl)->eR G 56 [] l s (ex' 0 s) gQ) (h7:∀s,dS l s->s.er=0->low+1<=s.pl->eR G 150 [] l s (ex' 7 s) gQ) (hn:∀i, -9223372036854775807<=(aG l i).n/\(aG l i).n<=9223372036854775807) (h3:∀s,dS l s->s.er=0->low+1<=s.pl->eR G 106 [.int .i64 3] l s (ex' 3 s) gQ)
include hM ax h0 h7 hn h3
theorem c7m(s:dW)(hv:dS l s)(cC:s.er=0->low<=s.pl):eR G 56 [] l s (b6z aJ aZ aE l ex' s) gQ:=by
 have hl:=hV.len;by_cases he:s.er=0;rotate_left
 .have:=b0c (G:=G) (l:=l) s he;unfold b6z
  rwa[if_neg he]
 have he':(s.er=0)=True:=eq_true he;have lo:=cC he;obtain⟨s0,rfl⟩:∃s0,s0=s:=⟨_,rfl⟩;have v0:=hv;refine eR.bL func56 rfl ntmps56 rfl ?_;intro Q Q0;unfold b6z at Q0;have Q0:=Q0.tH he;simp[he'];refine eB mJ (pX (by omega) [108,101,116] s0 v0) (λb s1 hx=>?_);have hx:=oY hV hx;have a2k:oL l [108,101,116] s0=true->s1=⟨s0.pl+1,s0.er,s0.ln⟩->s1.er=0->low+1<=s1.pl:=λ_ h _=>by rw[h];exact Nat.succ_le_succ lo
 rcases hx with⟨w,rfl,e1,v1⟩|⟨w,rfl,e1⟩
 .have l1:=a2k w e1;have Q1:=Q0.tH w;rw[<-e1]at Q1;simp;refine eB c9L (d3G hV hM ax h0 s1 v1 l1) (λe s2 h2=>?_);have Q2:=Q1.eq h2;simp;exact Q2.ok _ _ (.inr rfl) (by simp)
 have Q0:=Q0.rF (by rw[w];decide);rw[e1];simp
 clear a2k e1
 refine eB mJ (pX (by omega) [105,102] s0 v0) (λb s1 hx=>?_);have hx:=oY hV hx;have a2k:oL l [105,102] s0=true->s1=⟨s0.pl+1,s0.er,s0.ln⟩->s1.er=0->low+1<=s1.pl:=λ_ h _=>by rw[h];exact Nat.succ_le_succ lo
 rcases hx with⟨w,rfl,e1,v1⟩|⟨w,rfl,e1⟩
 .have l1:=a2k w e1;have Q1:=Q0.tH w;rw[<-e1]at Q1;simp;refine eB gX (h0 s1 v1 l1) (λa s2 h2=>?_);have Q2:=Q1.step h2;have p2:RfP l 1 s1 s2:=(hM 0).kL (ax 0) v1 l1 h2;have v2:=dS.next p2;have l2:s2.er=0->low+1<=s2.pl:=λh=>by have:=p2 h;have:=l1 this.1;omega
  simp;refine eB pG (uT (by omega) [116,104,101,110] s2 v2) (λc x hx=>?_);cases hx;simp;refine eB gV (oH (by omega) (oL l [116,104,101,110] s2) s2 v2) (λu3 s3 h3=>?_);have Q3:=Q2.step (x:=wT l [116,104,101,110]) h3;have p3:=zL hV.fin v2 h3;have v3:=dS.next p3;have l3:s3.er=0->low+1<=s3.pl:=λh=>by have:=p3 h;have:=l2 this.1;omega
  simp;refine eB gX (h0 s3 v3 l3) (λb s4 h4=>?_);have Q4:=Q3.step h4;have p4:RfP l 1 s3 s4:=(hM 0).kL (ax 0) v3 l3 h4;have v4:=dS.next p4;have l4:s4.er=0->low+1<=s4.pl:=λh=>by have:=p4 h;have:=l3 this.1;omega
  simp;refine eB pG (uT (by omega) [101,108,115,101] s4 v4) (λc x hx=>?_);cases hx;simp;refine eB gV (oH (by omega) (oL l [101,108,115,101] s4) s4 v4) (λu5 s5 h5=>?_);have Q5:=Q4.step (x:=wT l [101,108,115,101]) h5;have p5:=zL hV.fin v4 h5;have v5:=dS.next p5;have l5:s5.er=0->low+1<=s5.pl:=λh=>by have:=p5 h;have:=l4 this.1;omega
  simp;refine kP 3 [2] (.op 0 (.op 1 (.call [4,5,6] .none) (.call [1,4,5,6] .none)) (.op 1 (.op 0 (.call [4,5,6] .none) (.call [0,4,5,6] .none)) (.call [0,1,4,5,6] .none))) true (by kernel_rfl) (by kernel_rfl) ?_;simp;refine⟨⟨?_,?_⟩,⟨?_,?_⟩,?_⟩
  all_goals
   refine rfZ gX (h0 s5 v5 l5) (λc s6 h6=>?_);have Q6:=Q5.step h6;refine cJ.mk ?_;simp;exact Q6.ok _ _ (.inr rfl) (by simp[bT])
 have Q0:=Q0.rF (by rw[w];decide);rw[e1];simp
 clear a2k e1
 refine eB mJ (pX (by omega) [99,97,115,101] s0 v0) (λb s1 hx=>?_);have hx:=oY hV hx;have a2k:oL l [99,97,115,101] s0=true->s1=⟨s0.pl+1,s0.er,s0.ln⟩->s1.er=0->low+1<=s1.pl:=λ_ h _=>by rw[h];exact Nat.succ_le_succ lo
 rcases hx with⟨w,rfl,e1,v1⟩|⟨w,rfl,e1⟩
 .have l1:=a2k w e1;have Q1:=Q0.tH w;rw[<-e1]at Q1;simp;refine eB gX (h0 s1 v1 l1) (λa s2 h2=>?_);have Q2:=Q1.step h2;have p2:RfP l 1 s1 s2:=(hM 0).kL (ax 0) v1 l1 h2;have v2:=dS.next p2;have l2:s2.er=0->low+1<=s2.pl:=λh=>by have:=p2 h;have:=l1 this.1;omega
  simp;refine eB pG (uT (by omega) [111,102] s2 v2) (λc x hx=>?_);cases hx;simp;refine eB gV (oH (by omega) (oL l [111,102] s2) s2 v2) (λu3 s3 h3=>?_);have Q3:=Q2.step (x:=wT l [111,102]) h3;have p3:=zL hV.fin v2 h3;have v3:=dS.next p3;have l3:s3.er=0->low+1<=s3.pl:=λh=>by have:=p3 h;have:=l2 this.1;omega
  simp;refine kP 3 [2] (.op 0 (.op 1 (.call [4,5] .none) (.call [1,4,5] .none)) (.call [0,1,4,5] .none)) true (by kernel_rfl) (by kernel_rfl) ?_;simp;refine⟨⟨?_,?_⟩,?_⟩
  all_goals
   refine rfZ c7g (c9N hV hM ax h0 s3 v3 (λh=>by have:=l3 h;omega)) (λc s4 h4=>?_);have Q4:=Q3.step h4;refine cJ.mk ?_;simp;exact Q4.ok _ _ (.inr rfl) (by simp[bT])
 have Q0:=Q0.rF (by rw[w];decide);rw[e1];simp
 clear a2k e1
 refine eB mJ (pX (by omega) [102,117,110] s0 v0) (λb s1 hx=>?_);have hx:=oY hV hx;have a2k:oL l [102,117,110] s0=true->s1=⟨s0.pl+1,s0.er,s0.ln⟩->s1.er=0->low+1<=s1.pl:=λ_ h _=>by rw[h];exact Nat.succ_le_succ lo
 rcases hx with⟨w,rfl,e1,v1⟩|⟨w,rfl,e1⟩
 .have l1:=a2k w e1;have Q1:=Q0.tH w;rw[<-e1]at Q1;simp;refine eB b9q (c3w hV s1 v1) (λps s2 h2=>?_);have Q2:=Q1.step h2;have p2:RfP l 0 s1 s2:=c3x hV v1 h2;have v2:=dS.next p2;have l2:s2.er=0->low+1<=s2.pl:=λh=>by have:=p2 h;have:=l1 this.1;omega
  simp;refine rfM Q2 v2 hV.fin λu3 s3 h3 Q3 p3 v3=>?_;have l3:s3.er=0->low+1<=s3.pl:=λh=>by have:=p3 h;have:=l2 this.1;omega
  simp;refine eB gX (h0 s3 v3 l3) (λa s4 h4=>?_);have Q4:=Q3.step h4;have p4:RfP l 1 s3 s4:=(hM 0).kL (ax 0) v3 l3 h4;have v4:=dS.next p4;have l4:s4.er=0->low+1<=s4.pl:=λh=>by have:=p4 h;have:=l3 this.1;omega
  simp;exact Q4.ok _ _ (.inr rfl) (by simp[bT])
 have Q0:=Q0.rF (by rw[w];decide);rw[e1];simp
 clear a2k e1
 refine eB mJ (pX (by omega) [117,115,101] s0 v0) (λb s1 hx=>?_);have hx:=oY hV hx;have a2k:oL l [117,115,101] s0=true->s1=⟨s0.pl+1,s0.er,s0.ln⟩->s1.er=0->low+1<=s1.pl:=λ_ h _=>by rw[h];exact Nat.succ_le_succ lo
 rcases hx with⟨w,rfl,e1,v1⟩|⟨w,rfl,e1⟩
 .have l1:=a2k w e1;have Q1:=Q0.tH w;rw[<-e1]at Q1;simp;refine rfG Q1 v1 wW (zF (by omega) s1 v1) (zM hV.fin) λnm s2 h2 Q2 p2 v2=>?_;have l2:s2.er=0->low+1<=s2.pl:=λh=>by have:=p2 h;have:=l1 this.1;omega
  simp;refine f6d a7m (b3Z hV hM ax h0 s2 v2 (λh=>by have:=l2 h;omega)) (λks s3 h3=>?_);have Q3:=Q2.step h3;have hA:=aM.mZ (l:=l) hV.fin hV.tkw hV.kL hV.nz hM ax;have p3:RfP l 1 s2 s3:=hA.kL (aB.mZ hV.fin ax) v2 (λh=>by have:=l2 h;omega) h3;have v3:=dS.next p3;have l3:s3.er=0->low+1<=s3.pl:=λh=>by have:=p3 h;have:=l2 this.1;omega
  simp[bG,bS,cX,dD,aR,bF,rk,kC,gM,dX];refine eB pG (uT (by omega) [105,110] s3 v3) (λc x hx=>?_);cases hx;simp;refine eB gV (oH (by omega) (oL l [105,110] s3) s3 v3) (λu4 s4 h4=>?_);have Q4:=Q3.step (x:=wT l [105,110]) h4;have p4:=zL hV.fin v3 h4;have v4:=dS.next p4;have l4:s4.er=0->low+1<=s4.pl:=λh=>by have:=p4 h;have:=l3 this.1;omega
  simp;have kl:ks.length<=20002:=by have:=c9O (l:=l) (ex':=ex') s2;rw[h3]at this;simp only at this;omega
  refine gC [0] 3 [2] (.op 1 (.call [4,5,6,7] .none) (.call [1,4,5,6,7] .none)) true (by kernel_rfl) (by kernel_rfl) ?_;simp;refine⟨?_,?_⟩
  all_goals
   refine rfZ gX (h0 s4 v4 l4) (λe s5 h5=>?_);have p5:RfP l _ s4 s5:=(hM 0).kL (ax 0) v4 l4 h5;have v5:=dS.next p5;refine cJ.mk ?_;simp
  all_goals
   have Q5:=Q4.step h5;refine cK (by first|omega|(simp[bT];omega)|exact⟨λx hx=>by obtain⟨y,_,rfl⟩:=List.mem_map.1 hx;first|rfl|(rw[bT];rfl),by omega⟩|exact⟨rfl,by omega⟩) ?_;simp;exact Q5.ok _ _ (.inr rfl) (by simp[bT])
 have Q0:=Q0.rF (by rw[w];decide);rw[e1];simp;refine eB kH (d7M hV hM ax h0 h7 hn h3 s0 v0 (λ_=>lo)) (λe s2 h2=>?_);have Q0:=Q0.eq h2;simp;exact Q0.ok _ _ (.inr rfl) (by simp)
end
theorem c1g(hn:∀i, -9223372036854775807<=(aG l i).n/\(aG l i).n<=9223372036854775807):∀(n low:Nat),l.length<n+low->(∀s,dS l s->(s.er=0->low<=s.pl)->eR G 56 [] l s (b1d aJ aZ aE l n 0 s) gQ)/\(∀s,dS l s->s.er=0->low<=s.pl->eR G 106 [.int .i64 3] l s (b1d aJ aZ aE l n 3 s) gQ)/\(∀s,dS l s->s.er=0->low<=s.pl->eR G 150 [] l s (b1d aJ aZ aE l n 7 s) gQ)
 |0,low,h=>⟨λs hv cC=>by
   have he:s.er≠0:=λh0=>by have:=hv h0;have:=cC h0;omega
   exact b0c s he,λs hv he cC=>by
   have:=hv he;omega,λs hv he cC=>by
   have:=hv he;omega⟩
 |n+1,low,h=>by obtain⟨i0,i3,i7⟩:=c1g hn n (low+1) (by omega);have hM:=aM.exF (kw:=aJ) (andP:=aZ) hV.fin hV.tkw hV.kL hV.nz n (low+1) (by omega);have ax:=λk=>aB.exF (kw:=aJ) (andP:=aZ) hV.fin hV.kL.pred n k;exact⟨λs hv cC=>c7m hV hM ax i0 i7 hn i3 s hv cC,λs hv he cC=>c1e hV hM ax i0 i7 hn i3 s hv (λ_=>cC),λs hv he cC=>b4a hV hM ax i0 i7 hn s hv (λ_=>cC)⟩
theorem c9P(hn:∀i, -9223372036854775807<=(aG l i).n/\(aG l i).n<=9223372036854775807)(s:dW)(hv:dS l s):eR G 56 [] l s (c8N aJ aZ aE l s) gQ:=(c1g hV hn (l.length+2) 0 (by omega)).1 s hv (λ_=>Nat.zero_le _)
end
end
section
open Go Go.VM
variable {G:GT}
theorem c3y:VM.Enters prog 26:=.mk func26 rfl
theorem c7n(s:List UInt8)(hs:s.length<=19000):CS prog G 26 [.str s] (.cI [.agg (yL (a3v xS (eI exM s))),.int .i64 (a3Z (eI exM s))]) none:=by
 have mU:=c3s (G:=G) s (by omega);obtain⟨t,s1,h1,v1,hl,ht⟩:=f2m (G:=G) (x:=exM) (y:=λl=>c8N aJ aZ rdQ l) (enc:=gQ) xS s hs (λl hV hn s hv=>c9P hV hn s hv) (λs hs=>b0c s hs) (λl hV=>aM.expr hV.fin hV.tkw hV.kL hV.nz) (λl hV=>(aB.expr hV.fin hV.kL.pred).le (by omega));have hen:=d3C (G:=G) hl s1 v1;generalize (qN s).1=l at mU h1 v1 hl hen ht;generalize (qN s).2=s0 at mU h1;obtain⟨s2,hs2⟩:∃s2,(b1e l s1).2=s2:=⟨_,rfl⟩;rw[hs2]at ht;obtain⟨op,nm,nn,ks,pas,als,tys⟩:=t;refine CS.a4G func26 rfl ntmps26 rfl (SW.xk ?_);simp;refine mG.new b9n mU 50000 (by simp) rfl (by decide) (by simp[getKey]) (by simp[b0a]) (by simp[b8d]) (by simp[b0a]) ?_;simp;refine f2l (hH:=by simp[getKey]) 50000 gX h1 (λt s' hx=>?_);cases hx;simp;refine f2l (hH:=by simp[getKey]) 50000 c9H hen (λt s' hx=>?_);have e2:s'=s2:=by rw[<-hs2,hx]
 subst e2;cases hr:eI exM s with
 |ok a j=>rw[hr]at ht;obtain⟨rfl,h0⟩:=ht;simp[h0,a3v,a3Z]
 |bad n e=>rw[hr]at ht;obtain⟨k1,k2,k3⟩:=ht;subst k2;simp[k1,a3v,a3Z];refine d5R 5 [0] (.op 1 (.op 2 (.op 3 (.op 4 (.call [6] .none) (.call [4,6] .none)) (.call [3,4,6] .none)) (.call [2,3,4,6] .none)) (.call [1,2,3,4,6] .none)) (by kernel_rfl) (by kernel_rfl) ?_;simp[xS]
end
section
open Go Go.VM
variable {G:GT}
theorem a7o:VM.Enters prog 17:=.mk func17 rfl
theorem jB.mkd{P:Program}{q ro:Bool}{ls:List (Option VM.Loc)}{f:FuncId}{s0:St}{r:DV}{st:St}{«g0U» :List DV}{dst:Option Tmp}{all:Array Oper}{ops:List Oper}{k:List KI}{Q:Exit->St->Prop}{rest:List (TypeId×List VM.Loc)}(he:VM.Enters P f)(hch:CHd P G f s0 r)(K:List (Nat×Nat))(H':List (Nat×bD))(kU:aL K s0 .undef s0.H=true)(kO:WkT «g0U» (aR K s0.tmps))(hH:WkH st.H (cX K s0.H))(mN:wP st st.own (s0.own.map (qS K ls))=some rest)(b8D:a0C st.tmps.length ls s0.own=true)(hK:∀k o,getKey k H'=some o->getKey k st.H=some o/\∀p∈s0.H,k≠rk K p.1)(h:VK P G (.ops q all ops::k) .normal ⟨jN dst r st.tmps,H',[]⟩ Q)(hro:ro=false:=by kernel_rfl):jB P G q ro f «g0U» ls dst all ops k st Q:=jB.mk' ⟨_,⟨he,oD.e8p hch K H' kU kO hH mN b8D hK⟩,h⟩ hro
theorem a8T(hG:G 1=some eK)(hS:G 0=some zW)(s:List UInt8)(hs:s.length<=900000000):CS prog G 17 [.str s] (.cI [.agg (tyD (a3v mO (eI tyM s))),.int .i64 (a3Z (eI tyM s))]) none:=by
 have hrd:=a3H hG hS (C:=tyD) mO b2I tyM s hs (λl hV hN hp=>c6L hV mO 0 hp) (λl a j hE hB hx=>((aB.typ hE hB.pred) 0 a j (List.length_pos_iff.2 hE.1) hx).2);have hnz:∀n e,eI tyM s=.bad n e->e≠0:=λn e h=>b1K (λl n e hE hB hp h=>bB.typ (b7V l) 0 n e h) h;cases hr:eI tyM s with
 |ok t j=>
  rw[hr]at hrd;refine CS.aX func17 rfl ntmps17 rfl ?_;simp;refine jB.mk mS hrd [(100001,4)] ?_ ?_ ?_ rfl rfl ?_ (rest:=[])
  .simp[aL,aQ,aW,aV,bH,getKey]
  .simp[aR,bF,rk]
  .simp[aR,bF,rk,cX,dD,mO,eY,strs]
  .simp[bG,aR,bF,rk,cX,dD,bS,kC,gM,dX,a3v,a3Z]
 |bad n e=>
  rw[hr]at hrd;have he:=hnz n e hr;refine CS.aX func17 rfl ntmps17 rfl ?_;simp;refine jB.mkd mS hrd [(100001,4)] [(2,.cells [.d (.int .i64 0),.d (.str []),.d .aD,.d .aD,.d (.int .i64 0),.d (.str []),.d (.int .i64 0),.d .aD,.d .aD])] ?_ ?_ ?_ rfl rfl ?_ ?_ (rest:=[])
  .simp[aL,aQ,aW,aV,bH,getKey]
  .simp[aR,bF,rk]
  .simp[aR,bF,rk,cX,dD,mO,eY,strs]
  .intro k o hk;simp only[getKey]at hk;split at hk
   .rename_i h2;subst h2;exact⟨by simpa[getKey]using hk,by simp[rk]⟩
   .cases hk
  .simp[a3v,a3Z,he,mO,eY,strs]
theorem pJ:VM.Enters prog 14:=.mk func14 rfl
theorem qB(hG:G 1=some eK)(hS:G 0=some zW)(s:List UInt8)(hs:s.length<=900000000):CS prog G 14 [.str s] (.cI [.agg (yL (a3v xS (eI exM s))),.int .i64 (a3Z (eI exM s))]) none:=by
 have hrd:=a3H hG hS (C:=yL) xS b2H exM s hs (λl hV hN hp=>c6M hV hN xS 0 hp) (λl a j hE hB hx=>((aB.exF hE hB.pred _ 0) 0 a j (List.length_pos_iff.2 hE.1) hx).2);have hnz:∀n e,eI exM s=.bad n e->e≠0:=λn e h=>b1K (λl n e hE hB hp h=>bB.expr (b7V l) 0 n e h) h;cases hr:eI exM s with
 |ok t j=>
  rw[hr]at hrd;refine CS.aX func14 rfl ntmps14 rfl ?_;simp;refine jB.mk mS hrd [(100001,4)] ?_ ?_ ?_ rfl rfl ?_ (rest:=[])
  .simp[aL,aQ,aW,aV,bH,getKey]
  .simp[aR,bF,rk]
  .simp[aR,bF,rk,cX,dD,xS,yL,strs]
  .simp[bG,aR,bF,rk,cX,dD,bS,kC,gM,dX,a3v,a3Z]
 |bad n e=>
  rw[hr]at hrd;have he:=hnz n e hr;refine CS.aX func14 rfl ntmps14 rfl ?_;simp;refine jB.mkd mS hrd [(100001,4)] [(2,.cells [.d (.int .i64 0),.d (.str []),.d (.int .i64 0),.d .aD,.d .aD,.d .aD,.d .aD])] ?_ ?_ ?_ rfl rfl ?_ ?_ (rest:=[])
  .simp[aL,aQ,aW,aV,bH,getKey]
  .simp[aR,bF,rk]
  .simp[aR,bF,rk,cX,dD,xS,yL,strs]
  .intro k o hk;simp only[getKey]at hk;split at hk
   .rename_i h2;subst h2;exact⟨by simpa[getKey]using hk,by simp[rk]⟩
   .cases hk
  .simp[a3v,a3Z,he,xS,yL,strs]
theorem d7P{l:List Tok}(hE:oK l)(hB:a1S rdQ l):aB l 0 (a3u rdQ l):=aB.bl (aB.e7l hE hB) λd=>by
 cases d with
 |none=>exact aB.failed
 |some d=>exact(aB.skip hE _).bl λ_=>aB.bY _
theorem e2Y{l:List Tok}:bB (a3u rdQ l):=bB.yK (bB.defn (b7V l)) λd=>by
 cases d with
 |none=>exact bB.failed
 |some d=>exact bB.yK (bB.skip _) λ_=>bB.bY _
theorem b9r:VM.Enters prog 27:=.mk func27 rfl
theorem c3z(hG:G 1=some eK)(hS:G 0=some zW)(s:List UInt8)(hs:s.length<=900000000):CS prog G 27 [.str s] (.cI [.agg (b4A (a3v b4B (eI (a3u rdQ) s))),.int .i64 (a3Z (eI (a3u rdQ) s))]) none:=by
 have hrd:=a3H hG hS (C:=b4A) b4B b4E (a3u rdQ) s hs (λl hV hN hp=>c9w hV hN b4B 0 hp) (λl a j hE hB hx=>((d7P hE hB) 0 a j (List.length_pos_iff.2 hE.1) hx).2);have hnz:∀n e,eI (a3u rdQ) s=.bad n e->e≠0:=λn e h=>b1K (λl n e hE hB hp h=>e2Y 0 n e h) h;cases hr:eI (a3u rdQ) s with
 |ok t j=>
  rw[hr]at hrd;refine CS.aX func27 rfl ntmps27 rfl ?_;simp;refine jB.mk mS hrd [(100001,4)] ?_ ?_ ?_ rfl rfl ?_ (rest:=[])
  .simp[aL,aQ,aW,aV,bH,getKey]
  .simp[aR,bF,rk]
  .simp[aR,bF,rk,cX,dD,b4B,b4A,c2V,b8H,mO,eY,xS,bT,strs]
  .simp[bG,aR,bF,rk,cX,dD,bS,kC,gM,dX,a3v,a3Z]
 |bad n e=>
  rw[hr]at hrd;have he:=hnz n e hr;refine CS.aX func27 rfl ntmps27 rfl ?_;simp;refine jB.mkd mS hrd [(100001,4)] [(2,.cells [.d (.str []),.d .aD,.d (.int .i64 0),.d (.str []),.d (.int .i64 0),.d .aD,.d .aD,.d .aD,.d .aD,.d (.int .i64 0),.d (.bool false),.d .aD,.d .aD,.d .aD,.d .aD,.d (.int .i64 0),.d (.str []),.d .aD,.d .aD,.d (.int .i64 0),.d (.str []),.d (.int .i64 0),.d .aD,.d .aD,.d .aD])] ?_ ?_ ?_ rfl rfl ?_ ?_ (rest:=[])
  .simp[aL,aQ,aW,aV,bH,getKey]
  .simp[aR,bF,rk]
  .simp[aR,bF,rk,cX,dD,b4B,b4A,c2V,b8H,mO,eY,xS,bT,strs]
  .intro k o hk;simp only[getKey]at hk;split at hk
   .rename_i h2;subst h2;exact⟨by simpa[getKey]using hk,by simp[rk]⟩
   .cases hk
  .simp[a3v,a3Z,he,b4B,b4A,c2V,b8H,mO,eY,xS,bT,strs]
theorem zP:VM.Enters prog 21:=.mk func21 rfl
abbrev f6e:qT:=⟨[],[],[],[],[],[]⟩
theorem c9Q{α:Type}(x:List Tok->bE α)(s:List UInt8):eI (λl=>(λi=>a9X (x l i):bE (Option α))) s=a9X (eI x s):=by
 unfold eI;split
 .rfl
 .split
  .rfl
  .rename_i l hl;simp only;cases x l 0 with
   |bad n e=>rfl
   |ok a j=>simp only[a9X];cases a3M l j<;>rfl
theorem a0K(hG:G 1=some eK)(hS:G 0=some zW)(s:List UInt8)(hs:s.length<=900000000):CS prog G 21 [.str s] (.cI [.agg (a8y (a3v f6e (eI moQ s))),.int .i64 (d3s (eI moQ s)),.int .i64 (a3Z (eI moQ s))]) none:=by
 have hrd:=a3H hG hS (C:=moC) none a9V (λl=>(λi=>a9X (moQ l i):bE (Option qT))) s hs (λl hV hN hp=>b7W hV hN 0 hp) (λl a j hE hB hx=>by
  cases hm:moQ l 0 with
  |bad n e=>simp[hm,a9X]at hx
  |ok m k=>simp only[hm,a9X]at hx;cases hx;have kL:aB l 0 (moQ l):=aB.many (λm=>(aB.decl hE hB m).le (by omega) |>.bl λ_=>((aB.exp hE _ _).le (by omega)).bl λ_=>aB.bY _) _;exact(kL 0 _ _ (List.length_pos_iff.2 hE.1) hm).2)
 rw[c9Q]at hrd;have hnz:∀n e,eI moQ s=.bad n e->e≠0:=λn e h=>b1K (λl n e hE hB hp h=>bB.mod (b7V l) 0 n e h) h;cases hr:eI moQ s with
 |ok t j=>
  rw[hr]at hrd;refine CS.aX func21 rfl ntmps21 rfl ?_;simp;refine jB.mk mS hrd [(100001,5)] ?_ ?_ ?_ rfl rfl ?_ (rest:=[])
  .simp[aL,aQ,aW,aV,bH,getKey,moC,a8y]
  .simp[aR,bF,rk]
  .simp[aR,bF,rk,cX,dD,moC]
  .simp[bG,aR,bF,rk,cX,dD,bS,kC,gM,dX,a3v,a3Z,d3s,moC,a8y]
 |bad n e=>
  rw[hr]at hrd;have he:=hnz n e hr;refine CS.aX func21 rfl ntmps21 rfl ?_;simp;refine jB.mkd mS hrd [(100001,5)] [(2,.cells [.d .aD,.d .aD,.d .aD,.d .aD,.d .aD,.d .aD])] ?_ ?_ ?_ rfl rfl ?_ ?_ (rest:=[])
  .simp[aL,aQ,aW,aV,bH,getKey,moC]
  .simp[aR,bF,rk]
  .simp[aR,bF,rk,cX,dD,moC]
  .intro k o hk;simp only[getKey]at hk;split at hk
   .rename_i h2;subst h2;exact⟨by simpa[getKey]using hk,by simp[rk]⟩
   .cases hk
  .simp[a3v,a3Z,d3s,he,a8y]
end
end Go.Proofs.YtjpodcmhcenjjaaGreatDoor
section
namespace Go.VM
open Go Go.RowKit
section
variable {P:Program} {G:GT} {st:St} {base:dH} {R:Nat->Nat->Prop} {μ:Nat->Nat} {a:Act} {w w':World}
theorem c7o{c:Array Value}{T:TypeId}{fr:Nat×Nat}{ad:Addr}{v:Value}{w1:World}(h1:w.heap[ad.block]? =some (.cells c T fr))(h2:w'.heap[ad.block]? =some (.cells c T fr))(h:(load ad).run P w=.ok v w1):(load ad).run P w'=.ok v w':=by
 rw[run_load]at h|-;have e:w'.cell? ad=w.cell? ad:=by unfold World.cell?;rw[h1,h2]
 rw[e];cases hc:w.cell? ad with
 |some u=>rw[hc]at h;cases h;rfl
 |none=>
  rw[hc]at h;have:∃x,w.farLoad P ad (Mode.plain==Mode.atomic)=.error x:=by unfold World.farLoad;rw[h1];exact⟨_,rfl⟩
  obtain⟨x,hx⟩:=this;rw[hx]at h;cases h
theorem a8U{c:Array Value}{T:TypeId}{fr:Nat×Nat}{b off:Nat}(h1:w.heap[b]? =some (.cells c T fr))(h2:w'.heap[b]? =some (.cells c T fr)):∀(n i:Nat) (acc vs:Array Value) (w1:World),(loadCellsFrom ⟨b,off,none⟩ i n acc).run P w=.ok vs w1->(loadCellsFrom ⟨b,off,none⟩ i n acc).run P w'=.ok vs w'
 |0,i,acc,vs,w1,h=>by
  simp only[loadCellsFrom,Sem.run_pure]at h|-;cases h
  rfl
 |n+1,i,acc,vs,w1,h=>by
  simp only[loadCellsFrom,Sem.run_bind]at h|-;have hb:(Addr.add ⟨b,off,none⟩ i).block=b:=by rw[oJ]
  cases hl:(load (Addr.add ⟨b,off,none⟩ i)).run P w with
  |halt x w2=>rw[hl]at h;cases h
  |ok v w2=>
   have hw2:w2=w:=by
    rw[run_load]at hl;split at hl
    .cases hl;rfl
    .split at hl
     .cases hl;rfl
     .cases hl
   rw[hw2]at hl;rw[hl]at h;rw[c7o (by rw[hb];exact h1) (by rw[hb];exact h2) hl];simp only[Result.andThen_ok]at h|-;exact a8U h1 h2 n (i+1) _ vs w1 h
theorem c7p{c:Array Value}{T:TypeId}{fr:Nat×Nat}{b off:Nat}{t:TypeId}{v:Value}{w1:World}(h1:w.heap[b]? =some (.cells c T fr))(h2:w'.heap[b]? =some (.cells c T fr))(h:(loadVar t ⟨b,off,none⟩).run P w=.ok v w1):(loadVar t ⟨b,off,none⟩).run P w'=.ok v w':=by
 unfold loadVar at h|-;cases hu:P.underlying t with
 |none=>
  have:∀w:World,∃x,(isAgg t).run P w=.halt x w:=λw=>by unfold isAgg;simp[underlying,hu]
  obtain⟨x,hx⟩:=this w;rw[Sem.run_bind,hx]at h;cases h
 |some d=>
  simp only[Sem.run_bind,sN hu,Result.andThen_ok]at h|-;cases hd:pV d with
  |false=>simp only[hd,Bool.false_eq_true,if_false]at h|-;exact c7o h1 h2 h
  |true=>
   simp only[hd,if_true,Sem.run_bind]at h|-;cases hi:P.info? t with
   |none=>
    have:∃x,(sizeOf t).run P w=.halt x w:=by simp[sizeOf,typeInfo,hi]
    obtain⟨x,hx⟩:=this;rw[hx]at h;cases h
   |some i=>
    have hs:∀w,(sizeOf t).run P w=.ok (P.cellsOf t) w:=qL (by rw[hi];rfl);simp only[hs,Result.andThen_ok]at h|-;cases hl:(loadCells ⟨b,off,none⟩ (P.cellsOf t)).run P w with
    |halt x w2=>rw[hl]at h;cases h
    |ok vs w2=>
     rw[hl]at h;rw[show(loadCells ⟨b,off,none⟩ (P.cellsOf t)).run P w'=.ok vs w' from a8U h1 h2 _ _ _ _ _ hl];simp only[Result.andThen_ok,Sem.run_pure]at h|-;cases h
     rfl
def a8l(w w':World):Prop:=∀b,b<w.heap.size->w'.heap[b]? =w.heap[b]?
def d1e:Op->Bool
 | .load _ _=>true
 | .indexAddr _ _ _=>true
 |o=>a7E o
theorem d7Q{o:Oper}{all:Array Oper}{K:St->Prop}(hg:o.guard=none)(hk:d1e o.op=true)(h:pC P G true all o K st)(hr:Rel P G base R μ st a w):∃v,∀w',a8l w w'->(execOp a.eval o).run P w'=.ok (.value v) w':=by
 by_cases mU:a7E o.op=true
 .obtain⟨v,hv⟩:=b6p hg mU h hr;exact⟨v,λw' _=>hv w'⟩
 unfold pC at h;rw[show eJ o all st.tmps=some true from by unfold eJ;rw[hg]]at h;cases oV:o.op with
 |load t x=>
  simp only[kB,dK,oV,mV]at h;split at h;rotate_left
  .exact h.elim
  rename_i out ho;obtain⟨v,w1,_,_,cW,_⟩:=c3V oV ho base R μ a w hr;have key:∀ {b off:Nat} {c:Array Value} {T:TypeId} {fr:Nat×Nat},a.eval x=.pointer (some ⟨b,off,none⟩)->w.heap[b]? =some (.cells c T fr)->∃v,∀w',a8l w w'->(execOp a.eval o).run P w'=.ok (.value v) w':=λ{b off c T fr} hx hb=>by
   have aF:b<w.heap.size:=(g1f.1 hb).1;have e:∀w,(execOp a.eval o).run P w=((loadVar t ⟨b,off,none⟩).run P w).andThen λv w=>.ok (.value v) w:=λw=>by simp[execOp,oV,hx,Instr.loadAt,Instr.sureAddr]
   cases hl:(loadVar t ⟨b,off,none⟩).run P w with
   |halt y w2=>rw[e,hl]at cW;rcases cW with cW|⟨cW,_⟩<;>cases cW
   |ok u w2=>
    refine⟨u,λw' hw'=>?_⟩;rw[e,c7p hb ((hw' b aF).trans hb) hl]
    rfl
  unfold b2S at ho;split at ho
  .rename_i k off hx;split at ho
   .rename_i cs wE;obtain⟨_,_,vs,T,hh,_⟩:=hr.jR k _ wE;exact key (hr.dU hx) hh
   .cases ho
  .rename_i cs hx;obtain⟨b,off,he,f2r⟩:=(hr.pB hx).a5U;simp only[g0V]at ho;obtain⟨y,hy,_⟩:=ho;cases cs with
   |nil=>
    unfold takeD at hy;split at hy
    .rename_i d hd;split at hy
     .rename_i a9c;split at hy
      .rename_i hle;have h0:P.cellsOf t=0:=by simpa using hle
       have hv0:∀w',(loadVar t ⟨b,off,none⟩).run P w'=.ok (.agg #[]) w':=λw'=>by
        unfold loadVar;simp only[Sem.run_bind,sN hd,Result.andThen_ok,a9c,if_true,run_sizeOf hd,h0]
        rfl
       exact⟨.agg #[],λw' _=>by simp[execOp,oV,he,Instr.loadAt,Instr.sureAddr,hv0]⟩
      .cases hy
     .cases hy
    .cases hy
   |cons d r=>
    obtain⟨_,_,u,hu,_⟩:=f2r 0 d rfl;unfold World.cell? at hu;split at hu
    .rename_i c T fr hb;exact key he hb
    .cases hu
  .cases ho
 |indexAddr t x i=>
  simp only[kB,dK,oV,mV]at h;split at h;rotate_left
  .exact h.elim
  rename_i out ho;unfold tO at ho;split at ho
  .rename_i e es n hu hx hi;simp only[g1k]at ho;obtain⟨j,hj,cs,rI,ho⟩:=ho;split at ho<;>simp at ho;rename_i hlen;obtain⟨k,hk,hjl⟩:=b2b hr hi hj;obtain⟨ao,cap,hv,b5h,eU⟩:=(hr.mF hx).a0y;obtain⟨b,off,size,rfl,hs0,hs1,cW⟩:=eU (by rintro rfl;simp at rI);have jZ:size=P.cellsOf e:=by rw[<-hlen,hs1 cs (g1b rI)]
   refine⟨.pointer (some ⟨b,off+j*size,none⟩),λw' _=>?_⟩;have hso:=qL (eL (P:=P) (t:=e) (by omega)) w';simp[execOp,oV,hv,hk,Instr.indexAt,run_underlying hu,asIntOf,hjl,hso,oJ,jZ]
  .rename_i len e k off n hu hx hi;split at ho
   .cases ho
   .rename_i eU;simp only[g0V]at ho;obtain⟨j,hj,_⟩:=ho;obtain⟨q,hq,hjl⟩:=b2b hr hi hj;exact⟨.pointer (some ⟨μ k,off+j*P.cellsOf e,none⟩),λw' _=>by simp[execOp,oV,hr.dU hx,hq,Instr.indexAt,run_underlying hu,asIntOf,Instr.sureAddr,hjl,qL (eL eU) w',oJ]⟩
  .rename_i len e cs n hu hx hi;split at ho
   .cases ho
   .rename_i eU;simp only[g0V]at ho;obtain⟨j,hj,_⟩:=ho;obtain⟨q,hq,hjl⟩:=b2b hr hi hj;obtain⟨b,off,he,cW⟩:=(hr.pB hx).a5U;exact⟨.pointer (some ⟨b,off+j*P.cellsOf e,none⟩),λw' _=>by simp[execOp,oV,he,hq,Instr.indexAt,run_underlying hu,asIntOf,Instr.sureAddr,hjl,qL (eL eU) w',oJ]⟩
  .cases ho
 |_=>simp[d1e,oV]at hk<;>simp[oV,hk]at mU
theorem a8l.refl(w:World):a8l w w:=λ_ _=>rfl
theorem d3H{o:Oper}{all:Array Oper}{K:St->Prop}(hg:o.guard=none)(hk:d1e o.op=true)(h:pC P G true all o K st)(hr:Rel P G base R μ st a w):
  ∃v s R' μ',(∀w',a8l w w'->(execOp a.eval o).run P w'=.ok (.value v) w')/\K s/\Rel P G base R' μ' s (a.put o.dst v) w/\Step base R w R' w:=by
 obtain⟨v,hv⟩:=d7Q hg hk h hr;have h1:=tE (Q:=λ_ _ _=>False) (KK:=λa' w'=>∃s R' μ',K s/\Rel P G base R' μ' s a' w'/\Step base R w R' w') h hr (λs v w' R' μ' q1 q2 q3=>⟨s,R',μ',q1,q2,q3⟩);rw[if_pos (by unfold Region.wanted;rw[hg])]at h1;rcases h1 with h1|⟨_,_,_,h2⟩
 .unfold Oper.wp at h1;rw[hv w (a8l.refl w)]at h1;obtain⟨s,R',μ',q1,q2,q3⟩:=h1;exact⟨v,s,R',μ',hv,q1,q2,q3⟩
 .exact h2.elim
def d1f(ops:Array Oper):List Nat->Array Bool->Bool
 |[],_=>true
 |i::r,listed=>(match ops[i]? with
  |some o=>d1e o.op&&(o.guard==none)&&o.dst.isSome
  |none=>false)&&Region.noSelect ops&&Region.free .any ops listed i&&(Region.ready .any ops listed).contains i&&d1f ops r (listed.setIfInBounds i true)
theorem d1g{ops:Array Oper}{K:St->Prop}{QQ:Exit->Act->World->Prop}(hQ:∀c a a' w,a.defers=a'.defers->a.tmps.size=a'.tmps.size->QQ (.panic c) a w->QQ (.panic c) a' w):∀(l:List Nat) (listed:Array Bool) (fuel:Nat) (st:St),d1f ops l listed=true->vG P G true ops (sel ops l) st K->
  ∀(base:dH) (R:Nat->Nat->Prop) (μ:Nat->Nat) (a:Act) (w:World),Rel P G base R μ st a w->(∀s a' R' μ',K s->a'.tmps.size=a.tmps.size->Rel P G base R' μ' s a' w->Step base R w R' w->wpAnyH P .any ops QQ (a8l w) fuel (cN l listed) a' w)->wpAnyH P .any ops QQ (a8l w) (l.length+fuel) listed a w
 |[],listed,fuel,st,_,h,base,R,μ,a,w,hr,hk=>by simpa[cN]using hk st a R μ h rfl hr (.refl _ _ _)
 |i::l,listed,fuel,st,hB,h,base,R,μ,a,w,hr,hk=>by
  simp only[d1f,g0W]at hB;obtain⟨⟨⟨⟨ho,d5X⟩,hf⟩,hrd⟩,hB'⟩:=hB;split at ho;rotate_left
  .cases ho
  rename_i o hoi;simp only[g0W,beq_iff_eq]at ho;obtain⟨⟨hsk,hg⟩,hd⟩:=ho;simp only[sel,hoi,vG]at h;obtain⟨v,s,R',μ',hv,hK,gD,rE⟩:=d3H hg hsk h hr;rw[show(i::l).length+fuel=(l.length+fuel)+1 by simp only[List.length_cons];omega];refine wpAnyH_take (v:=v) hoi d5X hf hrd (λc a w h=>hQ c _ _ w ?_ ?_ h) (.inl ⟨by unfold Region.wanted;rw[hg],hv⟩) (a8l.refl w) ?_
  .cases o.dst<;>rfl
  .cases o.dst<;>simp[Act.put]
  .exact d1g hQ l _ fuel s hB' hK base R' μ' _ w gD λs2 a2 R2 μ2 q1 q0 q2 q3=>hk s2 a2 R2 μ2 q1 (q0.trans (size_put _ _ _)) q2 (rE.trans q3)
theorem c3A{o:Oper}{e:TypeId}{ev:Operand->Value}{v:Value}{w1:World}(ho:o.op=.alloc e)(h:(execOp ev o).run P w=.ok (.value v) w1):v=.pointer (some ⟨w.heap.size,0,none⟩)/\∀b,b<w.heap.size->w1.heap[b]? =w.heap[b]? :=by
 cases hz:(P.info? e).bind (·.zero)with
 |none=>
  exfalso;cases hi:P.info? e with
  |none=>simp[execOp,ho,Instr.alloc,zeroValue,typeInfo,hi]at h
  |some i=>rw[hi]at hz;simp at hz;simp[execOp,ho,Instr.alloc,zeroValue,typeInfo,hi,hz]at h
 |some z=>
  obtain⟨i,hi,hz⟩:=g1k.1 hz;have hr:(execOp ev o).run P w=.ok (.value (.pointer (some ⟨w.heap.size,0,none⟩))) (w.alloc (.cells z.cells e)):=by simp[execOp,ho,Instr.alloc,zeroValue,typeInfo,hi,hz,newVar,newRow]
  rw[hr]at h;cases h;refine⟨rfl,λb hb=>?_⟩
  show(w.heap.push _)[b]? =w.heap[b]?
  rw[Array.getElem?_push,if_neg (Nat.ne_of_lt hb)]
theorem c3B{o:Oper}{t:TypeId}{ad x:Operand}{out:Out}(ho:o.op=.store t ad x)(h:sU P G t ad x st=some out)(hr:Rel P G base R μ st a w):∃w1 b off,a.eval ad=.pointer (some ⟨b,off,none⟩)/\(execOp a.eval o).run P w=.ok .skip w1/\∀j,j≠b->w1.heap[j]? =w.heap[j]? :=by
 unfold sU at h;split at h
 .rename_i k off ys ha hx;split at h
  .rename_i cs hk;split at h
   .rename_i hc;obtain⟨hlen,eU,hle⟩:=hc;obtain⟨hbk,hnR,cur,T,hh,jZ,d4p,b4c⟩:=hr.jR k _ hk;have hv:=hr.eval x;obtain⟨rO,hvc⟩:=a3F hv hx;have jS:∀u∈(a.eval x).cells.toList,u.oneCell'=true:=λu hu=>by
     obtain⟨i,hi⟩:=g1n hu;have vJ:i<ys.length:=by rw[<-rO];simpa using (g0X.1 hi).1
     obtain⟨_,_,h2⟩:=hvc i ys[i] (by simp[vJ]);have:(a.eval x).cells.getD i undef=u:=by
      have:(a.eval x).cells[i]? =some u:=by simpa using hi
      simp[g0Y,this]
     rw[this]at h2;exact h2
    exact⟨_,μ k,off,hr.dU ha,uP ho (hr.dU ha) hh (by rw[rO,hlen]) eU jS (by rw[rO,jZ];omega),λj hj=>setRow_other w (μ k) j _ hj⟩
   .cases h
  .cases h
 .cases h
def b1Q(ops:Array Oper)(m:Nat):OT->List Tmp->Bool
 | .stop,_=>true
 | .none,_=>true
 | .op i next more,D=>(match ops[i]? with
  |some o=>(o.guard==none)&&(match o.op,o.dst with
   | .alloc _,some k=> !D.contains k&&decide (k<m)&&b1Q ops m next (k::D)
   | .store _ (.tmp k) _,none=>D.contains k&&b1Q ops m next D
   |_,_=>false)
  |none=>false)&&b1Q ops m more D
def f2s(w0:World)(a:Act)(D:List Tmp):Prop:=∀k∈D,∃b,a.eval (.tmp k)=.pointer (some ⟨b,0,none⟩)/\w0.heap.size<=b
theorem c7q{ops:Array Oper}{Q:Exit->St->Prop}{i n m:Nat}{listed:Array Bool}{D:List Tmp}:∀(T:OT),a2X ops T (n+1) listed=true->b1Q ops m T D=true->b1I i T=true->VT P G ops Q T st->∃next more,okT ops next (listed.setIfInBounds i true)=true/\a2X ops next n (listed.setIfInBounds i true)=true/\b1Q ops m (.op i next more) D=true/\∃o,ops[i]? =some o/\a7d P G ops o st (VT P G ops Q next) Q
 | .stop,_,_,h,_=>by simp[b1I]at h
 | .none,_,_,h,_=>by simp[b1I]at h
 | .op j next more,ht,hf,ha,hv=>by
  simp only[a2X,g0W]at ht;simp only[b1I,g1i,beq_iff_eq]at ha;simp only[VT]at hv;rcases ha with rfl|ha
  .refine⟨next,more,ht.1.1,ht.1.2,hf,?_⟩;have:=hv.1;split at this
   .rename_i o ho;exact⟨o,ho,this⟩
   .exact this.elim
  .simp only[b1Q,g0W]at hf;exact c7q more ht.2 hf.2 ha hv.2
theorem b8h{ops:Array Oper}{Q:Exit->St->Prop}{m:Nat}(w0:World):∀(n:Nat) (T:OT) (D:List Tmp) (listed:Array Bool) (st:St),okT ops T listed=true->a2X ops T n listed=true->b1Q ops m T D=true->VT P G ops Q T st->∀(base:dH) (R:Nat->Nat->Prop) (μ:Nat->Nat) (a:Act) (w:World),Rel P G base R μ st a w->a8l w0 w->w0.heap.size<=w.heap.size->f2s w0 a D->m<=a.tmps.size->
  ∀QQ:Exit->Act->World->Prop,(∀e s a' w' R' μ',Q e s->Rel P G base R' μ' s a' w'->Step base R w R' w'->QQ e a' w')->wpAnyH P .any ops QQ (a8l w0) n listed a w
 |0,T,D,listed,st,ho,ht,hf,hv,base,R,μ,a,w,hr,hH,jZ,hF,hD,QQ,hk=>by
  cases T with
  |stop=>exact⟨by simpa[okT]using ho,hk _ st a w R μ hv hr (.refl _ _ _)⟩
  |none=>simp only[okT,g0W,Bool.not_eq_true',List.isEmpty_eq_false_iff,g0Z]at ho;obtain⟨h1,h2⟩:=ho;obtain⟨x,hx⟩:=List.exists_mem_of_ne_nil _ h1;have:=h2 x hx;simp[b1I]at this
  |op i next more=>simp[a2X]at ht
 |n+1,T,D,listed,st,ho,ht,hf,hv,base,R,μ,a,w,hr,hH,jZ,hF,hD,QQ,hk=>by
  cases T with
  |stop=>
   have hrd:Region.ready .any ops listed=[]:=by simpa[okT]using ho
   refine⟨λ_=>hk _ st a w R μ hv hr (.refl _ _ _),λi hi=>?_⟩;rw[hrd]at hi;cases hi
  |none=>simp only[okT,g0W,Bool.not_eq_true',List.isEmpty_eq_false_iff,g0Z]at ho;obtain⟨h1,h2⟩:=ho;obtain⟨x,hx⟩:=List.exists_mem_of_ne_nil _ h1;have:=h2 x hx;simp[b1I]at this
  |op i0 f1W f1X=>
   simp only[okT,g0W,Bool.not_eq_true',List.isEmpty_eq_false_iff,g0Z]at ho;refine⟨λh=>(ho.1 h).elim,λi hi=>?_⟩;obtain⟨next,more,q1,q2,q0,o,q3,q4⟩:=c7q _ ht hf (ho.2 i hi) hv;simp only[b1Q,q3,g0W,beq_iff_eq]at q0;obtain⟨⟨hg,q0⟩,_⟩:=q0;have hw:Region.wanted o (yielded ops a.tmps)=true:=by unfold Region.wanted;rw[hg]
   have hgD:eJ o ops st.tmps=some true:=by unfold eJ;rw[hg]
   unfold wpOp;rw[q3];simp only;rw[if_pos hw];left;have jS:∀out,kB G o st=none->dK G o st=none->mV P G o st=some out->o.wp P a w (λa' w'=>∃s R' μ',VT P G ops Q next s/\Rel P G base R' μ' s a' w'/\Step base R w R' w') λ_ _ _=>False:=λout c1 c2 c3=>by
    have h1:pC P G false ops o (VT P G ops Q next) st:=by unfold a7d at q4;unfold pC;rw[hgD,c1,c2,c3]at q4;rw[hgD,c1,c2,c3];exact q4
    have h2:=tE (Q:=λ_ _ _=>False) (KK:=λa' w'=>∃s R' μ',VT P G ops Q next s/\Rel P G base R' μ' s a' w'/\Step base R w R' w') h1 hr (λs v w' R' μ' p1 p2 p3=>⟨s,R',μ',p1,p2,p3⟩);rw[if_pos hw]at h2;rcases h2 with h2|⟨_,_,_,h2⟩
    .exact h2
    .exact h2.elim
   split at q0
   ·
    rename_i e k oV d7R;simp only[g0W,Bool.not_eq_true']at q0;have c1:kB G o st=none:=by simp only[kB,oV]
    have c2:dK G o st=none:=by simp only[dK,oV]
    have uJ:∃out,mV P G o st=some out:=by
     unfold a7d at q4;rw[hgD,c1,c2]at q4;simp only at q4;split at q4
     .rename_i out ho2;exact⟨out,ho2⟩
     .exact q4.elim
    obtain⟨out,uJ⟩:=uJ;have hx:=jS out c1 c2 uJ;unfold Oper.wp at hx|-;have cW:∃v w1,(execOp a.eval o).run P w=.ok (.value v) w1:=by
     cases hz:(P.info? e).bind (·.zero)with
     |none=>
      exfalso;cases hi:P.info? e with
      |none=>simp[execOp,oV,Instr.alloc,zeroValue,typeInfo,hi,Oper.upon]at hx
      |some i=>rw[hi]at hz;simp at hz;simp[execOp,oV,Instr.alloc,zeroValue,typeInfo,hi,hz,Oper.upon]at hx
     |some z=>exact⟨_,_,c1X oV hz⟩
    obtain⟨v,w1,cW⟩:=cW;obtain⟨e1,e2⟩:=c3A oV cW;rw[cW]at hx|-;obtain⟨s,R',μ',p1,p2,p3⟩:=hx;have hH1:a8l w0 w1:=λb hb=>(e2 b (by omega)).trans (hH b hb);have f6f:w.heap.size<=w1.heap.size:=p3.below.size;refine⟨hH1,b8h w0 n next (k::D) _ s q1 q2 q0.2 p1 base R' μ' _ w1 p2 hH1 (by omega) (λk' hk'=>?_) (by rw[d7R,size_put];exact hD) QQ λe s a' w2 R2 μ2 k1 k2 k3=>hk e s a' w2 R2 μ2 k1 k2 (p3.trans k3)⟩;obtain⟨⟨q5,q6⟩,_⟩:=q0;simp only[decide_eq_true_eq]at q6;rw[d7R];by_cases wE:k'=k
    .subst wE;refine⟨w.heap.size,?_,jZ⟩;have aF:k'<a.tmps.size:=Nat.lt_of_lt_of_le q6 hD;rw[dV _ _ aF,e1]
    .have hk2:k'∈D:=by
      rcases List.mem_cons.1 hk' with h|h
      .exact absurd h wE
      .exact h
     obtain⟨b,g1,g2⟩:=hF k' hk2;exact⟨b,by rw[cA _ _ wE];exact g1,g2⟩
   ·
    rename_i t k x oV d7R;simp only[g0W]at q0;have c1:kB G o st=none:=by simp only[kB,oV]
    have c2:dK G o st=none:=by simp only[dK,oV]
    have uJ:∃out,mV P G o st=some out:=by
     unfold a7d at q4;rw[hgD,c1,c2]at q4;simp only at q4;split at q4
     .rename_i out ho2;exact⟨out,ho2⟩
     .exact q4.elim
    obtain⟨out,uJ⟩:=uJ;have hx:=jS out c1 c2 uJ;have mU:sU P G t (.tmp k) x st=some out:=by unfold mV at uJ;rw[oV]at uJ;exact uJ
    obtain⟨w1,b,off,r1,r2,r3⟩:=c3B oV mU hr;obtain⟨b',g1,g2⟩:=hF k (by simpa using q0.1);rw[g1]at r1;cases r1;unfold Oper.wp at hx|-;rw[r2]at hx|-;obtain⟨s,R',μ',p1,p2,p3⟩:=hx;have hH1:a8l w0 w1:=λj hj=>(r3 j (by omega)).trans (hH j hj);have f6f:w.heap.size<=w1.heap.size:=p3.below.size;refine⟨hH1,b8h w0 n next D _ s q1 q2 q0.2 p1 base R' μ' _ w1 p2 hH1 (by omega) (λk' hk'=>?_) (by rw[d7R];exact hD) QQ λe s a' w2 R2 μ2 k1 k2 k3=>hk e s a' w2 R2 μ2 k1 k2 (p3.trans k3)⟩;rw[d7R];exact hF k' hk'
   .cases q0
theorem e2Z{id:Nat}{ops:Array Oper}{Q:Exit->St->Prop}(L:List Nat)(T:OT)(m:Nat)(hm:P.follows .mixedOrders=true)(hB:(d1f ops L (Array.replicate ops.size false)&&decide (L.length<=ops.size)&&okT ops T (cN L (Array.replicate ops.size false))&&a2X ops T (ops.size-L.length) (cN L (Array.replicate ops.size false))&&b1Q ops m T [])=true)(hl:m<=st.tmps.length)(h:VK P G [.ops true ops (sel ops L)] .normal st λ_ s=>VT P G ops (a0m Q) T s):SW P G (.region id ops true) st Q:=by
 simp only[g0W,decide_eq_true_eq]at hB;obtain⟨⟨⟨⟨h1,h2⟩,h3⟩,h4⟩,h5⟩:=hB;obtain⟨k,hk⟩:=Nat.exists_eq_add_of_le h2;have e:ops.size-L.length=k:=by omega
 rw[e]at h4;refine SW.mono (λe s=>b6r) ?_;intro base R μ a w hr;obtain⟨gD,rE⟩:=hr.drew;simp only[VK]at h;refine wp_region_held (S:=a8l w.drew) hm ?_;have key:wpAnyH P .any ops (λe a' w'=>∃st' R' μ',a0m Q e st'/\Rel P G base R' μ' st' a' w'/\Step base R w R' w') (a8l w.drew) (L.length+k) (Array.replicate ops.size false) a w.drew:=by
  refine d1g (λc a a' w' e1 e2 hq=>?_) L _ k st h1 h base R μ a w.drew gD λs a' R' μ' q1 q0 q2 q3=>?_
  .obtain⟨s,R',μ',q1,q2,q3⟩:=hq;have hd:a'.defers=[]:=by rw[<-e1];exact q2.defers
   rw[a6I]at q1;exact⟨_,R',μ',by rw[a6I];exact q1,q2.b6s a' hd,q3⟩
  .exact b8h w.drew k T [] _ s h3 h4 h5 q1 base R' μ' a' w.drew q2 (a8l.refl _) (g1m _) (λk hk=>by cases hk) (by rw[q0,hr.size];exact hl) _ λe s a' w' R2 μ2 k1 k2 k3=>⟨s,R2,μ2,k1,k2,(rE.trans q3).trans k3⟩
 rw[<-hk]at key;exact key
end
end Go.VM
end
namespace Go.Proofs.YtjpodcmhcenjjaaGreatDoor
section
open Go Go.VM
variable {G:GT}
mutual
theorem b2O:∀p:Pr,a1b p p=true
 |⟨op,nm,n,l⟩=>by simp[a1b,b8i l]
theorem b8i:∀l:List Pr,wY l l=true
 |[]=>by simp[wY]
 |a::r=>by simp[wY,b2O a,b8i r]
end
inductive WB (B:Nat):Ty->Prop
 |mk (op:Int) (nm:Nm) (l:List Ty) (ns:List Nm) (p:Pr) (ps:List Pr):l.length<=B->ns.length<=B->bM p<=B->ps.length<=B->(∀q∈ps,bM q<=B)->(∀k∈l,WB B k)->WB B ⟨op,nm,l,ns,p,ps⟩
inductive WE (B:Nat):cG->Prop
 |mk (e:cG):e.kids.length<=B->e.params.length<=B->e.alts.length<=B->e.types.length<=B->(∀k∈e.kids,WE B k)->(∀p∈e.params,WB B p.2)->(∀a∈e.alts,a.2.1.length<=B)->(∀a∈e.alts,WE B a.2.2)->(∀t∈e.types,WB B t)->WE B e
theorem a2Z:VM.Enters prog 37:=.mk func37 rfl
theorem a2f(l:List Nm)(hl:l.length<=900000000):CS prog G 37 [.sl (strs l),.sl (strs l)] (.d (.bool true)) none:=by
 refine CS.aX func37 rfl ntmps37 rfl ?_;simp;refine SW.eX (ι:={i:Nat//i<=l.length}) (λi=>[(5,.d (.int .i64 i.1))]) (λ_=>[]) (λ_=>[]) (λi=>l.length-i.1) ⟨0,by simp⟩ (by simp) ?_;rintro⟨i,hi⟩;by_cases aF:i<l.length
 .have hg:=b5H aF;have hw:=bA (show i<9223372036854775807 by omega);simp[aF,hg];refine⟨kV.mk (by kernel_rfl),?_⟩;exact bC.mk ⟨i+1,aF⟩ (by simp[hw]) (by simp;omega)
 .have hie:i=l.length:=by omega
  subst hie;simp
theorem a3a:VM.Enters prog 36:=.mk func36 rfl
theorem a4d:VM.Enters prog 25:=.mk func25 rfl
theorem a4e(l:List Ty)(hl:l.length<=900000000)(ih:∀k∈l,CS prog G 25 [.agg (tyD k),.agg (tyD k)] (.d (.bool true)) none):CS prog G 36 [.sl (l.map tyC),.sl (l.map tyC)] (.d (.bool true)) none:=by
 refine CS.aX func36 rfl ntmps36 rfl ?_;simp;refine SW.eX (ι:={i:Nat//i<=l.length}) (λi=>[(5,.d (.int .i64 i.1))]) (λ_=>[]) (λ_=>[]) (λi=>l.length-i.1) ⟨0,by simp⟩ (by simp) ?_;rintro⟨i,hi⟩;by_cases aF:i<l.length
 .have hg:=e1F aF;have hw:=bA (show i<9223372036854775807 by omega);simp[aF,hg];refine⟨kV.mk (by kernel_rfl),?_⟩;refine aC.mk a4d (ih l[i] (List.getElem_mem aF)) ?_;simp;exact bC.mk ⟨i+1,aF⟩ (by simp[hw]) (by simp;omega)
 .have hie:i=l.length:=by omega
  subst hie;simp
theorem a3b:∀t:Ty,WB 900000000 t->CS prog G 25 [.agg (tyD t),.agg (tyD t)] (.d (.bool true)) none:=by
 refine Ty.ind λt ih=>?_;obtain⟨op,nm,l,ns,p,ps⟩:=t;simp only at ih;intro hw;cases hw with
 |mk _ _ _ _ _ _ w1 w2 w3 w4 w5 w6=>
 have hts:=a4e (G:=G) l w1 λk hk=>ih k hk (w6 k hk);have hns:=a2f (G:=G) ns w2;have hsp:=a1X (G:=G) p p w3;rw[b2O]at hsp;refine CS.aX func25 rfl ntmps25 rfl ?_;simp;refine aC.mk a2Z hns ?_;simp;refine aC.mk wZ hsp ?_;simp;refine SW.eX (ι:={i:Nat//i<=ps.length}) (λi=>[(5,.d (.int .i64 i.1))]) (λ_=>[(2,.cells [.d (.int .i64 op),.d (.str nm),.d (.sl (l.map tyC)),.d (.sl (strs ns)),.d (.int .i64 p.op),.d (.str p.name),.d (.int .i64 p.n),.d (.sl (p.kids.map rW)),.d (.sl (ps.map rW))]),(3,.cells [.d (.int .i64 op),.d (.str nm),.d (.sl (l.map tyC)),.d (.sl (strs ns)),.d (.int .i64 p.op),.d (.str p.name),.d (.int .i64 p.n),.d (.sl (p.kids.map rW)),.d (.sl (ps.map rW))])]) (λ_=>[]) (λi=>ps.length-i.1) ⟨0,by simp⟩ (by simp) ?_;rintro⟨i,hi⟩;by_cases aF:i<ps.length
 .have hg:=xR aF;have hw:=bA (show i<9223372036854775807 by omega);have hsi:=a1X (G:=G) ps[i] ps[i] (w5 _ (List.getElem_mem aF));rw[b2O]at hsi;simp[aF,hg];refine⟨kV.mk (by kernel_rfl),?_⟩;refine aC.mk wZ hsi ?_;simp;exact bC.mk ⟨i+1,aF⟩ (by simp[hw]) (by simp;omega)
 .have hie:i=ps.length:=by omega
  subst hie;simp;refine aC.mk a3a hts ?_;simp
theorem b0d:VM.Enters prog 35:=.mk func35 rfl
theorem a8m(l:List (Nm×Ty))(hl:l.length<=900000000)(ht:∀p∈l,WB 900000000 p.2):CS prog G 35 [.sl (l.map a4F),.sl (l.map a4F)] (.d (.bool true)) none:=by
 refine CS.aX func35 rfl ntmps35 rfl ?_;simp;refine SW.eX (ι:={i:Nat//i<=l.length}) (λi=>[(5,.d (.int .i64 i.1))]) (λ_=>[]) (λ_=>[]) (λi=>l.length-i.1) ⟨0,by simp⟩ (by simp) ?_;rintro⟨i,hi⟩;by_cases aF:i<l.length
 .have hg:=a2U l[i];have hw:=bA (show i<9223372036854775807 by omega);have hsi:=a3b (G:=G) l[i].2 (ht _ (List.getElem_mem aF));simp[aF,hg];refine⟨kV.mk (by kernel_rfl),?_⟩;refine aC.mk a4d hsi ?_;simp;exact bC.mk ⟨i+1,aF⟩ (by simp[hw]) (by simp;omega)
 .have hie:i=l.length:=by omega
  subst hie;simp
theorem a5f:VM.Enters prog 15:=.mk func15 rfl
abbrev f2u(a b x y:Nat):OT:=.op a (.op b (.op x (.op y .stop .none) (.op y (.op x .stop .none) .none)) (.op x (.op b (.op y .stop .none) .none) .none)) (.op b (.op a (.op x (.op y .stop .none) (.op y (.op x .stop .none) .none)) (.op y (.op a (.op x .stop .none) .none) .none)) .none)
theorem b9s(e:cG)(h:WE 900000000 e):CS prog G 15 [.agg (yL e),.agg (yL e)] (.d (.bool true)) none:=by
 induction h with
 |mk e h1 h2 h3 h4 h5 h6 h7 h8 h9 ih1 ih2=>
  obtain⟨op,nm,n,ks,ps,al,ts⟩:=e;simp only at h1 h2 h3 h4 h5 h6 h7 h8 h9 ih1 ih2;have hpa:=a8m (G:=G) ps h2 h6;have oW:=a4e (G:=G) ts h4 λt ht=>a3b t (h9 t ht);refine CS.a4G func15 rfl ntmps15 rfl (SW.xk ?_);simp;refine mG.mk b0d hpa ?_;simp;refine mG.mk a3a oW ?_;simp;refine SW.vR (ι:={i:Nat//i<=ks.length}) (λi=>[(5,.d (.int .i64 i.1))]) (λ_=>[(2,.cells [.d (.int .i64 op),.d (.str nm),.d (.int .i64 n),.d (.sl (ks.map a0Y)),.d (.sl (ps.map a4F)),.d (.sl (al.map b0K)),.d (.sl (ts.map tyC))]),(3,.cells [.d (.int .i64 op),.d (.str nm),.d (.int .i64 n),.d (.sl (ks.map a0Y)),.d (.sl (ps.map a4F)),.d (.sl (al.map b0K)),.d (.sl (ts.map tyC))])]) (λ_=>[]) (λi=>ks.length-i.1) ⟨0,by simp⟩ (by simp) ?_;rintro⟨i,hi⟩;by_cases aF:i<ks.length
  .have hg:=bT ks[i];have hw:=bA (show i<9223372036854775807 by omega);simp[aF];refine SW.vk ?_;simp[aF,hg];refine⟨kV.mk (by kernel_rfl),?_⟩;refine aC.mk a5f (ih1 _ (List.getElem_mem aF)) ?_;simp;exact bC.mk ⟨i+1,aF⟩ (by simp[hw]) (by simp;omega)
  .have hie:i=ks.length:=by omega
   subst hie;simp;refine SW.vR (ι:={i:Nat//i<=al.length}) (λi=>[(6,.d (.int .i64 i.1))]) (λ_=>[(2,.cells [.d (.int .i64 op),.d (.str nm),.d (.int .i64 n),.d (.sl (ks.map a0Y)),.d (.sl (ps.map a4F)),.d (.sl (al.map b0K)),.d (.sl (ts.map tyC))]),(3,.cells [.d (.int .i64 op),.d (.str nm),.d (.int .i64 n),.d (.sl (ks.map a0Y)),.d (.sl (ps.map a4F)),.d (.sl (al.map b0K)),.d (.sl (ts.map tyC))])]) (λ_=>[]) (λi=>al.length-i.1) ⟨0,by simp⟩ (by simp) ?_;rintro⟨i,hi⟩;by_cases aF:i<al.length
   .have hg:=a7Z al[i];have hw:=bA (show i<9223372036854775807 by omega);have hns:=a2f (G:=G) al[i].2.1 (h7 _ (List.getElem_mem aF));simp[aF];refine e2Z [0,1,2,3,4,5,6,7,8,9] (f2u 10 11 12 13) 117 (by kernel_rfl) (by kernel_rfl) (by simp) ?_;simp[aF,hg,f2u];refine mG.mk a2Z hns ?_;simp;refine mG.mk a5f (ih2 _ (List.getElem_mem aF)) ?_;simp;exact bC.mk ⟨i+1,aF⟩ (by simp[hw]) (by simp;omega)
   .have hie:i=al.length:=by omega
    subst hie;simp
end
section
open Go Go.VM
def G0:GT:=λg=>if g=1 then some eK else if g=0 then some zW else none
theorem a3c:G0 1=some eK:=rfl
theorem a4f:G0 0=some zW:=rfl
abbrev num(n:Int):cG:=⟨1,[],n,[],[],[],[]⟩
abbrev var(c:UInt8):cG:=⟨3,[c],0,[],[],[],[]⟩
theorem ex1:eI exM [49,32,45,32,50,32,45,32,51]=.ok (cD 11 [cD 11 [num 1,num 2],num 3]) 5:=by kernel_rfl
theorem ex2:eI exM [40,45,51,41]=.ok (num (-3)) 4:=by kernel_rfl
theorem ex3:eI exM [45,32,51]=.ok (cD 15 [num 3]) 2:=by kernel_rfl
theorem ex4:eI exM [102,32,40,40,45,51,41,41]=.ok ({cD 5 [num (-3)]with name:=[102]}) 7:=by kernel_rfl
theorem ex5:eI exM [40,97,32,60,32,98,41,32,61,61,32,99]=.ok (cD 16 [cD 17 [var 97,var 98],var 99]) 7:=by kernel_rfl
theorem ex6:eI exM [97,32,60,32,98,32,60,32,99]=.bad 1 14:=by kernel_rfl
abbrev exT:Ty:=⟨6,[],[vP 1 [],⟨1,[],[],[],⟨12,[],0,[⟨3,[120],0,[]⟩,⟨3,[118],0,[]⟩]⟩,[]⟩,⟨4,[76,105,115,116],[vP 1 []],[],eY,[⟨12,[],0,[⟨1,[],0,[]⟩,⟨3,[118],0,[]⟩]⟩]⟩],[[120],[121]],eY,[]⟩
theorem ex8:eI tyM [40,73,110,116,44,32,73,110,116,41]=.bad 1 14:=by kernel_rfl
theorem ex9:eI moQ [100,101,102,32,102,32,40,120,41,32,61,32,120,32,43,10,59]=.bad 2 14:=by kernel_rfl
theorem f6g:eI moQ [100,101,102,32,102,32,40,120,41,32,61,32,63]=.bad 1 14:=by kernel_rfl
def f2v:kJ qT->Bool
 | .ok m _=>match m.b5Z,m.b6a,m.defs with
  |[d],[me],[df]=>decide (d.cons.length=2)&&decide (me.cases.length=2)&&decide (df.sig.c1T.length=1)&&decide (df.body.op=8)
  |_,_,_=>false
 | .bad _ _=>false
def f2w:kJ rL->Bool
 | .ok d _=>decide (d.mode=1)&&d.typed
 | .bad _ _=>false
abbrev txM:List UInt8:=[100,97,116,97,32,76,105,115,116,32,61,32,78,105,108,32,124,32,67,111,110,115,32,40,120,32,58,32,73,110,116,44,32,114,101,115,116,32,58,32,76,105,115,116,41,59,32,109,101,97,115,117,114,101,32,108,101,110,32,58,32,76,105,115,116,32,45,62,32,73,110,116,32,123,32,78,105,108,32,61,32,48,59,32,67,111,110,115,32,40,120,44,32,114,101,115,116,41,32,61,32,49,32,43,32,108,101,110,40,114,101,115,116,41,32,125,32,105,110,118,97,114,105,97,110,116,32,48,32,60,61,32,118,59,32,100,101,102,32,100,111,119,110,32,40,110,41,32,58,32,40,110,32,58,32,123,118,32,58,32,73,110,116,32,124,32,48,32,60,61,32,118,125,41,32,45,62,32,73,110,116,32,109,101,116,114,105,99,32,110,32,61,32,105,102,32,110,32,61,61,32,48,32,116,104,101,110,32,48,32,101,108,115,101,32,100,111,119,110,32,40,110,32,45,32,49,41,59]
abbrev txD:List UInt8:=[97,115,115,117,109,101,32,114,101,97,100,32,40,120,41,32,58,32,40,120,32,58,32,73,110,116,41,32,45,62,32,123,118,32,58,32,73,110,116,32,124,32,120,32,60,61,32,118,125]
abbrev txT:List UInt8:=[40,120,32,58,32,73,110,116,44,32,121,32,58,32,123,118,32,58,32,73,110,116,32,124,32,120,32,60,32,118,125,41,32,45,62,32,76,105,115,116,32,73,110,116,32,60,118,46,32,48,32,60,32,118,62]
theorem ex7:eI tyM txT=.ok exT 27:=by kernel_rfl
theorem f6j:f2v (eI moQ txM)=true:=by kernel_rfl
theorem f6k:f2w (eI (a3u rdQ) txD)=true:=by kernel_rfl
theorem f2x:∃m j d me df,eI moQ txM=.ok m j/\m.b5Z=[d]/\m.b6a=[me]/\m.defs=[df]/\d.cons.length=2/\me.cases.length=2/\df.sig.c1T.length=1/\df.body.op=8:=by
 have h:=f6j;unfold f2v at h;split at h
 .rename_i m j hm;split at h
  .rename_i d me df h1 h2 h3;simp only[g0W,decide_eq_true_eq]at h;exact⟨m,j,d,me,df,hm,h1,h2,h3,h.1.1.1,h.1.1.2,h.1.2,h.2⟩
  .cases h
 .cases h
theorem f2y:∃d j,eI (a3u rdQ) txD=.ok d j/\d.mode=1/\d.typed=true:=by
 have h:=f6k;unfold f2w at h;split at h
 .rename_i d j hd;simp only[g0W,decide_eq_true_eq]at h;exact⟨d,j,hd,h.1,h.2⟩
 .cases h
end
section
open Go Go.VM
theorem a8V:VM.Enters prog 13:=.mk func13 rfl
theorem b1R:CS prog G0 13 [] (.d (.bool true)) none:=by have h1:=qB (G:=G0) a3c a4f [49,32,45,32,50,32,45,32,51] (by decide);have h2:=qB (G:=G0) a3c a4f [40,45,51,41] (by decide);have h3:=qB (G:=G0) a3c a4f [45,32,51] (by decide);have h4:=qB (G:=G0) a3c a4f [102,32,40,40,45,51,41,41] (by decide);have h5:=a8T (G:=G0) a3c a4f txT (by decide);have h6:=a8T (G:=G0) a3c a4f [40,73,110,116,44,32,73,110,116,41] (by decide);have h7:=a0K (G:=G0) a3c a4f [100,101,102,32,102,32,40,120,41,32,61,32,120,32,43,10,59] (by decide);have h8:=a0K (G:=G0) a3c a4f [100,101,102,32,102,32,40,120,41,32,61,32,63] (by decide);have h9:=qB (G:=G0) a3c a4f [97,32,60,32,98,32,60,32,99] (by decide);have h10:=qB (G:=G0) a3c a4f [40,97,32,60,32,98,41,32,61,61,32,99] (by decide);have h11:=a0K (G:=G0) a3c a4f txM (by decide);have h12:=c3z (G:=G0) a3c a4f txD (by decide);obtain⟨m,jm,d,me,df,e11,m1,m2,m3,m4,m5,m6,m7⟩:=f2x;obtain⟨dd,jd,e12,d1,d2⟩:=f2y;rw[ex1]at h1;rw[ex2]at h2;rw[ex3]at h3;rw[ex4]at h4;rw[ex7]at h5;rw[ex8]at h6;rw[ex9]at h7;rw[f6g]at h8;rw[ex6]at h9;rw[ex5]at h10;rw[e11]at h11;rw[e12]at h12;obtain⟨md,mc,mi,mm,mq,mf⟩:=m;simp only at m1 m2 m3;subst m1 m2 m3;simp[a3v,a3Z,d3s,cD,bT]at h1 h2 h3 h4 h9 h10;simp[a3v,a3Z,d3s,vP,bV,dE,mO,eY,strs]at h5 h6;simp[a3v,a3Z,d3s,a8y]at h7 h8 h11;simp[a3v,a3Z,d1,d2]at h12;have k1:=bT ⟨11,[],0,[num 1,num 2],[],[],[]⟩;have k2:=bT (num (-3));have k3:=λt=>bV t;refine CS.aX func13 rfl ntmps13 rfl ?_;simp;refine aC.mk pJ h1 ?_;simp;refine aC.mk pJ h2 ?_;simp;refine aC.mk pJ h3 ?_;simp;refine aC.mk pJ h4 ?_;simp;refine aC.mk a7o h5 ?_;simp;refine aC.mk a7o h6 ?_;simp;refine aC.mk zP h7 ?_;simp;refine aC.mk zP h8 ?_;simp;refine aC.mk pJ h9 ?_;simp;refine aC.mk pJ h10 ?_;simp (maxSteps:=1000000) [k1,k2];refine aC.mk zP h11 ?_;simp;refine aC.mk b9r h12 ?_;simp (maxSteps:=1000000) [b6f,c5q,c1V,e1L,bT,m4,m5,m6,m7,d1,d2]
end
section
structure d7T (l l':List Tok) (N d:Nat) (u:Nm):Prop where
 len:N<l.length
 g0j:N+d<l'.length
 le:l.length<=l'.length
 kind:∀i,i<N->(aG l' (i+d)).kind=(aG l i).kind
 text:∀i,i<N->(aG l' (i+d)).text=(aG l i).text
 n:∀i,i<N->(aG l' (i+d)).n=(aG l i).n
 stp:(aG l N).kind=0\/((aG l N).kind=4/\(aG l N).text=u)
 f2z:(aG l' (N+d)).kind=4/\(aG l' (N+d)).text=u
 uu:u=[41]\/u=[59]
def e5n{α:Type}(N d:Nat)(W:Nat->Prop)(x y:bE α):Prop:=∀i a j,i<=N->x i=.ok a j->j<=N->W j->y (i+d)=.ok a (j+d)
section
variable {α β:Type} {kw:Nm->Bool} {andP:Pr->Pr->Pr} {aE:List Tok->Nat->Nat->kJ Pr} {l l':List Tok} {N d:Nat} {W W':Nat->Prop} {u:Nm}
variable (hE:oK l) (hN:d7T l l' N d u)
include hE hN
omit hE in
theorem d7U{i:Nat}(hi:i<N)(s:Nm):cV (aG l' (i+d)) s=cV (aG l i) s:=by unfold cV;rw[hN.kind i hi,hN.text i hi]
omit hE in
theorem e3a{i:Nat}(hi:i<N)(s:Nm):aH l' (i+d) s=aH l i s:=d7U hN hi s
omit hE in
theorem e3b{i:Nat}(hi:i<N):jV kw (aG l' (i+d))=jV kw (aG l i):=by unfold jV;rw[hN.kind i hi,hN.text i hi]
omit hE in
theorem f2A{s:Nm}(h1:s≠[41])(h2:s≠[59]):u≠s:=by
 rcases hN.uu with rfl|rfl
 .exact λe=>h1 e.symm
 .exact λe=>h2 e.symm
omit hE in
theorem f6l{s:Nm}(h1:s≠[41])(h2:s≠[59]):aH l N s=false:=by
 unfold aH cV;rcases hN.stp with h|⟨h,h3⟩
 .simp[h]
 .simp[h3,f2A hN h1 h2]
omit hE in
theorem f2B{s:Nm}(h1:s≠[41])(h2:s≠[59]):aH l' (N+d) s=false:=by unfold aH cV;obtain⟨h,h3⟩:=hN.f2z;simp[h3,f2A hN h1 h2]
omit hE in
theorem f6m:jV kw (aG l N)=false:=by unfold jV;rcases hN.stp with h|⟨h,_⟩<;>simp[h]
omit hE in
theorem f2C:jV kw (aG l' (N+d))=false:=by unfold jV;simp[hN.f2z.1]
omit hE in
theorem c3C{s:Nm}(h1:s≠[41])(h2:s≠[59]){i:Nat}(hi:i<=N):aH l' (i+d) s=aH l i s:=by
 by_cases h:i=N
 .subst h;rw[f6l hN h1 h2,f2B hN h1 h2]
 .exact e3a hN (by omega) s
omit hE in
theorem e3c{i:Nat}(hi:i<=N):jV kw (aG l' (i+d))=jV kw (aG l i):=by
 by_cases h:i=N
 .subst h;rw[f6m hN,f2C hN]
 .exact e3b hN (by omega)
end
end
section
def d1h{α:Type}(l:List Tok)(c:Int)(x:bE α):Prop:=∀i a j,i<l.length->x i=.ok a j->i<=j/\j<l.length/\par l i j=c
def e3d(s:Nm):Int:=a9I ⟨4,s,0,0⟩
section
variable {α β:Type} {kw:Nm->Bool} {andP:Pr->Pr->Pr} {aE:List Tok->Nat->Nat->kJ Pr} {l:List Tok} {c c1 c2:Int}
theorem d7V{i:Nat}(hi:i<l.length):a2p l i=a9I (aG l i):=by
 unfold a2p aG;rw[if_pos hi,List.getD_eq_getElem?_getD,g1a hi]
 rfl
theorem e3e{t:Tok}{s:Nm}(h:cV t s=true):a9I t=e3d s:=by unfold cV at h;simp only[g0W,decide_eq_true_eq]at h;unfold e3d a9I;rw[h.2]
theorem e8E{i:Nat}{s:Nm}(hi:i<l.length)(h:aH l i s=true):a2p l i=e3d s:=by rw[d7V hi,e3e h]
theorem d7W(hW:WfD l){i:Nat}(hi:i<l.length)(h:(aG l i).kind≠4):a2p l i=0:=by
 rw[d7V hi];refine hW i _ ?_ h;unfold aG;rw[if_pos hi,List.getD_eq_getElem?_getD,g1a hi]
 rfl
variable (hE:oK l) (hW:WfD l)
include hE
include hW
theorem d1h.take{ok:Tok->Bool}(hk:∀t,ok t=true->t.kind≠0/\t.kind≠4):d1h l 0 (oQ l ok):=λi a j hi h=>by
 unfold oQ at h;split at h
 .rename_i hs;have h1:=hk _ hs;have:=qM hE hi h1.1;cases h;exact⟨by omega,this,by rw[yE,d7W hW hi h1.2]⟩
 .unfold eH at h;cases h
theorem d1h.base:d1h l 0 (gO kw l):=λi a j hi h=>by
 have nx:∀ {s:Nm},e3d s=0->aH l i s=true->i<=i+1/\i+1<l.length/\par l i (i+1)=0:=λhs h1=>⟨by omega,aK hE hi h1,by rw[yE,e8E hi h1,hs]⟩;unfold gO at h;split at h
 .rename_i h1;cases h;exact nx rfl h1
 split at h
 .rename_i h1;cases h;exact nx rfl h1
 split at h
 .rename_i h1;cases h;exact nx rfl h1
 split at h
 .rename_i h1;have hn:=a3O hE hi h1;cases h;refine⟨by omega,hn,?_⟩;rw[yE,d7W hW hi];unfold jV at h1;simp only[g0W,decide_eq_true_eq]at h1;omega
 .cases h;exact⟨g1m _,hi,yD _⟩
end
end
section
abbrev eTk(ln:Int):Tok:=⟨0,[],0,ln⟩
end
section
open Go Go.VM
variable {G:GT}
def cY{α:Type}(l:List Tok)(P:α->Prop)(x:bE α):Prop:=∀i a j,i<l.length->x i=.ok a j->P a
section
variable {α β:Type} {l:List Tok} {P:α->Prop} {Q:β->Prop}
theorem cY.bY{a:α}(h:P a):cY l P (pure a:bE α):=λi b j hi hx=>by rw[jG]at hx;cases hx;exact h
theorem cY.any(x:bE α):cY l (λ_=>True) x:=λ_ _ _ _ _=>trivial
theorem cY.ite{c:Prop}[Decidable c]{x y:bE α}(hx:cY l P x)(hy:cY l P y):cY l P (if c then x else y):=by
 split
 .exact hx
 .exact hy
theorem cY.bind{x:bE α}{f:α->bE β}(hx:cY l P x)(ax:aB l 0 x)(hf:∀a,P a->cY l Q (f a)):cY l Q (x >>=f):=λi b j hi h=>by
 rw[dN]at h;cases h1:x i with
 |bad n e=>rw[h1]at h;cases h
 |ok a k=>rw[h1]at h;exact hf a (hx i a k hi h1) k b j (ax i a k hi h1).2 h
theorem cY.skip{x:bE α}{f:α->bE β}(ax:aB l 0 x)(hf:∀a,cY l Q (f a)):cY l Q (x >>=f):=cY.bind (cY.any x) ax λa _=>hf a
variable (hE:oK l)
include hE
def Snc(l:List Tok)(P:β->Prop)(one:List β->bE (List β)):Prop:=∀out,cY l (λb=>∃y,b=out++[y]/\P y) (one out)
theorem c7r{P:β->Prop}{c:Nm}{one:List β->bE (List β)}(h1:Snc l P one)(a1:∀out,aB l 1 (one out)):∀(g:Nat) (out:List β) (i:Nat) (b:List β) (j:Nat),i<l.length->out.length<=i->(∀y∈out,P y)->gN l c one g out i=.ok b j->b.length<=l.length/\∀y∈b,P y
 |0,out,i,b,j,_,_,_,h=>by unfold gN at h;cases h
 |g+1,out,i,b,j,hi,hl,hp,h=>by
  unfold gN at h;split at h
  .cases h
  .rename_i b' j' ho;have k1:=a1 out i b' j' hi ho;obtain⟨y,rfl,hy⟩:=h1 out i b' j' hi ho;have dR:∀z∈out++[y],P z:=λz hz=>by
    rcases List.mem_append.1 hz with hz|hz
    .exact hp z hz
    .rw[g1d]at hz;rw[hz];exact hy
   split at h
   .rename_i hs;exact c7r h1 a1 g _ (j'+1) b j (aK hE k1.2 hs) (by simp;omega) dR h
   .cases h;exact⟨by simp;omega,dR⟩
theorem a4g{P:β->Prop}{c:Nm}{one:List β->bE (List β)}(h1:Snc l P one)(a1:∀out,aB l 1 (one out)):cY l (λb=>b.length<=l.length/\∀y∈b,P y) (dP l c one []):=λi b j hi h=>c7r hE h1 a1 _ [] i b j hi (Nat.zero_le _) (λy hy=>by cases hy) h
omit hE in
theorem c7s{P:β->Prop}{c:Nat->Bool}{one:List β->bE (List β)}(h1:Snc l P one)(a1:∀out,aB l 1 (one out)):∀(g:Nat) (out:List β) (i:Nat) (b:List β) (j:Nat),i<l.length->out.length<=i->(∀y∈out,P y)->eD c one g out i=.ok b j->b.length<=l.length/\∀y∈b,P y
 |0,out,i,b,j,_,_,_,h=>by unfold eD at h;cases h
 |g+1,out,i,b,j,hi,hl,hp,h=>by
  unfold eD at h;split at h
  .split at h
   .cases h
   .rename_i b' j' ho;have k1:=a1 out i b' j' hi ho;obtain⟨y,rfl,hy⟩:=h1 out i b' j' hi ho;exact c7s h1 a1 g _ j' b j k1.2 (by simp;omega) (λz hz=>by
     rcases List.mem_append.1 hz with hz|hz
     .exact hp z hz
     .rw[g1d]at hz;rw[hz];exact hy) h
  .cases h;exact⟨by omega,hp⟩
omit hE in
theorem d7X{P:β->Prop}{c:Nat->Bool}{one:List β->bE (List β)}(h1:Snc l P one)(a1:∀out,aB l 1 (one out)):cY l (λb=>b.length<=l.length/\∀y∈b,P y) (sW l c one []):=λi b j hi h=>c7s h1 a1 _ [] i b j hi (Nat.zero_le _) (λy hy=>by cases hy) h
theorem c1h{P:β->Prop}{c:Nm}{one:List Nm×List β->bE (List Nm×List β)}(h1:∀out,cY l (λb=>∃y,b.1.length<=out.1.length+1/\b.2=out.2++[y]/\P y) (one out))(a1:∀out,aB l 1 (one out)):∀(g:Nat) (out:List Nm×List β) (i:Nat) (b:List Nm×List β) (j:Nat),i<l.length->out.1.length<=i->out.2.length<=i->(∀y∈out.2,P y)->gN l c one g out i=.ok b j->b.1.length<=l.length/\b.2.length<=l.length/\∀y∈b.2,P y
 |0,out,i,b,j,_,_,_,_,h=>by unfold gN at h;cases h
 |g+1,out,i,b,j,hi,hl,hl2,hp,h=>by
  unfold gN at h;split at h
  .cases h
  .rename_i b' j' ho;have k1:=a1 out i b' j' hi ho;obtain⟨y,e1,e2,hy⟩:=h1 out i b' j' hi ho;have dR:∀z∈b'.2,P z:=λz hz=>by
    rw[e2]at hz;rcases List.mem_append.1 hz with hz|hz
    .exact hp z hz
    .rw[g1d]at hz;rw[hz];exact hy
   have hlen:b'.2.length=out.2.length+1:=by rw[e2];simp
   split at h
   .rename_i hs;exact c1h h1 a1 g _ (j'+1) b j (aK hE k1.2 hs) (by omega) (by omega) dR h
   .cases h;exact⟨by omega,by omega,dR⟩
theorem c1i{P:β->Prop}{c:Nm}{one:List Nm×List β->bE (List Nm×List β)}(h1:∀out,cY l (λb=>∃y,b.1.length<=out.1.length+1/\b.2=out.2++[y]/\P y) (one out))(a1:∀out,aB l 1 (one out)):cY l (λb=>b.1.length<=l.length/\b.2.length<=l.length/\∀y∈b.2,P y) (dP l c one ([],[])):=λi b j hi h=>c1h hE h1 a1 _ ([],[]) i b j hi (Nat.zero_le _) (Nat.zero_le _) (λy hy=>by cases hy) h
theorem d3I{kw:Nm->Bool}:cY l (λb:List Nm=>b.length<=l.length) (gA kw l):=by unfold gA;refine cY.skip ((aB.exp hE _ _).le (by omega)) λ_=>cY.bind (a4g hE (P:=λ_=>True) (λout=>cY.skip ((aB.word hE).le (by omega)) λw=>cY.bY ⟨w,rfl,trivial⟩) λout=>(aB.word hE).bl λ_=>aB.bY _) (aB.list hE (m:=0) (λout=>((aB.word hE).le (by omega)).bl λ_=>aB.bY _) _) λb hb=>cY.skip ((aB.exp hE _ _).le (by omega)) λ_=>cY.bY hb.1
end
theorem WB.zero:WB 900000000 mO:=.mk _ _ _ _ _ _ (by simp) (by simp) (by simp[eY,bM,dM]) (by simp) (λq hq=>by cases hq) (λk hk=>by cases hk)
theorem WB.small(op:Int)(nm:Nm){l:List Ty}{ns:List Nm}{ps:List Pr}(h1:l.length<=900000000)(h2:ns.length<=900000000)(h3:ps.length<=900000000)(h4:∀q∈ps,bM q<=900000000)(h5:∀k∈l,WB 900000000 k):WB 900000000 ⟨op,nm,l,ns,eY,ps⟩:=.mk _ _ _ _ _ _ h1 h2 (by simp[eY,bM,dM]) h3 h4 h5
theorem WB.vP(op:Int)(nm:Nm):WB 900000000 (vP op nm):=WB.small op nm (by simp) (by simp) (by simp) (λq hq=>by cases hq) (λk hk=>by cases hk)
theorem WB.pred{t:Ty}(h:WB 900000000 t){p:Pr}(hp:bM p<=900000000):WB 900000000 {t with pred:=p}:=by
 cases h with
 |mk _ _ _ _ _ _ h1 h2 h3 h4 h5 h6=>exact .mk _ _ _ _ _ _ h1 h2 hp h4 h5 h6
section
variable {aE:List Tok->Nat->Nat->kJ Pr} {l:List Tok} (hV:pY G aE l)
include hV
theorem d7Y:cY l (λp=>bM p<=900000000) (mP aE l):=λi p j hi h=>by have h1:=(hV.nod i _ p j hi h).1;have h2:=hV.kL _ i p j hi h;have h3:=hV.len;omega
theorem c7t:cY l (λo:Option Ty=>∀t,o=some t->WB 900000000 t) (gO aJ l):=λi o j hi h=>by
 intro t ht;subst ht;unfold gO at h
 repeat' split at h
 all_goals first|(cases h;exact WB.vP _ _)|cases h
section
variable {ty:bE Ty} (oW:cY l (WB 900000000) ty) (qW:aB l 1 ty) (ity:∀i t j,i<l.length->ty i=.ok t j->TyI t i j)
include oW qW ity
theorem c7u:cY l (WB 900000000) (xU aZ aE l ty):=λi t j hi h=>by
 have inv:=c6v hV qW ity i t j hi h;have ha:=aB.c1U (andP:=aZ) hV.fin (qW.le (by omega)) hV.kL.pred i t j hi h;have hl:=hV.len;have hn:bM t.pred<=900000000:=by have:=inv.2;omega
 unfold xU at h;obtain⟨_,k1,h1,h⟩:=cH h;have q1:=aB.exp hV.fin _ _ i _ k1 hi h1;obtain⟨t0,k2,h2,h⟩:=cH h;have w:=oW k1 t0 k2 q1.2 h2;split at h
 .unfold eH at h;cases h
 .obtain⟨_,k3,h3,h⟩:=cH h;obtain⟨p,k4,h4,h⟩:=cH h;obtain⟨_,k5,h5,h⟩:=cH h;cases h;exact w.pred hn
theorem d3J:cY l (WB 900000000) (do aY l [[40]];let t <- ty;aY l [[41]];pure t:bE Ty):=cY.skip ((aB.exp hV.fin _ _).le (by omega)) λ_=>cY.bind oW (qW.le (by omega)) λt ht=>cY.skip ((aB.exp hV.fin _ _).le (by omega)) λ_=>cY.bY ht
theorem c9R:cY l (WB 900000000) (kW aJ aZ aE l ty):=by
 unfold kW;refine cY.bind (c7t hV) (aB.base hV.fin) λo ho=>?_;cases o with
 |some t=>exact cY.bY (ho t rfl)
 |none=>
  intro i t j hi h;simp only at h;split at h
  .cases h;exact WB.vP _ _
  .split at h
   .exact c7u hV oW qW ity i t j hi h
   .exact d3J hV oW qW ity i t j hi h
theorem d3K:cY l (WB 900000000) (vX aJ aZ aE l ty):=by
 have hl:=hV.len;unfold vX;have ash:aB l 1 (kW aJ aZ aE l ty):=aB.a3m hV.fin (qW.le (by omega)) hV.kL.pred;refine cY.skip ((aB.title hV.fin).le (by omega)) λnm=>cY.bind (d7X (P:=WB 900000000) (λout=>cY.bind (c9R hV oW qW ity) (ash.le (by omega)) λt ht=>cY.bY ⟨t,rfl,ht⟩) λout=>ash.bl λ_=>aB.bY _) (aB.many (λout=>(ash.le (by omega)).bl λ_=>aB.bY _) _) λargs kO=>cY.skip (aB.skip hV.fin _) λb=>cY.ite ?_ (cY.bY ?_)
 .refine cY.bind (a4g hV.fin (P:=λp=>bM p<=900000000) (λout=>cY.skip ((aB.exp hV.fin _ _).le (by omega)) λ_=>cY.bind (d7Y hV) hV.kL.pred λp hp=>cY.bY ⟨p,rfl,hp⟩) λout=>(aB.exp hV.fin _ _).bl λ_=>hV.kL.pred.bl λ_=>aB.bY _) (aB.list hV.fin (λout=>((aB.exp hV.fin _ _).le (by omega)).bl λ_=>hV.kL.pred.bl λ_=>aB.bY _) _) λps hps=>cY.skip ((aB.exp hV.fin _ _).le (by omega)) λ_=>cY.bY ?_;exact WB.small (ns:=[]) 4 nm (by have:=kO.1;omega) (by simp) (by have:=hps.1;omega) hps.2 kO.2
 .exact WB.small (ns:=[]) (ps:=[]) 4 nm (by have:=kO.1;omega) (by simp) (by simp) (λq hq=>by cases hq) kO.2
theorem d7Z:cY l (WB 900000000) (xV aJ l ty):=by
 have hl:=hV.len;have hE:=hV.fin;have a1:∀out:List Nm×List Ty,aB l 1 (do let w <- bW aJ l;aY l [[58]];let t <- ty;pure (out.1++[w],out.2++[t]):bE (List Nm×List Ty)):=λout=>(aB.word hE).bl λ_=>((aB.exp hE _ _).le (by omega)).bl λ_=>(qW.le (by omega)).bl λ_=>aB.bY _;have a2:∀out:List Nm×List Ty,aB l 1 (do let t <- ty;pure (out.1,out.2++[t]):bE (List Nm×List Ty)):=λout=>qW.bl λ_=>aB.bY _;have g1:∀out:List Nm×List Ty,cY l (λb=>∃y,b.1.length<=out.1.length+1/\b.2=out.2++[y]/\WB 900000000 y) (do let w <- bW aJ l;aY l [[58]];let t <- ty;pure (out.1++[w],out.2++[t]):bE (List Nm×List Ty)):=λout=>cY.skip ((aB.word hE).le (by omega)) λw=>cY.skip ((aB.exp hE _ _).le (by omega)) λ_=>cY.bind oW (qW.le (by omega)) λt ht=>cY.bY ⟨t,by simp,rfl,ht⟩;have g2:∀out:List Nm×List Ty,cY l (λb=>∃y,b.1.length<=out.1.length+1/\b.2=out.2++[y]/\WB 900000000 y) (do let t <- ty;pure (out.1,out.2++[t]):bE (List Nm×List Ty)):=λout=>cY.bind oW (qW.le (by omega)) λt ht=>cY.bY ⟨t,by simp,rfl,ht⟩;unfold xV;refine cY.skip ((aB.exp hE _ _).le (by omega)) λ_=>cY.bind (P:=λb:List Nm×List Ty=>b.1.length<=l.length/\b.2.length<=l.length/\∀y∈b.2,WB 900000000 y) (λi b j hi h=>?_) (λi b j hi h=>?_) λq hq=>?_
 .split at h
  .exact c1i hE g1 a1 i b j hi h
  .exact c1i hE g2 a2 i b j hi h
 .split at h
  .exact aB.list hE (λout=>(a1 out).le (by omega)) _ i b j hi h
  .exact aB.list hE (λout=>(a2 out).le (by omega)) _ i b j hi h
 .obtain⟨ns,ts⟩:=q;obtain⟨q1,q2,q3⟩:=hq;simp only at q1 q2 q3;refine cY.skip ((aB.exp hE _ _).le (by omega)) λ_=>λi t j hi h=>?_;split at h
  .rename_i hc;simp only[g0W,decide_eq_true_eq]at hc;cases h
   match ts,hc.1.2,q3 with
   |[t],_,q3=>exact q3 t (.head _)
  .refine(cY.skip ((aB.exp hE _ _).le (by omega)) (λ_=>cY.bind oW (qW.le (by omega)) λt ht=>cY.bY ?_):cY l (WB 900000000) _) i t j hi h;refine WB.small (ps:=[]) 6 [] (by simp;omega) (by omega) (by simp) (λq hq=>by cases hq) λk hk=>?_;rcases List.mem_append.1 hk with hk|hk
   .exact q3 k hk
   .rw[g1d]at hk;rw[hk];exact ht
theorem d8a:cY l (WB 900000000) (yY aJ aZ aE l ty):=by
 unfold yY;refine cY.bind (c7t hV) (aB.base hV.fin) λo ho=>?_;cases o with
 |some t=>exact cY.bY (ho t rfl)
 |none=>
  intro i t j hi h;simp only at h;split at h
  .exact d3K hV oW qW ity i t j hi h
  .split at h
   .exact c7u hV oW qW ity i t j hi h
   .exact d7Z hV oW qW ity i t j hi h
end
theorem c7v:∀n,cY l (WB 900000000) (yZ aJ aZ aE l n)
 |0=>λi a j hi h=>by unfold yZ at h;cases h
 |n+1=>d8a hV (c7v n) (aB.b0J hV.fin hV.kL.pred n) λi t j hi h=>b1B hV n i t j hi h
theorem b4X:cY l (WB 900000000) (jI aJ aZ aE l):=c7v hV _
theorem c1j:cY l (λts:List Ty=>ts.length<=l.length/\∀t∈ts,WB 900000000 t) (rY aJ aZ aE l):=by have hE:=hV.fin;have at1:aB l 1 (jI aJ aZ aE l):=aB.typ hE hV.kL.pred;unfold rY;refine cY.skip (aB.skip hE _) λb=>cY.ite (cY.bind (a4g hE (P:=WB 900000000) (λout=>cY.bind (b4X hV) (at1.le (by omega)) λt ht=>cY.bY ⟨t,rfl,ht⟩) λout=>at1.bl λ_=>aB.bY _) (aB.list hE (λout=>(at1.le (by omega)).bl λ_=>aB.bY _) _) λts h=>cY.skip ((aB.exp hE _ _).le (by omega)) λ_=>cY.bY h) (cY.bY ⟨by simp,λt ht=>by cases ht⟩)
omit hV in
theorem WE.op(op:Int){ks:List cG}(h:ks.length<=900000000)(hk:∀k∈ks,WE 900000000 k):WE 900000000 (cD op ks):=.mk _ h (by simp[cD]) (by simp[cD]) (by simp[cD]) hk (λp hp=>by cases hp) (λa ha=>by cases ha) (λa ha=>by cases ha) (λt ht=>by cases ht)
omit hV in
theorem WE.one(op:Int){a:cG}(h:WE 900000000 a):WE 900000000 (cD op [a]):=WE.op op (by simp) λk hk=>by rw[g1d]at hk;rw[hk];exact h
omit hV in
theorem WE.two(op:Int){a b:cG}(h1:WE 900000000 a)(h2:WE 900000000 b):WE 900000000 (cD op [a,b]):=WE.op op (by simp) λk hk=>by simp at hk;rcases hk with rfl|rfl<;>assumption
omit hV in
theorem WE.leaf(op:Int)(nm:Nm)(n:Int):WE 900000000 ⟨op,nm,n,[],[],[],[]⟩:=.mk _ (by simp) (by simp) (by simp) (by simp) (λk hk=>by cases hk) (λp hp=>by cases hp) (λa ha=>by cases ha) (λa ha=>by cases ha) (λt ht=>by cases ht)
section
variable {ex:Nat->bE cG} (hx:∀k,cY l (WE 900000000) (ex k)) (ax:∀k,aB l 1 (ex k))
include hx ax
theorem b2P:cY l (λks:List cG=>ks.length<=l.length/\∀k∈ks,WE 900000000 k) (jH l ex):=by have hE:=hV.fin;unfold jH;exact cY.skip ((aB.exp hE _ _).le (by omega)) λ_=>cY.bind (a4g hE (P:=WE 900000000) (λout=>cY.bind (hx 0) ((ax 0).le (by omega)) λe he=>cY.bY ⟨e,rfl,he⟩) λout=>(ax 0).bl λ_=>aB.bY _) (aB.list hE (λout=>((ax 0).le (by omega)).bl λ_=>aB.bY _) _) λks h=>cY.skip ((aB.exp hE _ _).le (by omega)) λ_=>cY.bY h
theorem c7w(op:Int):cY l (WE 900000000) (a1Q l ex op):=by have hE:=hV.fin;unfold a1Q;exact cY.skip ((aB.exp hE _ _).le (by omega)) λ_=>cY.bind (hx 0) ((ax 0).le (by omega)) λe he=>cY.skip ((aB.exp hE _ _).le (by omega)) λ_=>cY.bY (WE.one op he)
theorem d8b:cY l (WE 900000000) (a3j aJ aZ aE l ex):=by have hE:=hV.fin;have at0:aB l 0 (jI aJ aZ aE l):=(aB.typ hE hV.kL.pred).le (by omega);unfold a3j;refine cY.skip ((aB.word hE).le (by omega)) λnm=>cY.skip (aB.skip hE _) λb=>cY.bind (P:=λts:List Ty=>ts.length<=1/\∀t∈ts,WB 900000000 t) (cY.ite (cY.bind (b4X hV) at0 λt ht=>cY.bY ⟨by simp,λt' ht'=>by rw[g1d]at ht';rw[ht'];exact ht⟩) (cY.bY ⟨by simp,λt ht=>by cases ht⟩)) (aB.ite (at0.bl λ_=>aB.bY _) (aB.bY _)) λts hts=>?_;refine cY.skip ((aB.exp hE _ _).le (by omega)) λ_=>cY.bind (hx 0) ((ax 0).le (by omega)) λa ha=>cY.skip ((aB.exp hE _ _).le (by omega)) λ_=>cY.bind (hx 0) ((ax 0).le (by omega)) λc hc=>cY.bY ?_;exact .mk _ (by simp[cD]) (by simp[cD]) (by simp[cD]) (by have:=hts.1;simp only;omega) (λk hk=>by simp[cD]at hk;rcases hk with rfl|rfl<;>assumption) (λp hp=>by cases hp) (λa ha=>by cases ha) (λa ha=>by cases ha) hts.2
theorem c9S:cY l (WE 900000000) (vQ aJ l ex):=by
 have hE:=hV.fin;have hl:=hV.len;have aw:aB l 0 (λi=>if aH l i [40] then gA aJ l i else .ok [] i:bE (List Nm)):=λi b j hi h=>by
  simp only at h;split at h
  .exact((aB.words hE).le (by omega)) _ _ _ hi h
  .cases h;omega
 have gw:cY l (λns:List Nm=>ns.length<=l.length) (λi=>if aH l i [40] then gA aJ l i else .ok [] i:bE (List Nm)):=λi b j hi h=>by
  simp only at h;split at h
  .exact d3I hE i b j hi h
  .cases h;simp
 unfold vQ;have a1:∀out:List (Nm×List Nm×cG),aB l 1 (do
  let c <- gT l
  let ns <- (λi=>if aH l i [40] then gA aJ l i else .ok [] i:bE (List Nm))
  aY l [[45,62]]
  let b <- ex 0
  pure (out++[(c,ns,b)]):bE (List (Nm×List Nm×cG))):=λout=>(aB.title hE).bl λ_=>aw.bl λ_=>((aB.exp hE _ _).le (by omega)).bl λ_=>((ax 0).le (by omega)).bl λ_=>aB.bY _
 refine cY.bind (hx 0) ((ax 0).le (by omega)) λe he=>cY.skip ((aB.exp hE _ _).le (by omega)) λ_=>cY.bind (a4g hE (P:=λa:Nm×List Nm×cG=>a.2.1.length<=900000000/\WE 900000000 a.2.2) (λout=>?_) a1) (aB.list hE (λout=>(a1 out).le (by omega)) _) λalts h=>cY.skip ((aB.exp hE _ _).le (by omega)) λ_=>cY.bY ?_
 .exact cY.skip ((aB.title hE).le (by omega)) λc=>cY.bind gw aw λns hns=>cY.skip ((aB.exp hE _ _).le (by omega)) λ_=>cY.bind (hx 0) ((ax 0).le (by omega)) λb hb=>cY.bY ⟨_,rfl,by simp only;omega,hb⟩
 .exact .mk _ (by simp[cD]) (by simp[cD]) (by have:=h.1;simp only;omega) (by simp[cD]) (λk hk=>by simp[cD]at hk;rw[hk];exact he) (λp hp=>by cases hp) (λa ha=>(h.2 a ha).1) (λa ha=>(h.2 a ha).2) (λt ht=>by cases ht)
theorem d8c:cY l (WE 900000000) (a3k aJ aZ aE l ex):=by
 have hE:=hV.fin;have hl:=hV.len;have at0:aB l 0 (jI aJ aZ aE l):=(aB.typ hE hV.kL.pred).le (by omega);have at1:∀b:Bool,aB l 0 (if b then jI aJ aZ aE l else pure mO):=λb=>aB.ite at0 (aB.bY _);have a1:∀out:List (Nm×Ty),aB l 1 (do
  let w <- bW aJ l
  let b <- cQ l [58]
  let t <- (if b then jI aJ aZ aE l else pure mO)
  pure (out++[(w,t)]):bE (List (Nm×Ty))):=λout=>(aB.word hE).bl λ_=>(aB.skip hE _).bl λb=>(at1 b).bl λ_=>aB.bY _
 unfold a3k;refine cY.skip ((aB.exp hE _ _).le (by omega)) λ_=>cY.bind (a4g hE (P:=λp:Nm×Ty=>WB 900000000 p.2) (λout=>?_) a1) (aB.list hE (λout=>(a1 out).le (by omega)) _) λps h=>cY.skip ((aB.exp hE _ _).le (by omega)) λ_=>cY.bind (hx 0) ((ax 0).le (by omega)) λe he=>cY.bY ?_
 .exact cY.skip ((aB.word hE).le (by omega)) λw=>cY.skip (aB.skip hE _) λb=>cY.bind (cY.ite (b4X hV) (cY.bY WB.zero)) (at1 b) λt ht=>cY.bY ⟨_,rfl,ht⟩
 .exact .mk _ (by simp[cD]) (by have:=h.1;simp only;omega) (by simp[cD]) (by simp[cD]) (λk hk=>by simp[cD]at hk;rw[hk];exact he) h.2 (λa ha=>by cases ha) (λa ha=>by cases ha) (λt ht=>by cases ht)
theorem c7x:cY l (WE 900000000) (pU aJ aZ aE l ex):=by
 have hE:=hV.fin;have at0:aB l 0 (jI aJ aZ aE l):=(aB.typ hE hV.kL.pred).le (by omega);unfold pU;refine cY.skip ((aB.exp hE _ _).le (by omega)) λ_=>λi e j hi h=>?_;split at h
 .cases h;exact WE.leaf _ _ _
 .refine(cY.bind (hx 0) ((ax 0).le (by omega)) λe he=>cY.skip (aB.skip hE _) λb=>cY.bind (P:=WE 900000000) (cY.ite (cY.bind (b4X hV) at0 λt ht=>cY.bY ?_) (cY.bY he)) (aB.ite (at0.bl λ_=>aB.bY _) (aB.bY _)) λe he=>cY.skip ((aB.exp hE _ _).le (by omega)) λ_=>cY.bY he:cY l (WE 900000000) _) i e j hi h;exact .mk _ (by simp[cD]) (by simp[cD]) (by simp[cD]) (by simp) (λk hk=>by simp[cD]at hk;rw[hk];exact he) (λp hp=>by cases hp) (λa ha=>by cases ha) (λa ha=>by cases ha) (λt' ht'=>by rw[g1d]at ht';rw[ht'];exact ht)
omit hx ax in
theorem d1i(op:Int)(nm:Nm){ts:List Ty}{ks:List cG}(ht:ts.length<=l.length/\∀t∈ts,WB 900000000 t)(hk:ks.length<=l.length/\∀k∈ks,WE 900000000 k):WE 900000000 {cD op ks with name:=nm,types:=ts}:=by have hl:=hV.len;exact .mk _ (by have:=hk.1;simp only[cD];omega) (by simp[cD]) (by simp[cD]) (by have:=ht.1;simp only;omega) hk.2 (λp hp=>by cases hp) (λa ha=>by cases ha) (λa ha=>by cases ha) ht.2
theorem d3L:cY l (WE 900000000) (xW aJ aZ aE l ex):=λi e j hi h=>by
 have hE:=hV.fin;have f2D:aB l 0 (rY aJ aZ aE l):=aB.types hE hV.kL.pred;have e5o:aB l 0 (jH l ex):=(aB.mZ hE ax).le (by omega);unfold xW at h;split at h
 .cases h;exact WE.leaf _ _ _
 split at h
 .cases h;exact WE.leaf _ _ _
 split at h
 .cases h;exact WE.leaf _ _ _
 split at h
 .rename_i hs;exact c7w hV hx ax 22 (i+1) e j (aK hE hi hs) h
 split at h
 .rename_i hs;exact c7w hV hx ax 23 (i+1) e j (aK hE hi hs) h
 split at h
 .rename_i hs;exact(cY.skip ((aB.exp hE _ _).le (by omega)) (λ_=>cY.bind (hx 0) ((ax 0).le (by omega)) λa ha=>cY.skip ((aB.exp hE _ _).le (by omega)) λ_=>cY.bind (hx 0) ((ax 0).le (by omega)) λb hb=>cY.skip ((aB.exp hE _ _).le (by omega)) λ_=>cY.bY (WE.two 24 ha hb)):cY l (WE 900000000) _) (i+1) e j (aK hE hi hs) h
 split at h
 .rename_i hs;have hn:=a3O hE hi hs;split at h
  .cases h;exact WE.leaf _ _ _
  .exact(cY.bind (c1j hV) f2D λts ht=>cY.bind (b2P hV hx ax) e5o λks hk=>cY.bY (d1i hV 5 _ ht hk):cY l (WE 900000000) _) (i+1) e j hn h
 split at h
 .rename_i hs;have hn:=a3N hE hi hs;refine(cY.bind (c1j hV) f2D λts ht=>cY.bind (P:=λks:List cG=>ks.length<=l.length/\∀k∈ks,WE 900000000 k) (λi b j hi h=>?_) (λi b j hi h=>?_) λks hk=>cY.bY (d1i hV 4 _ ht hk):cY l (WE 900000000) _) (i+1) e j hn h
  .split at h
   .exact b2P hV hx ax i b j hi h
   .cases h;exact⟨by simp,λk hk=>by cases hk⟩
  .split at h
   .exact e5o i b j hi h
   .cases h;omega
 .exact c7x hV hx ax i e j hi h
theorem d1j:cY l (WE 900000000) (a3K aJ aZ aE l ex):=λi e j hi h=>by
 have hE:=hV.fin;unfold a3K at h;split at h
 .rename_i hs;exact(cY.bind (hx 7) ((ax 7).le (by omega)) λe he=>cY.bY (WE.one 15 he):cY l (WE 900000000) _) (i+1) e j (aK hE hi hs) h
 .exact d3L hV hx ax i e j hi h
omit hx ax in
theorem c1k{ops:List (Nm×Int)}{one:bE cG}(h0:cY l (WE 900000000) one)(a0:aB l 0 one):∀(g:Nat) (e:cG),WE 900000000 e->cY l (WE 900000000) (gB l ops one g e)
 |0,e,_=>λi a j hi h=>by unfold gB at h;cases h
 |g+1,e,he=>λi a j hi h=>by
  unfold gB at h;split at h
  .cases h;exact he
  .rename_i p hp;have hs:aH l i p.1=true:=by simpa using List.find?_some hp
   have hn:=aK hV.fin hi hs;split at h
   .cases h
   .rename_i x k hk;exact c1k h0 a0 g _ (WE.two p.2 he (h0 (i+1) x k hn hk)) k a j (a0 (i+1) x k hn hk).2 h
omit hx ax in
theorem b4Y{ops:List (Nm×Int)}{one:bE cG}(h0:cY l (WE 900000000) one)(a0:aB l 0 one):cY l (WE 900000000) (a0M l ops one):=by unfold a0M;exact cY.bind h0 a0 λe he=>c1k hV h0 a0 _ e he
theorem d8d:cY l (WE 900000000) (oR aJ aZ aE l ex):=b4Y hV (b4Y hV (d1j hV hx ax) ((aB.unG hV.fin ax hV.kL.pred).le (by omega))) ((aB.c5n hV.fin ax hV.kL.pred).le (by omega))
theorem d8e:cY l (WE 900000000) (a3l aJ aZ aE l ex):=by
 have hE:=hV.fin;unfold a3l;have hs:cY l (WE 900000000) (oR aJ aZ aE l ex):=d8d hV hx ax;have ha:aB l 0 (oR aJ aZ aE l ex):=(aB.a6B hE ax hV.kL.pred).le (by omega);refine cY.bind hs ha λe he=>λi a j hi h=>?_;have one:∀(f:cG->cG) (w:Nm),(∀x,WE 900000000 x->WE 900000000 (f x))->aH l i w=true->(oR aJ aZ aE l ex >>=λx=>pure (f x)) (i+1)=.ok a j->WE 900000000 a:=λf w hf hw h=>(cY.bind hs ha λx hx=>cY.bY (hf x hx):cY l (WE 900000000) _) (i+1) a j (aK hE hi hw) h;split at h
 .rename_i hw;exact one _ _ (λx hx=>WE.two _ he hx) hw h
 split at h
 .rename_i hw;exact one _ _ (λx hx=>WE.one _ (WE.two _ he hx)) hw h
 split at h
 .rename_i hw;exact one _ _ (λx hx=>WE.two _ he hx) hw h
 split at h
 .rename_i hw;exact one _ _ (λx hx=>WE.two _ he hx) hw h
 split at h
 .rename_i hw;exact one _ _ (λx hx=>WE.two _ hx he) hw h
 split at h
 .rename_i hw;exact one _ _ (λx hx=>WE.two _ hx he) hw h
 cases h;exact he
theorem c7y:cY l (WE 900000000) (zA aJ aZ aE l ex):=λi e j hi h=>by
 have hE:=hV.fin;unfold zA at h;split at h
 .rename_i hs;exact(cY.bind (hx 3) ((ax 3).le (by omega)) λe he=>cY.bY (WE.one 21 he):cY l (WE 900000000) _) (i+1) e j (aK hE hi hs) h
 .exact d8e hV hx ax i e j hi h
theorem e3f:cY l (WE 900000000) (b6b aJ aZ aE l ex):=b4Y hV (b4Y hV (c7y hV hx ax) ((aB.a8h hV.fin ax hV.kL.pred).le (by omega))) ((aB.lvl hV.fin (aB.a8h hV.fin ax hV.kL.pred)).le (by omega))
theorem e3g:cY l (WE 900000000) (a6u aJ aZ aE l ex):=λi e j hi h=>by
 have hE:=hV.fin;have hl:=hV.len;have ax0:aB l 0 (ex 0):=(ax 0).le (by omega);unfold a6u at h;split at h
 .rename_i hs;exact d8b hV hx ax (i+1) e j (aK hE hi hs) h
 split at h
 .rename_i hs;exact(cY.bind (hx 0) ax0 λa ha=>cY.skip ((aB.exp hE _ _).le (by omega)) λ_=>cY.bind (hx 0) ax0 λb hb=>cY.skip ((aB.exp hE _ _).le (by omega)) λ_=>cY.bind (hx 0) ax0 λc hc=>cY.bY (WE.op 8 (by simp) λk hk=>by simp at hk;rcases hk with rfl|rfl|rfl<;>assumption):cY l (WE 900000000) _) (i+1) e j (aK hE hi hs) h
 split at h
 .rename_i hs;exact c9S hV hx ax (i+1) e j (aK hE hi hs) h
 split at h
 .rename_i hs;exact d8c hV hx ax (i+1) e j (aK hE hi hs) h
 split at h
 .rename_i hs;refine(cY.skip ((aB.word hE).le (by omega)) λnm=>cY.bind (b2P hV hx ax) ((aB.mZ hE ax).le (by omega)) λks hk=>cY.skip ((aB.exp hE _ _).le (by omega)) λ_=>cY.bind (hx 0) ax0 λb hb=>cY.bY ?_:cY l (WE 900000000) _) (i+1) e j (aK hE hi hs) h;exact .mk _ (by have:=hk.1;simp[cD];omega) (by simp[cD]) (by simp[cD]) (by simp[cD]) (λk hk2=>by
   simp[cD]at hk2;rcases hk2 with hk2|rfl
   .exact hk.2 k hk2
   .exact hb) (λp hp=>by cases hp) (λa ha=>by cases ha) (λa ha=>by cases ha) (λt ht=>by cases ht)
 .exact e3f hV hx ax i e j hi h
end
theorem d1k:∀n k,cY l (WE 900000000) (vD aJ aZ aE l n k)
 |0,k=>λi a j hi h=>by unfold vD at h;cases h
 |n+1,k=>by
  have hx:=d1k n;have ax:=aB.exF (kw:=aJ) (andP:=aZ) hV.fin hV.kL.pred n;unfold vD;split
  .exact d1j hV hx ax
  .split
   .exact c7y hV hx ax
   .exact e3g hV hx ax
theorem d8f:cY l (WE 900000000) (a4B aJ aZ aE l):=d1k hV _ 0
end
end
end Go.Proofs.YtjpodcmhcenjjaaGreatDoor
