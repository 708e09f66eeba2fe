/- Lemmas that the law of this claim needs (PsS PsN PsU PsO PsP VmRB PsQ PsT VmRD PsV PsW PsX PsY PsZ PtA PrP PtB PrQ VmRP VmRQ). No condition. -/
import Derived.Test.YtjpodcmhcenjjaaGreatDoorOta
import Derived.Test.YtjpodcmhcenjjaaGreatDoorOtc
import Derived.Test.YtjpodcmhcenjjaaGreatDoorOtd
import Derived.Test.YtjpodcmhcenjjaaGreatDoorOte
import Derived.Test.YtjpodcmhcenjjaaGreatDoorOtf
import Derived.Test.YtjpodcmhcenjjaaGreatDoorOtg
import Derived.Defers
set_option linter.unusedVariables false
set_option linter.unusedSimpArgs false
set_option linter.unusedSectionVars false
set_option maxRecDepth 100000
set_option maxHeartbeats 64000000
open Go.Proofs.Tryz
namespace Go.Proofs.YtjpodcmhcenjjaaGreatDoor
section
open Go Go.VM
variable {G:GT}
theorem a9Q:VM.Enters prog 108:=.mk func108 rfl
theorem c2U:VM.Enters prog 154:=.mk func154 rfl
theorem SW.c6C{P:Program}{α:Type}{b c:Code}{st:St}{Q:Exit->St->Prop}(r:kJ α)(st':α->Nat->St)(h1:SW P G b st λe s=>match e with
  | .normal=>∃v j,r=.ok v j/\wI s (st' v j)
  |e=>Q e s)(h2:∀v j,r=.ok v j->SW P G c (st' v j) Q):SW P G (.seq b c) st Q:=SW.jW (SW.mono (λe s h=>by
 cases e with
 |normal=>obtain⟨v,j,hr,hw⟩:=h;exact SW.a1H hw (h2 v j hr)
 |_=>exact h) h1)
structure a2b (Q:Exit->St->Prop) {α:Type} (r0 r:kJ α):Prop where
 eq:r0=r
 bad:∀n e s,r0=.bad n e->Q (.panic (a0Z (qE n e))) s
section
variable {α β:Type} {Q:Exit->St->Prop} {i j:Nat} {n e:Int} {a:α} {r0:kJ β}
theorem a2b.step{x:bE α}{f:α->bE β}(h:a2b Q r0 ((x >>=f) i))(hx:x i=.ok a j):a2b Q r0 (f a j):=⟨h.eq.trans (bP hx),h.bad⟩
theorem a2b.fail{x:bE α}{f:α->bE β}(h:a2b Q r0 ((x >>=f) i))(hx:x i=.bad n e)(s:St):Q (.panic (a0Z (qE n e))) s:=h.bad _ _ _ (h.eq.trans (jU hx))
end
theorem d3a{α β γ:Type}(x:bE α)(f:α->bE β)(g:β->bE γ):((x >>=f) >>=g)=(x >>=λa=>f a >>=g):=funext λi=>c6x x f g i
section
variable {aE:List Tok->Nat->Nat->kJ Pr} {l:List Tok} (hV:pY G aE l)
include hV
abbrev c2V(s:c0c):List D:=.sl (strs s.vars)::.sl (s.a5r.map pQ)::.sl (s.abs.map pQ)::.sl (s.bounds.map c8A)::(tyD s.type++[.sl (s.c1T.map rW)])
omit hV in
theorem e2E(s:c0c):e1L s=c2V s:=by
 rw[e1L,bV]
 rfl
abbrev d0X(l:List Tok):bE (List Nm):=do
 let b <- cQ l [102,111,114,97,108,108]
 if b then do
  let w <- bW aJ l
  let ws <- sW l (λi=>jV aJ (aG l i)) (a0F l) [w]
  aY l [[46]]
  pure ws
 else pure []
abbrev d0Y(l:List Tok):bE (List psV):=do
 let b <- cQ l [119,104,101,114,101]
 if b then do
  let ns <- zU aJ l
  aY l [[46]]
  pure ns
 else pure []
abbrev d0Z(l:List Tok):bE (List psV):=do
 let b <- cQ l [60]
 if b then do
  let ns <- sX aJ l false
  aY l [[62],[46]]
  pure ns
 else pure []
abbrev d7b(aE:List Tok->Nat->Nat->kJ Pr)(l:List Tok)(out:List uO):bE (List uO):=do
 aY l [[98,111,117,110,100]]
 let b <- a0W aJ aE l
 pure (out++[b])
abbrev c6D(aE:List Tok->Nat->Nat->kJ Pr)(l:List Tok):bE (List uO):=sW l (λi=>aH l i [98,111,117,110,100]) (d7b aE l) []
abbrev d3b(aE:List Tok->Nat->Nat->kJ Pr)(l:List Tok)(E:Nat)(out:List Pr):bE (List Pr):=do
 let p <- (λj=>aE l j E:bE Pr)
 pure (out++[p])
abbrev e5d(aE:List Tok->Nat->Nat->kJ Pr)(l:List Tok):bE (List Pr):=do
 let b <- cQ l [109,101,116,114,105,99]
 if b then(λi=>dP l [44] (d3b aE l (pE l (l.length+1) 0 i)) [] i) else pure []
omit hV in
theorem d7c:a6v aJ aZ aE l=(do
  let vs <- d0X l
  let ns <- d0Y l
  let abs <- d0Z l
  let bs <- c6D aE l
  let t <- jI aJ aZ aE l
  let ms <- e5d aE l
  pure ⟨vs,ns,abs,bs,t,ms⟩):=by
 unfold a6v;simp only[d3a]
theorem d7d:aB l 0 (d0X l):=(aB.skip hV.fin _).bl λ_=>aB.ite (((aB.word hV.fin).le (by omega)).bl λ_=>(aB.many (λa=>((aB.word hV.fin).le (by omega)).bl λ_=>aB.bY _) _).bl λ_=>((aB.exp hV.fin _ _).le (by omega)).bl λ_=>aB.bY _) (aB.bY _)
theorem a7b:aB l 1 (zU aJ l):=aB.a5r hV.fin
theorem d7e:aB l 0 (d0Y l):=(aB.skip hV.fin _).bl λ_=>aB.ite (((a7b hV).le (by omega)).bl λ_=>((aB.exp hV.fin _ _).le (by omega)).bl λ_=>aB.bY _) (aB.bY _)
theorem d7f:aB l 0 (d0Z l):=(aB.skip hV.fin _).bl λ_=>aB.ite (((aB.vars hV.fin false).le (by omega)).bl λ_=>((aB.exp hV.fin _ _).le (by omega)).bl λ_=>aB.bY _) (aB.bY _)
theorem b3T:aB l 1 (a0W aJ aE l):=aB.bound hV.fin hV.kL.pred
theorem d7g(out:List uO):aB l 1 (d7b aE l out):=(aB.exp hV.fin _ _).bl λ_=>((b3T hV).le (by omega)).bl λ_=>aB.bY _
theorem d7h:aB l 0 (c6D aE l):=aB.many (λa=>(d7g hV a).le (by omega)) _
theorem b7x(E:Nat):aB l 0 (λj=>aE l j E:bE Pr):=λi p j hi hx=>hV.kL E i p j hi hx
theorem d7i(E:Nat)(out:List Pr):aB l 0 (d3b aE l E out):=(b7x hV E).bl λ_=>aB.bY _
theorem d3c(E:Nat)(a:List Pr)(i:Nat)(b:List Pr)(j:Nat)(hi:i<l.length)(h:a.length<=i)(hx:d3b aE l E a i=.ok b j):b.length<=j:=by
 obtain⟨p,k,h1,h2⟩:=cH hx;have h3:=(hV.nod i E p k hi h1).1;have pos:1<=bM p:=by cases p;simp[bM]
 cases h2;simp;omega
def b9d(vs:List Nm)(ns abs:List psV)(bs:List uO)(t:Ty)(E:Nat)(out:List Pr):List (Nat×bD):=[(100001,.cells (.d (.sl (strs vs))::.d (.sl (ns.map pQ))::.d (.sl (abs.map pQ))::.d (.sl (bs.map c8A))::((tyD t).map .d++[.d (.sl (out.map rW))]))),(100002,.cells [.ptr 100000 0]),(100003,.cells [.d (.int .i64 E)])]
abbrev f1Q:List (TypeId×List VM.Loc):=[(43,[.c 100001 13])]
theorem d7j(vs:List Nm)(ns abs:List psV)(bs:List uO)(t:Ty)(E:Nat):a1W l K4 [.ptr 100001 0,.ptr 100002 0,.ptr 100003 0] (b9d vs ns abs bs t E) f1Q:=by
 constructor
 all_goals intros
 all_goals first
  |rfl
  |simp[b9d,aL,aQ,aW,aV,bH,getKey,aR,bF,cX,rk,dD,bS, *]
theorem c9m(vs:List Nm)(ns abs:List psV)(bs:List uO)(t:Ty)(E:Nat)(hE:E<=l.length)(out:List Pr)(i:Nat)(hi:i<l.length)(uJ:out.length<=i):oZ G 154 [.ptr 100001 0,.ptr 100002 0,.ptr 100003 0] (b9d vs ns abs bs t E out) f1Q l i (d3b aE l E out i) (λ_=>.cI []) (b9d vs ns abs bs t E):=by
 have hl:=hV.len;obtain⟨j0,rfl⟩:∃j0,j0=i:=⟨_,rfl⟩;have p0:j0<=j0/\j0<l.length:=⟨g1m _,hi⟩;refine oZ.bL func154 rfl ntmps154 rfl (by simp) ?_;intro Q Q0;simp[b9d];refine eE 7 (t:=41) (e:=43) (T:=68) (s:=4) (z:=9) (r:=10) (p:=11) (q:=8) (x:=7) (b:=12) (y:=0) (fd:=5) [0] 4 [2,3] (a5K 1 5 6) (kD (aE l j0 E)) rfl rfl rfl rfl rfl (by kernel_rfl) (by kernel_rfl) rfl ?_;simp
 repeat' apply And.intro
 all_goals
  refine qK (x:=λj=>aE l j E) (i:=j0) Q0 p0 a8F ((hV.bef j0 E p0.2 hE)) ((b7x hV E)) λq j1 x1 Q1 p1=>cJ.mk ?_;simp;refine⟨_,_,_,_,_,_,_,_,_,by simp,rfl,rfl,?_,rfl,rfl,?_,by simp,rfl,rfl,rfl,rfl,by decide,rfl,?_⟩
  .intro c hc
   first
    |(obtain⟨y,_,rfl⟩:=List.mem_map.1 hc
      rw[dE]
      rfl)
    |(simp only[g1d]at hc
      subst hc
      rfl)
  .simp<;>omega
  exact Q1.ok _ j1 .normal _ rfl (.inl rfl) (by simp[b9d,dE])
abbrev e2F:List DV:=[.d .aD,.d .aD,.d .aD,.d .aD,.d (.int .i64 0),.d (.str []),.d .aD,.d .aD,.d (.int .i64 0),.d (.str []),.d (.int .i64 0),.d .aD,.d .aD,.d .aD]
abbrev e2G(l:List Tok)(a b c d:D)(j:Nat):St:=⟨.ptr 100000 0::.ptr 1 0::.ptr 2 0::.ptr 3 0::List.replicate 76 .undef,[(1,.cells [.ptr 100000 0]),(2,.cells e2F),(3,.cells [.d a,.d b,.d c,.d d,.d (.int .i64 0),.d (.str []),.d .aD,.d .aD,.d (.int .i64 0),.d (.str []),.d (.int .i64 0),.d .aD,.d .aD,.d .aD]),(100000,rdO l j)],[]⟩
theorem d7k(v:Bool)(i:Nat)(xs:List psV)(j:Nat)(hi:i<l.length)(h:sX aJ l v i=.ok xs j):xs.length<=j:=by unfold sX at h;exact(uD hV (one:=c0v l v) (λa p=>a.length<=p) (λa p b q hp ha hab=>by have h1:=b2t hV v a p b q hp hab;have h2:=c0w hV v a p b q hab;omega) (λa p h=>by omega) _ _ _ _ _ hi (by simp) h).1
theorem b2E(i:Nat)(hi:i<l.length):sJ G 108 [] l i (a6v aJ aZ aE l i) (λs=>.d (.agg (c2V s))):=by
 have hl:=hV.len;obtain⟨j0,rfl⟩:∃j0,j0=i:=⟨_,rfl⟩;have p0:j0<=j0/\j0<l.length:=⟨g1m _,hi⟩;refine oZ.a0k func108 rfl ntmps108 rfl (by simp) ?_;intro Q Q0;rw[d7c]at Q0;refine SW.jW (SW.xk ?_);simp;refine SW.jW (SW.xk ?_);simp;refine SW.c6C (d0X l j0) (λvs j=>e2G l (.sl (strs vs)) .aD .aD .aD j) ?_ λvs j1 x1=>?_
 .skip
  have Q0:=a2b.mk (Q:=Q) (r0:=d0X l j0) rfl λn e s h=>Q0.fail h s;refine SW.jW (SW.xk ?_);simp;cases hs:aH l j0 [102,111,114,97,108,108]with
  |false=>have Q1:=Q0.step (kZ hs);rw[if_neg (by decide)]at Q1;refine zH hs p0 ?_;simp;refine SW.b3x rfl (SW.xk ?_);simp;exact⟨_,_,Q1.eq,by simp[List.replicate]⟩
  |true=>
   have Q1:=Q0.step (kY hs);rw[if_pos rfl]at Q1;refine rdT hs p0 hV.fin λp1=>?_;obtain⟨j1,sL⟩:∃j,j0+1=j:=⟨_,rfl⟩;rw[sL]at Q1 p1|-;simp;refine SW.a8B rfl (SW.xk ?_);simp;refine gC [0] 3 [2] (.op 1 (.call [4,5,6,7] .none) (.call [1,4,5,6,7] .none)) (kD (bW aJ l j1)) (by kernel_rfl) (by kernel_rfl) ?_;simp;refine⟨?_,?_⟩
   all_goals
    refine rdZ dG (dT hV.kw l j1 p1.2 (by omega)) (λw j2 x2=>?_) (λn e hx=>by first|exact Q1.fail hx _|(simp;exact Q1.fail hx _)|(simp;exact λs=>Q1.fail hx s));have Q2:=Q1.step x2;have p2:=aB.word hV.fin j1 w j2 p1.2 x2;refine cJ.mk ?_;simp;refine SW.vR (ι:={x:List Nm×Nat×Nat//j2<=x.2.1/\x.2.1<l.length/\l.length<x.2.2+x.2.1/\x.1.length<=x.2.1/\eD (λi=>jV aJ (aG l i)) (a0F l) x.2.2 x.1 x.2.1=sW l (λi=>jV aJ (aG l i)) (a0F l) [w] j2}) (λ_=>[]) (λx=>[(1,.cells [.ptr 100000 0]),(2,.cells e2F),(3,.cells [.d (.sl (strs x.1.1)),.d .aD,.d .aD,.d .aD,.d (.int .i64 0),.d (.str []),.d .aD,.d .aD,.d (.int .i64 0),.d (.str []),.d (.int .i64 0),.d .aD,.d .aD,.d .aD]),(100000,rdO l x.1.2.1)]) (λ_=>[(9,[.c 3 0])]) (λx=>l.length-x.1.2.1) ⟨([w],j2,l.length+2),g1m _,p2.2,by simp only;omega,by simp only[List.length_singleton];omega,rfl⟩ (by simp[strs]) ?_;rintro⟨⟨out,j3,g⟩,hb,hj3,hg,ho,hp⟩;simp only at hb hj3 hg ho hp;obtain⟨g,rfl⟩:∃k,g=k+1:=⟨g-1,by omega⟩;have p3:j2<=j3/\j3<l.length:=⟨hb,hj3⟩;have ht:=dA (G:=G) l j3 j3 0 (by omega) (by omega) (by intro e;subst e;simp at hi) (by omega);simp;refine pA (i:=j3) (ds:=[.int .i64 0]) bZ ht ?_;simp;refine mG.mk mQ (oX hV.kw (aG l j3)) ?_;cases hc:jV aJ (aG l j3)with
    |true=>
     simp;refine gC [0] 3 [2] (.op 1 (.call [4,5,6,7] .none) (.call [1,4,5,6,7] .none)) (kD (bW aJ l j3)) (by kernel_rfl) (by kernel_rfl) ?_;simp;refine⟨?_,?_⟩
     all_goals
      refine rdZ (i:=j3) (ds:=[]) dG (dT hV.kw l j3 hj3 (by omega)) (λw2 j4 x4=>?_) (λn e hx=>?_)
      .have p4:=aB.word (kw:=aJ) hV.fin j3 w2 j4 hj3 x4;have h1:a0F l out j3=.ok (out++[w2]) j4:=(bP x4).trans rfl;rw[zI hV hc h1]at hp;refine cJ.mk ?_;simp;refine cK (by first|omega|(simp;omega)) ?_;simp;exact bC.mk ⟨(out++[w2],j4,g),by simp only;omega,p4.2,by simp only;omega,by simp;omega,hp⟩ (by simp[a1p]) (by simp;omega)
      .have h1:a0F l out j3=.bad n e:=jU hx;rw[sR hV hc h1]at hp;simp
       first|exact Q2.fail hp.symm _|exact λs=>Q2.fail hp.symm s
    |false=>rw[zJ hV hc]at hp;have Q3:=Q2.step hp.symm;simp;refine rdX (hw:=by simp[strs]) (ds:=[.sl (strs [[46]])]) mI (oS l [[46]] j3 p3.2 (by omega) hV.fin (by simp)) (λu4 j4 x4=>?_) (λn e hx=>by first|exact Q3.fail hx _|(simp;exact Q3.fail hx _)|(simp;exact λs=>Q3.fail hx s));have Q4:=Q3.step x4;have p4:=aB.exp hV.fin _ _ j3 u4 j4 p3.2 x4;simp;exact⟨_,_,Q4.eq,by simp[List.replicate]⟩
 have Q0:=Q0.step x1;have p1:=d7d hV j0 vs j1 p0.2 x1
 clear p0 x1
 have p0:j1<=j1/\j1<l.length:=⟨g1m _,p1.2⟩
 clear p1 hi
 obtain⟨j0,rfl⟩:∃j,j=j1:=⟨_,rfl⟩;refine SW.c6C (d0Y l j0) (λns j=>e2G l (.sl (strs vs)) (.sl (ns.map pQ)) .aD .aD j) ?_ λns j1 x1=>?_
 .skip
  have Q0:=a2b.mk (Q:=Q) (r0:=d0Y l j0) rfl λn e s h=>Q0.fail h s;refine SW.jW (SW.xk ?_);simp[List.replicate];cases hs:aH l j0 [119,104,101,114,101]with
  |false=>have Q1:=Q0.step (kZ hs);rw[if_neg (by decide)]at Q1;refine zH hs p0 ?_;simp;refine SW.b3x rfl (SW.xk ?_);simp;exact⟨_,_,Q1.eq,by simp[List.replicate]⟩
  |true=>have Q1:=Q0.step (kY hs);rw[if_pos rfl]at Q1;refine rdT hs p0 hV.fin λp1=>?_;obtain⟨j1,sL⟩:∃j,j0+1=j:=⟨_,rfl⟩;rw[sL]at Q1 p1|-;simp;refine SW.a8B rfl (SW.xk ?_);simp;refine rdX b1C ((b3S hV j1 p1.2)) (λns j2 x2=>?_) (λn e hx=>by first|exact Q1.fail hx _|(simp;exact Q1.fail hx _)|(simp;exact λs=>Q1.fail hx s));have Q2:=Q1.step x2;have p2:=a7b hV j1 ns j2 p1.2 x2;simp;refine rdX (hw:=by simp[strs]) (ds:=[.sl (strs [[46]])]) mI (oS l [[46]] j2 p2.2 (by omega) hV.fin (by simp)) (λu3 j3 x3=>?_) (λn e hx=>by first|exact Q2.fail hx _|(simp;exact Q2.fail hx _)|(simp;exact λs=>Q2.fail hx s));have Q3:=Q2.step x3;have p3:=aB.exp hV.fin _ _ j2 u3 j3 p2.2 x3;simp;exact⟨_,_,Q3.eq,by simp[List.replicate]⟩
 have Q0:=Q0.step x1;have p1:=d7e hV j0 ns j1 p0.2 x1
 clear p0 x1
 have p0:j1<=j1/\j1<l.length:=⟨g1m _,p1.2⟩
 clear p1
 obtain⟨j0,rfl⟩:∃j,j=j1:=⟨_,rfl⟩;refine SW.c6C (d0Z l j0) (λabs j=>e2G l (.sl (strs vs)) (.sl (ns.map pQ)) (.sl (abs.map pQ)) .aD j) ?_ λabs j1 x1=>?_
 .skip
  have Q0:=a2b.mk (Q:=Q) (r0:=d0Z l j0) rfl λn e s h=>Q0.fail h s;refine SW.jW (SW.xk ?_);simp[List.replicate];cases hs:aH l j0 [60]with
  |false=>have Q1:=Q0.step (kZ hs);rw[if_neg (by decide)]at Q1;refine zH hs p0 ?_;simp;refine SW.b3x rfl (SW.xk ?_);simp;exact⟨_,_,Q1.eq,by simp[List.replicate]⟩
  |true=>
   have Q1:=Q0.step (kY hs);rw[if_pos rfl]at Q1;refine rdT hs p0 hV.fin λp1=>?_;obtain⟨j1,sL⟩:∃j,j0+1=j:=⟨_,rfl⟩;rw[sL]at Q1 p1|-;simp;refine SW.a8B rfl (SW.xk ?_);simp;refine rdX a2P ((a4T hV false j1 p1.2)) (λxs j2 x2=>?_) (λn e hx=>by first|exact Q1.fail hx _|(simp;exact Q1.fail hx _)|(simp;exact λs=>Q1.fail hx s));have Q2:=Q1.step x2;have p2:=(aB.vars hV.fin false) j1 xs j2 p1.2 x2;have hxs:=d7k hV false j1 xs j2 p1.2 x2;simp;refine SW.vR (ι:={k:Nat//k<=xs.length}) (λk=>[(42,.d (.int .i64 k.1))]) (λk=>[(1,.cells [.ptr 100000 0]),(2,.cells e2F),(3,.cells [.d (.sl (strs vs)),.d (.sl (ns.map pQ)),.d (.sl ((xs.take k.1).map pQ)),.d .aD,.d (.int .i64 0),.d (.str []),.d .aD,.d .aD,.d (.int .i64 0),.d (.str []),.d (.int .i64 0),.d .aD,.d .aD,.d .aD]),(100000,rdO l j2)]) (λ_=>[(161,[.c 3 2])]) (λk=>xs.length-k.1) ⟨0,Nat.zero_le _⟩ (by simp) ?_;rintro⟨k,hk⟩;by_cases aF:k<xs.length
   .have hg:(xs.map pQ)[k]? =some [.str xs[k].1,.str xs[k].2]:=by simp[aF,pQ]
    have hw:=bA (show k<9223372036854775807 by omega);have htk:(xs.map pQ).take (k+1)=(xs.map pQ).take k++[[.str xs[k].1,.str xs[k].2]]:=by rw[g1l (by simpa using aF)];simp[pQ]
    simp[aF,hg,pQ];refine kK ⟨λx hx=>d6t hV xs x (List.mem_of_mem_take hx),by omega⟩ ?_;simp[hw];exact bC.mk ⟨k+1,aF⟩ (by simp[htk]) (by simp;omega)
   .have htk:xs.take k=xs:=List.take_of_length_le (by omega);simp[aF,htk];refine rdX (hw:=by simp[strs]) (ds:=[.sl (strs [[62],[46]])]) mI (oS l [[62],[46]] j2 p2.2 (by omega) hV.fin (by simp)) (λu3 j3 x3=>?_) (λn e hx=>by first|exact Q2.fail hx _|(simp;exact Q2.fail hx _)|(simp;exact λs=>Q2.fail hx s));have Q3:=Q2.step x3;have p3:=aB.exp hV.fin _ _ j2 u3 j3 p2.2 x3;simp;exact⟨_,_,Q3.eq,by simp[List.replicate]⟩
 have Q0:=Q0.step x1;have p1:=d7f hV j0 abs j1 p0.2 x1
 clear p0 x1
 have p0:j1<=j1/\j1<l.length:=⟨g1m _,p1.2⟩
 clear p1
 obtain⟨j0,rfl⟩:∃j,j=j1:=⟨_,rfl⟩;refine SW.c6C (c6D aE l j0) (λbs j=>e2G l (.sl (strs vs)) (.sl (ns.map pQ)) (.sl (abs.map pQ)) (.sl (bs.map c8A)) j) ?_ λbs j1 x1=>?_
 .skip
  have Q0:=a2b.mk (Q:=Q) (r0:=c6D aE l j0) rfl λn e s h=>Q0.fail h s;refine SW.xk ?_;simp[List.replicate];refine SW.vR (ι:={x:List uO×Nat×Nat//j0<=x.2.1/\x.2.1<l.length/\l.length<x.2.2+x.2.1/\x.1.length<=x.2.1/\eD (λi=>aH l i [98,111,117,110,100]) (d7b aE l) x.2.2 x.1 x.2.1=c6D aE l j0}) (λ_=>[]) (λx=>[(1,.cells [.ptr 100000 0]),(2,.cells e2F),(3,.cells [.d (.sl (strs vs)),.d (.sl (ns.map pQ)),.d (.sl (abs.map pQ)),.d (.sl (x.1.1.map c8A)),.d (.int .i64 0),.d (.str []),.d .aD,.d .aD,.d (.int .i64 0),.d (.str []),.d (.int .i64 0),.d .aD,.d .aD,.d .aD]),(100000,rdO l x.1.2.1)]) (λ_=>[(163,[.c 3 3])]) (λx=>l.length-x.1.2.1) ⟨([],j0,l.length+2),g1m _,p0.2,by simp only;omega,by simp,rfl⟩ (by simp) ?_;rintro⟨⟨out,j3,g⟩,hb,hj3,hg,ho,hp⟩;simp only at hb hj3 hg ho hp;obtain⟨g,rfl⟩:∃k,g=k+1:=⟨g-1,by omega⟩;have p3:j0<=j3/\j3<l.length:=⟨hb,hj3⟩;simp;cases hc:aH l j3 [98,111,117,110,100]with
  |true=>
   have hn:=aK hV.fin hj3 hc;refine rdT hc p3 hV.fin λp4=>?_;simp;refine gC [0] 3 [2] (.op 1 (.call [4,5,6,7] .none) (.call [1,4,5,6,7] .none)) (kD (a0W aJ aE l (j3+1))) (by kernel_rfl) (by kernel_rfl) ?_;simp;refine⟨?_,?_⟩
   all_goals
    refine rdZ (i:=j3+1) (ds:=[]) c2R (c6B hV (j3+1) hn) (λb j4 x4=>?_) (λn e hx=>?_)
    .have p4:=b3T hV (j3+1) b j4 hn x4;have h0:aY l [[98,111,117,110,100]] j3=.ok () (j3+1):=(c2q hc).trans rfl;have h1:d7b aE l out j3=.ok (out++[b]) j4:=(bP h0).trans ((bP x4).trans rfl);rw[zI hV hc h1]at hp;refine cJ.mk ?_;simp;refine cK (by first|omega|exact⟨λx _=>by rw[d0W];rfl,by omega⟩|(simp;omega)) ?_;simp;exact bC.mk ⟨(out++[b],j4,g),by simp only;omega,p4.2,by simp only;omega,by simp;omega,hp⟩ (by simp[d0W]) (by simp;omega)
    .have h0:aY l [[98,111,117,110,100]] j3=.ok () (j3+1):=(c2q hc).trans rfl;have h1:d7b aE l out j3=.bad n e:=(bP h0).trans (jU hx);rw[sR hV hc h1]at hp;simp
     first|exact Q0.bad _ _ _ hp.symm|exact λs=>Q0.bad _ _ s hp.symm
  |false=>rw[zJ hV hc]at hp;refine zH hc p3 ?_;simp;exact⟨_,_,hp.symm,by simp[List.replicate]⟩
 have Q1:=Q0.step x1;have p1:=d7h hV j0 bs j1 p0.2 x1;refine SW.xk ?_;simp[List.replicate];refine sY Q1 p1 dF ((pI hV j1 p1.2)) (kM hV) λt j2 x2 Q2 p2=>?_;simp;cases hs:aH l j2 [109,101,116,114,105,99]with
 |false=>have Q3:=Q2.step (a:=[]) (j:=j2) ((bP (kZ hs)).trans rfl);refine zH hs p2 ?_;simp;exact Q3.ok _ j2 _ _ rfl (.inr rfl) (by simp)
 |true=>
  have e1:e5d aE l j2=dP l [44] (d3b aE l (pE l (l.length+1) 0 (j2+1))) [] (j2+1):=(bP (kY hs)).trans rfl;refine rdT hs p2 hV.fin λp3=>?_;obtain⟨j3,hj3⟩:∃j,j2+1=j:=⟨_,rfl⟩;rw[hj3]at e1 p3|-;simp;have heq:=b7w hV j3 p3.2;have hE:=b4T hV (l.length+1) 0 j3;refine pA (ds:=[]) b4x heq ?_;generalize pE l (l.length+1) 0 j3=E at e1 hE|-;simp;have jS:=gP hV [44] (d3b aE l E) (λout i=>out.length<=i) 0 c2U (d7j hV vs ns abs bs t E) (λa=>d7i hV E a) (λa i _ hi h=>c9m hV vs ns abs bs t E hE a i hi h) (d3c hV E) (λa i h=>by omega) [] j3 (by omega) p3.2 (by simp);refine dO.mk (a1a eA jS [(100000,100000),(100001,3),(100002,1),(100003,6)] (λa j hx=>?_) ?_ ?_ ?_ rfl rfl (λms j4 x4=>?_) (λn e yJ=>Q2.fail (e1.trans yJ) _))
  .simp[b9d,aL,aQ,aW,aV,bH,getKey]
  .simp[b9d,aL,aQ,aW,aV,bH,getKey]
  .simp[aR,bF,rk]
  .simp[b9d,aR,bF,rk,cX,dD]
  .have Q4:=Q2.step (e1.trans x4);simp[bG,b9d,aR,bF,rk,cX,dD,bS,kC,gM,dX];exact Q4.ok _ j4 _ _ rfl (.inr rfl) (by simp)
end
end
section
open Go Go.VM
variable {G:GT}
theorem c2W:VM.Enters prog 69:=.mk func69 rfl
theorem b7y:VM.Enters prog 115:=.mk func115 rfl
theorem b9e:VM.Enters prog 70:=.mk func70 rfl
theorem b4y:VM.Enters prog 118:=.mk func118 rfl
theorem a7Z(a:Nm×List Nm×cG):b0K a=[.str a.1,.sl (strs a.2.1),.int .i64 a.2.2.op,.str a.2.2.name,.int .i64 a.2.2.n,.sl (a.2.2.kids.map a0Y),.sl (a.2.2.params.map a4F),.sl (a.2.2.alts.map b0K),.sl (a.2.2.types.map tyC)]:=by rw[b0K,bT]
theorem a2U(p:Nm×Ty):a4F p=.str p.1::tyD p.2:=by rw[a4F,bV]
abbrev a8L:=Nm×List Nm×cG
section
variable {aE:List Tok->Nat->Nat->kJ Pr} {l:List Tok} (hV:pY G aE l)
include hV
section
variable {ex:Nat->bE cG} {low:Nat} (hex:∀i,low<=i->i<l.length->sJ G 34 [] l i (ex 0 i) gQ) (eV:∀k,aB l 1 (ex k))
include hex eV
def a2c(e:cG)(out:List a8L):List (Nat×bD):=[(100001,.cells [.ptr 100000 0]),(100002,.cells [.d (.int .i64 9),.d (.str []),.d (.int .i64 0),.d (.sl [a0Y e]),.d (.sl []),.d (.sl (out.map b0K)),.d (.sl [])])]
abbrev d7l:List (TypeId×List VM.Loc):=[(91,[.c 100002 5])]
abbrev e2H(l:List Tok)(ex:Nat->bE cG)(out:List a8L):bE (List a8L):=do
 let c <- gT l
 let ns <- (λi=>if aH l i [40] then gA aJ l i else .ok [] i:bE (List Nm))
 aY l [[45,62]]
 let b <- ex 0
 pure (out++[(c,ns,b)])
omit hex eV in
theorem c9n(e:cG):a1W l K3 [.ptr 100001 0,.ptr 100002 0] (a2c e) d7l:=by
 constructor
 all_goals intros
 all_goals first
  |rfl
  |simp[a2c,aL,aQ,aW,aV,bH,getKey,aR,bF,cX,rk,dD,bS, *]
omit hex in
theorem b7z(out:List a8L):aB l 1 (e2H l ex out):=by
 refine(aB.title hV.fin).bl λ_=>aB.bl (λi b j hi h=>?_) λ_=>((aB.exp hV.fin _ _).le (by omega)).bl λ_=>((eV 0).le (by omega)).bl λ_=>aB.bY _;split at h
 .exact((aB.words hV.fin).le (by omega)) _ _ _ hi h
 .cases h;omega
omit hex in
theorem d3d(a:List a8L)(i:Nat)(b:List a8L)(j:Nat)(hi:i<l.length)(h:a.length<=i)(hx:e2H l ex a i=.ok b j):b.length<=j:=by have h1:=b7z hV eV a i b j hi hx;obtain⟨_,_,_,hx⟩:=cH hx;obtain⟨_,_,_,hx⟩:=cH hx;obtain⟨_,_,_,hx⟩:=cH hx;obtain⟨_,_,_,hx⟩:=cH hx;cases hx;simp;omega
theorem c2X(e:cG)(out:List a8L)(i:Nat)(cC:low<=i)(hi:i<l.length)(uJ:out.length<=i):oZ G 115 [.ptr 100001 0,.ptr 100002 0] (a2c e out) d7l l i (e2H l ex out i) (λ_=>.cI []) (a2c e):=by
 have hl:=hV.len;obtain⟨j0,rfl⟩:∃j0,j0=i:=⟨_,rfl⟩;have p0:j0<=j0/\j0<l.length:=⟨g1m _,hi⟩;refine oZ.bL func115 rfl ntmps115 rfl (by simp) ?_;intro Q Q0;simp[a2c];refine sY Q0 p0 kG (mR l j0 p0.2 (by omega)) (aB.title hV.fin) λc j1 x1 Q1 p1=>?_;simp;have hb:=kX (G:=G) l j1 [40] p1.2 (by omega);refine pA (ds:=[.str [40]]) gZ hb ?_;cases hs:aH l j1 [40]with
 |false=>
  have Q1:=Q1.step (a:=[]) (j:=j1) (by simp[hs]);simp;refine dZ Q1 p1 hV.fin λu4 j4 x4 Q4 p4=>?_;simp;refine sY Q4 p4 cM ((hex j4 (by omega) p4.2)) (eV 0) λb j5 x5 Q5 p5=>?_;simp;refine a2K (m:=5) (t:=27) (e:=91) (T:=30) (s:=18) (z:=21) (r:=22) (p:=23) (q:=20) (x:=19) (b:=24) (y:=1) (fd:=5) rfl rfl rfl rfl rfl (by kernel_rfl) (by kernel_rfl) rfl rfl ?_;simp;refine⟨_,_,_,_,_,_,_,_,_,by simp,rfl,rfl,?_,rfl,rfl,?_,by simp,rfl,rfl,rfl,rfl,by decide,rfl,?_⟩
  .intro c hc
   first
    |(obtain⟨y,_,rfl⟩:=List.mem_map.1 hc
      rw[a7Z]
      rfl)
    |(simp only[g1d]at hc
      subst hc
      rfl)
  .simp<;>omega
  exact Q5.ok _ j5 .normal _ rfl (.inl rfl) (by simp[a2c,a7Z,zC])
 |true=>
  have e1:(λi=>if aH l i [40] then gA aJ l i else .ok [] i:bE (List Nm)) j1=gA aJ l j1:=by simp[hs]
  simp;refine rdX a4S (a6O hV j1 p1.2) (λns j3 x3=>?_) (λn e hx=>by first|exact Q1.fail (e1.trans hx) _|(simp;exact Q1.fail (e1.trans hx) _)|(simp;exact λs=>Q1.fail (e1.trans hx) s));have Q3:=Q1.step (e1.trans x3);have p3:=aB.words hV.fin j1 ns j3 p1.2 x3;simp;refine dZ Q3 p3 hV.fin λu4 j4 x4 Q4 p4=>?_;simp;refine sY Q4 p4 cM ((hex j4 (by omega) p4.2)) (eV 0) λb j5 x5 Q5 p5=>?_;simp;refine a2K (m:=5) (t:=27) (e:=91) (T:=30) (s:=18) (z:=21) (r:=22) (p:=23) (q:=20) (x:=19) (b:=24) (y:=1) (fd:=5) rfl rfl rfl rfl rfl (by kernel_rfl) (by kernel_rfl) rfl rfl ?_;simp;refine⟨_,_,_,_,_,_,_,_,_,by simp,rfl,rfl,?_,rfl,rfl,?_,by simp,rfl,rfl,rfl,rfl,by decide,rfl,?_⟩
  .intro c hc
   first
    |(obtain⟨y,_,rfl⟩:=List.mem_map.1 hc
      rw[a7Z]
      rfl)
    |(simp only[g1d]at hc
      subst hc
      rfl)
  .simp<;>omega
  exact Q5.ok _ j5 .normal _ rfl (.inl rfl) (by simp[a2c,a7Z,zC])
theorem c6E(i:Nat)(cC:low<=i)(hi:i<l.length):sJ G 69 [] l i (vQ aJ l ex i) gQ:=by
 have hl:=hV.len;obtain⟨j0,rfl⟩:∃j0,j0=i:=⟨_,rfl⟩;have p0:j0<=j0/\j0<l.length:=⟨g1m _,hi⟩;refine oZ.bL func69 rfl ntmps69 rfl (by simp) ?_;intro Q Q0;unfold vQ at Q0;simp;refine sY Q0 p0 cM ((hex j0 cC p0.2)) (eV 0) λe j1 x1 Q1 p1=>?_;simp;refine mG.mk cS (d2W 9 e) ?_;simp;refine dZ Q1 p1 hV.fin λu2 j2 x2 Q2 p2=>?_;simp;have jS:=gP hV [59] (e2H l ex) (λout i=>out.length<=i) low b7y (c9n hV e) (λa=>(b7z hV eV a).le (by omega)) (λa i sE hi h=>c2X hV hex eV e a i sE hi h) (d3d hV eV) (λa i h=>by omega) [] j2 (by omega) p2.2 (by simp);refine dO.mk (a1a eA jS [(100000,100000),(100001,1),(100002,3)] (λa j hx=>?_) ?_ ?_ ?_ rfl rfl (λws j3 x3=>?_) (λn e yJ=>Q2.fail yJ _))
 .simp[a2c,aL,aQ,aW,aV,bH,getKey]
 .simp[a2c,aL,aQ,aW,aV,bH,getKey]
 .simp[aR,bF,rk]
 .simp[a2c,aR,bF,rk,cX,dD]
 .have Q3:=Q2.step x3;have p3:=aB.list hV.fin (λa=>b7z hV eV a) [] j2 ws j3 p2.2 x3;simp[bG,a2c,aR,bF,rk,cX,dD,bS,kC,gM,dX];refine dZ Q3 p3 hV.fin λu4 j4 x4 Q4 p4=>?_;simp;exact Q4.ok _ j4 _ _ rfl (.inr rfl) (by simp)
end
def b7A(out:List (Nm×Ty)):List (Nat×bD):=[(100001,.cells [.ptr 100000 0]),(100002,.cells [.d (.int .i64 6),.d (.str []),.d (.int .i64 0),.d (.sl []),.d (.sl (out.map a4F)),.d (.sl []),.d (.sl [])])]
abbrev f1R:List (TypeId×List VM.Loc):=[(135,[.c 100002 4])]
abbrev e2I(aE:List Tok->Nat->Nat->kJ Pr)(l:List Tok)(out:List (Nm×Ty)):bE (List (Nm×Ty)):=do
 let w <- bW aJ l
 let b <- cQ l [58]
 let t <- (if b then jI aJ aZ aE l else pure mO)
 pure (out++[(w,t)])
theorem d7m:a1W l K3 [.ptr 100001 0,.ptr 100002 0] b7A f1R:=by
 constructor
 all_goals intros
 all_goals first
  |rfl
  |simp[b7A,aL,aQ,aW,aV,bH,getKey,aR,bF,cX,rk,dD,bS, *]
theorem b7B(out:List (Nm×Ty)):aB l 1 (e2I aE l out):=(aB.word hV.fin).bl λ_=>(aB.skip hV.fin _).bl λ_=>aB.bl (aB.ite ((kM hV).le (by omega)) (aB.bY _)) λ_=>aB.bY _
theorem d3e(a:List (Nm×Ty))(i:Nat)(b:List (Nm×Ty))(j:Nat)(hi:i<l.length)(h:a.length<=i)(hx:e2I aE l a i=.ok b j):b.length<=j:=by have h1:=b7B hV a i b j hi hx;obtain⟨_,_,_,hx⟩:=cH hx;obtain⟨_,_,_,hx⟩:=cH hx;obtain⟨_,_,_,hx⟩:=cH hx;cases hx;simp;omega
theorem c9o(out:List (Nm×Ty))(i:Nat)(hi:i<l.length)(uJ:out.length<=i):oZ G 118 [.ptr 100001 0,.ptr 100002 0] (b7A out) f1R l i (e2I aE l out i) (λ_=>.cI []) b7A:=by
 have hl:=hV.len;obtain⟨j0,rfl⟩:∃j0,j0=i:=⟨_,rfl⟩;have p0:j0<=j0/\j0<l.length:=⟨g1m _,hi⟩;refine oZ.bL func118 rfl ntmps118 rfl (by simp) ?_;intro Q Q0;simp[b7A];refine sY Q0 p0 dG (dT hV.kw l j0 p0.2 (by omega)) (aB.word hV.fin) λc j1 x1 Q1 p1=>?_;simp;cases hs:aH l j1 [58]with
 |false=>
  have Q2:=Q1.step (kZ hs);rw[if_neg (by decide)]at Q2;refine zH hs p1 ?_;simp;have Q3:=Q2.step (jG _ _);refine kK ⟨rfl,g0Z.2 λc hc=>?_,?_⟩ ?_
  .obtain⟨y,_,rfl⟩:=List.mem_map.1 hc;rw[a2U]
   rfl
  .have hb:prog.bytesOf 135<=1000:=by decide
   rw[List.length_map]
   calc (out.length+1)*(prog.bytesOf 135+1)<=50001*1001:=Nat.mul_le_mul (by omega) (by omega)
    _<=140737488355328:=by decide
  simp;exact Q3.ok _ j1 .normal _ rfl (.inl rfl) (by simp[b7A,a2U,mO,eY,zC])
 |true=>
  have Q2:=Q1.step (kY hs);rw[if_pos rfl]at Q2;refine rdT hs p1 hV.fin λp2=>?_;obtain⟨j2,tY⟩:∃j2,j1+1=j2:=⟨_,rfl⟩;rw[tY]at Q2 p2|-;simp;refine sY Q2 p2 dF ((pI hV j2 p2.2)) (kM hV) λt j3 x3 Q3 p3=>?_;simp;refine kK ⟨rfl,g0Z.2 λc hc=>?_,?_⟩ ?_
  .obtain⟨y,_,rfl⟩:=List.mem_map.1 hc;rw[a2U]
   rfl
  .have hb:prog.bytesOf 135<=1000:=by decide
   rw[List.length_map]
   calc (out.length+1)*(prog.bytesOf 135+1)<=50001*1001:=Nat.mul_le_mul (by omega) (by omega)
    _<=140737488355328:=by decide
  simp;exact Q3.ok _ j3 .normal _ rfl (.inl rfl) (by simp[b7A,a2U,zC])
section
variable {ex:Nat->bE cG} {low:Nat} (hex:∀i,low<=i->i<l.length->sJ G 34 [] l i (ex 0 i) gQ) (eV:∀k,aB l 1 (ex k))
include hex eV
theorem c2Y(i:Nat)(cC:low<=i)(hi:i<l.length):sJ G 70 [] l i (a3k aJ aZ aE l ex i) gQ:=by
 have hl:=hV.len;obtain⟨j0,rfl⟩:∃j0,j0=i:=⟨_,rfl⟩;have p0:j0<=j0/\j0<l.length:=⟨g1m _,hi⟩;refine oZ.bL func70 rfl ntmps70 rfl (by simp) ?_;intro Q Q0;unfold a3k at Q0;simp;refine dZ Q0 p0 hV.fin λu1 j1 x1 Q1 p1=>?_;simp;have jS:=gP hV [44] (e2I aE l) (λout i=>out.length<=i) 0 b4y (d7m hV) (λa=>(b7B hV a).le (by omega)) (λa i sE hi h=>c9o hV a i hi h) (d3e hV) (λa i h=>by omega) [] j1 (by omega) p1.2 (by simp);refine dO.mk (a1a eA jS [(100000,100000),(100001,1),(100002,3)] (λa j hx=>?_) ?_ ?_ ?_ rfl rfl (λws j2 x2=>?_) (λn e yJ=>Q1.fail yJ _))
 .simp[b7A,aL,aQ,aW,aV,bH,getKey]
 .simp[b7A,aL,aQ,aW,aV,bH,getKey]
 .simp[aR,bF,rk]
 .simp[b7A,aR,bF,rk,cX,dD]
 .have Q2:=Q1.step x2;have p2:=aB.list hV.fin (λa=>b7B hV a) [] j1 ws j2 p1.2 x2;simp[bG,b7A,aR,bF,rk,cX,dD,bS,kC,gM,dX];refine dZ Q2 p2 hV.fin λu3 j3 x3 Q3 p3=>?_;simp;refine sY Q3 p3 cM ((hex j3 (by omega) p3.2)) (eV 0) λe j4 x4 Q4 p4=>?_;simp;exact Q4.ok _ j4 _ _ rfl (.inr rfl) (by simp[bT])
end
end
end
section
open Go Go.VM
variable {G:GT}
theorem b4z:VM.Enters prog 79:=.mk func79 rfl
theorem a2V:VM.Enters prog 133:=.mk func133 rfl
theorem a8k:VM.Enters prog 134:=.mk func134 rfl
section
variable {aE:List Tok->Nat->Nat->kJ Pr} {l:List Tok} (hV:pY G aE l)
include hV
def b9f(nm:Nm)(out:List Nm×List Ty):List (Nat×bD):=[(100001,.cells [.d (.str nm),.d (.sl (strs out.1)),.d (.sl (out.2.map tyC))]),(100002,.cells [.ptr 100000 0])]
abbrev f1S:List (TypeId×List VM.Loc):=[(9,[.c 100001 1]),(45,[.c 100001 2])]
abbrev e2J(aE:List Tok->Nat->Nat->kJ Pr)(l:List Tok)(out:List Nm×List Ty):bE (List Nm×List Ty):=do
 let w <- bW aJ l
 aY l [[58]]
 let t <- jI aJ aZ aE l
 pure (out.1++[w],out.2++[t])
theorem d7n(nm:Nm):a1W l K3 [.ptr 100001 0,.ptr 100002 0] (b9f nm) f1S:=by
 constructor
 all_goals intros
 all_goals first
  |rfl
  |simp[b9f,aL,aQ,aW,aV,bH,getKey,aR,bF,cX,rk,dD,bS, *]
theorem b7C(out:List Nm×List Ty):aB l 1 (e2J aE l out):=(aB.word hV.fin).bl λ_=>((aB.exp hV.fin _ _).le (by omega)).bl λ_=>((kM hV).le (by omega)).bl λ_=>aB.bY _
theorem d3f(a:List Nm×List Ty)(i:Nat)(b:List Nm×List Ty)(j:Nat)(hi:i<l.length)(h:a.1.length<=i/\a.2.length<=i)(hx:e2J aE l a i=.ok b j):b.1.length<=j/\b.2.length<=j:=by have h1:=b7C hV a i b j hi hx;have h2:=c0D a i b j hx;omega
theorem c9p(nm:Nm)(out:List Nm×List Ty)(i:Nat)(hi:i<l.length)(uJ:out.1.length<=i/\out.2.length<=i):oZ G 134 [.ptr 100001 0,.ptr 100002 0] (b9f nm out) f1S l i (e2J aE l out i) (λ_=>.cI []) (b9f nm):=by
 have hl:=hV.len;obtain⟨j0,rfl⟩:∃j0,j0=i:=⟨_,rfl⟩;have p0:j0<=j0/\j0<l.length:=⟨g1m _,hi⟩;refine oZ.bL func134 rfl ntmps134 rfl (by simp) ?_;intro Q Q0;simp[b9f];refine gC [0] 3 [2] (.op 1 (.call [4,5,6,7] .none) (.call [1,4,5,6,7] .none)) (kD (bW aJ l j0)) (by kernel_rfl) (by kernel_rfl) ?_;simp;refine⟨?_,?_⟩
 all_goals
  refine qK Q0 p0 dG (dT hV.kw l j0 p0.2 (by omega)) (aB.word hV.fin) λw j1 x1 Q1 p1=>cJ.mk ?_;simp;refine cK (by omega) ?_;simp;refine dZ Q1 p1 hV.fin λu2 j2 x2 Q2 p2=>?_;simp;refine eE 6 (t:=28) (e:=45) (T:=147) (s:=13) (z:=17) (r:=18) (p:=19) (q:=16) (x:=15) (b:=20) (y:=0) (fd:=2) [0] 3 [2] (a5K 1 4 5) (kD (jI aJ aZ aE l j2)) rfl rfl rfl rfl rfl (by kernel_rfl) (by kernel_rfl) rfl ?_;simp
  repeat' apply And.intro
  all_goals
   refine qK Q2 p2 dF ((pI hV j2 p2.2)) (kM hV) λt j3 x3 Q3 p3=>cJ.mk ?_;simp;refine⟨_,_,_,_,_,_,_,_,_,by simp,rfl,rfl,?_,rfl,rfl,?_,by simp,rfl,rfl,rfl,rfl,by decide,rfl,?_⟩
   .intro c hc
    first
     |(obtain⟨y,_,rfl⟩:=List.mem_map.1 hc
       rw[bV]
       rfl)
     |(simp only[g1d]at hc
       subst hc
       rfl)
   .simp<;>omega
   exact Q3.ok _ j3 .normal _ rfl (.inl rfl) (by simp[b9f,bV,a1p])
def a9R(nm:Nm)(vs:List Nm)(ps:List psV)(out:List a8x):List (Nat×bD):=[(100001,.cells [.ptr 100000 0]),(100002,.cells [.d (.str nm),.d (.sl (strs vs)),.d (.sl (ps.map pQ)),.d (.sl (out.map c0e))])]
abbrev f1T:List (TypeId×List VM.Loc):=[(147,[.c 100002 3])]
abbrev d3g(aE:List Tok->Nat->Nat->kJ Pr)(l:List Tok)(out:List a8x):bE (List a8x):=do
 let c <- b6c aJ aZ aE l
 pure (out++[c])
theorem d3h:aB l 1 (b6c aJ aZ aE l):=aB.con hV.fin hV.kL.pred
theorem b7D(out:List a8x):aB l 1 (d3g aE l out):=(d3h hV).bl λ_=>aB.bY _
theorem c0O(a:List a8x)(i:Nat)(b:List a8x)(j:Nat)(hi:i<l.length)(h:a.length<=i)(hx:d3g aE l a i=.ok b j):b.length<=j:=by have h1:=b7D hV a i b j hi hx;obtain⟨_,_,_,hx⟩:=cH hx;cases hx;simp;omega
theorem c6F(nm:Nm)(vs:List Nm)(ps:List psV):a1W l K3 [.ptr 100001 0,.ptr 100002 0] (a9R nm vs ps) f1T:=by
 constructor
 all_goals intros
 all_goals first
  |rfl
  |simp[a9R,aL,aQ,aW,aV,bH,getKey,aR,bF,cX,rk,dD,bS, *]
theorem b7E(nm:Nm)(vs:List Nm)(ps:List psV)(out:List a8x)(i:Nat)(hi:i<l.length)(uJ:out.length<=i):oZ G 133 [.ptr 100001 0,.ptr 100002 0] (a9R nm vs ps out) f1T l i (d3g aE l out i) (λ_=>.cI []) (a9R nm vs ps):=by
 have hl:=hV.len;obtain⟨j0,rfl⟩:∃j0,j0=i:=⟨_,rfl⟩;have p0:j0<=j0/\j0<l.length:=⟨g1m _,hi⟩;refine oZ.bL func133 rfl ntmps133 rfl (by simp) ?_;intro Q Q0;unfold d3g b6c at Q0;have Q0:=Q0.assoc;simp[a9R];refine sY Q0 p0 kG (mR l j0 p0.2 (by omega)) (aB.title hV.fin) λc j1 x1 Q1 p1=>?_;have Q1:=Q1.assoc;simp;cases hs:aH l j1 [40]with
 |false=>have Q2:=Q1.step (kZ hs);rw[if_neg (by decide)]at Q2;have Q2:=Q2.step (jG _ _);refine zH hs p1 ?_;simp;refine kK ⟨λx _=>rfl,by omega⟩ ?_;simp;exact Q2.ok _ j1 .normal _ rfl (.inl rfl) (by simp[a9R,c0e,zC])
 |true=>
  have Q2:=Q1.step (kY hs);rw[if_pos rfl]at Q2;refine rdT hs p1 hV.fin λp2=>?_;obtain⟨j2,tY⟩:∃j,j1+1=j:=⟨_,rfl⟩;rw[tY]at Q2 p2|-;have Q2:=Q2.assoc;simp;have jS:=gP hV [44] (e2J aE l) (λout i=>out.1.length<=i/\out.2.length<=i) 0 a8k (d7n hV c) (λa=>(b7C hV a).le (by omega)) (λa i sE hi h=>c9p hV c a i hi h) (d3f hV) (λa i h=>by omega) ([],[]) j2 (by omega) p2.2 (by simp);refine dO.mk (a1a eA jS [(100000,100000),(100001,2),(100002,100001)] (λa j hx=>?_) ?_ ?_ ?_ rfl rfl (λws j3 x3=>?_) (λn e yJ=>Q2.fail yJ _))
  .simp[b9f,aL,aQ,aW,aV,bH,getKey]
  .simp[b9f,aL,aQ,aW,aV,bH,getKey]
  .simp[aR,bF,rk]
  .simp[b9f,aR,bF,rk,cX,dD]
  .have Q3:=Q2.step x3;have p3:=aB.list hV.fin (λa=>b7C hV a) ([],[]) j2 ws j3 p2.2 x3;obtain⟨ns,ts⟩:=ws;simp only at Q3;have Q3:=Q3.assoc;simp[bG,b9f,aR,bF,rk,cX,dD,bS,kC,gM,dX];refine dZ Q3 p3 hV.fin λu4 j4 x4 Q4 p4=>?_;have Q4:=Q4.step (jG _ _);simp;refine kK ⟨λx _=>rfl,by omega⟩ ?_;simp;exact Q4.ok _ j4 .normal _ rfl (.inl rfl) (by simp[a9R,c0e])
theorem b7F(i:Nat)(hi:i<l.length):sJ G 79 [] l i (a4D aJ aZ aE l i) (λd=>.d (.agg (b6f d))):=by
 have hl:=hV.len;obtain⟨j0,rfl⟩:∃j0,j0=i:=⟨_,rfl⟩;have p0:j0<=j0/\j0<l.length:=⟨g1m _,hi⟩;refine oZ.bL func79 rfl ntmps79 rfl (by simp) ?_;intro Q Q0;unfold a4D at Q0;simp;refine sY Q0 p0 kG (mR l j0 p0.2 (by omega)) (aB.title hV.fin) λnm j1 x1 Q1 p1=>?_;simp;refine SW.vR (ι:={x:List Nm×Nat×Nat//j1<=x.2.1/\x.2.1<l.length/\l.length<x.2.2+x.2.1/\x.1.length<=x.2.1/\eD (λi=>jV aJ (aG l i)) (a0F l) x.2.2 x.1 x.2.1=sW l (λi=>jV aJ (aG l i)) (a0F l) [] j1}) (λ_=>[]) (λx=>[(1,.cells [.ptr 100000 0]),(2,.cells [.d (.str []),.d .aD,.d .aD,.d .aD]),(3,.cells [.d (.str nm),.d (.sl (strs x.1.1)),.d .aD,.d .aD]),(100000,rdO l x.1.2.1)]) (λ_=>[(9,[.c 3 1])]) (λx=>l.length-x.1.2.1) ⟨([],j1,l.length+2),g1m _,p1.2,by simp only;omega,by simp,rfl⟩ (by simp[strs]) ?_;rintro⟨⟨out,j3,g⟩,hb,hj3,hg,ho,hp⟩;simp only at hb hj3 hg ho hp;obtain⟨g,rfl⟩:∃k,g=k+1:=⟨g-1,by omega⟩;have p3:j1<=j3/\j3<l.length:=⟨hb,hj3⟩;have ht:=dA (G:=G) l j3 j3 0 (by omega) (by omega) (by intro e;subst e;simp at hi) (by omega);simp;refine pA (i:=j3) (ds:=[.int .i64 0]) bZ ht ?_;simp;refine mG.mk mQ (oX hV.kw (aG l j3)) ?_;cases hc:jV aJ (aG l j3)with
 |true=>
  simp;refine gC [0] 3 [2] (.op 1 (.call [4,5,6,7] .none) (.call [1,4,5,6,7] .none)) (kD (bW aJ l j3)) (by kernel_rfl) (by kernel_rfl) ?_;simp;refine⟨?_,?_⟩
  all_goals
   refine rdZ (i:=j3) (ds:=[]) dG (dT hV.kw l j3 hj3 (by omega)) (λw2 j4 x4=>?_) (λn e hx=>?_)
   .have p4:=aB.word (kw:=aJ) hV.fin j3 w2 j4 hj3 x4;have h1:a0F l out j3=.ok (out++[w2]) j4:=(bP x4).trans rfl;rw[zI hV hc h1]at hp;refine cJ.mk ?_;simp;refine cK (by first|omega|(simp;omega)) ?_;simp;exact bC.mk ⟨(out++[w2],j4,g),by simp only;omega,p4.2,by simp only;omega,by simp;omega,hp⟩ (by simp[a1p]) (by simp;omega)
   .have h1:a0F l out j3=.bad n e:=jU hx;rw[sR hV hc h1]at hp;simp
    first|exact Q1.fail hp.symm _|exact λs=>Q1.fail hp.symm s
 |false=>
  rw[zJ hV hc]at hp;have Q3:=Q1.step hp.symm;simp;cases hs:aH l j3 [60]with
  |false=>
   have Q4:=Q3.step (kZ hs);rw[if_neg (by decide)]at Q4;have Q3:=Q4.step (jG _ _);refine zH hs p3 ?_;simp;refine dZ Q3 p3 hV.fin λu6 j6 x6 Q6 p6=>?_;simp;have jS:=gP hV [124] (d3g aE l) (λout i=>out.length<=i) 0 a2V (c6F hV nm out []) (λa=>(b7D hV a).le (by omega)) (λa i sE hi h=>b7E hV nm out [] a i hi h) (c0O hV) (λa i h=>by omega) [] j6 (by omega) p6.2 (by simp);refine dO.mk (a1a eA jS [(100000,100000),(100001,1),(100002,3)] (λa j hx=>?_) ?_ ?_ ?_ rfl rfl (λcs j7 x7=>?_) (λn e yJ=>Q6.fail yJ _))
   .simp[a9R,aL,aQ,aW,aV,bH,getKey]
   .simp[a9R,aL,aQ,aW,aV,bH,getKey]
   .simp[aR,bF,rk]
   .simp[a9R,aR,bF,rk,cX,dD]
   .have Q7:=Q6.step x7;simp[bG,a9R,aR,bF,rk,cX,dD,bS,kC,gM,dX];exact Q7.ok _ j7 _ _ rfl (.inr rfl) (by simp[b6f])
  |true=>
   have Q4:=Q3.step (kY hs);rw[if_pos rfl]at Q4;refine rdT hs p3 hV.fin λp4=>?_;obtain⟨j4,hj4⟩:∃j,j3+1=j:=⟨_,rfl⟩;rw[hj4]at Q4 p4|-;have Q4:=Q4.assoc;simp;refine sY Q4 p4 a2P ((a4T hV false j4 p4.2)) ((aB.vars hV.fin false)) λps j5 x5 Q5 p5=>?_;have Q5:=Q5.assoc;simp;refine dZ Q5 p5 hV.fin λu8 j8 x8 Q8 p8=>?_;have Q8:=Q8.step (jG _ _);simp;refine dZ Q8 p8 hV.fin λu6 j6 x6 Q6 p6=>?_;simp;have jS:=gP hV [124] (d3g aE l) (λout i=>out.length<=i) 0 a2V (c6F hV nm out ps) (λa=>(b7D hV a).le (by omega)) (λa i sE hi h=>b7E hV nm out ps a i hi h) (c0O hV) (λa i h=>by omega) [] j6 (by omega) p6.2 (by simp);refine dO.mk (a1a eA jS [(100000,100000),(100001,1),(100002,3)] (λa j hx=>?_) ?_ ?_ ?_ rfl rfl (λcs j7 x7=>?_) (λn e yJ=>Q6.fail yJ _))
   .simp[a9R,aL,aQ,aW,aV,bH,getKey]
   .simp[a9R,aL,aQ,aW,aV,bH,getKey]
   .simp[aR,bF,rk]
   .simp[a9R,aR,bF,rk,cX,dD]
   .have Q7:=Q6.step x7;simp[bG,a9R,aR,bF,rk,cX,dD,bS,kC,gM,dX];exact Q7.ok _ j7 _ _ rfl (.inr rfl) (by simp[b6f])
end
end
section
open Go Go.VM
variable {G:GT}
theorem b9g:VM.Enters prog 273:=.mk func273 rfl
theorem c6G:VM.Enters prog 264:=.mk func264 rfl
section
variable {aE:List Tok->Nat->Nat->kJ Pr} {l:List Tok} (hV:pY G aE l) (hN:∀i, -9223372036854775807<=(aG l i).n/\(aG l i).n<=9223372036854775807)
include hV hN
section
variable {ex:Nat->bE cG} {low:Nat} (hex:∀i,low<=i->i<l.length->sJ G 34 [] l i (ex 0 i) gQ) (eV:∀k,aB l 1 (ex k))
include hex eV
theorem c2Z(i:Nat)(cC:low<=i+1)(hi:i<l.length):sJ G 273 [] l i (pU aJ aZ aE l ex i) gQ:=by
 have hl:=hV.len;obtain⟨j0,rfl⟩:∃j0,j0=i:=⟨_,rfl⟩;have p0:j0<=j0/\j0<l.length:=⟨g1m _,hi⟩;refine oZ.bL func273 rfl ntmps273 rfl (by simp) ?_;intro Q Q0;unfold pU at Q0;simp;refine dZ Q0 p0 hV.fin λu1 j1 x1 Q1 p1=>?_;simp;have hb:=kX (G:=G) l j1 [45] p1.2 (by omega);have ht1:=dA (G:=G) l j1 (j1+1) 1 (by omega) (by omega) (by intro e;subst e;simp at hi) (by omega);have ht2:=dA (G:=G) l j1 (j1+2) 2 (by omega) (by omega) (by intro e;subst e;simp at hi) (by omega);refine pA (ds:=[.str [45]]) gZ hb ?_;cases hs:aH l j1 [45]with
 |false=>
  have Q1:=Q1.rF (by simp[hs]);simp;refine sY Q1 p1 cM ((hex j1 (by omega) p1.2)) (eV 0) λe j2 x2 Q2 p2=>?_;simp;cases hc:aH l j2 [58]with
  |false=>have Q3:=Q2.step (kZ hc);rw[if_neg (by decide)]at Q3;refine zH hc p2 ?_;simp;have Q2:=Q3.step (jG _ _);refine dZ Q2 p2 hV.fin λu5 j5 x5 Q5 p5=>?_;simp;exact Q5.ok _ j5 _ _ rfl (.inr rfl) (by simp[bT,bV])
  |true=>
   have Q3:=Q2.step (kY hc);rw[if_pos rfl]at Q3;refine rdT hc p2 hV.fin λp3=>?_;obtain⟨j3,hj3⟩:∃j,j2+1=j:=⟨_,rfl⟩;rw[hj3]at Q3 p3|-;simp;have Q3:=Q3.assoc;refine kP 3 [2] (.op 0 (.op 1 (.call [4,5,6] .none) (.call [1,4,5,6] .none)) (.call [0,1,4,5,6] .none)) (kD (jI aJ aZ aE l j3)) (by kernel_rfl) (by kernel_rfl) ?_;simp
   repeat' apply And.intro
   all_goals
    refine qK Q3 p3 dF ((pI hV j3 p3.2)) (kM hV) λt j4 x4 Q4 p4=>cJ.mk ?_;simp;have Q4:=Q4.step (jG _ _);refine dZ Q4 p4 hV.fin λu5 j5 x5 Q5 p5=>?_;simp;exact Q5.ok _ j5 _ _ rfl (.inr rfl) (by simp[bT,bV])
 |true=>
  simp;refine pA (ds:=[.int .i64 1]) bZ ht1 ?_;by_cases hk:(aG l (j1+1)).kind=3
  .simp[bJ,hk];refine pA (ds:=[.int .i64 2]) bZ ht2 ?_;simp;refine mG.mk oE (pF (aG l (j1+2)) [41]) ?_;cases hf:cV (aG l (j1+2)) [41]with
   |false=>
    have Q1:=Q1.rF (by simp[hf]);simp;refine sY Q1 p1 cM ((hex j1 (by omega) p1.2)) (eV 0) λe j2 x2 Q2 p2=>?_;simp;cases hc:aH l j2 [58]with
    |false=>have Q3:=Q2.step (kZ hc);rw[if_neg (by decide)]at Q3;refine zH hc p2 ?_;simp;have Q2:=Q3.step (jG _ _);refine dZ Q2 p2 hV.fin λu5 j5 x5 Q5 p5=>?_;simp;exact Q5.ok _ j5 _ _ rfl (.inr rfl) (by simp[bT,bV])
    |true=>
     have Q3:=Q2.step (kY hc);rw[if_pos rfl]at Q3;refine rdT hc p2 hV.fin λp3=>?_;obtain⟨j3,hj3⟩:∃j,j2+1=j:=⟨_,rfl⟩;rw[hj3]at Q3 p3|-;simp;have Q3:=Q3.assoc;refine kP 3 [2] (.op 0 (.op 1 (.call [4,5,6] .none) (.call [1,4,5,6] .none)) (.call [0,1,4,5,6] .none)) (kD (jI aJ aZ aE l j3)) (by kernel_rfl) (by kernel_rfl) ?_;simp
     repeat' apply And.intro
     all_goals
      refine qK Q3 p3 dF ((pI hV j3 p3.2)) (kM hV) λt j4 x4 Q4 p4=>cJ.mk ?_;simp;have Q4:=Q4.step (jG _ _);refine dZ Q4 p4 hV.fin λu5 j5 x5 Q5 p5=>?_;simp;exact Q5.ok _ j5 _ _ rfl (.inr rfl) (by simp[bT,bV])
   |true=>
    have Q1:=Q1.tH (by simp[hs,hk,hf]);simp;refine pA (ds:=[.int .i64 1]) bZ ht1 ?_;have hn:=hN (j1+1);have hw3:IntKind.i64.wrap ((j1:Int)+3)=((j1+3:Nat):Int):=by rw[wrap64 (by omega)];omega
    have hw4:IntKind.i64.wrap (-(aG l (j1+1)).n)= -(aG l (j1+1)).n:=wrap64 (by omega);simp[bJ,hw3,hw4];exact Q1.ok _ (j1+3) _ _ rfl (.inr rfl) (by simp)
  .have Q1:=Q1.rF (by simp[hk]);simp[bJ,hk];refine sY Q1 p1 cM ((hex j1 (by omega) p1.2)) (eV 0) λe j2 x2 Q2 p2=>?_;simp;cases hc:aH l j2 [58]with
   |false=>have Q3:=Q2.step (kZ hc);rw[if_neg (by decide)]at Q3;refine zH hc p2 ?_;simp;have Q2:=Q3.step (jG _ _);refine dZ Q2 p2 hV.fin λu5 j5 x5 Q5 p5=>?_;simp;exact Q5.ok _ j5 _ _ rfl (.inr rfl) (by simp[bT,bV])
   |true=>
    have Q3:=Q2.step (kY hc);rw[if_pos rfl]at Q3;refine rdT hc p2 hV.fin λp3=>?_;obtain⟨j3,hj3⟩:∃j,j2+1=j:=⟨_,rfl⟩;rw[hj3]at Q3 p3|-;simp;have Q3:=Q3.assoc;refine kP 3 [2] (.op 0 (.op 1 (.call [4,5,6] .none) (.call [1,4,5,6] .none)) (.call [0,1,4,5,6] .none)) (kD (jI aJ aZ aE l j3)) (by kernel_rfl) (by kernel_rfl) ?_;simp
    repeat' apply And.intro
    all_goals
     refine qK Q3 p3 dF ((pI hV j3 p3.2)) (kM hV) λt j4 x4 Q4 p4=>cJ.mk ?_;simp;have Q4:=Q4.step (jG _ _);refine dZ Q4 p4 hV.fin λu5 j5 x5 Q5 p5=>?_;simp;exact Q5.ok _ j5 _ _ rfl (.inr rfl) (by simp[bT,bV])
theorem c9q(i:Nat)(cC:low<=i+1)(hi:i<l.length):sJ G 264 [] l i (xW aJ aZ aE l ex i) gQ:=by
 have hl:=hV.len;obtain⟨j0,rfl⟩:∃j0,j0=i:=⟨_,rfl⟩;have p0:j0<=j0/\j0<l.length:=⟨g1m _,hi⟩;have ht:=dA (G:=G) l j0 j0 0 (by omega) (by omega) (by intro e;subst e;simp at hi) (by omega);refine oZ.bL func264 rfl ntmps264 rfl (by simp) ?_;intro Q Q0;unfold xW at Q0;simp;refine pA (ds:=[.int .i64 0]) bZ ht ?_;by_cases hk:(aG l j0).kind=3
 .have Q0:=Q0.tH hk;have hw:=bA (show j0<9223372036854775807 by omega);simp[bJ,hk,hw];exact Q0.ok _ (j0+1) _ _ rfl (.inr rfl) (by simp)
 have Q0:=Q0.rF hk;simp[bJ,hk];cases h1:aH l j0 [116,114,117,101]with
 |true=>have Q0:=Q0.tH h1;refine rdT h1 p0 hV.fin λp1=>?_;simp;exact Q0.ok _ (j0+1) _ _ rfl (.inr rfl) (by simp)
 |false=>
 have Q0:=Q0.rF (by rw[h1];decide);refine zH h1 p0 ?_;simp;cases h2:aH l j0 [102,97,108,115,101]with
 |true=>have Q0:=Q0.tH h2;refine rdT h2 p0 hV.fin λp1=>?_;simp;exact Q0.ok _ (j0+1) _ _ rfl (.inr rfl) (by simp)
 |false=>
 have Q0:=Q0.rF (by rw[h2];decide);refine zH h2 p0 ?_;simp;cases h3:aH l j0 [110,101,119]with
 |true=>have Q1:=Q0.tH h3;refine rdT h3 p0 hV.fin λp1=>?_;obtain⟨j1,sL⟩:∃j,j0+1=j:=⟨_,rfl⟩;rw[sL]at Q1 p1|-;simp;refine rdR Q1 b7r (c0N hV hex eV 22 j1 (by omega) p1.2) λt j h=>?_;simp;exact Q1.ok t j _ _ h (.inr rfl) (by simp)
 |false=>
 have Q0:=Q0.rF (by rw[h3];decide);refine zH h3 p0 ?_;simp;cases h4:aH l j0 [103,101,116]with
 |true=>have Q1:=Q0.tH h4;refine rdT h4 p0 hV.fin λp1=>?_;obtain⟨j1,sL⟩:∃j,j0+1=j:=⟨_,rfl⟩;rw[sL]at Q1 p1|-;simp;refine rdR Q1 b7r (c0N hV hex eV 23 j1 (by omega) p1.2) λt j h=>?_;simp;exact Q1.ok t j _ _ h (.inr rfl) (by simp)
 |false=>
 have Q0:=Q0.rF (by rw[h4];decide);refine zH h4 p0 ?_;simp;cases h5:aH l j0 [115,101,116]with
 |true=>have Q1:=Q0.tH h5;refine rdT h5 p0 hV.fin λp1=>?_;obtain⟨j1,sL⟩:∃j,j0+1=j:=⟨_,rfl⟩;rw[sL]at Q1 p1|-;simp;refine dZ Q1 p1 hV.fin λu2 j2 x2 Q2 p2=>?_;simp;refine sY Q2 p2 cM ((hex j2 (by omega) p2.2)) (eV 0) λx j3 x3 Q3 p3=>?_;simp;refine dZ Q3 p3 hV.fin λu4 j4 x4 Q4 p4=>?_;simp;refine sY Q4 p4 cM ((hex j4 (by omega) p4.2)) (eV 0) λy j5 x5 Q5 p5=>?_;simp;refine dZ Q5 p5 hV.fin λu6 j6 x6 Q6 p6=>?_;simp;refine mG.mk cS (oB 24 x y) ?_;simp;exact Q6.ok _ j6 _ _ rfl (.inr rfl) (by simp)
 |false=>
 have Q0:=Q0.rF (by rw[h5];decide);refine zH h5 p0 ?_;simp;refine mG.mk mQ (oX hV.kw (aG l j0)) ?_;cases h6:jV aJ (aG l j0)with
 |true=>
  have Q0:=Q0.tH h6;simp;refine rdX (ds:=[]) dG (dT hV.kw l j0 hi (by omega)) (λs j hx=>?_) (λn e hx=>by unfold bW oQ at hx;rw[if_pos h6]at hx;cases hx);have p1:=aB.word (kw:=aJ) hV.fin _ _ _ p0.2 hx;unfold bW oQ at hx;rw[if_pos h6]at hx;cases hx;have Q1:=Q0;obtain⟨j1,sL⟩:∃j,j0+1=j:=⟨_,rfl⟩;rw[sL]at Q1 p1|-;have hb1:=kX (G:=G) l j1 [91] p1.2 (by omega);have hb2:=kX (G:=G) l j1 [40] p1.2 (by omega);simp;refine pA (ds:=[.str [91]]) gZ hb1 ?_;cases h7:aH l j1 [91]with
  |true=>have Q1:=Q1.rF (by simp[h7]);simp;refine sY Q1 p1 a0J ((a2a hV j1 p1.2)) ((aB.types hV.fin hV.kL.pred)) λts j3 x3 Q3 p3=>?_;simp;refine sY Q3 p3 a2T ((a9P hV hex eV j3 (by omega) p3.2)) ((aB.mZ hV.fin eV)) λks j4 x4 Q4 p4=>?_;simp;exact Q4.ok _ j4 _ _ rfl (.inr rfl) (by simp)
  |false=>
   simp;refine pA (ds:=[.str [40]]) gZ hb2 ?_;cases h8:aH l j1 [40]with
   |true=>have Q1:=Q1.rF (by simp[h8]);simp;refine sY Q1 p1 a0J ((a2a hV j1 p1.2)) ((aB.types hV.fin hV.kL.pred)) λts j3 x3 Q3 p3=>?_;simp;refine sY Q3 p3 a2T ((a9P hV hex eV j3 (by omega) p3.2)) ((aB.mZ hV.fin eV)) λks j4 x4 Q4 p4=>?_;simp;exact Q4.ok _ j4 _ _ rfl (.inr rfl) (by simp)
   |false=>have Q1:=Q1.tH (by simp[h7,h8]);simp;exact Q1.ok _ j1 _ _ rfl (.inr rfl) (by simp)
 |false=>
 have Q0:=Q0.rF (by rw[h6];decide);simp;by_cases hk2:(aG l j0).kind=2
 .have h7:qJ (aG l j0)=true:=by simp[qJ,hk2]
  have Q0:=Q0.tH h7;simp[hk2];refine rdX (ds:=[]) kG (mR l j0 hi (by omega)) (λs j hx=>?_) (λn e hx=>by unfold gT oQ at hx;rw[if_pos h7]at hx;cases hx);have p1:=aB.title hV.fin _ _ _ p0.2 hx;unfold gT oQ at hx;rw[if_pos h7]at hx;cases hx;have Q1:=Q0;obtain⟨j1,sL⟩:∃j,j0+1=j:=⟨_,rfl⟩;rw[sL]at Q1 p1|-;simp;refine sY Q1 p1 a0J ((a2a hV j1 p1.2)) ((aB.types hV.fin hV.kL.pred)) λts j3 x3 Q3 p3=>?_;simp;have hb2:=kX (G:=G) l j3 [40] p3.2 (by omega);refine pA (ds:=[.str [40]]) gZ hb2 ?_;cases h8:aH l j3 [40]with
  |false=>have Q4:=Q3.step (a:=[]) (j:=j3) (by simp[h8]);simp;exact Q4.ok _ j3 _ _ rfl (.inr rfl) (by simp)
  |true=>
   have e1:(λj=>if aH l j [40] then jH l ex j else .ok [] j:bE (List cG)) j3=jH l ex j3:=by simp[h8]
   simp;refine rdX a2T ((a9P hV hex eV j3 (by omega) p3.2)) (λks j4 x4=>?_) (λn e hx=>by first|exact Q3.fail (e1.trans hx) _|(simp;exact Q3.fail (e1.trans hx) _)|(simp;exact λs=>Q3.fail (e1.trans hx) s));have Q4:=Q3.step (e1.trans x4);have p4:=(aB.mZ hV.fin eV) j3 ks j4 p3.2 x4;simp;exact Q4.ok _ j4 _ _ rfl (.inr rfl) (by simp)
 .have h7:qJ (aG l j0)=false:=by simp[qJ,hk2]
  have Q0:=Q0.rF (by rw[h7];decide);simp[hk2];refine rdR Q0 b9g (c2Z hV hN hex eV j0 (by omega) p0.2) λt j h=>?_;simp;exact Q0.ok t j _ _ h (.inr rfl) (by simp)
end
end
end
section
open Go Go.VM
variable {G:GT}
theorem a2d:VM.Enters prog 229:=.mk func229 rfl
theorem wL:VM.Enters prog 207:=.mk func207 rfl
theorem b7G:VM.Enters prog 191:=.mk func191 rfl
theorem b7H:VM.Enters prog 122:=.mk func122 rfl
theorem d3i:VM.Enters prog 73:=.mk func73 rfl
section
variable {l:List Tok} {ops:List (Nm×Int)} {one:bE cG} {g:Nat} {e x:cG} {i j:Nat} {p:Nm×Int}
theorem a1i(h:(ops.find? λp=>aH l i p.1)=none):gB l ops one (g+1) e i=.ok e i:=by rw[gB];simp only[h]
theorem wM(h:(ops.find? λp=>aH l i p.1)=some p)(h1:one (i+1)=.ok x j):gB l ops one (g+1) e i=gB l ops one g (cD p.2 [e,x]) j:=by rw[gB];simp only[h,h1]
theorem uF{n m:Int}(h:(ops.find? λp=>aH l i p.1)=some p)(h1:one (i+1)=.bad n m):gB l ops one (g+1) e i=.bad n m:=by rw[gB];simp only[h,h1]
end
section
variable {aE:List Tok->Nat->Nat->kJ Pr} {l:List Tok} (hV:pY G aE l) (hN:∀i, -9223372036854775807<=(aG l i).n/\(aG l i).n<=9223372036854775807)
include hV hN
section
variable {ex:Nat->bE cG} {low:Nat} (hex:∀i,low<=i->i<l.length->sJ G 34 [] l i (ex 0 i) gQ) (h3:∀i,low<=i->i<l.length->sJ G 168 [] l i (ex 3 i) gQ) (h7:∀i,low<=i->i<l.length->sJ G 247 [] l i (ex 7 i) gQ) (eV:∀k,aB l 1 (ex k))
include hex h3 h7 eV
omit h3 in
theorem b3U(i:Nat)(cC:low<=i+1)(hi:i<l.length):sJ G 247 [] l i (a3K aJ aZ aE l ex i) gQ:=by
 have hl:=hV.len;obtain⟨j0,rfl⟩:∃j0,j0=i:=⟨_,rfl⟩;have p0:j0<=j0/\j0<l.length:=⟨g1m _,hi⟩;refine oZ.bL func247 rfl ntmps247 rfl (by simp) ?_;intro Q Q0;unfold a3K at Q0;simp;cases hs:aH l j0 [45]with
 |true=>have Q1:=Q0.tH hs;refine rdT hs p0 hV.fin λp1=>?_;obtain⟨j1,sL⟩:∃j,j0+1=j:=⟨_,rfl⟩;rw[sL]at Q1 p1|-;simp;refine sY Q1 p1 yH ((h7 j1 (by omega) p1.2)) (eV 7) λe j2 x2 Q2 p2=>?_;simp;refine mG.mk cS (a7Y 15 e) ?_;simp;exact Q2.ok _ j2 _ _ rfl (.inr rfl) (by simp)
 |false=>have Q0:=Q0.rF (by rw[hs];decide);refine zH hs p0 ?_;simp;refine rdR Q0 c6G (c9q hV hN hex eV j0 (by omega) p0.2) λt j h=>?_;simp;exact Q0.ok t j _ _ h (.inr rfl) (by simp)
omit h3 in
theorem b9h(i:Nat)(cC:low<=i+1)(hi:i<l.length):sJ G 229 [] l i (a7z aJ aZ aE l ex i) gQ:=by
 refine oZ.bL func229 rfl ntmps229 rfl (by simp) ?_;intro Q Q0;unfold a7z a0M at Q0;have hl:=hV.len;obtain⟨j0,rfl⟩:∃j0,j0=i:=⟨_,rfl⟩;have p0:j0<=j0/\j0<l.length:=⟨g1m _,hi⟩;generalize jS:a3K aJ aZ aE l ex=one at *;have b1D:∀i,low<=i+1->i<l.length->sJ G 247 [] l i (one i) gQ:=by rw[<-jS];exact b3U hV hN hex h7 eV
 have b1E:aB l 1 one:=by
  first
   |assumption
   |(rw[<-jS]
     exact aB.unG hV.fin eV hV.kL.pred)
 simp;refine sY Q0 p0 yH ((b1D j0 (by omega) p0.2)) (b1E) λe j1 x1 Q1 p1=>?_;simp;refine SW.vR (ι:={x:cG×Nat×Nat//j1<=x.2.1/\x.2.1<l.length/\l.length<x.2.2+x.2.1/\gB l [([42],12),([100,105,118],13),([109,111,100],14)] one x.2.2 x.1 x.2.1=gB l [([42],12),([100,105,118],13),([109,111,100],14)] one (l.length+2) e j1}) (λ_=>[]) (λx=>[(2,.cells [.d (.int .i64 0),.d (.str []),.d (.int .i64 0),.d .aD,.d .aD,.d .aD,.d .aD]),(3,.cells ((yL x.1.1).map .d)),(100000,rdO l x.1.2.1)]) (λ_=>[]) (λx=>l.length-x.1.2.1) ⟨(e,j1,l.length+2),g1m _,p1.2,by simp only;omega,rfl⟩ (by simp) ?_;rintro⟨⟨e2,j2,g⟩,hb,tY,hg,hp⟩;simp only at hb tY hg hp;obtain⟨g,rfl⟩:∃k,g=k+1:=⟨g-1,by omega⟩;have p2:j1<=j2/\j2<l.length:=⟨hb,tY⟩;simp;cases s1:aH l j2 [42]with
 |true=>
  have hf:([([42],12),([100,105,118],13),([109,111,100],14)].find? λp:Nm×Int=>aH l j2 p.1)=some ([42],12):=by simp[s1]
  have hn:=aK hV.fin tY s1;refine pA (ds:=[.str [42]]) (d:=.d (.bool true)) jX (sP l j2 [42] p2.2 (by omega) s1) ?_;simp;refine kP 2 [1] (.op 0 (.call [3,4,5] .none) (.call [0,3,4,5] .none)) (kD (one (j2+1))) (by kernel_rfl) (by kernel_rfl) ?_;simp;refine⟨?_,?_⟩
  all_goals
   refine rdZ (i:=j2+1) (ds:=[]) yH (b1D (j2+1) (by omega) hn) (λx j3 x3=>?_) (λn e hx=>?_)
   .have p3:=b1E (j2+1) x j3 hn x3;rw[wM hf x3]at hp;refine cJ.mk ?_;simp;refine aC.mk cS (oB 12 e2 x) ?_;simp;exact bC.mk ⟨(cD 12 [e2,x],j3,g),by simp only;omega,p3.2,by simp only;omega,hp⟩ (by simp) (by simp;omega)
   .rw[uF hf hx]at hp;simp
    first|exact Q1.bad _ _ _ hp.symm|exact λs=>Q1.bad _ _ s hp.symm
 |false=>
 refine zH s1 p2 ?_;simp;cases s2:aH l j2 [100,105,118]with
 |true=>
  have hf:([([42],12),([100,105,118],13),([109,111,100],14)].find? λp:Nm×Int=>aH l j2 p.1)=some ([100,105,118],13):=by simp[s1,s2]
  have hn:=aK hV.fin tY s2;refine pA (ds:=[.str [100,105,118]]) (d:=.d (.bool true)) jX (sP l j2 [100,105,118] p2.2 (by omega) s2) ?_;simp;refine kP 2 [1] (.op 0 (.call [3,4,5] .none) (.call [0,3,4,5] .none)) (kD (one (j2+1))) (by kernel_rfl) (by kernel_rfl) ?_;simp;refine⟨?_,?_⟩
  all_goals
   refine rdZ (i:=j2+1) (ds:=[]) yH (b1D (j2+1) (by omega) hn) (λx j3 x3=>?_) (λn e hx=>?_)
   .have p3:=b1E (j2+1) x j3 hn x3;rw[wM hf x3]at hp;refine cJ.mk ?_;simp;refine aC.mk cS (oB 13 e2 x) ?_;simp;exact bC.mk ⟨(cD 13 [e2,x],j3,g),by simp only;omega,p3.2,by simp only;omega,hp⟩ (by simp) (by simp;omega)
   .rw[uF hf hx]at hp;simp
    first|exact Q1.bad _ _ _ hp.symm|exact λs=>Q1.bad _ _ s hp.symm
 |false=>
 refine zH s2 p2 ?_;simp;cases s3:aH l j2 [109,111,100]with
 |true=>
  have hf:([([42],12),([100,105,118],13),([109,111,100],14)].find? λp:Nm×Int=>aH l j2 p.1)=some ([109,111,100],14):=by simp[s1,s2,s3]
  have hn:=aK hV.fin tY s3;refine pA (ds:=[.str [109,111,100]]) (d:=.d (.bool true)) jX (sP l j2 [109,111,100] p2.2 (by omega) s3) ?_;simp;refine kP 2 [1] (.op 0 (.call [3,4,5] .none) (.call [0,3,4,5] .none)) (kD (one (j2+1))) (by kernel_rfl) (by kernel_rfl) ?_;simp;refine⟨?_,?_⟩
  all_goals
   refine rdZ (i:=j2+1) (ds:=[]) yH (b1D (j2+1) (by omega) hn) (λx j3 x3=>?_) (λn e hx=>?_)
   .have p3:=b1E (j2+1) x j3 hn x3;rw[wM hf x3]at hp;refine cJ.mk ?_;simp;refine aC.mk cS (oB 14 e2 x) ?_;simp;exact bC.mk ⟨(cD 14 [e2,x],j3,g),by simp only;omega,p3.2,by simp only;omega,hp⟩ (by simp) (by simp;omega)
   .rw[uF hf hx]at hp;simp
    first|exact Q1.bad _ _ _ hp.symm|exact λs=>Q1.bad _ _ s hp.symm
 |false=>
 refine zH s3 p2 ?_;have hf:([([42],12),([100,105,118],13),([109,111,100],14)].find? λp:Nm×Int=>aH l j2 p.1)=none:=by simp[s1,s2,s3]
 have Q2:=hp.symm.trans (a1i hf);simp;exact Q1.ok _ j2 _ _ Q2 (.inr rfl) (by simp)
omit h3 in
theorem sS(i:Nat)(cC:low<=i+1)(hi:i<l.length):sJ G 207 [] l i (oR aJ aZ aE l ex i) gQ:=by
 refine oZ.bL func207 rfl ntmps207 rfl (by simp) ?_;intro Q Q0;unfold oR a0M at Q0;have hl:=hV.len;obtain⟨j0,rfl⟩:∃j0,j0=i:=⟨_,rfl⟩;have p0:j0<=j0/\j0<l.length:=⟨g1m _,hi⟩;generalize jS:a7z aJ aZ aE l ex=one at *;have b1D:∀i,low<=i+1->i<l.length->sJ G 229 [] l i (one i) gQ:=by rw[<-jS];exact b9h hV hN hex h7 eV
 have b1E:aB l 1 one:=by
  first
   |assumption
   |(rw[<-jS]
     exact aB.c5n hV.fin eV hV.kL.pred)
 simp;refine sY Q0 p0 a2d ((b1D j0 (by omega) p0.2)) (b1E) λe j1 x1 Q1 p1=>?_;simp;refine SW.vR (ι:={x:cG×Nat×Nat//j1<=x.2.1/\x.2.1<l.length/\l.length<x.2.2+x.2.1/\gB l [([43],10),([45],11)] one x.2.2 x.1 x.2.1=gB l [([43],10),([45],11)] one (l.length+2) e j1}) (λ_=>[]) (λx=>[(2,.cells [.d (.int .i64 0),.d (.str []),.d (.int .i64 0),.d .aD,.d .aD,.d .aD,.d .aD]),(3,.cells ((yL x.1.1).map .d)),(100000,rdO l x.1.2.1)]) (λ_=>[]) (λx=>l.length-x.1.2.1) ⟨(e,j1,l.length+2),g1m _,p1.2,by simp only;omega,rfl⟩ (by simp) ?_;rintro⟨⟨e2,j2,g⟩,hb,tY,hg,hp⟩;simp only at hb tY hg hp;obtain⟨g,rfl⟩:∃k,g=k+1:=⟨g-1,by omega⟩;have p2:j1<=j2/\j2<l.length:=⟨hb,tY⟩;simp;cases s1:aH l j2 [43]with
 |true=>
  have hf:([([43],10),([45],11)].find? λp:Nm×Int=>aH l j2 p.1)=some ([43],10):=by simp[s1]
  have hn:=aK hV.fin tY s1;refine pA (ds:=[.str [43]]) (d:=.d (.bool true)) jX (sP l j2 [43] p2.2 (by omega) s1) ?_;simp;refine kP 2 [1] (.op 0 (.call [3,4,5] .none) (.call [0,3,4,5] .none)) (kD (one (j2+1))) (by kernel_rfl) (by kernel_rfl) ?_;simp;refine⟨?_,?_⟩
  all_goals
   refine rdZ (i:=j2+1) (ds:=[]) a2d (b1D (j2+1) (by omega) hn) (λx j3 x3=>?_) (λn e hx=>?_)
   .have p3:=b1E (j2+1) x j3 hn x3;rw[wM hf x3]at hp;refine cJ.mk ?_;simp;refine aC.mk cS (oB 10 e2 x) ?_;simp;exact bC.mk ⟨(cD 10 [e2,x],j3,g),by simp only;omega,p3.2,by simp only;omega,hp⟩ (by simp) (by simp;omega)
   .rw[uF hf hx]at hp;simp
    first|exact Q1.bad _ _ _ hp.symm|exact λs=>Q1.bad _ _ s hp.symm
 |false=>
 refine zH s1 p2 ?_;simp;cases s2:aH l j2 [45]with
 |true=>
  have hf:([([43],10),([45],11)].find? λp:Nm×Int=>aH l j2 p.1)=some ([45],11):=by simp[s1,s2]
  have hn:=aK hV.fin tY s2;refine pA (ds:=[.str [45]]) (d:=.d (.bool true)) jX (sP l j2 [45] p2.2 (by omega) s2) ?_;simp;refine kP 2 [1] (.op 0 (.call [3,4,5] .none) (.call [0,3,4,5] .none)) (kD (one (j2+1))) (by kernel_rfl) (by kernel_rfl) ?_;simp;refine⟨?_,?_⟩
  all_goals
   refine rdZ (i:=j2+1) (ds:=[]) a2d (b1D (j2+1) (by omega) hn) (λx j3 x3=>?_) (λn e hx=>?_)
   .have p3:=b1E (j2+1) x j3 hn x3;rw[wM hf x3]at hp;refine cJ.mk ?_;simp;refine aC.mk cS (oB 11 e2 x) ?_;simp;exact bC.mk ⟨(cD 11 [e2,x],j3,g),by simp only;omega,p3.2,by simp only;omega,hp⟩ (by simp) (by simp;omega)
   .rw[uF hf hx]at hp;simp
    first|exact Q1.bad _ _ _ hp.symm|exact λs=>Q1.bad _ _ s hp.symm
 |false=>
 refine zH s2 p2 ?_;have hf:([([43],10),([45],11)].find? λp:Nm×Int=>aH l j2 p.1)=none:=by simp[s1,s2]
 have Q2:=hp.symm.trans (a1i hf);simp;exact Q1.ok _ j2 _ _ Q2 (.inr rfl) (by simp)
omit h3 in
theorem b9i(i:Nat)(cC:low<=i+1)(hi:i<l.length):sJ G 191 [] l i (a3l aJ aZ aE l ex i) gQ:=by
 have hl:=hV.len;obtain⟨j0,rfl⟩:∃j0,j0=i:=⟨_,rfl⟩;have p0:j0<=j0/\j0<l.length:=⟨g1m _,hi⟩;refine oZ.bL func191 rfl ntmps191 rfl (by simp) ?_;intro Q Q0;unfold a3l at Q0;simp;refine sY Q0 p0 wL ((sS hV hN hex h7 eV j0 (by omega) p0.2)) (aB.a6B hV.fin eV hV.kL.pred) λe j1 x1 Q1 p1=>?_;simp;have hc:=sS hV hN hex h7 eV;cases hs1:aH l j1 [61,61]with
 |true=>
  have Q2:=Q1.tH hs1;refine rdT hs1 p1 hV.fin λp2=>?_;obtain⟨j2,tY⟩:∃j,j1+1=j:=⟨_,rfl⟩;rw[tY]at Q2 p2|-;simp;refine kP 2 [1] (.op 0 (.call [3,4,5] .none) (.call [0,3,4,5] .none)) (kD (oR aJ aZ aE l ex j2)) (by kernel_rfl) (by kernel_rfl) ?_;simp;refine⟨?_,?_⟩
  all_goals
   refine qK Q2 p2 wL ((sS hV hN hex h7 eV j2 (by omega) p2.2)) (aB.a6B hV.fin eV hV.kL.pred) λx j3 x3 Q3 p3=>cJ.mk ?_;simp;refine aC.mk cS (oB 16 e x) ?_;simp;exact Q3.ok _ j3 _ _ rfl (.inr rfl) (by simp)
 |false=>
 have Q1:=Q1.rF (by rw[hs1];decide);refine zH hs1 p1 ?_;simp;cases hs2:aH l j1 [33,61]with
 |true=>
  have Q2:=Q1.tH hs2;refine rdT hs2 p1 hV.fin λp2=>?_;obtain⟨j2,tY⟩:∃j,j1+1=j:=⟨_,rfl⟩;rw[tY]at Q2 p2|-;simp;refine kP 2 [1] (.op 0 (.call [3,4,5,6,7] .none) (.call [0,3,4,5,6,7] .none)) (kD (oR aJ aZ aE l ex j2)) (by kernel_rfl) (by kernel_rfl) ?_;simp;refine⟨?_,?_⟩
  all_goals
   refine qK Q2 p2 wL ((sS hV hN hex h7 eV j2 (by omega) p2.2)) (aB.a6B hV.fin eV hV.kL.pred) λx j3 x3 Q3 p3=>cJ.mk ?_;simp;refine aC.mk cS (oB 16 e x) ?_;simp;refine aC.mk cS (a7Y 21 (cD 16 [e,x])) ?_;simp;exact Q3.ok _ j3 _ _ rfl (.inr rfl) (by simp)
 |false=>
 have Q1:=Q1.rF (by rw[hs2];decide);refine zH hs2 p1 ?_;simp;have hc:=sS hV hN hex h7 eV;cases hs3:aH l j1 [60]with
 |true=>
  have Q2:=Q1.tH hs3;refine rdT hs3 p1 hV.fin λp2=>?_;obtain⟨j2,tY⟩:∃j,j1+1=j:=⟨_,rfl⟩;rw[tY]at Q2 p2|-;simp;refine kP 2 [1] (.op 0 (.call [3,4,5] .none) (.call [0,3,4,5] .none)) (kD (oR aJ aZ aE l ex j2)) (by kernel_rfl) (by kernel_rfl) ?_;simp;refine⟨?_,?_⟩
  all_goals
   refine qK Q2 p2 wL ((sS hV hN hex h7 eV j2 (by omega) p2.2)) (aB.a6B hV.fin eV hV.kL.pred) λx j3 x3 Q3 p3=>cJ.mk ?_;simp;refine aC.mk cS (oB 17 e x) ?_;simp;exact Q3.ok _ j3 _ _ rfl (.inr rfl) (by simp)
 |false=>
 have Q1:=Q1.rF (by rw[hs3];decide);refine zH hs3 p1 ?_;simp;have hc:=sS hV hN hex h7 eV;cases hs4:aH l j1 [60,61]with
 |true=>
  have Q2:=Q1.tH hs4;refine rdT hs4 p1 hV.fin λp2=>?_;obtain⟨j2,tY⟩:∃j,j1+1=j:=⟨_,rfl⟩;rw[tY]at Q2 p2|-;simp;refine kP 2 [1] (.op 0 (.call [3,4,5] .none) (.call [0,3,4,5] .none)) (kD (oR aJ aZ aE l ex j2)) (by kernel_rfl) (by kernel_rfl) ?_;simp;refine⟨?_,?_⟩
  all_goals
   refine qK Q2 p2 wL ((sS hV hN hex h7 eV j2 (by omega) p2.2)) (aB.a6B hV.fin eV hV.kL.pred) λx j3 x3 Q3 p3=>cJ.mk ?_;simp;refine aC.mk cS (oB 18 e x) ?_;simp;exact Q3.ok _ j3 _ _ rfl (.inr rfl) (by simp)
 |false=>
 have Q1:=Q1.rF (by rw[hs4];decide);refine zH hs4 p1 ?_;simp;cases hs5:aH l j1 [62]with
 |true=>
  have Q2:=Q1.tH hs5;refine rdT hs5 p1 hV.fin λp2=>?_;obtain⟨j2,tY⟩:∃j,j1+1=j:=⟨_,rfl⟩;rw[tY]at Q2 p2|-;simp;refine kP 1 [0] (.op 2 (.call [3,4,5] .none) (.call [2,3,4,5] .none)) (kD (oR aJ aZ aE l ex j2)) (by kernel_rfl) (by kernel_rfl) ?_;simp;refine⟨?_,?_⟩
  all_goals
   refine qK Q2 p2 wL ((sS hV hN hex h7 eV j2 (by omega) p2.2)) (aB.a6B hV.fin eV hV.kL.pred) λx j3 x3 Q3 p3=>cJ.mk ?_;simp;refine aC.mk cS (oB 17 x e) ?_;simp;exact Q3.ok _ j3 _ _ rfl (.inr rfl) (by simp)
 |false=>
 have Q1:=Q1.rF (by rw[hs5];decide);refine zH hs5 p1 ?_;simp;cases hs6:aH l j1 [62,61]with
 |true=>
  have Q2:=Q1.tH hs6;refine rdT hs6 p1 hV.fin λp2=>?_;obtain⟨j2,tY⟩:∃j,j1+1=j:=⟨_,rfl⟩;rw[tY]at Q2 p2|-;simp;refine kP 1 [0] (.op 2 (.call [3,4,5] .none) (.call [2,3,4,5] .none)) (kD (oR aJ aZ aE l ex j2)) (by kernel_rfl) (by kernel_rfl) ?_;simp;refine⟨?_,?_⟩
  all_goals
   refine qK Q2 p2 wL ((sS hV hN hex h7 eV j2 (by omega) p2.2)) (aB.a6B hV.fin eV hV.kL.pred) λx j3 x3 Q3 p3=>cJ.mk ?_;simp;refine aC.mk cS (oB 18 x e) ?_;simp;exact Q3.ok _ j3 _ _ rfl (.inr rfl) (by simp)
 |false=>
 have Q1:=Q1.rF (by rw[hs6];decide);refine zH hs6 p1 ?_;simp;exact Q1.ok _ j1 _ _ rfl (.inr rfl) (by simp)
theorem c0P(i:Nat)(cC:low<=i+1)(hi:i<l.length):sJ G 168 [] l i (zA aJ aZ aE l ex i) gQ:=by
 have hl:=hV.len;obtain⟨j0,rfl⟩:∃j0,j0=i:=⟨_,rfl⟩;have p0:j0<=j0/\j0<l.length:=⟨g1m _,hi⟩;refine oZ.bL func168 rfl ntmps168 rfl (by simp) ?_;intro Q Q0;unfold zA at Q0;simp;cases hs:aH l j0 [33]with
 |true=>have Q1:=Q0.tH hs;refine rdT hs p0 hV.fin λp1=>?_;obtain⟨j1,sL⟩:∃j,j0+1=j:=⟨_,rfl⟩;rw[sL]at Q1 p1|-;simp;refine sY Q1 p1 a9O ((h3 j1 (by omega) p1.2)) (eV 3) λe j2 x2 Q2 p2=>?_;simp;refine mG.mk cS (a7Y 21 e) ?_;simp;exact Q2.ok _ j2 _ _ rfl (.inr rfl) (by simp)
 |false=>have Q0:=Q0.rF (by rw[hs];decide);refine zH hs p0 ?_;simp;refine rdR Q0 b7G (b9i hV hN hex h7 eV j0 (by omega) p0.2) λt j h=>?_;simp;exact Q0.ok t j _ _ h (.inr rfl) (by simp)
theorem d3j(i:Nat)(cC:low<=i+1)(hi:i<l.length):sJ G 122 [] l i (b2n aJ aZ aE l ex i) gQ:=by
 refine oZ.bL func122 rfl ntmps122 rfl (by simp) ?_;intro Q Q0;unfold b2n a0M at Q0;have hl:=hV.len;obtain⟨j0,rfl⟩:∃j0,j0=i:=⟨_,rfl⟩;have p0:j0<=j0/\j0<l.length:=⟨g1m _,hi⟩;generalize jS:zA aJ aZ aE l ex=one at *;have b1D:∀i,low<=i+1->i<l.length->sJ G 168 [] l i (one i) gQ:=by rw[<-jS];exact c0P hV hN hex h3 h7 eV
 have b1E:aB l 1 one:=by
  first
   |assumption
   |(rw[<-jS]
     exact aB.a8h hV.fin eV hV.kL.pred)
 simp;refine sY Q0 p0 a9O ((b1D j0 (by omega) p0.2)) (b1E) λe j1 x1 Q1 p1=>?_;simp;refine SW.vR (ι:={x:cG×Nat×Nat//j1<=x.2.1/\x.2.1<l.length/\l.length<x.2.2+x.2.1/\gB l [([38,38],19)] one x.2.2 x.1 x.2.1=gB l [([38,38],19)] one (l.length+2) e j1}) (λ_=>[]) (λx=>[(2,.cells [.d (.int .i64 0),.d (.str []),.d (.int .i64 0),.d .aD,.d .aD,.d .aD,.d .aD]),(3,.cells ((yL x.1.1).map .d)),(100000,rdO l x.1.2.1)]) (λ_=>[]) (λx=>l.length-x.1.2.1) ⟨(e,j1,l.length+2),g1m _,p1.2,by simp only;omega,rfl⟩ (by simp) ?_;rintro⟨⟨e2,j2,g⟩,hb,tY,hg,hp⟩;simp only at hb tY hg hp;obtain⟨g,rfl⟩:∃k,g=k+1:=⟨g-1,by omega⟩;have p2:j1<=j2/\j2<l.length:=⟨hb,tY⟩;simp;cases s1:aH l j2 [38,38]with
 |true=>
  have hf:([([38,38],19)].find? λp:Nm×Int=>aH l j2 p.1)=some ([38,38],19):=by simp[s1]
  have hn:=aK hV.fin tY s1;refine pA (ds:=[.str [38,38]]) (d:=.d (.bool true)) jX (sP l j2 [38,38] p2.2 (by omega) s1) ?_;simp;refine kP 2 [1] (.op 0 (.call [3,4,5] .none) (.call [0,3,4,5] .none)) (kD (one (j2+1))) (by kernel_rfl) (by kernel_rfl) ?_;simp;refine⟨?_,?_⟩
  all_goals
   refine rdZ (i:=j2+1) (ds:=[]) a9O (b1D (j2+1) (by omega) hn) (λx j3 x3=>?_) (λn e hx=>?_)
   .have p3:=b1E (j2+1) x j3 hn x3;rw[wM hf x3]at hp;refine cJ.mk ?_;simp;refine aC.mk cS (oB 19 e2 x) ?_;simp;exact bC.mk ⟨(cD 19 [e2,x],j3,g),by simp only;omega,p3.2,by simp only;omega,hp⟩ (by simp) (by simp;omega)
   .rw[uF hf hx]at hp;simp
    first|exact Q1.bad _ _ _ hp.symm|exact λs=>Q1.bad _ _ s hp.symm
 |false=>
 refine zH s1 p2 ?_;have hf:([([38,38],19)].find? λp:Nm×Int=>aH l j2 p.1)=none:=by simp[s1]
 have Q2:=hp.symm.trans (a1i hf);simp;exact Q1.ok _ j2 _ _ Q2 (.inr rfl) (by simp)
theorem c9r:aB l 1 (b2n aJ aZ aE l ex):=aB.lvl hV.fin (aB.a8h hV.fin eV hV.kL.pred)
theorem d7o(i:Nat)(cC:low<=i+1)(hi:i<l.length):sJ G 73 [] l i (b6b aJ aZ aE l ex i) gQ:=by
 refine oZ.bL func73 rfl ntmps73 rfl (by simp) ?_;intro Q Q0;unfold b6b a0M at Q0;have aor:=c9r hV hN hex h3 h7 eV;have hl:=hV.len;obtain⟨j0,rfl⟩:∃j0,j0=i:=⟨_,rfl⟩;have p0:j0<=j0/\j0<l.length:=⟨g1m _,hi⟩;generalize jS:b2n aJ aZ aE l ex=one at *;have b1D:∀i,low<=i+1->i<l.length->sJ G 122 [] l i (one i) gQ:=by rw[<-jS];exact d3j hV hN hex h3 h7 eV
 have b1E:aB l 1 one:=by
  first
   |assumption
   |(rw[<-jS]
     exact(λ_ _ _=>aor) hV.fin eV hV.kL.pred)
 simp;refine sY Q0 p0 b7H ((b1D j0 (by omega) p0.2)) (b1E) λe j1 x1 Q1 p1=>?_;simp;refine SW.vR (ι:={x:cG×Nat×Nat//j1<=x.2.1/\x.2.1<l.length/\l.length<x.2.2+x.2.1/\gB l [([124,124],20)] one x.2.2 x.1 x.2.1=gB l [([124,124],20)] one (l.length+2) e j1}) (λ_=>[]) (λx=>[(2,.cells [.d (.int .i64 0),.d (.str []),.d (.int .i64 0),.d .aD,.d .aD,.d .aD,.d .aD]),(3,.cells ((yL x.1.1).map .d)),(100000,rdO l x.1.2.1)]) (λ_=>[]) (λx=>l.length-x.1.2.1) ⟨(e,j1,l.length+2),g1m _,p1.2,by simp only;omega,rfl⟩ (by simp) ?_;rintro⟨⟨e2,j2,g⟩,hb,tY,hg,hp⟩;simp only at hb tY hg hp;obtain⟨g,rfl⟩:∃k,g=k+1:=⟨g-1,by omega⟩;have p2:j1<=j2/\j2<l.length:=⟨hb,tY⟩;simp;cases s1:aH l j2 [124,124]with
 |true=>
  have hf:([([124,124],20)].find? λp:Nm×Int=>aH l j2 p.1)=some ([124,124],20):=by simp[s1]
  have hn:=aK hV.fin tY s1;refine pA (ds:=[.str [124,124]]) (d:=.d (.bool true)) jX (sP l j2 [124,124] p2.2 (by omega) s1) ?_;simp;refine kP 2 [1] (.op 0 (.call [3,4,5] .none) (.call [0,3,4,5] .none)) (kD (one (j2+1))) (by kernel_rfl) (by kernel_rfl) ?_;simp;refine⟨?_,?_⟩
  all_goals
   refine rdZ (i:=j2+1) (ds:=[]) b7H (b1D (j2+1) (by omega) hn) (λx j3 x3=>?_) (λn e hx=>?_)
   .have p3:=b1E (j2+1) x j3 hn x3;rw[wM hf x3]at hp;refine cJ.mk ?_;simp;refine aC.mk cS (oB 20 e2 x) ?_;simp;exact bC.mk ⟨(cD 20 [e2,x],j3,g),by simp only;omega,p3.2,by simp only;omega,hp⟩ (by simp) (by simp;omega)
   .rw[uF hf hx]at hp;simp
    first|exact Q1.bad _ _ _ hp.symm|exact λs=>Q1.bad _ _ s hp.symm
 |false=>
 refine zH s1 p2 ?_;have hf:([([124,124],20)].find? λp:Nm×Int=>aH l j2 p.1)=none:=by simp[s1]
 have Q2:=hp.symm.trans (a1i hf);simp;exact Q1.ok _ j2 _ _ Q2 (.inr rfl) (by simp)
end
end
end
end Go.Proofs.YtjpodcmhcenjjaaGreatDoor
section
namespace Go.VM
open Go Go.RowKit
section
variable {P:Program} {G:GT} {st:St}
theorem sD{all:Array Oper}{QQ:Exit->Act->World->Prop}{a a':Act}{w w':World}{o:Oper}{rest:List Oper}(hg:o.guard=none){v:Value}(cW:(execOp a.eval o).run P w=.ok (.value v) w'\/((execOp a.eval o).run P w=.ok .skip w'/\v=Go.undef))(ha:a.put o.dst v=a')(h:wpList P all QQ rest a' w'):wpList P all QQ (o::rest) a w:=by
 have hw:∀y,Region.wanted o y=true:=λy=>by unfold Region.wanted;rw[hg]
 unfold wpList;rw[if_pos (hw _)];left;unfold Oper.wp;rcases cW with h1|⟨h1,rfl⟩
 .rw[h1]
  show wpList P all QQ rest (a.put o.dst v) w'
  rw[ha];exact h
 .rw[h1]
  show wpList P all QQ rest (a.put o.dst Go.undef) w'
  rw[ha];exact h
def f1U(P:Program)(G:GT)(t:TypeId)(x d s:Tmp)(j:Nat)(parts:Array (Nat×Operand))(Q:St->Prop)(st:St):Prop:=
 ∃(d7p b1F d3k:Out) (k off:Nat),(s<st.tmps.length/\x<st.tmps.length/\d<st.tmps.length)/\a8W P G t parts st=some d7p/\b1W P (some d) t (finish d7p.st (some x) d7p.v d7p.act)=some b1F/\sU P G t (.tmp d) (.tmp x) (finish b1F.st (some d) b1F.v b1F.act)=some d3k/\(finish b1F.st (some d) b1F.v b1F.act).eval G (.tmp d)=.ptr k off/\d3k.st.eval G (.tmp d)=.ptr k off/\(∃cs,getKey k (finish b1F.st (some d) b1F.v b1F.act).H=some (.cells cs))/\
  (∀(o:Oper),o.op=.build t parts->∀base R μ a w,Rel P G base R μ st a w->∃cs:Array Value,(execOp a.eval o).run P w=.ok (.value (.agg cs)) w/\cs[j]? =some (a.eval (.tmp s))/\cs.size=P.cellsOf t)/\(getKey k d3k.st.H).isSome=true/\Q {d3k.st with own:=addAlias (.t s) (.c k (off+j)) d3k.st.own}
theorem LW.e8m{all:Array Oper}{t:TypeId}{x d s:Tmp}{j:Nat}{parts:Array (Nat×Operand)}{y0 y1 y2:TypeId}{p0 p1 p2:String}{f0 f1 f2:Array Edge}{Q:Exit->St->Prop}(eU:x≠s/\x≠d/\d≠s)(hct:P.cellsOf t≠0)(h:f1U P G t x d s j parts (λs'=>Q .normal s') st):
  LW P G all [⟨some x,.build t parts,y0,p0,f0,none⟩,⟨some d,.alloc t,y1,p1,f1,none⟩,⟨none,.store t (.tmp d) (.tmp x),y2,p2,f2,none⟩] st Q:=by
 unfold LW;intro base R μ a w hr QQ hk;obtain⟨d7p,b1F,d3k,k,off,k0,k1,kA,k2,k3,k4,⟨cs0,k5⟩,f5C,k6,k7⟩:=h;obtain⟨cs,e0,e1,e2⟩:=f5C ⟨some x,.build t parts,y0,p0,f0,none⟩ rfl base R μ a w hr;obtain⟨v,w0,R0,μ0,cW,hr1,hv1,ha1,hs1⟩:=b9y (o:=⟨some x,.build t parts,y0,p0,f0,none⟩) rfl k1 base R μ a w hr;rw[e0]at cW;have hv:v=.agg cs/\w0=w:=by
  rcases cW with cW|⟨cW,_⟩
  .cases cW;exact⟨rfl,rfl⟩
  .cases cW
 obtain⟨rfl,rfl⟩:=hv;have hr2:=hr1.put (dst:=some x) hv1 ha1;generalize ha:a.put (some x) (.agg cs)=a0 at hr2;have hsa:s<a.tmps.size:=by rw[hr.size];exact k0.1
 have hxa:x<a.tmps.size:=by rw[hr.size];exact k0.2.1
 have hda:d<a.tmps.size:=by rw[hr.size];exact k0.2.2
 have f5D:a0.eval (.tmp x)=.agg cs:=by rw[<-ha];exact dV _ _ hxa
 have es0:a0.eval (.tmp s)=a.eval (.tmp s):=by rw[<-ha];exact cA _ _ (Ne.symm eU.1)
 obtain⟨vA,w1,R1,μ1,f1V,hrA,hvA,haA,hsA⟩:=b9A (o:=⟨some d,.alloc t,y1,p1,f1,none⟩) rfl kA base R0 μ0 a0 w0 hr2;have hr2:=hrA.put (dst:=some d) hvA haA;generalize hb:a0.put (some d) vA=a1 at hr2;have f5E:s<a1.tmps.size:=by rw[<-hb,size_put, <- ha,size_put];exact hsa
 have es:a1.eval (.tmp s)=a.eval (.tmp s):=by rw[<-hb,cA _ _ (Ne.symm eU.2.2)];exact es0
 have hxv:a1.eval (.tmp x)=.agg cs:=by rw[<-hb,cA _ _ eU.2.1];exact f5D
 obtain⟨v2,w2,R2,μ2,a8A,hr3,_,_,hs2⟩:=a7u (o:=⟨none,.store t (.tmp d) (.tmp x),y2,p2,f2,none⟩) rfl k2 base R1 μ1 a1 w1 hr2;obtain⟨_,_,cur,T0,hh,hcz,_⟩:=hr2.jR k _ k5;have had:=hr2.dU k3;have hcc:(Value.agg cs).cells=cs:=rfl;have k2':=k2;unfold sU at k2;rw[k3]at k2;split at k2;rotate_left
 .cases k2
 rename_i k' a5W ys hk' hys;cases hk';rw[k5]at k2;simp only at k2;split at k2;rotate_left
 .cases k2
 rename_i hcd;have hvx:wB ((finish b1F.st (some d) b1F.v b1F.act).eval G (.tmp x))=some ys:=hys;obtain⟨rO,hvc⟩:=a3F (hr2.eval (.tmp x)) hvx;rw[hxv,hcc]at rO hvc;have jS:∀u∈cs.toList,u.oneCell'=true:=λu hu=>by
  obtain⟨i,hi⟩:=g1n hu;have vJ:i<ys.length:=by rw[<-rO];simpa using (g0X.1 hi).1
  obtain⟨_,_,h2⟩:=hvc i ys[i] (by simp[vJ]);have:cs.getD i undef=u:=by
   have:cs[i]? =some u:=by simpa using hi
   simp[g0Y,this]
  rw[this]at h2;exact h2
 have kU:off+cs.size<=cur.size:=by rw[hcz,rO];omega
 have mU:=uP (P:=P) (a:=a1) (w:=w1) (o:=⟨none,.store t (.tmp d) (.tmp x),y2,p2,f2,none⟩) rfl had hh (by rw[hxv,hcc];exact e2) hct (by rw[hxv,hcc];exact jS) (by rw[hxv,hcc];exact kU);rw[hxv,hcc]at mU;have hw2:w2=w1.setRow (μ1 k) (spl cur off cs.toList):=by
  rw[mU]at a8A;rcases a8A with a8A|⟨a8A,_⟩
  .cases a8A
  .cases a8A;rfl
 have hμ:μ2 k=μ1 k:=by have h1:=hr3.dU k4;rw[had]at h1;have h2:=(Addr.mk.inj (Option.some.inj (Value.pointer.inj h1))).1;exact h2.symm
 have qC:∀u,w2.cell? ⟨μ2 k,off+j,none⟩=some u->u=a1.eval (.tmp s):=λu hu=>by
  have hjl:j<cs.size:=(g1f.1 e1).1;rw[hμ,hw2,cell_of_row _ _ _ _ T0 (0,0) (setRow_heap w1 (μ1 k) cur _ T0 _ hh),b0M (by simpa using kU),if_neg (by omega),if_pos (by simp;omega),Nat.add_sub_cancel_left]at hu;have:cs.toList[j]? =some (a.eval (.tmp s)):=by simpa using e1
  rw[this]at hu;cases hu;exact es.symm
 have hr4:=hr3.alias (t:=s) (k:=k) (off:=off+j) (Option.isSome_iff_exists.1 k6) f5E qC;refine sD rfl (.inl e0) ha ?_;refine sD rfl f1V hb ?_;refine sD (w':=w2) rfl (.inr ⟨by rw[hw2];exact mU,rfl⟩) rfl ?_;unfold wpList;exact hk _ _ _ _ R2 μ2 k7 hr4 ((hs1.trans hsA).trans hs2)
end
end Go.VM
end
namespace Go.Proofs.YtjpodcmhcenjjaaGreatDoor
section
open Go Go.VM
variable {G:GT}
theorem d7q{R:Nat->Nat->Prop}{w:World}{v:Value}{es:List (List D)}(h:V R w v (.sl es)):∃ao n c,v=.slice ao n c:=by
 cases h with
 |emp ao cap=>exact⟨_,_,_,rfl⟩
 |sl b o n cap size es f h1 h2 h3 h4 h5 h6 h7=>exact⟨_,_,_,rfl⟩
theorem d3l{a:Act}{w:World}{o:Oper}(ho:o.op=.build 30 #[(0,.const (.int .i64 25)),(1,.tmp 44),(3,.tmp 46)]){s:ByteArray}{a1:Option Addr}{n1 c1:Nat}(h2:a.eval (.tmp 44)=.string s)(h1:a.eval (.tmp 46)=.slice a1 n1 c1):
  (execOp a.eval o).run prog w=.ok (.value (.agg #[.int .i64 25,.string s,.int .i64 0,.slice a1 n1 c1,.slice none 0 0,.slice none 0 0,.slice none 0 0])) w:=by
 have hz:(prog.info? 30).bind (·.zero)=some (.agg #[.int .i64 0,.string ⟨#[]⟩,.int .i64 0,.slice none 0 0,.slice none 0 0,.slice none 0 0,.slice none 0 0]):=by kernel_rfl
 obtain⟨i,hi,hz⟩:=g1k.1 hz;simp[execOp,ho,Instr.build,zeroValue,typeInfo,hi,hz];rw[h1,h2]
 rfl
section
variable {α:Type} {Q:Exit->St->Prop} {l:List Tok} {i:Nat} {enc:α->DV} {e:TypeId} {r:kJ α}
theorem f5F{f:FuncId}{ds:List D}{av:List DV}{st:St}{ls:List (Option VM.Loc)}{dst:Option Tmp}{KK:St->Prop}(he:VM.Enters prog f)(hc:RdO G f ds l i e r enc)(oI:∀a j,r=.ok a j->KK (bG K1 dst st st.own (enc a) (rH l j) [(e,[.t 0])]))(a3J:∀n e,r=.bad n e->Q (.panic (a0Z (qE n e))) (a2I st))(hk:∀a,aQ K1 (enc a)=true/\bF K1 (enc a)=enc a:=by intro a;exact⟨rfl,rfl⟩)(hw:WkT av (.ptr 100000 0::ds.map .d):=by simp)(hH:getKey 100000 st.H=some (rdO l i):=by simp):tF prog G f av ls dst st KK Q (kD r):=by
 rw[<-c5P (l:=l) (enc:=enc) (Y:=λ_=>[]) (own:=[(e,[.t 0])]) r];refine tF.mk he hc K1 (λd H1 own1 hx=>?_) (λv hx=>?_) ?_ ?_ rfl rfl (λd H1 own1 hx=>?_) (λv hx=>?_)
 .cases r with
  |bad n e=>cases hx
  |ok a j=>cases hx;simp[aL,aQ,aW,aV,eF,bH,getKey,(hk a).1]
 .simp[aL,aQ,aW,aV,eF,bH,getKey]
 .simpa[aR,bF,rk,jP]using hw
 .simp only[cX,rdO,List.append_nil,List.map_cons,List.map_nil,rk,if_true,dD,aR,bF,WkH,and_true];exact⟨_,hH,by simp[WkO]⟩
 .cases r with
  |bad n e=>cases hx
  |ok a j=>cases hx;exact oI a j rfl
 .cases r with
  |bad n e=>cases hx;exact a3J n e rfl
  |ok a j=>cases hx
end
section
variable {aE:List Tok->Nat->Nat->kJ Pr} {l:List Tok} (hV:pY G aE l) (hN:∀i, -9223372036854775807<=(aG l i).n/\(aG l i).n<=9223372036854775807)
include hV hN
section
variable {ex:Nat->bE cG} {low:Nat} (hex:∀i,low<=i->i<l.length->sJ G 34 [] l i (ex 0 i) gQ) (h3:∀i,low<=i->i<l.length->sJ G 168 [] l i (ex 3 i) gQ) (h7:∀i,low<=i->i<l.length->sJ G 247 [] l i (ex 7 i) gQ) (eV:∀k,aB l 1 (ex k))
include hex h3 h7 eV
omit hN hex h3 h7 in
theorem d3m(i:Nat)(ks:List cG)(j:Nat)(hi:i<l.length)(h:jH l ex i=.ok ks j):ks.length<=j:=by unfold jH at h;obtain⟨_,k1,h1,h⟩:=cH h;obtain⟨es,k2,h2,h⟩:=cH h;obtain⟨_,k3,h3,h⟩:=cH h;have a1:=aB.exp hV.fin _ _ i _ k1 hi h1;have a2:=uD hV (one:=c6y ex) (λa p=>a.length<=p) (λa p b q hp ha hab=>⟨b7s hV eV a p b q hp ha hab,(b2D hV eV a p b q hp hab).2⟩) (λa p h=>by omega) _ _ _ _ _ a1.2 (by simp) h2;have a3:=aB.exp hV.fin _ _ k2 _ k3 a2.2 h3;cases h;omega
theorem c9s(i:Nat)(cC:low<=i+1)(hi:i<l.length):sJ G 34 [] l i (a6u aJ aZ aE l ex i) gQ:=by
 have hl:=hV.len;obtain⟨j0,rfl⟩:∃j0,j0=i:=⟨_,rfl⟩;have p0:j0<=j0/\j0<l.length:=⟨g1m _,hi⟩;refine oZ.a0k func34 rfl ntmps34 rfl (by simp) ?_;intro Q Q0;unfold a6u at Q0;refine SW.jW (SW.xk ?_);simp;refine SW.jW (SW.c8B ?_);refine SW.jW (SW.xk ?_);simp;cases s1:aH l j0 [108,101,116]with
 |true=>have Q1:=Q0.tH s1;refine rdT s1 p0 hV.fin λp1=>?_;obtain⟨j1,sL⟩:∃j,j0+1=j:=⟨_,rfl⟩;rw[sL]at Q1 p1|-;simp;refine SW.a8B rfl ?_;refine SW.xk ?_;simp;refine rdR Q1 c9k (d2Z hV hex eV j1 (by omega) p1.2) λt j h=>?_;simp;exact Q1.ok t j _ _ h (.inr rfl) (by simp)
 |false=>
 have Q0:=Q0.rF (by rw[s1];decide);refine zH s1 p0 ?_;simp;refine SW.b3x rfl ?_;refine SW.jW (SW.xk ?_);simp;cases s2:aH l j0 [105,102]with
 |true=>
  have Q1:=Q0.tH s2;refine rdT s2 p0 hV.fin λp1=>?_;obtain⟨j1,sL⟩:∃j,j0+1=j:=⟨_,rfl⟩;rw[sL]at Q1 p1|-;simp;refine SW.a8B rfl ?_;refine SW.xk ?_;simp;refine sY Q1 p1 cM ((hex j1 (by omega) p1.2)) (eV 0) λa j2 x2 Q2 p2=>?_;simp;refine dZ Q2 p2 hV.fin λu3 j3 x3 Q3 p3=>?_;simp;refine sY Q3 p3 cM ((hex j3 (by omega) p3.2)) (eV 0) λb j4 x4 Q4 p4=>?_;simp;refine dZ Q4 p4 hV.fin λu5 j5 x5 Q5 p5=>?_;simp;refine kP 3 [2] (.op 0 (.op 1 (.call [4,5,6] .none) (.call [1,4,5,6] .none)) (.op 1 (.op 0 (.call [4,5,6] .none) (.call [0,4,5,6] .none)) (.call [0,1,4,5,6] .none))) (kD (ex 0 j5)) (by kernel_rfl) (by kernel_rfl) ?_;simp
  repeat' apply And.intro
  all_goals
   refine qK Q5 p5 cM ((hex j5 (by omega) p5.2)) (eV 0) λc j6 x6 Q6 p6=>cJ.mk ?_;simp;refine aC.mk cS (d2X 8 a b c) ?_;simp;exact Q6.ok _ j6 _ _ rfl (.inr rfl) (by simp)
 |false=>
 have Q0:=Q0.rF (by rw[s2];decide);refine zH s2 p0 ?_;simp;refine SW.b3x rfl ?_;refine SW.jW (SW.xk ?_);simp;cases s3:aH l j0 [99,97,115,101]with
 |true=>have Q1:=Q0.tH s3;refine rdT s3 p0 hV.fin λp1=>?_;obtain⟨j1,sL⟩:∃j,j0+1=j:=⟨_,rfl⟩;rw[sL]at Q1 p1|-;simp;refine SW.a8B rfl ?_;refine SW.xk ?_;simp;refine rdR Q1 c2W (c6E hV hex eV j1 (by omega) p1.2) λt j h=>?_;simp;exact Q1.ok t j _ _ h (.inr rfl) (by simp)
 |false=>
 have Q0:=Q0.rF (by rw[s3];decide);refine zH s3 p0 ?_;simp;refine SW.b3x rfl ?_;refine SW.jW (SW.xk ?_);simp;cases s4:aH l j0 [102,117,110]with
 |true=>have Q1:=Q0.tH s4;refine rdT s4 p0 hV.fin λp1=>?_;obtain⟨j1,sL⟩:∃j,j0+1=j:=⟨_,rfl⟩;rw[sL]at Q1 p1|-;simp;refine SW.a8B rfl ?_;refine SW.xk ?_;simp;refine rdR Q1 b9e (c2Y hV hex eV j1 (by omega) p1.2) λt j h=>?_;simp;exact Q1.ok t j _ _ h (.inr rfl) (by simp)
 |false=>
 have Q0:=Q0.rF (by rw[s4];decide);refine zH s4 p0 ?_;simp;refine SW.b3x rfl ?_;refine SW.jW (SW.xk ?_);simp;cases s5:aH l j0 [117,115,101]with
 |true=>
  have Q1:=Q0.tH s5;refine rdT s5 p0 hV.fin λp1=>?_;obtain⟨j1,sL⟩:∃j,j0+1=j:=⟨_,rfl⟩;rw[sL]at Q1 p1|-;simp;refine SW.a8B rfl ?_;refine SW.jW (SW.lw ?_);refine LW.at 1 1 (kD (bW aJ l j1)) rfl ⟨_,rfl⟩ ?_;simp;refine rdZ (ds:=[]) dG (dT hV.kw l j1 p1.2 (by omega)) (λnm j2 x2=>?_) (λn e hx=>Q1.fail hx _);have Q2:=Q1.step x2;have p2:=aB.word hV.fin j1 nm j2 p1.2 x2;simp;refine LW.at 1 3 (kD (jH l ex j2)) rfl ⟨_,rfl⟩ ?_;simp;refine f5F a2T (b7t hV hex eV j2 (by omega) p2.2) (λks j3 x3=>?_) (λn e hx=>Q2.fail hx _);have Q3:=Q2.step x3;have p3:=aB.mZ hV.fin eV j2 ks j3 p2.2 x3;have hks:=d3m hV eV j2 ks j3 p2.2 x3;simp[bG,aR,bF,rk,cX,dD,bS,kC,gM,dX];refine LW.e8m (s:=46) (j:=3) (by decide) (by decide+kernel) ?_;refine⟨_,_,_,_,_,by simp,rfl,rfl,rfl,rfl,rfl,⟨_,rfl⟩,?_,rfl,?_⟩
  .intro o ho base R μ a w hr;obtain⟨ao,n1,c1,hs1⟩:=d7q (hr.mF (x:=.tmp 46) rfl);have hs2:=(hr.mF (x:=.tmp 44) rfl).pW;exact⟨_,d3l ho hs2 hs1,by rw[hs1];rfl,by kernel_rfl⟩
  refine SW.xk ?_;simp[addAlias];refine dZ Q3 p3 hV.fin λu4 j4 x4 Q4 p4=>?_;simp;refine gC [0,2] 3 [] (.op 1 (.call [4,5,6,7] .none) (.call [1,4,5,6,7] .none)) (kD (ex 0 j4)) (by kernel_rfl) (by kernel_rfl) ?_;simp;refine⟨?_,?_⟩
  all_goals
   refine qK Q4 p4 cM ((hex j4 (by omega) p4.2)) (eV 0) λb j5 x5 Q5 p5=>cJ.mk ?_;simp;refine cK ⟨λx _=>by rw[bT];rfl,by omega⟩ ?_;simp;exact Q5.ok _ j5 _ _ rfl (.inr rfl) (by simp[bT])
 |false=>
 have Q0:=Q0.rF (by rw[s5];decide);refine zH s5 p0 ?_;simp;refine SW.b3x rfl ?_;refine SW.xk ?_;simp;refine SW.xk ?_;simp;refine rdR Q0 d3i (d7o hV hN hex h3 h7 eV j0 (by omega) p0.2) λt j h=>?_;simp;exact Q0.ok t j _ _ h (.inr rfl) (by simp)
end
theorem c0Q:∀n,(∀i,i<l.length->l.length<n+i->sJ G 34 [] l i (vD aJ aZ aE l n 0 i) gQ)/\(∀i,i<l.length->l.length<n+i->sJ G 168 [] l i (vD aJ aZ aE l n 3 i) gQ)/\(∀i,i<l.length->l.length<n+i->sJ G 247 [] l i (vD aJ aZ aE l n 7 i) gQ)
 |0=>⟨λi hi h=>by omega,λi hi h=>by omega,λi hi h=>by omega⟩
 |n+1=>by
  obtain⟨k0,k3,k7⟩:=c0Q n;have eV:=aB.exF (kw:=aJ) (andP:=aZ) hV.fin hV.kL.pred n;refine⟨λi hi h=>?_,λi hi h=>?_,λi hi h=>?_⟩
  .exact c9s hV hN (ex:=vD aJ aZ aE l n) (low:=i+1) (λi' h1 h2=>k0 i' h2 (by omega)) (λi' h1 h2=>k3 i' h2 (by omega)) (λi' h1 h2=>k7 i' h2 (by omega)) eV i (g1m _) hi
  .exact c0P hV hN (ex:=vD aJ aZ aE l n) (low:=i+1) (λi' h1 h2=>k0 i' h2 (by omega)) (λi' h1 h2=>k3 i' h2 (by omega)) (λi' h1 h2=>k7 i' h2 (by omega)) eV i (g1m _) hi
  .exact b3U hV hN (ex:=vD aJ aZ aE l n) (low:=i+1) (λi' h1 h2=>k0 i' h2 (by omega)) (λi' h1 h2=>k7 i' h2 (by omega)) eV i (g1m _) hi
theorem a2W(i:Nat)(hi:i<l.length):sJ G 34 [] l i (a4B aJ aZ aE l i) gQ:=(c0Q hV hN _).1 i hi (by omega)
omit hN in
theorem a9S:aB l 1 (a4B aJ aZ aE l):=aB.expr hV.fin hV.kL.pred
end
end
section
open Go Go.VM
variable {G:GT}
theorem a7c:VM.Enters prog 107:=.mk func107 rfl
theorem a4Z:VM.Enters prog 58:=.mk func58 rfl
abbrev b4A(d:rL):List D:=.str d.name::.sl (strs d.params)::(yL d.body++ .int .i64 d.mode::.bool d.typed::c2V d.sig)
theorem b1G(d:rL):c1V d=b4A d:=by
 rw[c1V,bT,e2E]
 rfl
abbrev b4B:rL:=⟨[],[],xS,0,false,b8H⟩
abbrev f5G:Option rL->DV:=λo=>.cI [.agg (b4A (o.getD b4B)),.bool o.isSome]
section
variable {aE:List Tok->Nat->Nat->kJ Pr} {l:List Tok} (hV:pY G aE l) (hN:∀i, -9223372036854775807<=(aG l i).n/\(aG l i).n<=9223372036854775807)
include hV
theorem a9T(mode:Int)(i:Nat)(hi:i<l.length):sJ G 107 [.int .i64 mode] l i (a4C aJ l mode i) (λd=>.d (.agg (b4A d))):=by
 have hl:=hV.len;obtain⟨j0,rfl⟩:∃j0,j0=i:=⟨_,rfl⟩;have p0:j0<=j0/\j0<l.length:=⟨g1m _,hi⟩;refine oZ.bL func107 rfl ntmps107 rfl (by simp) ?_;intro Q Q0;unfold a4C at Q0;simp;refine sY Q0 p0 dG (dT hV.kw l j0 p0.2 (by omega)) (aB.word hV.fin) λnm j1 x1 Q1 p1=>?_;simp;have hb:=kX (G:=G) l j1 [40] p1.2 (by omega);refine pA (ds:=[.str [40]]) gZ hb ?_;cases hs:aH l j1 [40]with
 |false=>have Q2:=Q1.step (a:=[]) (j:=j1) (by simp[hs]);simp;exact Q2.ok _ j1 _ _ rfl (.inr rfl) (by simp[xS,b8H,mO,eY])
 |true=>
  simp;have ht1:=dA (G:=G) l j1 (j1+1) 1 (by omega) (by omega) (by intro e;subst e;simp at hi) (by omega);refine pA (ds:=[.int .i64 1]) bZ ht1 ?_;simp;refine mG.mk oE (pF (aG l (j1+1)) [41]) ?_;cases hf:cV (aG l (j1+1)) [41]with
  |true=>
   have Q2:=Q1.step (a:=[]) (j:=j1+2) (by simp[hs,hf]);have hw2:IntKind.i64.wrap ((j1:Int)+2)=((j1+2:Nat):Int):=by rw[wrap64 (by omega)];omega
   simp[hw2];exact Q2.ok _ (j1+2) _ _ rfl (.inr rfl) (by simp[xS,b8H,mO,eY])
  |false=>
   have e1:(λi=>if aH l i [40] then(if cV (aG l (i+1)) [41] then .ok [] (i+2) else gA aJ l i) else .ok [] i:bE (List Nm)) j1=gA aJ l j1:=by simp[hs,hf]
   simp;refine rdX a4S (a6O hV j1 p1.2) (λns j3 x3=>?_) (λn e hx=>by first|exact Q1.fail (e1.trans hx) _|(simp;exact Q1.fail (e1.trans hx) _)|(simp;exact λs=>Q1.fail (e1.trans hx) s));have Q3:=Q1.step (e1.trans x3);have p3:=aB.words hV.fin j1 ns j3 p1.2 x3;simp;exact Q3.ok _ j3 _ _ rfl (.inr rfl) (by simp[xS,b8H,mO,eY])
theorem b2F:aB l 1 (a6v aJ aZ aE l):=aB.sig hV.fin hV.kL
include hN
theorem a8a(i:Nat)(hi:i<l.length):sJ G 58 [] l i (a3L aJ aZ aE l i) f5G:=by
 have hl:=hV.len;obtain⟨j0,rfl⟩:∃j0,j0=i:=⟨_,rfl⟩;have p0:j0<=j0/\j0<l.length:=⟨g1m _,hi⟩;refine oZ.bL func58 rfl ntmps58 rfl (by simp) ?_;intro Q Q0;unfold a3L at Q0;simp;cases s1:aH l j0 [100,101,102]with
 |true=>
  have Q1:=Q0.tH s1;refine rdT s1 p0 hV.fin λp1=>?_;obtain⟨j1,sL⟩:∃j,j0+1=j:=⟨_,rfl⟩;rw[sL]at Q1 p1|-;simp;refine sY Q1 p1 a7c ((a9T hV 0 j1 p1.2)) ((aB.head hV.fin 0)) λd j2 x2 Q2 p2=>?_;simp;cases s2:aH l j2 [58]with
  |false=>have Q3:=Q2.step (kZ s2);rw[if_neg (by decide)]at Q3;refine zH s2 p2 ?_;simp;have Q2:=Q3.step (jG _ _);unfold a6w at Q2;refine dZ Q2 p2 hV.fin λu8 j8 x8 Q8 p8=>?_;simp;refine sY Q8 p8 cM ((a2W hV hN j8 p8.2)) (a9S hV) λe j9 x9 Q9 p9=>?_;simp;exact Q9.ok _ j9 _ _ rfl (.inr rfl) (by simp)
  |true=>have Q3:=Q2.step (kY s2);rw[if_pos rfl]at Q3;refine rdT s2 p2 hV.fin λp3=>?_;obtain⟨j3,hj3⟩:∃j,j2+1=j:=⟨_,rfl⟩;rw[hj3]at Q3 p3|-;simp;have Q3:=Q3.assoc;refine sY Q3 p3 a9Q ((b2E hV j3 p3.2)) (b2F hV) λs j4 x4 Q4 p4=>?_;simp;have Q4:=Q4.step (jG _ _);unfold a6w at Q4;refine dZ Q4 p4 hV.fin λu8 j8 x8 Q8 p8=>?_;simp;refine sY Q8 p8 cM ((a2W hV hN j8 p8.2)) (a9S hV) λe j9 x9 Q9 p9=>?_;simp;exact Q9.ok _ j9 _ _ rfl (.inr rfl) (by simp)
 |false=>
 have Q0:=Q0.rF (by rw[s1];decide);refine zH s1 p0 ?_;simp;cases s2:aH l j0 [97,115,115,117,109,101]with
 |true=>have Q1:=Q0.tH s2;refine rdT s2 p0 hV.fin λp1=>?_;obtain⟨j1,sL⟩:∃j,j0+1=j:=⟨_,rfl⟩;rw[sL]at Q1 p1|-;simp;refine sY Q1 p1 a7c ((a9T hV 1 j1 p1.2)) ((aB.head hV.fin 1)) λd j2 x2 Q2 p2=>?_;simp;refine dZ Q2 p2 hV.fin λu3 j3 x3 Q3 p3=>?_;simp;refine sY Q3 p3 a9Q ((b2E hV j3 p3.2)) (b2F hV) λs j4 x4 Q4 p4=>?_;simp;exact Q4.ok _ j4 _ _ rfl (.inr rfl) (by simp)
 |false=>
 have Q0:=Q0.rF (by rw[s2];decide);refine zH s2 p0 ?_;simp;cases s3:aH l j0 [114,101,102,108,101,99,116]with
 |true=>have Q1:=Q0.tH s3;refine rdT s3 p0 hV.fin λp1=>?_;obtain⟨j1,sL⟩:∃j,j0+1=j:=⟨_,rfl⟩;rw[sL]at Q1 p1|-;simp;refine sY Q1 p1 a7c ((a9T hV 2 j1 p1.2)) ((aB.head hV.fin 2)) λd j2 x2 Q2 p2=>?_;simp;refine dZ Q2 p2 hV.fin λu3 j3 x3 Q3 p3=>?_;simp;refine sY Q3 p3 a9Q ((b2E hV j3 p3.2)) (b2F hV) λs j4 x4 Q4 p4=>?_;simp;unfold a6w at Q4;refine dZ Q4 p4 hV.fin λu8 j8 x8 Q8 p8=>?_;simp;refine sY Q8 p8 cM ((a2W hV hN j8 p8.2)) (a9S hV) λe j9 x9 Q9 p9=>?_;simp;exact Q9.ok _ j9 _ _ rfl (.inr rfl) (by simp)
 |false=>
 have Q0:=Q0.rF (by rw[s3];decide);refine zH s3 p0 ?_;simp;exact Q0.ok _ j0 _ _ rfl (.inr rfl) (by simp[xS,b8H,mO,eY])
end
end
end Go.Proofs.YtjpodcmhcenjjaaGreatDoor
section
namespace Go.VM
open Go Go.RowKit
section
variable {P:Program} {G:GT} {st:St} {base:dH} {R:Nat->Nat->Prop} {μ:Nat->Nat} {a:Act} {w:World}
def b1H(P:Program)(G:GT)(f:FuncId)(g0U:List DV)(ls:List (Option Loc))(dst:Option Tmp)(st:St)(K:St->Prop)(Q:Exit->St->Prop):Prop:=∃x0,tF P G f g0U ls dst st K Q x0
theorem b1H.mk{f:FuncId}{g0U:List DV}{ls:List (Option Loc)}{dst:Option Tmp}{K:St->Prop}{Q:Exit->St->Prop}{x0:Bool}(h:tF P G f g0U ls dst st K Q x0):b1H P G f g0U ls dst st K Q:=⟨x0,h⟩
def a7d(P:Program)(G:GT)(all:Array Oper)(o:Oper)(st:St)(K:St->Prop)(Q:Exit->St->Prop):Prop:=
 match eJ o all st.tmps with
 |some true=>
  match kB G o st with
  |some (f,ds)=>(∃r own,(Enters P f/\CS P G f ds r own)/\K (finish st o.dst r (a6b own)))\/∃s',(Enters P f/\oD P G f (ds.map .d) (mM o) st o.dst s')/\K s'
  |none=>
   match dK G o st with
   |some (f,g0U)=>b1H P G f g0U (mM o) o.dst st K Q
   |none=>
    match mV P G o st with
    |some out=>K (finish out.st o.dst out.v (b0r false all o out.v out.act))
    |none=>False
 |some false=>K (finish st o.dst (.cI []) .no)
 |none=>False
theorem c6H{all:Array Oper}{o:Oper}{K:St->Prop}{Q:Exit->St->Prop}(h:a7d P G all o st K Q)(hr:Rel P G base R μ st a w){KK:Act->World->Prop}{QQ:Exit->Act->World->Prop}(hk:∀s v w' R' μ',K s->Rel P G base R' μ' s (a.put o.dst v) w'->Step base R w R' w'->KK (a.put o.dst v) w')(hq:∀c s w' R' μ',Q (.panic c) s->Rel P G base R' μ' s a w'->Step base R w R' w'->QQ (.panic c) a w'):if Region.wanted o (yielded all a.tmps) then o.wp P a w KK QQ\/(o.asks P a w/\LetsOut QQ) else KK (a.put o.dst Go.undef) w:=by
 have go:pC P G false all o K st->if Region.wanted o (yielded all a.tmps) then o.wp P a w KK QQ\/(o.asks P a w/\LetsOut QQ) else KK (a.put o.dst Go.undef) w:=λh1=>tE h1 hr hk;unfold a7d at h;split at h
 .rename_i hw;split at h
  .rename_i f ds hc;refine go ?_;unfold pC;rw[hw,hc];rcases h with⟨r,own,h1,h2⟩|⟨s',h1,h2⟩
   .exact .inl ⟨r,own,h1,λe=>Bool.noConfusion e,by simpa using h2⟩
   .exact .inr ⟨by simp[tD],s',h1,h2⟩
  .rename_i hc;split at h
   .rename_i f g0U hH;obtain⟨x0,h0⟩:=h;unfold tF at h0;obtain⟨he,h1,h2⟩:=h0;cases x0 with
    |true=>obtain⟨s',h3,h4⟩:=h1 rfl;refine go ?_;unfold pC;rw[hw,hc,hH];simp only[tD,Bool.false_and,a2y,Bool.false_eq_true,if_false];exact⟨s',⟨he,h3⟩,h4⟩
    |false=>obtain⟨v,h3,h4⟩:=h2 rfl;rw[a3G hr hw,if_pos rfl];exact .inl (a9v hH ⟨he,h3⟩ hr λR' w' hs hb=>hq _ _ w' R' μ h4 (hr.b0R hs hb) hs)
   .rename_i hH;split at h
    .rename_i out hv;refine go ?_;unfold pC;rw[hw,hc,hH,hv];exact h
    .exact h.elim
 .rename_i hw;refine go ?_;unfold pC;rw[hw];exact h
 .exact h.elim
inductive OT where
 |stop
 |none
 |op (i:Nat) (next more:OT)
def b1I(j:Nat):OT->Bool
 | .op i _ more=>i==j||b1I j more
 |_=>false
def okT(ops:Array Oper)(T:OT)(listed:Array Bool):Bool:=match T with
 | .stop=>Region.ready .any ops listed==[]
 |T=> !(Region.ready .any ops listed).isEmpty&&(Region.ready .any ops listed).all λj=>b1I j T
def a2X(ops:Array Oper):OT->Nat->Array Bool->Bool
 | .stop,_,_=>true
 | .none,_,_=>true
 | .op _ _ _,0,_=>false
 | .op i next more,n+1,listed=>okT ops next (listed.setIfInBounds i true)&&a2X ops next n (listed.setIfInBounds i true)&&a2X ops more (n+1) listed
def VT(P:Program)(G:GT)(ops:Array Oper)(Q:Exit->St->Prop):OT->St->Prop
 | .stop,st=>Q .normal st
 | .none,_=>True
 | .op i next more,st=>(match ops[i]? with
  |some o=>a7d P G ops o st (VT P G ops Q next) Q
  |none=>False)/\VT P G ops Q more st
theorem d7r{ops:Array Oper}{Q:Exit->St->Prop}{i n:Nat}{listed:Array Bool}:∀(T:OT),a2X ops T (n+1) listed=true->b1I i T=true->VT P G ops Q T st->∃next,okT ops next (listed.setIfInBounds i true)=true/\a2X ops next n (listed.setIfInBounds i true)=true/\∃o,ops[i]? =some o/\a7d P G ops o st (VT P G ops Q next) Q
 | .stop,_,h,_=>by simp[b1I]at h
 | .none,_,h,_=>by simp[b1I]at h
 | .op j next more,ht,ha,hv=>by
  simp only[a2X,g0W]at ht;simp only[b1I,g1i,beq_iff_eq]at ha;simp only[VT]at hv;rcases ha with rfl|ha
  .refine⟨next,ht.1.1,ht.1.2,?_⟩;have:=hv.1;split at this
   .rename_i o ho;exact⟨o,ho,this⟩
   .exact this.elim
  .exact d7r more ht.2 ha hv.2
theorem e5e{ops:Array Oper}{Q:Exit->St->Prop}:∀(n:Nat) (T:OT) (listed:Array Bool) (st:St),okT ops T listed=true->a2X ops T n listed=true->VT P G ops Q T st->∀(base:dH) (R:Nat->Nat->Prop) (μ:Nat->Nat) (a:Act) (w:World),Rel P G base R μ st a w->
  ∀QQ:Exit->Act->World->Prop,(∀e s a' w' R' μ',Q e s->Rel P G base R' μ' s a' w'->Step base R w R' w'->QQ e a' w')->wpAny P .any ops QQ n listed a w
 |0,T,listed,st,ho,ht,hv,base,R,μ,a,w,hr,QQ,hk=>by
  cases T with
  |stop=>exact⟨by simpa[okT]using ho,hk _ st a w R μ hv hr (.refl _ _ _)⟩
  |none=>simp only[okT,g0W,Bool.not_eq_true',List.isEmpty_eq_false_iff,g0Z]at ho;obtain⟨h1,h2⟩:=ho;obtain⟨x,hx⟩:=List.exists_mem_of_ne_nil _ h1;have:=h2 x hx;simp[b1I]at this
  |op i next more=>simp[a2X]at ht
 |n+1,T,listed,st,ho,ht,hv,base,R,μ,a,w,hr,QQ,hk=>by
  cases T with
  |stop=>
   have hrd:Region.ready .any ops listed=[]:=by simpa[okT]using ho
   refine⟨λ_=>hk _ st a w R μ hv hr (.refl _ _ _),λi hi=>?_⟩;rw[hrd]at hi;cases hi
  |none=>simp only[okT,g0W,Bool.not_eq_true',List.isEmpty_eq_false_iff,g0Z]at ho;obtain⟨h1,h2⟩:=ho;obtain⟨x,hx⟩:=List.exists_mem_of_ne_nil _ h1;have:=h2 x hx;simp[b1I]at this
  |op i0 f1W f1X=>simp only[okT,g0W,Bool.not_eq_true',List.isEmpty_eq_false_iff,g0Z]at ho;refine⟨λh=>(ho.1 h).elim,λi hi=>?_⟩;obtain⟨next,q1,q2,o,q3,q4⟩:=d7r _ ht (ho.2 i hi) hv;unfold wpOp;rw[q3];exact c6H q4 hr (λs v w' R' μ' p1 p2 p3=>e5e n next _ s q1 q2 p1 base R' μ' _ w' p2 QQ λe s a' w2 R2 μ2 k1 k2 k3=>hk e s a' w2 R2 μ2 k1 k2 (p3.trans k3)) λc s w' R' μ' p1 p2 p3=>hk _ s a w' R' μ' p1 p2 p3
theorem c0R{id:Nat}{ops:Array Oper}{Q:Exit->St->Prop}(T:OT)(hm:P.follows .mixedOrders=true)(hB:(okT ops T (Array.replicate ops.size false)&&a2X ops T ops.size (Array.replicate ops.size false))=true)(h:VT P G ops Q T st):SW P G (.region id ops true) st Q:=by rw[g0W]at hB;intro base R μ a w hr;obtain⟨gD,rE⟩:=hr.drew;exact wp_region_any hm (e5e ops.size T _ st hB.1 hB.2 h base R μ a w.drew gD _ λe s a' w' R' μ' q1 q2 q3=>⟨s,R',μ',q1,q2,rE.trans q3⟩)
attribute [simp] VT a7d
end
attribute [irreducible] b1H
end Go.VM
end
namespace Go.Proofs.YtjpodcmhcenjjaaGreatDoor
section
open Go Go.VM
variable {G:GT}
theorem c3a:VM.Enters prog 80:=.mk func80 rfl
theorem b7I:VM.Enters prog 135:=.mk func135 rfl
theorem b4C:VM.Enters prog 81:=.mk func81 rfl
abbrev e5f(x:b5W):List D:=.str x.cls::(tyD x.type++[.sl (x.a5r.map pQ),.sl (x.defs.map c1V)])
theorem d7s(x:b5W):d0y x=e5f x:=by
 rw[d0y,bV]
 rfl
section
variable {aE:List Tok->Nat->Nat->kJ Pr} {l:List Tok} (hV:pY G aE l) (hN:∀i, -9223372036854775807<=(aG l i).n/\(aG l i).n<=9223372036854775807)
include hV
def clX(nm v:Nm)(out:List (Nm×Ty)):List (Nat×bD):=[(100001,.cells [.ptr 100000 0]),(100002,.cells [.d (.str nm),.d (.str v),.d (.sl (out.map a4F))])]
abbrev clO:List (TypeId×List VM.Loc):=[(148,[.c 100002 2])]
abbrev clM(aE:List Tok->Nat->Nat->kJ Pr)(l:List Tok)(out:List (Nm×Ty)):bE (List (Nm×Ty)):=do
 let w <- bW aJ l
 aY l [[58]]
 let t <- jI aJ aZ aE l
 pure (out++[(w,t)])
theorem e2K(nm v:Nm):a1W l K3 [.ptr 100001 0,.ptr 100002 0] (clX nm v) clO:=by
 constructor
 all_goals intros
 all_goals first
  |rfl
  |simp[clX,aL,aQ,aW,aV,bH,getKey,aR,bF,cX,rk,dD,bS, *]
theorem d1a(out:List (Nm×Ty)):aB l 1 (clM aE l out):=(aB.word hV.fin).bl λ_=>((aB.exp hV.fin _ _).le (by omega)).bl λ_=>((kM hV).le (by omega)).bl λ_=>aB.bY _
theorem d7t(a:List (Nm×Ty))(i:Nat)(b:List (Nm×Ty))(j:Nat)(hi:i<l.length)(h:a.length<=i)(hx:clM aE l a i=.ok b j):b.length<=j:=by have h1:=d1a hV a i b j hi hx;obtain⟨_,_,_,hx⟩:=cH hx;obtain⟨_,_,_,hx⟩:=cH hx;obtain⟨_,_,_,hx⟩:=cH hx;cases hx;simp;omega
theorem d3n(nm v:Nm)(out:List (Nm×Ty))(i:Nat)(hi:i<l.length)(uJ:out.length<=i):oZ G 135 [.ptr 100001 0,.ptr 100002 0] (clX nm v out) clO l i (clM aE l out i) (λ_=>.cI []) (clX nm v):=by
 have hl:=hV.len;obtain⟨j0,rfl⟩:∃j0,j0=i:=⟨_,rfl⟩;have p0:j0<=j0/\j0<l.length:=⟨g1m _,hi⟩;refine oZ.bL func135 rfl ntmps135 rfl (by simp) ?_;intro Q Q0;simp[clX];refine sY Q0 p0 dG (dT hV.kw l j0 p0.2 (by omega)) (aB.word hV.fin) λw j1 x1 Q1 p1=>?_;simp;refine dZ Q1 p1 hV.fin λu2 j2 x2 Q2 p2=>?_;simp;refine gC [0,2] 4 [3] (.op 1 (.call [5,6,7,8,9] .none) (.call [1,5,6,7,8,9] .none)) (kD (jI aJ aZ aE l j2)) (by kernel_rfl) (by kernel_rfl) ?_;simp;refine⟨?_,?_⟩
 all_goals
  refine qK Q2 p2 dF ((pI hV j2 p2.2)) (kM hV) λt j3 x3 Q3 p3=>cJ.mk ?_;simp;refine cK ⟨rfl,g0Z.2 λc hc=>?_,?_⟩ ?_
  .obtain⟨y,_,rfl⟩:=List.mem_map.1 hc;rw[a2U]
   rfl
  .have hb:prog.bytesOf 148<=1000:=by decide
   rw[List.length_map]
   calc (out.length+1)*(prog.bytesOf 148+1)<=50001*1001:=Nat.mul_le_mul (by omega) (by omega)
    _<=140737488355328:=by decide
  simp;exact Q3.ok _ j3 .normal _ rfl (.inl rfl) (by simp[clX,a2U])
def clT:OT:=(.op 0 (.op 1 (.op 2 (.op 3 (.op 4 (.op 5 (.op 6 .stop .none) .none) (.op 5 (.op 4 (.op 6 .stop .none) .none) .none)) (.op 5 (.op 3 (.op 4 (.op 6 .stop .none) .none) .none) .none)) (.op 5 (.op 2 (.op 3 (.op 4 (.op 6 .stop .none) .none) .none) .none) .none)) (.op 2 (.op 1 (.op 3 (.op 4 (.op 5 (.op 6 .stop .none) .none) (.op 5 (.op 4 (.op 6 .stop .none) .none) .none)) (.op 5 (.op 3 (.op 4 (.op 6 .stop .none) .none) .none) .none)) (.op 5 (.op 1 (.op 3 (.op 4 (.op 6 .stop .none) .none) .none) .none) .none)) (.op 5 (.op 1 (.op 2 (.op 3 (.op 4 (.op 6 .stop .none) .none) .none) .none) (.op 2 (.op 1 (.op 3 (.op 4 (.op 6 .stop .none) .none) .none) .none) .none)) .none))) (.op 2 (.op 0 (.op 1 (.op 3 (.op 4 (.op 5 (.op 6 .stop .none) .none) (.op 5 (.op 4 (.op 6 .stop .none) .none) .none)) (.op 5 (.op 3 (.op 4 (.op 6 .stop .none) .none) .none) .none)) (.op 5 (.op 1 (.op 3 (.op 4 (.op 6 .stop .none) .none) .none) .none) .none)) (.op 5 (.op 0 (.op 1 (.op 3 (.op 4 (.op 6 .stop .none) .none) .none) .none) .none) .none)) (.op 5 (.op 0 (.op 1 (.op 2 (.op 3 (.op 4 (.op 6 .stop .none) .none) .none) .none) (.op 2 (.op 1 (.op 3 (.op 4 (.op 6 .stop .none) .none) .none) .none) .none)) (.op 2 (.op 0 (.op 1 (.op 3 (.op 4 (.op 6 .stop .none) .none) .none) .none) .none) .none)) .none)))
abbrev f1Y(l:List Tok):bE (Nm×Nm):=do
 let nm <- gT l
 let v <- bW aJ l
 pure (nm,v)
theorem c6J(i:Nat)(hi:i<l.length):sJ G 80 [] l i (a0X aJ aZ aE l i) (λx=>.d (.agg (c5p x))):=by
 have hl:=hV.len;obtain⟨j0,rfl⟩:∃j0,j0=i:=⟨_,rfl⟩;have p0:j0<=j0/\j0<l.length:=⟨g1m _,hi⟩;refine oZ.a0k func80 rfl ntmps80 rfl (by simp) ?_;intro Q Q0;unfold a0X at Q0;refine SW.jW (SW.xk ?_);simp;refine SW.c6C (f1Y l j0) (λx j=>⟨.ptr 100000 0::.ptr 1 0::.ptr 2 0::.ptr 3 0::List.replicate 12 .undef,[(1,.cells [.ptr 100000 0]),(2,.cells [.d (.str []),.d (.str []),.d .aD]),(3,.cells [.d (.str x.1),.d (.str x.2),.d .aD]),(100000,rdO l j)],[]⟩) ?_ λx j2 hx=>?_
 .refine c0R clT (by kernel_rfl) (by kernel_rfl) ?_;simp[clT]
  repeat' apply And.intro
  all_goals
   refine b1H.mk (rdZ (ds:=[]) kG (mR l j0 p0.2 (by omega)) (λnm j1 x1=>?_) (λn e hx=>Q0.fail hx _));have Q1:=Q0.step x1;have p1:=aB.title hV.fin j0 nm j1 p0.2 x1;simp
   repeat' apply And.intro
   all_goals
    refine b1H.mk (rdZ (ds:=[]) dG (dT hV.kw l j1 p1.2 (by omega)) (λv j2 x2=>?_) (λn e hx=>Q1.fail hx _));have hr:f1Y l j0=.ok (nm,v) j2:=(bP x1).trans ((bP x2).trans rfl);simp
    repeat' apply And.intro
    all_goals exact⟨nm,v,j2,hr,by simp⟩
 obtain⟨nm,v⟩:=x;obtain⟨nm',j1,x1,hx⟩:=cH hx;obtain⟨v',j2',x2,hx⟩:=cH hx;cases hx;have Q2:=(Q0.step x1).step x2;have p1:=aB.title hV.fin j0 nm j1 p0.2 x1;have p2:=aB.word (kw:=aJ) hV.fin j1 v j2 p1.2 x2;refine SW.xk ?_;simp[List.replicate];refine dZ Q2 p2 hV.fin λu3 j3 x3 Q3 p3=>?_;simp;have jS:=gP hV [44] (clM aE l) (λout i=>out.length<=i) 0 b7I (e2K hV nm v) (λa=>(d1a hV a).le (by omega)) (λa i sE hi h=>d3n hV nm v a i hi h) (d7t hV) (λa i h=>by omega) [] j3 (by omega) p3.2 (by simp);refine dO.mk (a1a eA jS [(100000,100000),(100001,1),(100002,3)] (λa j hx=>?_) ?_ ?_ ?_ rfl rfl (λms j4 x4=>?_) (λn e yJ=>Q3.fail yJ _))
 .simp[clX,aL,aQ,aW,aV,bH,getKey]
 .simp[clX,aL,aQ,aW,aV,bH,getKey]
 .simp[aR,bF,rk]
 .simp[clX,aR,bF,rk,cX,dD]
 .have Q4:=Q3.step x4;simp[bG,clX,aR,bF,rk,cX,dD,bS,kC,gM,dX];exact Q4.ok _ j4 _ _ rfl (.inr rfl) (by simp[c5p])
include hN
abbrev b9j(aE:List Tok->Nat->Nat->kJ Pr)(l:List Tok)(out:List rL):bE (List rL):=do
 let d <- a3L aJ aZ aE l
 aY l [[59]]
 pure (out++[d.getD b4B])
omit hN in
theorem a8b:aB l 0 (a3L aJ aZ aE l):=aB.e7l hV.fin hV.kL
theorem b7J(i:Nat)(hi:i<l.length):sJ G 81 [] l i (a6x aJ aZ aE l i) (λx=>.d (.agg (e5f x))):=by
 have hl:=hV.len;obtain⟨j0,rfl⟩:∃j0,j0=i:=⟨_,rfl⟩;have p0:j0<=j0/\j0<l.length:=⟨g1m _,hi⟩;refine oZ.bL func81 rfl ntmps81 rfl (by simp) ?_;intro Q Q0;unfold a6x at Q0;simp;refine sY Q0 p0 kG (mR l j0 p0.2 (by omega)) (aB.title hV.fin) λc j1 x1 Q1 p1=>?_;simp;refine sY Q1 p1 b1m ((c2P hV j1 p1.2)) ((aB.a3m hV.fin ((kM hV).le (by omega)) hV.kL.pred)) λt j2 x2 Q2 p2=>?_;simp;cases hs:aH l j2 [119,104,101,114,101]with
 |false=>
  have Q3:=Q2.step (kZ hs);rw[if_neg (by decide)]at Q3;have Q2:=Q3.step (jG _ _);refine zH hs p2 ?_;simp;refine dZ Q2 p2 hV.fin λu5 j5 x5 Q5 p5=>?_;simp;refine SW.vR (ι:={x:List rL×Nat×Nat//j5<=x.2.1/\x.2.1<l.length/\l.length<x.2.2+x.2.1/\x.1.length<=x.2.1/\eD (λi=>aH l i [100,101,102]) (b9j aE l) x.2.2 x.1 x.2.1=sW l (λi=>aH l i [100,101,102]) (b9j aE l) [] j5}) (λ_=>[]) (λx=>[(2,.cells (.d (.str [])::((tyD mO).map .d++[.d .aD,.d .aD]))),(3,.cells (.d (.str c)::((tyD t).map .d++[.d (.sl (List.map pQ [])),.d (.sl (x.1.1.map c1V))]))),(100000,rdO l x.1.2.1)]) (λ_=>[(70,[.c 3 11])]) (λx=>l.length-x.1.2.1) ⟨([],j5,l.length+2),g1m _,p5.2,by simp only;omega,by simp,rfl⟩ (by simp[mO,eY]) ?_;rintro⟨⟨out,j6,g⟩,hb,hj6,hg,ho,hp⟩;simp only at hb hj6 hg ho hp;obtain⟨g,rfl⟩:∃k,g=k+1:=⟨g-1,by omega⟩;have p6:j5<=j6/\j6<l.length:=⟨hb,hj6⟩;have hbb:=kX (G:=G) l j6 [100,101,102] p6.2 (by omega);simp;refine pA (i:=j6) (ds:=[.str [100,101,102]]) gZ hbb ?_;cases hc:aH l j6 [100,101,102]with
  |true=>have E0:a2b Q (eD (λi=>aH l i [100,101,102]) (b9j aE l) (g+1) out j6) (eD (λi=>aH l i [100,101,102]) (b9j aE l) (g+1) out j6):=⟨rfl,λn e s h=>Q5.fail (hp.symm.trans h) s⟩;simp;refine rdX (i:=j6) (ds:=[]) a4Z (a8a hV hN j6 hj6) (λd j7 x7=>?_) (λn e hx=>by simp;exact Q5.fail (hp.symm.trans (sR hV hc (jU hx))) _);have p7:=a8b hV j6 d j7 hj6 x7;simp;refine rdX (hw:=by simp[strs]) (ds:=[.sl (strs [[59]])]) mI (oS l [[59]] j7 p7.2 (by omega) hV.fin (by simp)) (λu j8 x8=>?_) (λn e hx=>by simp;exact Q5.fail (hp.symm.trans (sR hV hc ((bP x7).trans (jU hx)))) _);have p8:=aB.exp hV.fin _ _ j7 u j8 p7.2 x8;have h1:b9j aE l out j6=.ok (out++[d.getD b4B]) j8:=(bP x7).trans ((bP x8).trans rfl);rw[zI hV hc h1]at hp;generalize d.getD b4B=D0 at hp|-;simp;refine kK (by first|omega|exact⟨λx _=>by rw[b1G];rfl,by omega⟩) ?_;simp;exact bC.mk ⟨(out++[D0],j8,g),by simp only;omega,p8.2,by simp only;omega,by simp;omega,hp⟩ (by simp[b1G]) (by simp;omega)
  |false=>rw[zJ hV hc]at hp;have Q6:=Q5.step hp.symm;simp;refine dZ Q6 p6 hV.fin λu7 j7 x7 Q7 p7=>?_;simp;exact Q7.ok _ j7 _ _ rfl (.inr rfl) (by simp)
 |true=>
  have Q3:=Q2.step (kY hs);rw[if_pos rfl]at Q3;refine rdT hs p2 hV.fin λp3=>?_;obtain⟨j3,hj3⟩:∃j,j2+1=j:=⟨_,rfl⟩;rw[hj3]at Q3 p3|-;simp;refine sY Q3 p3 b1C ((b3S hV j3 p3.2)) ((a7b hV)) λns j4 x4 Q4 p4=>?_;simp;refine dZ Q4 p4 hV.fin λu5 j5 x5 Q5 p5=>?_;simp;refine SW.vR (ι:={x:List rL×Nat×Nat//j5<=x.2.1/\x.2.1<l.length/\l.length<x.2.2+x.2.1/\x.1.length<=x.2.1/\eD (λi=>aH l i [100,101,102]) (b9j aE l) x.2.2 x.1 x.2.1=sW l (λi=>aH l i [100,101,102]) (b9j aE l) [] j5}) (λ_=>[]) (λx=>[(2,.cells (.d (.str [])::((tyD mO).map .d++[.d .aD,.d .aD]))),(3,.cells (.d (.str c)::((tyD t).map .d++[.d (.sl (List.map pQ ns)),.d (.sl (x.1.1.map c1V))]))),(100000,rdO l x.1.2.1)]) (λ_=>[(70,[.c 3 11])]) (λx=>l.length-x.1.2.1) ⟨([],j5,l.length+2),g1m _,p5.2,by simp only;omega,by simp,rfl⟩ (by simp[mO,eY]) ?_;rintro⟨⟨out,j6,g⟩,hb,hj6,hg,ho,hp⟩;simp only at hb hj6 hg ho hp;obtain⟨g,rfl⟩:∃k,g=k+1:=⟨g-1,by omega⟩;have p6:j5<=j6/\j6<l.length:=⟨hb,hj6⟩;have hbb:=kX (G:=G) l j6 [100,101,102] p6.2 (by omega);simp;refine pA (i:=j6) (ds:=[.str [100,101,102]]) gZ hbb ?_;cases hc:aH l j6 [100,101,102]with
  |true=>have E0:a2b Q (eD (λi=>aH l i [100,101,102]) (b9j aE l) (g+1) out j6) (eD (λi=>aH l i [100,101,102]) (b9j aE l) (g+1) out j6):=⟨rfl,λn e s h=>Q5.fail (hp.symm.trans h) s⟩;simp;refine rdX (i:=j6) (ds:=[]) a4Z (a8a hV hN j6 hj6) (λd j7 x7=>?_) (λn e hx=>by simp;exact Q5.fail (hp.symm.trans (sR hV hc (jU hx))) _);have p7:=a8b hV j6 d j7 hj6 x7;simp;refine rdX (hw:=by simp[strs]) (ds:=[.sl (strs [[59]])]) mI (oS l [[59]] j7 p7.2 (by omega) hV.fin (by simp)) (λu j8 x8=>?_) (λn e hx=>by simp;exact Q5.fail (hp.symm.trans (sR hV hc ((bP x7).trans (jU hx)))) _);have p8:=aB.exp hV.fin _ _ j7 u j8 p7.2 x8;have h1:b9j aE l out j6=.ok (out++[d.getD b4B]) j8:=(bP x7).trans ((bP x8).trans rfl);rw[zI hV hc h1]at hp;generalize d.getD b4B=D0 at hp|-;simp;refine kK (by first|omega|exact⟨λx _=>by rw[b1G];rfl,by omega⟩) ?_;simp;exact bC.mk ⟨(out++[D0],j8,g),by simp only;omega,p8.2,by simp only;omega,by simp;omega,hp⟩ (by simp[b1G]) (by simp;omega)
  |false=>rw[zJ hV hc]at hp;have Q6:=Q5.step hp.symm;simp;refine dZ Q6 p6 hV.fin λu7 j7 x7 Q7 p7=>?_;simp;exact Q7.ok _ j7 _ _ rfl (.inr rfl) (by simp)
end
end
section
open Go Go.VM
variable {G:GT}
theorem b7K:VM.Enters prog 82:=.mk func82 rfl
theorem b2G:VM.Enters prog 138:=.mk func138 rfl
theorem c6K:VM.Enters prog 83:=.mk func83 rfl
theorem b7L:VM.Enters prog 66:=.mk func66 rfl
abbrev a7e:=Nm×List Nm×Pr
abbrev e5g(c:a7e):List D:=.str c.1::.sl (strs c.2.1)::rW c.2.2
abbrev e5h(x:b5X):List D:=.str x.name::.str x.data::.str x.result::.sl (x.cases.map e5g)::prD x.inv
theorem d7u(x:b5X):c5q x=e5h x:=by
 rw[c5q,dE]
 rfl
abbrev e5i(q:b5Y):List D:=.str q.name::.sl (q.vars.map pQ)::prD q.body
theorem d7v(q:b5Y):d0z q=e5i q:=by
 rw[d0z,dE]
 rfl
section
variable {aE:List Tok->Nat->Nat->kJ Pr} {l:List Tok} (hV:pY G aE l)
include hV
def b7M(nm dn sn:Nm)(out:List a7e):List (Nat×bD):=[(100001,.cells [.ptr 100000 0]),(100002,.cells [.d (.str nm),.d (.str dn),.d (.str sn),.d (.sl (out.map e5g)),.d (.int .i64 0),.d (.str []),.d (.int .i64 0),.d (.sl [])])]
abbrev f1Z:List (TypeId×List VM.Loc):=[(151,[.c 100002 3])]
abbrev e2M(aE:List Tok->Nat->Nat->kJ Pr)(l:List Tok)(out:List a7e):bE (List a7e):=do
 let c <- gT l
 let ns <- (λi=>if aH l i [40] then gA aJ l i else .ok [] i:bE (List Nm))
 aY l [[61]]
 let p <- mP aE l
 pure (out++[(c,ns,p)])
theorem d7w(nm dn sn:Nm):a1W l K3 [.ptr 100001 0,.ptr 100002 0] (b7M nm dn sn) f1Z:=by
 constructor
 all_goals intros
 all_goals first
  |rfl
  |simp[b7M,aL,aQ,aW,aV,bH,getKey,aR,bF,cX,rk,dD,bS, *]
theorem b7N(out:List a7e):aB l 1 (e2M aE l out):=by
 refine(aB.title hV.fin).bl λ_=>aB.bl (λi b j hi h=>?_) λ_=>((aB.exp hV.fin _ _).le (by omega)).bl λ_=>hV.kL.pred.bl λ_=>aB.bY _;split at h
 .exact((aB.words hV.fin).le (by omega)) _ _ _ hi h
 .cases h;omega
theorem d3o(a:List a7e)(i:Nat)(b:List a7e)(j:Nat)(hi:i<l.length)(h:a.length<=i)(hx:e2M aE l a i=.ok b j):b.length<=j:=by have h1:=b7N hV a i b j hi hx;obtain⟨_,_,_,hx⟩:=cH hx;obtain⟨_,_,_,hx⟩:=cH hx;obtain⟨_,_,_,hx⟩:=cH hx;obtain⟨_,_,_,hx⟩:=cH hx;cases hx;simp;omega
theorem c9t(nm dn sn:Nm)(out:List a7e)(i:Nat)(hi:i<l.length)(uJ:out.length<=i):oZ G 138 [.ptr 100001 0,.ptr 100002 0] (b7M nm dn sn out) f1Z l i (e2M aE l out i) (λ_=>.cI []) (b7M nm dn sn):=by
 have hl:=hV.len;obtain⟨j0,rfl⟩:∃j0,j0=i:=⟨_,rfl⟩;have p0:j0<=j0/\j0<l.length:=⟨g1m _,hi⟩;refine oZ.bL func138 rfl ntmps138 rfl (by simp) ?_;intro Q Q0;simp[b7M];refine sY Q0 p0 kG (mR l j0 p0.2 (by omega)) (aB.title hV.fin) λc j1 x1 Q1 p1=>?_;simp;have hb:=kX (G:=G) l j1 [40] p1.2 (by omega);refine pA (ds:=[.str [40]]) gZ hb ?_;cases hs:aH l j1 [40]with
 |false=>have Q1:=Q1.step (a:=[]) (j:=j1) (by simp[hs]);simp;refine dZ Q1 p1 hV.fin λu4 j4 x4 Q4 p4=>?_;simp;refine sY Q4 p4 rM (uC hV j4 p4.2) (hV.kL.pred) λp j5 x5 Q5 p5=>?_;simp;refine kK (by first|omega|exact⟨λx _=>by rw[dE];rfl,by omega⟩) ?_;simp;exact Q5.ok _ j5 .normal _ rfl (.inl rfl) (by simp[b7M,dE,zC])
 |true=>
  have e1:(λi=>if aH l i [40] then gA aJ l i else .ok [] i:bE (List Nm)) j1=gA aJ l j1:=by simp[hs]
  simp;refine rdX a4S (a6O hV j1 p1.2) (λns j3 x3=>?_) (λn e hx=>by first|exact Q1.fail (e1.trans hx) _|(simp;exact Q1.fail (e1.trans hx) _)|(simp;exact λs=>Q1.fail (e1.trans hx) s));have Q3:=Q1.step (e1.trans x3);have p3:=aB.words hV.fin j1 ns j3 p1.2 x3;simp;refine dZ Q3 p3 hV.fin λu4 j4 x4 Q4 p4=>?_;simp;refine sY Q4 p4 rM (uC hV j4 p4.2) (hV.kL.pred) λp j5 x5 Q5 p5=>?_;simp;refine kK (by first|omega|exact⟨λx _=>by rw[dE];rfl,by omega⟩) ?_;simp;exact Q5.ok _ j5 .normal _ rfl (.inl rfl) (by simp[b7M,dE,zC])
theorem b9k(i:Nat)(hi:i<l.length):sJ G 82 [] l i (a6y aJ aE l i) (λx=>.d (.agg (e5h x))):=by
 have hl:=hV.len;obtain⟨j0,rfl⟩:∃j0,j0=i:=⟨_,rfl⟩;have p0:j0<=j0/\j0<l.length:=⟨g1m _,hi⟩;refine oZ.bL func82 rfl ntmps82 rfl (by simp) ?_;intro Q Q0;unfold a6y at Q0;simp;refine sY Q0 p0 dG (dT hV.kw l j0 p0.2 (by omega)) (aB.word hV.fin) λnm j1 x1 Q1 p1=>?_;simp;refine dZ Q1 p1 hV.fin λu2 j2 x2 Q2 p2=>?_;simp;refine sY Q2 p2 kG (mR l j2 p2.2 (by omega)) (aB.title hV.fin) λdn j3 x3 Q3 p3=>?_;simp;refine dZ Q3 p3 hV.fin λu4 j4 x4 Q4 p4=>?_;simp;refine sY Q4 p4 a2O (a4R hV.kw l j4 p4.2 (by omega)) (aB.sort hV.fin) λsn j5 x5 Q5 p5=>?_;simp;refine dZ Q5 p5 hV.fin λu6 j6 x6 Q6 p6=>?_;simp;have jS:=gP hV [59] (e2M aE l) (λout i=>out.length<=i) 0 b2G (d7w hV nm dn sn) (λa=>(b7N hV a).le (by omega)) (λa i sE hi h=>c9t hV nm dn sn a i hi h) (d3o hV) (λa i h=>by omega) [] j6 (by omega) p6.2 (by simp);refine dO.mk (a1a eA jS [(100000,100000),(100001,1),(100002,3)] (λa j hx=>?_) ?_ ?_ ?_ rfl rfl (λcs j7 x7=>?_) (λn e yJ=>Q6.fail yJ _))
 .simp[b7M,aL,aQ,aW,aV,bH,getKey]
 .simp[b7M,aL,aQ,aW,aV,bH,getKey]
 .simp[aR,bF,rk]
 .simp[b7M,aR,bF,rk,cX,dD]
 .have Q7:=Q6.step x7;have p7:=aB.list hV.fin (λa=>b7N hV a) [] j6 cs j7 p6.2 x7;simp[bG,b7M,aR,bF,rk,cX,dD,bS,kC,gM,dX];refine dZ Q7 p7 hV.fin λu8 j8 x8 Q8 p8=>?_;simp;cases hs:aH l j8 [105,110,118,97,114,105,97,110,116]with
  |false=>have Q9:=Q8.step (kZ hs);rw[if_neg (by decide)]at Q9;have Q9:=Q9.step (jG _ _);refine zH hs p8 ?_;simp;exact Q9.ok _ j8 _ _ rfl (.inr rfl) (by simp[eY])
  |true=>have Q9:=Q8.step (kY hs);rw[if_pos rfl]at Q9;refine rdT hs p8 hV.fin λp9=>?_;obtain⟨j9,hj9⟩:∃j,j8+1=j:=⟨_,rfl⟩;rw[hj9]at Q9 p9|-;simp;refine sY Q9 p9 rM (uC hV j9 p9.2) (hV.kL.pred) λp j10 x10 Q10 p10=>?_;simp;exact Q10.ok _ j10 _ _ rfl (.inr rfl) (by simp)
theorem c9u(i:Nat)(hi:i<l.length):sJ G 83 [] l i (a6z aJ aE l i) (λx=>.d (.agg (e5i x))):=by have hl:=hV.len;obtain⟨j0,rfl⟩:∃j0,j0=i:=⟨_,rfl⟩;have p0:j0<=j0/\j0<l.length:=⟨g1m _,hi⟩;refine oZ.bL func83 rfl ntmps83 rfl (by simp) ?_;intro Q Q0;unfold a6z at Q0;simp;refine sY Q0 p0 dG (dT hV.kw l j0 p0.2 (by omega)) (aB.word hV.fin) λnm j1 x1 Q1 p1=>?_;simp;refine dZ Q1 p1 hV.fin λu2 j2 x2 Q2 p2=>?_;simp;refine sY Q2 p2 a2P ((a4T hV true j2 p2.2)) ((aB.vars hV.fin true)) λvs j3 x3 Q3 p3=>?_;simp;refine dZ Q3 p3 hV.fin λu4 j4 x4 Q4 p4=>?_;simp;refine sY Q4 p4 rM (uC hV j4 p4.2) (hV.kL.pred) λp j5 x5 Q5 p5=>?_;simp;exact Q5.ok _ j5 _ _ rfl (.inr rfl) (by simp)
theorem c0S(i:Nat)(hi:i<l.length):sJ G 66 [] l i (a3M l i) (λ_=>.cI []):=by
 have hl:=hV.len;obtain⟨j0,rfl⟩:∃j0,j0=i:=⟨_,rfl⟩;have p0:j0<=j0/\j0<l.length:=⟨g1m _,hi⟩;have ht:=dA (G:=G) l j0 j0 0 (by omega) (by omega) (by intro e;subst e;simp at hi) (by omega);refine oZ.bL func66 rfl ntmps66 rfl (by simp) ?_;intro Q Q0;unfold a3M at Q0;simp;refine pA (ds:=[.int .i64 0]) bZ ht ?_;by_cases hk:(aG l j0).kind=0
 .have Q0:=Q0.tH hk;simp[bJ,hk];exact Q0.ok _ j0 _ _ rfl (.inl rfl) (by simp)
 .have Q0:=Q0.rF hk;simp[bJ,hk];refine rdX (ds:=[]) wS (zD (α:=Unit) l j0 p0.2 (by omega) λ_=>.cI []) (λa j hx=>by unfold eH at hx;cases hx) (λn e hx=>Q0.bad n e _ hx)
end
end
section
open Go Go.VM
variable {G:GT}
theorem a9U:VM.Enters prog 42:=.mk func42 rfl
section
variable {aE:List Tok->Nat->Nat->kJ Pr} {l:List Tok} (hV:pY G aE l) (hN:∀i, -9223372036854775807<=(aG l i).n/\(aG l i).n<=9223372036854775807)
include hV hN
def a0p(m:qT):List (Nat×bD):=[(100001,.cells [.d (.sl (m.b5Z.map b6f)),.d (.sl (m.b0I.map c5p)),.d (.sl (m.insts.map d0y)),.d (.sl (m.b6a.map c5q)),.d (.sl (m.c5m.map d0z)),.d (.sl (m.defs.map c1V))])]
abbrev e8n:List (TypeId×List VM.Loc):=[(78,[.c 100001 0]),(111,[.c 100001 1]),(114,[.c 100001 2]),(82,[.c 100001 3]),(118,[.c 100001 4]),(70,[.c 100001 5])]
abbrev f2a(d:b5V):List D:=[.str d.name,.sl (strs d.vars),.sl (d.b0F.map pQ),.sl (d.cons.map c0e)]
abbrev f2b(d:b0H):List D:=[.str d.name,.str d.var,.sl (d.methods.map a4F)]
omit hN in
theorem b4D(i:Nat)(hi:i<l.length):sJ G 79 [] l i (a4D aJ aZ aE l i) (λd=>.d (.agg (f2a d))):=b7F hV i hi
omit hN in
theorem c3b(i:Nat)(hi:i<l.length):sJ G 80 [] l i (a0X aJ aZ aE l i) (λd=>.d (.agg (f2b d))):=c6J hV i hi
structure d7x (m:qT) (i:Nat):Prop where
 a:m.b5Z.length<=i
 b:m.b0I.length<=i
 c:m.insts.length<=i
 d:m.b6a.length<=i
 e:m.c5m.length<=i
 f:m.defs.length<=i
theorem c9v(m:qT)(i:Nat)(hi:i<l.length)(hm:d7x m i):oZ G 42 [.ptr 100000 0,.ptr 100001 0] (a0p m) e8n l i (a1R aJ aZ aE l m i) (λ_=>.cI []) a0p:=by
 have hl:=hV.len;obtain⟨j0,rfl⟩:∃j0,j0=i:=⟨_,rfl⟩;have p0:j0<=j0/\j0<l.length:=⟨g1m _,hi⟩;obtain⟨m1,m2,m3,m4,m5,m6⟩:=hm;obtain⟨da,cl,ins,me,qu,de⟩:=m;simp only at m1 m2 m3 m4 m5 m6;have eq1:∀d:b5V,b6f d=[.str d.name,.sl (strs d.vars),.sl (d.b0F.map pQ),.sl (d.cons.map c0e)]:=λd=>rfl;have eq2:∀d:b0H,c5p d=[.str d.name,.str d.var,.sl (d.methods.map a4F)]:=λd=>rfl;have eq3:=d7s;have eq4:=d7u;have eq5:=d7v;have eq6:=b1G;refine oZ.bL func42 rfl ntmps42 rfl (by simp) ?_;intro Q Q0;unfold a1R at Q0;simp[a0p];cases s1:aH l j0 [100,97,116,97]with
 |true=>
  have Q1:=Q0.tH s1;refine rdT s1 p0 hV.fin λp1=>?_;obtain⟨j1,sL⟩:∃j,j0+1=j:=⟨_,rfl⟩;rw[sL]at Q1 p1|-;simp;refine gC [0,1,2,3,5] 6 [] (.op 4 (.call [7,8,9,10,11] .none) (.call [4,7,8,9,10,11] .none)) (kD (a4D aJ aZ aE l j1)) (by kernel_rfl) (by kernel_rfl) ?_;simp;refine⟨?_,?_⟩
  all_goals
   refine qK Q1 p1 b4z ((b4D hV j1 p1.2)) ((aB.data hV.fin hV.kL.pred)) λx j2 x2 Q2 p2=>cJ.mk ?_;simp;refine cK (by first|omega|exact⟨λx _=>by rw[eq1];rfl,by omega⟩|exact⟨λx _=>rfl,by omega⟩) ?_;simp;exact Q2.ok _ j2 .normal _ rfl (.inl rfl) (by simp[a0p,eq1])
 |false=>
 have Q0:=Q0.rF (by rw[s1];decide);refine zH s1 p0 ?_;simp;cases s2:aH l j0 [99,108,97,115,115]with
 |true=>
  have Q1:=Q0.tH s2;refine rdT s2 p0 hV.fin λp1=>?_;obtain⟨j1,sL⟩:∃j,j0+1=j:=⟨_,rfl⟩;rw[sL]at Q1 p1|-;simp;refine gC [0,1,2,3,5] 6 [] (.op 4 (.call [7,8,9,10,11] .none) (.call [4,7,8,9,10,11] .none)) (kD (a0X aJ aZ aE l j1)) (by kernel_rfl) (by kernel_rfl) ?_;simp;refine⟨?_,?_⟩
  all_goals
   refine qK Q1 p1 c3a ((c3b hV j1 p1.2)) ((aB.cls hV.fin hV.kL.pred)) λx j2 x2 Q2 p2=>cJ.mk ?_;simp;refine cK (by first|omega|exact⟨λx _=>by rw[eq2];rfl,by omega⟩|exact⟨λx _=>rfl,by omega⟩) ?_;simp;exact Q2.ok _ j2 .normal _ rfl (.inl rfl) (by simp[a0p,eq2])
 |false=>
 have Q0:=Q0.rF (by rw[s2];decide);refine zH s2 p0 ?_;simp;cases s3:aH l j0 [105,110,115,116]with
 |true=>
  have Q1:=Q0.tH s3;refine rdT s3 p0 hV.fin λp1=>?_;obtain⟨j1,sL⟩:∃j,j0+1=j:=⟨_,rfl⟩;rw[sL]at Q1 p1|-;simp;refine gC [0,1,2,3,5] 6 [] (.op 4 (.call [7,8,9,10,11] .none) (.call [4,7,8,9,10,11] .none)) (kD (a6x aJ aZ aE l j1)) (by kernel_rfl) (by kernel_rfl) ?_;simp;refine⟨?_,?_⟩
  all_goals
   refine qK Q1 p1 b4C ((b7J hV hN j1 p1.2)) ((aB.inst hV.fin hV.kL)) λx j2 x2 Q2 p2=>cJ.mk ?_;simp;refine cK (by first|omega|exact⟨λx _=>by rw[eq3];rfl,by omega⟩|exact⟨λx _=>rfl,by omega⟩) ?_;simp;exact Q2.ok _ j2 .normal _ rfl (.inl rfl) (by simp[a0p,eq3])
 |false=>
 have Q0:=Q0.rF (by rw[s3];decide);refine zH s3 p0 ?_;simp;cases s4:aH l j0 [109,101,97,115,117,114,101]with
 |true=>
  have Q1:=Q0.tH s4;refine rdT s4 p0 hV.fin λp1=>?_;obtain⟨j1,sL⟩:∃j,j0+1=j:=⟨_,rfl⟩;rw[sL]at Q1 p1|-;simp;refine gC [0,1,2,3,5] 6 [] (.op 4 (.call [7,8,9,10,11] .none) (.call [4,7,8,9,10,11] .none)) (kD (a6y aJ aE l j1)) (by kernel_rfl) (by kernel_rfl) ?_;simp;refine⟨?_,?_⟩
  all_goals
   refine qK Q1 p1 b7K ((b9k hV j1 p1.2)) ((aB.e1J hV.fin hV.kL.pred)) λx j2 x2 Q2 p2=>cJ.mk ?_;simp;refine cK (by first|omega|exact⟨λx _=>by rw[eq4];rfl,by omega⟩|exact⟨λx _=>rfl,by omega⟩) ?_;simp;exact Q2.ok _ j2 .normal _ rfl (.inl rfl) (by simp[a0p,eq4])
 |false=>
 have Q0:=Q0.rF (by rw[s4];decide);refine zH s4 p0 ?_;simp;cases s5:aH l j0 [113,117,97,108]with
 |true=>
  have Q1:=Q0.tH s5;refine rdT s5 p0 hV.fin λp1=>?_;obtain⟨j1,sL⟩:∃j,j0+1=j:=⟨_,rfl⟩;rw[sL]at Q1 p1|-;simp;refine gC [0,1,2,3,5] 6 [] (.op 4 (.call [7,8,9,10,11] .none) (.call [4,7,8,9,10,11] .none)) (kD (a6z aJ aE l j1)) (by kernel_rfl) (by kernel_rfl) ?_;simp;refine⟨?_,?_⟩
  all_goals
   refine qK Q1 p1 c6K ((c9u hV j1 p1.2)) ((aB.e1K hV.fin hV.kL.pred)) λx j2 x2 Q2 p2=>cJ.mk ?_;simp;refine cK (by first|omega|exact⟨λx _=>by rw[eq5];rfl,by omega⟩|exact⟨λx _=>rfl,by omega⟩) ?_;simp;exact Q2.ok _ j2 .normal _ rfl (.inl rfl) (by simp[a0p,eq5])
 |false=>
 have Q0:=Q0.rF (by rw[s5];decide);refine zH s5 p0 ?_;simp;refine sY Q0 p0 a4Z ((a8a hV hN j0 p0.2)) (a8b hV) λd j1 x1 Q1 p1=>?_;cases d with
 |none=>
  simp;refine rdX (ds:=[]) wS (zD (α:=qT) l j1 p1.2 (by omega) λ_=>.cI []) (λa j hx=>by unfold eH at hx;cases hx) (λn e hx=>?_)
  first|exact Q1.bad n e _ hx|(simp;exact Q1.bad n e _ hx)
 |some d=>simp;refine SW.vk ?_;simp;refine⟨kV.mk (by kernel_rfl),?_⟩;refine cK (by first|omega|exact⟨λx _=>by rw[eq6];rfl,by omega⟩) ?_;simp;exact Q1.ok _ j1 .normal _ rfl (.inl rfl) (by simp[a0p,eq6,b4A,c2V])
end
end
section
open Go Go.VM
variable {G:GT}
theorem b2H:VM.Enters prog 33:=.mk func33 rfl
theorem b2I:VM.Enters prog 38:=.mk func38 rfl
theorem a9V:VM.Enters prog 40:=.mk func40 rfl
theorem b4E:VM.Enters prog 57:=.mk func57 rfl
section
variable {aE:List Tok->Nat->Nat->kJ Pr} {l:List Tok} (hV:pY G aE l) (hN:∀i, -9223372036854775807<=(aG l i).n/\(aG l i).n<=9223372036854775807)
include hV
def exX(e:cG):List (Nat×bD):=[(100001,.cells ((yL e).map .d))]
def tyX(t:Ty):List (Nat×bD):=[(100001,.cells ((tyD t).map .d))]
def deX(d:rL):List (Nat×bD):=[(100001,.cells ((b4A d).map .d))]
theorem c6L(t0:Ty)(i:Nat)(hi:i<l.length):oZ G 38 [.ptr 100000 0,.ptr 100001 0] (tyX t0) [] l i (jI aJ aZ aE l i) (λ_=>.cI []) tyX:=by have hl:=hV.len;refine oZ.bL func38 rfl ntmps38 rfl (by simp) ?_;intro Q Q0;simp[tyX];refine rdX (ds:=[]) dF (pI hV i hi) (λt j h=>?_) (λn e h=>Q0.bad n e _ h);simp;exact Q0.ok t j _ _ h (.inl rfl) (by simp[tyX])
include hN
theorem c6M(e0:cG)(i:Nat)(hi:i<l.length):oZ G 33 [.ptr 100000 0,.ptr 100001 0] (exX e0) [] l i (a4B aJ aZ aE l i) (λ_=>.cI []) exX:=by have hl:=hV.len;refine oZ.bL func33 rfl ntmps33 rfl (by simp) ?_;intro Q Q0;simp[exX];refine rdX (ds:=[]) cM (a2W hV hN i hi) (λt j h=>?_) (λn e h=>Q0.bad n e _ h);simp;exact Q0.ok t j _ _ h (.inl rfl) (by simp[exX])
abbrev a3u(aE:List Tok->Nat->Nat->kJ Pr)(l:List Tok):bE rL:=do
 let d <- a3L aJ aZ aE l
 match d with
 |none=>eH l
 |some d=>do
  let _ <- cQ l [59]
  pure d
theorem c9w(d0:rL)(i:Nat)(hi:i<l.length):oZ G 57 [.ptr 100000 0,.ptr 100001 0] (deX d0) [] l i (a3u aE l i) (λ_=>.cI []) deX:=by
 have hl:=hV.len;obtain⟨j0,rfl⟩:∃j0,j0=i:=⟨_,rfl⟩;have p0:j0<=j0/\j0<l.length:=⟨g1m _,hi⟩;refine oZ.bL func57 rfl ntmps57 rfl (by simp) ?_;intro Q Q0;simp[deX];refine sY Q0 p0 a4Z ((a8a hV hN j0 p0.2)) (a8b hV) λd j1 x1 Q1 p1=>?_;cases d with
 |none=>
  simp;refine rdX (ds:=[]) wS (zD (α:=rL) l j1 p1.2 (by omega) λ_=>.cI []) (λa j hx=>by unfold eH at hx;cases hx) (λn e hx=>?_)
  first|exact Q1.bad n e _ hx|(simp;exact Q1.bad n e _ hx)
 |some d=>
  simp;cases hs:aH l j1 [59]with
  |true=>have Q2:=Q1.step (kY hs);refine rdT hs p1 hV.fin λp2=>?_;simp;exact Q2.ok _ (j1+1) _ _ rfl (.inl rfl) (by simp[deX,b4A,c2V])
  |false=>have Q2:=Q1.step (kZ hs);refine zH hs p1 ?_;simp;exact Q2.ok _ j1 _ _ rfl (.inl rfl) (by simp[deX,b4A,c2V])
abbrev moM(aE:List Tok->Nat->Nat->kJ Pr)(l:List Tok)(m:qT):bE qT:=do
 let m <- a1R aJ aZ aE l m
 aY l [[59]]
 pure m
omit hN in
theorem b7O(m:qT):aB l 1 (a1R aJ aZ aE l m):=aB.decl hV.fin hV.kL m
omit hN in
theorem c6N(m:qT)(i:Nat)(m2:qT)(j:Nat)(hi:i<l.length)(hm:d7x m i)(h:a1R aJ aZ aE l m i=.ok m2 j):d7x m2 j:=by
 have ha:=b7O hV m i m2 j hi h;obtain⟨m1,m2,m3,m4,m5,m6⟩:=hm;unfold a1R at h;split at h
 .obtain⟨x,k,_,h⟩:=cH h;cases h;constructor<;>simp<;>omega
 split at h
 .obtain⟨x,k,_,h⟩:=cH h;cases h;constructor<;>simp<;>omega
 split at h
 .obtain⟨x,k,_,h⟩:=cH h;cases h;constructor<;>simp<;>omega
 split at h
 .obtain⟨x,k,_,h⟩:=cH h;cases h;constructor<;>simp<;>omega
 split at h
 .obtain⟨x,k,_,h⟩:=cH h;cases h;constructor<;>simp<;>omega
 .obtain⟨x,k,_,h⟩:=cH h;cases x with
  |none=>unfold eH at h;cases h
  |some d=>cases h;constructor<;>simp<;>omega
theorem b9l(i:Nat)(hi:i<l.length):oZ G 40 [.ptr 100000 0,.ptr 100001 0] (a0p ⟨[],[],[],[],[],[]⟩) e8n l i (b6d aJ aZ aE l i) (λ_=>.cI []) a0p:=by
 have hl:=hV.len;obtain⟨j0,rfl⟩:∃j0,j0=i:=⟨_,rfl⟩;have p0:j0<=j0/\j0<l.length:=⟨g1m _,hi⟩;refine oZ.bL func40 rfl ntmps40 rfl (by simp) ?_;intro Q Q0;simp[a0p];refine SW.vR (ι:={x:qT×Nat×Nat//j0<=x.2.1/\x.2.1<l.length/\l.length<x.2.2+x.2.1/\d7x x.1 x.2.1/\eD (λi=> !decide ((aG l i).kind=0)) (moM aE l) x.2.2 x.1 x.2.1=b6d aJ aZ aE l j0}) (λ_=>[]) (λx=>rH l x.1.2.1++a0p x.1.1) (λ_=>e8n) (λx=>l.length-x.1.2.1) ⟨(⟨[],[],[],[],[],[]⟩,j0,l.length+2),g1m _,p0.2,by simp only;omega,⟨Nat.zero_le _,Nat.zero_le _,Nat.zero_le _,Nat.zero_le _,Nat.zero_le _,Nat.zero_le _⟩,rfl⟩ (by simp[a0p]) ?_;rintro⟨⟨m,j1,g⟩,hb,sL,hg,hm,hp⟩;simp only at hb sL hg hm hp;obtain⟨g,rfl⟩:∃k,g=k+1:=⟨g-1,by omega⟩;have p1:j0<=j1/\j1<l.length:=⟨hb,sL⟩;have ht:=dA (G:=G) l j1 j1 0 (by omega) (by omega) (by intro e;subst e;simp at hi) (by omega);simp[a0p];refine pA (i:=j1) (ds:=[.int .i64 0]) bZ ht ?_;by_cases hk:(aG l j1).kind=0
 .have hc:(λi=> !decide ((aG l i).kind=0)) j1=false:=by simp[hk]
  rw[zJ hV hc]at hp;simp[bJ,hk];exact Q0.ok m j1 _ _ hp.symm (.inl rfl) (by simp[a0p])
 .have hc:(λi=> !decide ((aG l i).kind=0)) j1=true:=by simp[hk]
  simp[bJ,hk];refine dO.mk (a1a a9U (c9v hV hN m j1 sL hm) [(100000,100000),(100001,100001)] (λa j hx=>?_) ?_ ?_ ?_ rfl rfl (λm2 j2 x2=>?_) (λn e hx=>by simp;exact Q0.bad _ _ _ (hp.symm.trans (sR hV hc (jU hx)))))
  .simp[a0p,aL,aQ,aW,aV,bH,getKey]
  .simp[a0p,aL,aQ,aW,aV,bH,getKey]
  .simp[aR,bF,rk]
  .simp[a0p,aR,bF,rk,cX,dD]
  .have p2:=b7O hV m j1 m2 j2 sL x2;have hm2:=c6N hV m j1 m2 j2 sL hm x2;simp[bG,a0p,aR,bF,rk,cX,dD,bS,kC,gM,dX];refine rdX (hw:=by simp[strs]) (ds:=[.sl (strs [[59]])]) mI (oS l [[59]] j2 p2.2 (by omega) hV.fin (by simp)) (λu j3 x3=>?_) (λn e hx=>by simp;exact Q0.bad _ _ _ (hp.symm.trans (sR hV hc ((bP x2).trans (jU hx)))));have p3:=aB.exp hV.fin _ _ j2 u j3 p2.2 x3;have hm3:d7x m2 j3:=⟨by have:=hm2.a;omega,by have:=hm2.b;omega,by have:=hm2.c;omega,by have:=hm2.d;omega,by have:=hm2.e;omega,by have:=hm2.f;omega⟩;have h1:moM aE l m j1=.ok m2 j3:=(bP x2).trans ((bP x3).trans rfl);rw[zI hV hc h1]at hp;simp;exact bC.mk ⟨(m2,j3,g),by simp only;omega,p3.2,by simp only;omega,hm3,hp⟩ (by simp[a0p]) (by simp;omega)
end
end
section
open Go Go.VM
variable {G:GT}
theorem b7P(a b:List Tok):txS (a++b)=txS a+txS b:=by
 induction a with
 |nil=>simp[txS]
 |cons t r ih=>simp only[List.cons_append,txS,ih];omega
theorem c6O{l:List Tok}(h:zO l)(e k:Nat):zO ((l.take e).drop k):=by have h1:=b7P (l.take e) (l.drop e);rw[List.take_append_drop]at h1;have h2:=b7P ((l.take e).take k) ((l.take e).drop k);rw[List.take_append_drop]at h2;refine⟨?_,by have:=h.2;omega⟩;have:=h.1;simp;omega
theorem a8M(l:List Tok):pK (b3R l)=true:=by
 unfold b3R;split
 .rfl
 .split<;>rfl
theorem c3c(hG:G 1=some eK){l:List Tok}(oI:zO l)(i e:Nat)(hi:i<l.length)(he:e<=l.length):sJ G 155 [.int .i64 e] l i (rdQ l i e) d2t:=by
 have hl:=oI.1;obtain⟨k,hk⟩:∃k,min i e=k:=⟨_,rfl⟩;have hke:k<=e:=by omega
 have a4n:min (i:Int) (e:Int)=(k:Int):=by omega
 obtain⟨L,hL⟩:∃L,(l.take e).drop k=L:=⟨_,rfl⟩;have d7y:zO L:=by rw[<-hL];exact c6O oI e k
 have hrd:=b2B (G:=G) hG L d7y (λp n h=>Nat.le_trans (b2C h) (by have:=d7y.1;omega));have hLm:((l.map bJ).take e).drop k=L.map bJ:=by rw[<-hL,List.map_drop,List.map_take]
 rw[<-hLm]at hrd;have d5X:(if e<i then(e:Int) else(i:Int))=(k:Int):=by split<;>omega
 have ht:=dA (G:=G) l i i 0 (by omega) (by omega) (by intro e;subst e;simp at hi) (by omega);refine oZ.a0k func155 rfl ntmps155 rfl (by simp) ?_;intro Q Q0;unfold rdQ at Q0;rw[hk,hL]at Q0;refine SW.jW (SW.xk ?_);simp;refine SW.jW (SW.vk ?_);simp[a4n,hke,he,d5X,a3Y];refine⟨kV.mk (by kernel_rfl),?_⟩;refine aC.mk (hkl:=a8M L) b1x hrd ?_;unfold b3R;cases hR:a5w L with
 |none=>rw[hR]at Q0;simp;refine SW.jW (SW.jW (SW.xk ?_));simp;refine SW.a8B rfl ?_;refine SW.lw (LW.app 5 ?_);simp;refine c2m (i:=i) (ds:=[.int .i64 0]) bZ ht ?_;have hb:=λs=>Q0.bad (aG l i).line 14 s rfl;simp[bJ];refine LW.c8E (td:=_) (n:=(aG l i).line) (e:=14) rfl rfl (by simp) (by simp) ?_;exact hb _
 |some q=>
  obtain⟨p,n⟩:=q;have hn:=a3X hR;have hLl:L.length<=e-k:=by rw[<-hL];simp;omega
  rw[hR]at Q0;simp only at Q0|-;by_cases hc:a6S p=0
  .have Q0:=Q0.tH hc;have hw:IntKind.i64.wrap ((i:Int)+(n:Int))=((i+n:Nat):Int):=by rw[wrap64 (by omega)];omega
   rw[if_pos hc];simp;refine SW.xk ?_;simp[hw];exact Q0.ok p (i+n) _ _ rfl (.inr rfl) (by simp)
  .have Q0:=Q0.rF hc;rw[if_neg hc];simp;refine SW.jW (SW.jW (SW.xk ?_));simp[hc];refine SW.a8B rfl ?_;refine SW.lw (LW.app 5 ?_);simp;refine c2m (i:=i) (ds:=[.int .i64 0]) bZ ht ?_;have hb:=λs=>Q0.bad (aG l i).line (a6S p) s rfl;simp[bJ];refine LW.c8E (td:=_) (n:=(aG l i).line) (e:=a6S p) rfl rfl (by simp) (by simp) ?_;exact hb _
end
section
def b1J(l:List Tok):Prop:=∀t,l[l.length-1]? =some t->t.kind=0
theorem b2J{l:List Tok}(hE:b1J l){i:Nat}{t:Tok}(h:l[i]? =some t)(hk:t.kind≠0):i+1<l.length:=by
 have hi:=(g0X.1 h).1;rcases Nat.lt_or_ge (i+1) l.length with h1|h1
 .exact h1
 .have:l.length-1=i:=by omega
  exact(hk (hE t (by rw[this];exact h))).elim
theorem b4U{l:List Tok}(hE:b1J l){i:Nat}{s:List UInt8}(h:oM l i s=true):i+1<l.length:=by
 unfold oM at h;split at h
 .rename_i t ht;simp only[g0W,decide_eq_true_eq]at h;exact b2J hE ht (by omega)
 .cases h
theorem d1b{l:List Tok}(hE:b1J l){i:Nat}{k:Int}(h:kdB l i k=true)(hk:k≠0:=by omega):i+1<l.length:=by
 unfold kdB at h;split at h
 .rename_i t ht;simp only[decide_eq_true_eq]at h;exact b2J hE ht (by omega)
 .cases h
theorem c3d{l:List Tok}(hE:b1J l){i:Nat}(h:wtB l i=true):i+1<l.length:=by unfold wtB at h;rw[g1i]at h;rcases h with h|h<;>exact d1b hE h
theorem a5a{l:List Tok}(hE:b1J l):∀(f i:Nat) (s:List UInt8),i<l.length->i<=(qY l f i s).2/\(qY l f i s).2<l.length
 |0,i,s,h=>⟨g1m _,h⟩
 |f+1,i,s,h=>by
  rw[qY];split
  .rename_i h1;have:=b4U hE h1;split
   .rename_i h2;have:=c3d hE h2;have:=a5a hE (l:=l) f (i+2) (s++[46]++txA l (i+1)) (by omega);omega
   .split
    .rename_i h3;have:=d1b hE h3;split
     .rename_i h4;have:=c3d hE h4;have:=a5a hE (l:=l) f (i+3) (s++[46]++txA l (i+1)++txA l (i+2)) (by omega);omega
     .have:=a5a hE (l:=l) f (i+2) (s++[46]++txA l (i+1)) (by omega);omega
    .exact⟨g1m _,h⟩
  .exact⟨g1m _,h⟩
theorem c0T{kw:List UInt8->Bool}{l:List Tok}(hE:b1J l){i n:Nat}{s:List UInt8}(h:vF kw l i=some (s,n)):i<n/\n<l.length:=by
 unfold vF at h;split at h
 .rename_i hb;unfold b7d at hb;rw[g0W]at hb;have h1:=c3d hE hb.1;have h2:=a5a hE (l:=l) l.length (i+1) (txA l i) (by omega);rw[g1c]at h;rw[h]at h2;simp only at h2;omega
 .cases h
def d3p(l:List Tok)(rd:Nat->Nat->Option (Pr×Nat)):Prop:=∀i k p n,rd i k=some (p,n)->i<n/\n<l.length
section
variable {kw:List UInt8->Bool} {rd rd':Nat->Nat->Option (Pr×Nat)} {l:List Tok}
theorem b7Q(hE:b1J l)(h:d3p l rd)(k:Nat):∀(g:Nat) (a:Pr) (n:Nat),n<l.length->n<=(eG rd l k g a n).2/\(eG rd l k g a n).2<l.length
 |0,a,n,hn=>⟨g1m _,hn⟩
 |g+1,a,n,hn=>by
  rw[eG];split
  .exact⟨g1m _,hn⟩
  .split
   .exact⟨g1m _,hn⟩
   .rename_i op _ _ b m hr;have h1:=h _ _ _ _ hr;have h2:=b7Q hE h k g (tw op a b) m h1.2;omega
theorem c0U(hE:b1J l)(h:d3p l rd):∀(g i:Nat) (acc ks:List Pr) (m:Nat),mZ rd l g i acc=some (ks,m)->i<m/\m<l.length
 |0,_,_,_,_,hr=>by cases hr
 |g+1,i,acc,ks,m,hr=>by
  rw[mZ]at hr;split at hr
  .cases hr
  .rename_i p n hp;have h1:=h _ _ _ _ hp;split at hr
   .rename_i hs;have:=b4U hE hs;cases hr;omega
   .split at hr
    .have:=c0U hE h g n _ ks m hr;omega
    .cases hr
theorem c0V(hE:b1J l)(h:d3p l rd){i m:Nat}{ks:List Pr}(hr:tK rd l i=some (ks,m)):i<m/\m<l.length:=by
 unfold tK at hr;split at hr
 .exact c0U hE h _ _ _ _ _ hr
 .cases hr
theorem d3q(hE:b1J l)(h:d3p l rd){i n:Nat}{p:Pr}(hr:yC kw rd l i=some (p,n)):i<n/\n<l.length:=by
 unfold yC at hr;split at hr
 .cases hr
 .rename_i t ht;have vJ:=(g0X.1 ht).1;have hnx:∀x:Int,x≠0->t.kind=x->i+1<l.length:=λx hx hk=>b2J hE ht (by omega);split at hr
  .rename_i hk;have:=hnx 3 (by omega) hk;cases hr;omega
  split at hr
  .rename_i hk;have:=hnx 1 (by omega) hk.1;cases hr;omega
  split at hr
  .rename_i hk;have:=hnx 1 (by omega) hk.1;cases hr;omega
  split at hr
  .split at hr
   .cases hr
   .rename_i s m hn;have h1:=c0T hE hn;rw[g0V]at hr;obtain⟨⟨ks,q⟩,hq,he⟩:=hr;have h2:=c0V hE h hq;cases he;simp only at *;omega
  split at hr
  .split at hr
   .rename_i hc;have:=b4U hE hc.2.2;cases hr;omega
   .split at hr
    .cases hr
    .rename_i q m hq;have h1:=h _ _ _ _ hq;split at hr
     .rename_i hs;have:=b4U hE hs;cases hr;omega
     .cases hr
  .split at hr
   .cases hr
   .rename_i s m hn;have h1:=c0T hE hn;split at hr
    .rename_i ks q hq;have h2:=c0V hE h hq;cases hr;omega
    .cases hr;omega
theorem e2N(hE:b1J l)(h:d3p l rd){i k n:Nat}{p:Pr}(hr:atG kw rd l i k=some (p,n)):i<n/\n<l.length:=by
 unfold atG at hr;split at hr
 .unfold b2x at hr;split at hr
  .cases hr
  .rename_i a m ha;have h1:=h _ _ _ _ ha;split at hr
   .split at hr
    .rename_i b q hb;have h2:=h _ _ _ _ hb;cases hr;omega
    .cases hr;exact h1
   .cases hr;exact h1
 .split at hr
  .rw[g0V]at hr;obtain⟨⟨a,m⟩,ha,he⟩:=hr;have h1:=h _ _ _ _ ha;cases he;simp only;omega
  .exact h _ _ _ _ hr
 .unfold a8g at hr;split at hr
  .cases hr
  .rename_i a m ha;have h1:=h _ _ _ _ ha;split at hr
   .cases hr;exact h1
   .split at hr
    .cases hr;exact h1
    .rename_i b q hb;have h2:=h _ _ _ _ hb;cases hr;omega
 .split at hr
  .rw[g0V]at hr;obtain⟨⟨a,m⟩,ha,he⟩:=hr;have h1:=h _ _ _ _ ha;cases he;simp only;omega
  .exact h _ _ _ _ hr
 .exact d3q hE h hr
 .rw[g0V]at hr;obtain⟨⟨a,m⟩,ha,he⟩:=hr;have h1:=h _ _ _ _ ha;have h2:=b7Q (k:=k) hE h l.length a m h1.2;have h3:(eG rd l k l.length a m).2=n:=by rw[he]
  omega
end
theorem c6P(kw:List UInt8->Bool)(l:List Tok)(hE:b1J l):∀f,d3p l (gJ kw l f)
 |0=>λ_ _ _ _ h=>by cases h
 |f+1=>λ_ _ _ _ h=>e2N hE (c6P kw l hE f) h
end
section
theorem c3e{l:List Tok}(hE:b1J l)(e i:Nat)(p:Pr)(j:Nat)(hi:i<l.length)(h:rdQ l i e=.ok p j):i<=j/\j<l.length:=by
 unfold rdQ at h;split at h
 .cases h
 .rename_i q n hr;split at h
  .cases h;refine⟨by omega,?_⟩;have h1:=a3X hr;rw[List.length_drop,List.length_take]at h1;rcases Nat.lt_or_ge e l.length with he|he
   .omega
   .have a4n:min i e=i:=by omega
    rw[a4n,List.take_of_length_le he]at hr;have hS:b1J (l.drop i):=λt ht=>by rw[List.length_drop,g1p]at ht;exact hE t (by rw[show l.length-1=i+(l.length-i-1) by omega];exact ht)
    have h2:=(c6P aJ (l.drop i) hS _ _ _ _ _ hr).2;rw[List.length_drop]at h2;omega
  .cases h
def eI{α:Type}(x:List Tok->bE α)(s:List UInt8):kJ α:=if 40000<s.length then .bad 0 7 else match mH jC s 0 1 false with
 | .error n=>.bad n 14
 | .ok l=>match x l 0 with
  | .bad n e=>.bad n e
  | .ok a j=>match a3M l j with
   | .bad n e=>.bad n e
   | .ok _ _=>.ok a j
theorem d3r{α:Type}{x:List Tok->bE α}{s:List UInt8}{a:α}{j:Nat}(h:eI x s=.ok a j): ¬40000<s.length/\∃l,mH jC s 0 1 false=.ok l/\x l 0=.ok a j/\(aG l j).kind=0:=by
 unfold eI at h;split at h
 .cases h
 .rename_i hl;split at h
  .cases h
  .rename_i l hlx;split at h
   .cases h
   .rename_i b k hx;split at h
    .cases h
    .rename_i u m he;cases h;refine⟨hl,l,hlx,hx,?_⟩;unfold a3M at he;split at he
     .assumption
     .unfold eH at he;cases he
end
section
open Go Go.VM
variable {G:GT}
theorem e2O{p:Pr}(h:a6S p=0):p.op≠0:=by
 unfold a6S b4r at h;split at h
 .cases h
 split at h
 .cases h
 intro h0;have hn:a2Q p=1:=by unfold a2Q;rw[if_pos (by omega)]
 obtain⟨op,nm,n,ks⟩:=p;simp[a2n,pH,hn]at h
theorem b4V{num:List UInt8->Int×Bool}{l:List Tok}{ln:Int}(h:OkT num l ln):l≠[]/\∀t,l[l.length-1]? =some t->t.kind=0:=by
 induction h with
 |fin ln l hl=>exact⟨by simp,λt ht=>by simp at ht;subst ht;rfl⟩
 |cons t r ln h1 h2 h3 ih=>refine⟨by simp,λu hu=>ih.2 u ?_⟩;have:0<r.length:=List.length_pos_iff.2 ih.1;rw[List.length_cons,Nat.add_sub_cancel]at hu;rw[show r.length=(r.length-1)+1 by omega]at hu;simpa using hu
theorem e2P{l:List Tok}{ln:Int}(h:OkT jC l ln):∀t∈l,0<=t.n/\t.n<=1000000000000:=by
 induction h with
 |fin ln l hl=>intro t ht;simp at ht;subst ht;simp
 |cons t r ln h1 h2 h3 ih=>
  intro u hu;rcases List.mem_cons.1 hu with rfl|hu
  .have hn:(firstT jC u.text).2.2.1=u.n:=by rw[h2]
   rw[<-hn];have hb:∀s,0<=(jC s).1/\(jC s).1<=1000000000000:=λs=>by
    unfold jC;split
    .simp only;omega
    .simp only;omega
   unfold firstT;split
   .simp
   .split
    .simp
    .split
     .simp
     .split
      .exact hb _
      .split<;>simp
  .exact ih u hu
theorem c6Q{l:List Tok}(h:l≠[])(i:Nat):aG l i∈l:=by
 unfold aG;split
 .rename_i hi;rw[List.getD_eq_getElem?_getD,g1a hi];exact List.getElem_mem hi
 .rw[List.getLastD_eq_getLast?,List.getLast?_eq_some_getLast h];exact List.getLast_mem h
theorem c0W(hG:G 1=some eK){s:List UInt8}{l:List Tok}(h:mH jC s 0 1 false=.ok l)(hs:s.length<=40000):pY G rdQ l:=by
 have oI:=(c6u h hs).1;have hO:=a0V s 0 1 false l h;have hE:=b4V hO;refine⟨hG,oI.1,⟨hE.1,?_⟩,λi e hi he=>c3c hG oI i e hi he,λe i p j hi hx=>c3e hE.2 e i p j hi hx,λi e p j hi hx=>?_⟩
 .have a1E:0<l.length:=List.length_pos_iff.2 hE.1;have aF:l.length-1<l.length:=by omega
  refine hE.2 _ ?_;unfold aG;rw[if_pos aF,List.getD_eq_getElem?_getD,g1a aF]
  rfl
 .unfold rdQ at hx;split at hx
  .cases hx
  .rename_i q n hr;split at hx
   .rename_i hc;cases hx;have:=c2N aJ _ _ _ _ _ _ hr;exact⟨by omega,e2O hc⟩
   .cases hx
theorem c0X{s:List UInt8}{l:List Tok}(h:mH jC s 0 1 false=.ok l):∀i, -9223372036854775807<=(aG l i).n/\(aG l i).n<=9223372036854775807:=λi=>by have hO:=a0V s 0 1 false l h;have:=e2P hO _ (c6Q (b4V hO).1 i);omega
end
section
abbrev tyM(l:List Tok):bE Ty:=jI aJ aZ rdQ l
abbrev exM(l:List Tok):bE cG:=a4B aJ aZ rdQ l
abbrev moQ(l:List Tok):bE qT:=b6d aJ aZ rdQ l
def a3v{α:Type}(z:α):kJ α->α
 | .ok a _=>a
 | .bad _ _=>z
def a3Z{α:Type}:kJ α->Int
 | .ok _ _=>0
 | .bad _ e=>e
def d3s{α:Type}:kJ α->Int
 | .ok _ _=>0
 | .bad n _=>n
end
end Go.Proofs.YtjpodcmhcenjjaaGreatDoor
section
namespace Go.VM
open Go Go.RowKit
section
variable {P:Program} {G:GT} {st:St} {base:dH} {R:Nat->Nat->Prop} {μ:Nat->Nat} {a:Act} {w:World}
theorem b7R{s0:St}(K:List (Nat×Nat)){g0U:List DV}{ls:List (Option Loc)}{rest:List (TypeId×List Loc)}{args:Array Value}(kU:aL K s0 .undef s0.H=true)(kO:WkT g0U (aR K s0.tmps))(hH:WkH st.H (cX K s0.H))(mN:wP st st.own (s0.own.map (qS K ls))=some rest)(kn:a0C st.tmps.length ls s0.own=true)(hr:Rel P G base R μ st a w)(hl:args.size=g0U.length)(hv:∀(i:Nat) (d:DV),g0U[i]? =some d->TV R μ w (args.getD i undef) d)(a8e:∀(i:Nat) (l:Loc),ls[i]? =some (some l)->∀u,cP a w μ l=some u->u=args.getD i undef):
  ∃kS:dH,(∀b,kS b->base b)/\Rel P G kS R (λk=>μ (rk K k)) s0 {tmps:=args,defers:=[]} w/\∀k o,getKey k st.H=some o->(∀p∈s0.H,k≠rk K p.1)-> ¬kS (μ k):=by
 simp only[aL,g0W,decide_eq_true_eq,g0Z]at kU;obtain⟨⟨⟨⟨⟨⟨⟨⟨kf,ks⟩,kp⟩,kt⟩,kh⟩,kl⟩,kr⟩,kd⟩,k1⟩:=kU;obtain⟨vs,rO⟩:=hr.own;obtain⟨vsT,vsR,t1,t2,t3,t4,t5,t6,t7⟩:=a6t hr _ _ _ vs ⟨rO.len,rO.one,rO.apart⟩ mN;have inK:∀k o,getKey k s0.H=some o->(K.any λp=>p.1==k)=true/\aW K o=true/\(getKey k s0.H).isSome=true:=λk o hk=>by
  have:=kh _ (jO hk)
  try simp only[g0W]at this
  exact⟨this.1.1,this.1.2,this.2⟩
 have inst:∀k o,getKey k s0.H=some o->∃o',getKey (rk K k) st.H=some o'/\WkO o' (dD K o):=λk o hk=>by
  have hm:=jO hk;have:∀ {l:List (Nat×bD)},WkH st.H (cX K l)->(k,o)∈l->∃o',getKey (rk K k) st.H=some o'/\WkO o' (dD K o):=by
   intro l
   induction l with
   |nil=>intro _ h;cases h
   |cons p l ih=>
    intro hw hp;obtain⟨h1,h2⟩:=hw;rcases List.mem_cons.1 hp with rfl|hp
    .exact h1
    .exact ih h2 hp
  exact this hH hm
 have big:∀k,(K.any λp=>p.1==k)=true->100000<=k:=λk hk=>by obtain⟨p,h1,h2,_⟩:=a1F hk;rw[<-h2];exact kp p h1
 have d5x:∀k k',(K.any λp=>p.1==k)=true->(K.any λp=>p.1==k')=true->rk K k=rk K k'->k=k':=λk k' h h' he=>by
  obtain⟨p,p1,p2,p3⟩:=a1F h;obtain⟨q,q1,q2,q3⟩:=a1F h';have hpq:p.2=q.2:=by rw[<-p3, <- q3,he]
  have:p=q:=oD.b3n.a7v ks p1 q1 hpq;rw[<-p2, <- q2,this]
 have one:∀k,(getKey k s0.H).isSome=true->∃o,getKey k s0.H=some o:=λk hk=>by
  obtain⟨o,ho⟩:=Option.isSome_iff_exists.1 hk;have:=k1 _ (jO ho)
  try simp only[g0W]at this
  exact Option.isSome_iff_exists.1 this.2
 let kS:dH:=⟨λb=>w.heap.size<=b\/(∃k o,getKey k s0.H=some o/\b=μ (rk K k))\/(∃v∈vsT,bK v=some b),λk=>μ (rk K k)⟩
 have sub:∀b,kS b->base b:=λb hb=>by
  rcases hb with hb|⟨k,o,hk,rfl⟩|⟨v,hv,hs⟩
  .exact hr.base b hb
  .obtain⟨o',wD,_⟩:=inst k o hk;exact(hr.jR _ o' wD).1
  .obtain⟨i,hi⟩:=g1n hv;have vJ:i<(s0.own.map (qS K ls)).length:=by rw[<-t1];exact(g0X.1 hi).1
   exact(t2 i _ v (g1a vJ) hi).own.a2s hs
 have a1O:Rel P G kS R (λk=>μ (rk K k)) s0 {tmps:=args,defers:=[]} w:=by
  obtain⟨g1,g2⟩:=a0h kO;rw[sG]at g1 g2;refine⟨rfl,by show args.size=s0.tmps.length;rw[List.length_map]at g1;omega,λi v d hiv hid=>?_,λk o hk=>?_,λk k' o o' hk hk' he=>?_,λc hc k off hl'=>?_,⟨vsT,by simpa using t1,λi c v hc hv'=>?_,t3⟩,hr.vL.up sub,hr.qP,λb hb=>.inl hb,λk hk=>rfl⟩
  .obtain⟨d0,hd0,b5P⟩:=g2 i (bF K d) (by rw[g1g,hid];rfl);have hva:=hv i d0 hd0;have hav:args.getD i undef=v:=by simp only at hiv;simp[g0Y,hiv]
   rw[hav]at hva;have d5y:TV R μ w v (bF K d):=by
    rcases b5P with hc|hc|⟨hc1,hc2⟩
    .rw[hc];exact .undef _
    .rw[hc];exact hva
    .rw[hc2];rw[hc1]at hva;obtain⟨ao,rfl⟩:=hva.a9b.kT;exact .d _ _ (.emp _ _)
   exact d5y.ren (μ:=μ) (λ_ _=>rfl) (kt d (g1b hid))
  .obtain⟨q1,q2,_⟩:=inK k o hk;obtain⟨o',wD,hw⟩:=inst k o hk;obtain⟨p1,p2,p3⟩:=hr.jR _ o' wD;exact⟨.inr (.inl ⟨k,o,hk,rfl⟩),p2,(b4P hw p3).ren (λ_ _=>rfl) q2⟩
  .obtain⟨o1,h1,_⟩:=inst k o hk;obtain⟨o2,h2,_⟩:=inst k' o' hk';exact d5x k k' (inK k o hk).1 (inK k' o' hk').1 (hr.inj _ _ o1 o2 h1 h2 he)
  .have:=g0Z.1 (g0Z.1 kl c hc) _ hl';exact Option.isSome_iff_exists.1 this
  .have ho:=t2 i (qS K ls c) v (by rw[g1g,hc];rfl) hv';refine⟨λl hl' u hu=>?_,?_,λk o hk=>?_⟩
   .have hn:=g0Z.1 (g0Z.1 kn c (g1b hc)) l hl';cases l with
    |t j=>
     simp only at hn;split at hn
     .rename_i t hj;simp only[decide_eq_true_eq]at hn;have ht:t<a.tmps.size:=by rw[hr.size];exact hn
      have hlv:cP a w μ (.t t)=some a.tmps[t]:=by simp[cP,ht]
      have h1:=a8e j _ hj _ hlv;have h2:=ho.eC (.t t) (List.mem_filterMap.2 ⟨.t j,hl',by simp[b5N,hj]⟩) _ hlv;simp only[cP]at hu;have h3:args.getD j undef=u:=by simp[g0Y,hu]
      rw[<-h3, <- h1,h2]
     .cases hn
    |c k off=>exact ho.eC (.c (rk K k) off) (List.mem_filterMap.2 ⟨.c k off,hl',rfl⟩) u hu
   .rcases ho.own with h|⟨g,n,cap,cur,h0,h1,h2,h3,h4⟩
    .exact .inl h
    .by_cases yI:cap=0
     .subst yI;have:n=0:=by omega
      subst this;exact .inl ⟨_,h0⟩
     .exact .inr ⟨g,n,cap,cur,h0,.inr (.inr ⟨v,g1b hv',by rw[h0];simp[bK,yI]⟩),h2,h3,h4⟩
   .obtain⟨o',wD,_⟩:=inst k o hk;exact ho.keys _ o' wD
 refine⟨kS,sub,a1O,λk o ho hk hb=>?_⟩;rcases hb with hb|⟨k0,o0,h0,he'⟩|⟨u,hu,hsp⟩
 .have:=(hr.jR k o ho).2.2.lt;omega
 .obtain⟨o',wD,_⟩:=inst k0 o0 h0;have:=hr.inj k (rk K k0) o o' ho wD he';exact hk (k0,o0) (jO h0) this
 .obtain⟨i,hi⟩:=g1n hu;have vJ:i<(s0.own.map (qS K ls)).length:=by rw[<-t1];exact(g0X.1 hi).1
  exact(t2 i _ u (g1a vJ) hi).keys k o ho hsp
def CHd(P:Program)(G:GT)(f:FuncId)(s0:St)(r:DV):Prop:=
 ∀(base:dH) (R:Nat->Nat->Prop) (μ:Nat->Nat) (args:Array Value) (w:World),Rel P G base R μ s0 {tmps:=args,defers:=[]} w->
  Calls P f args w λe w'=>∃v R',e=.returned v/\(∀μ',TV R' μ' w' v r)/\Step base R w R' w'/\∀b o,R' b o->b<w'.heap.size
theorem oD.e8p{f:FuncId}{s0:St}{r:DV}(hch:CHd P G f s0 r)(K:List (Nat×Nat)){g0U:List DV}{ls:List (Option Loc)}{dst:Option Tmp}{rest:List (TypeId×List Loc)}(H':List (Nat×bD))(kU:aL K s0 .undef s0.H=true)(kO:WkT g0U (aR K s0.tmps))(hH:WkH st.H (cX K s0.H))(mN:wP st st.own (s0.own.map (qS K ls))=some rest)(kn:a0C st.tmps.length ls s0.own=true)(hK:∀k o,getKey k H'=some o->getKey k st.H=some o/\∀p∈s0.H,k≠rk K p.1):
  oD P G f g0U ls st dst ⟨jN dst r st.tmps,H',[]⟩:=by
 intro base R μ a w args hr hl hv a8e;obtain⟨kS,sub,a1O,uJ⟩:=b7R K kU kO hH mN kn hr hl hv a8e;refine(hch kS R _ args w a1O).mono λe w' ⟨v,R',he,kF,hs,hb⟩=>⟨v,R',μ,he,?_,⟨hs.below.mono sub,hs.mono,λb o h1 h2=>sub b (hs.new b o h1 h2),hs.cells⟩⟩;have hsb:Step base R w R' w':=⟨hs.below.mono sub,hs.mono,λb o h1 h2=>sub b (hs.new b o h1 h2),hs.cells⟩;have kept:∀b, ¬kS b->w'.heap[b]? =w.heap[b]? /\∀off,R' b off->R b off:=λb hb=>⟨hs.below.block b hb,λoff h=>by
  by_cases hx:R b off
  .exact hx
  .exact absurd (hs.new b off h hx) hb⟩
 refine⟨by cases dst<;>exact hr.defers,?_,λi u d hu hd=>?_,λk o hk=>?_,λk k' o o' hk hk' he'=>?_,(λc hc=>by cases hc),⟨[],rfl,λi c v h _=>by simp at h,.nil⟩,hr.vL.bN hsb,hb,λb hb=>hr.base b (Nat.le_trans hs.below.size hb),hr.pass⟩
 .cases dst with
  |none=>exact hr.size
  |some t=>simp[jN,Act.put,hr.size]
 .cases dst with
  |none=>exact(hr.tmps i u d hu hd).bN hsb
  |some t=>
   simp only[jN,Act.put]at hu hd;by_cases hti:t=i
   .subst hti;have h1:t<st.tmps.length:=by
     by_cases aF:t<st.tmps.length
     .exact aF
     .have tS:(st.tmps.set t r)[t]? =none:=List.getElem?_eq_none (by rw[List.length_set];exact Nat.le_of_not_lt aF);rw[tS]at hd;cases hd
    have h2:t<a.tmps.size:=by rw[hr.size];exact h1
    simp[h1]at hd;simp[h2]at hu;subst hu hd;exact kF μ
   .rw[Array.getElem?_setIfInBounds_ne hti]at hu;rw[List.getElem?_set_ne hti]at hd;exact(hr.tmps i u d hu hd).bN hsb
 .obtain⟨hk2,hk1⟩:=hK k o hk;obtain⟨p1,p2,p3⟩:=hr.jR k o hk2;obtain⟨e1,e2⟩:=kept _ (uJ k o hk2 hk1);exact⟨p1,λoff h=>p2 off (e2 off h),p3.bN hsb e1⟩
 .exact hr.inj k k' o o' (hK k o hk).1 (hK k' o' hk').1 he'
theorem b0Q.tR{f:FuncId}{s0:St}{v:Value}(hch:CPn P G f s0 v)(K:List (Nat×Nat)){g0U:List DV}{ls:List (Option Loc)}{rest:List (TypeId×List Loc)}(H':List (Nat×bD))(kU:aL K s0 .undef s0.H=true)(kO:WkT g0U (aR K s0.tmps))(hH:WkH st.H (cX K s0.H))(mN:wP st st.own (s0.own.map (qS K ls))=some rest)(kn:a0C st.tmps.length ls s0.own=true)(hK:∀k o,getKey k H'=some o->getKey k st.H=some o/\∀p∈s0.H,k≠rk K p.1){args:Array Value}(hr:Rel P G base R μ st a w)(hl:args.size=g0U.length)(hv:∀(i:Nat) (d:DV),g0U[i]? =some d->TV R μ w (args.getD i undef) d)(a8e:∀(i:Nat) (l:Loc),ls[i]? =some (some l)->∀u,cP a w μ l=some u->u=args.getD i undef):
  Calls P f args w λe w'=>∃R',e=.panicked (a0Z v)/\Rel P G base R' μ ⟨st.tmps,H',[]⟩ a w'/\Step base R w R' w':=by
 obtain⟨kS,sub,a1O,uJ⟩:=b7R K kU kO hH mN kn hr hl hv a8e;refine(hch kS R _ args w a1O).mono λe w' ⟨R',he,hs,hb⟩=>⟨R',he,?_,⟨hs.below.mono sub,hs.mono,λb o h1 h2=>sub b (hs.new b o h1 h2),hs.cells⟩⟩;have hsb:Step base R w R' w':=⟨hs.below.mono sub,hs.mono,λb o h1 h2=>sub b (hs.new b o h1 h2),hs.cells⟩;have kept:∀b, ¬kS b->w'.heap[b]? =w.heap[b]? /\∀off,R' b off->R b off:=λb hb=>⟨hs.below.block b hb,λoff h=>by
  by_cases hx:R b off
  .exact hx
  .exact absurd (hs.new b off h hx) hb⟩
 refine⟨hr.defers,hr.size,λi u d hu hd=>(hr.tmps i u d hu hd).bN hsb,λk o hk=>?_,λk k' o o' hk hk' he'=>?_,(λc hc=>by cases hc),⟨[],rfl,λi c v h _=>by simp at h,.nil⟩,hr.vL.bN hsb,hb,λb hb=>hr.base b (Nat.le_trans hs.below.size hb),hr.pass⟩
 .obtain⟨hk2,hk1⟩:=hK k o hk;obtain⟨p1,p2,p3⟩:=hr.jR k o hk2;obtain⟨e1,e2⟩:=kept _ (uJ k o hk2 hk1);exact⟨p1,λoff h=>p2 off (e2 off h),p3.bN hsb e1⟩
 .exact hr.inj k k' o o' (hK k o hk).1 (hK k' o' hk').1 he'
end
end Go.VM
end
section
namespace Go.VM
open Go Go.RowKit
section
variable {P:Program} {G:GT} {st:St} {base:dH} {R:Nat->Nat->Prop} {μ:Nat->Nat} {a:Act} {w:World}
theorem put_defers(a:Act)(ds:List Deferred)(dst:Option Tmp)(v:Value):({a with defers:=ds}:Act).put dst v={a.put dst v with defers:=ds}:=by cases dst<;>rfl
theorem f2d{o:Oper}{ds:List Deferred}{K K':Act->World->Prop}{Q Q':Exit->Act->World->Prop}(ha:a.defers=[])(h:o.wp P a w K Q)(hK0:∀a' w',K a' w'->a'.defers=[])(hK:∀a' w',K a' w'->K' {a' with defers:=ds} w')(hQ:∀e a' w',Q e a' w'->Q' e {a' with defers:=ds} w'):o.wp P {a with defers:=ds} w K' Q':=by
 unfold Oper.wp at h|-;have he:execOp ({a with defers:=ds}:Act).eval o=execOp a.eval o:=rfl;rw[he];generalize (execOp a.eval o).run P w=r at h|-;unfold Oper.upon at h|-;split at h
 .rw[put_defers];exact hK _ _ h
 .rw[put_defers];exact hK _ _ h
 .rename_i d w';have:=hK0 _ _ h;rw[put_defers]at this;simp at this
 .refine h.mono λe w' hx=>?_;cases e with
  |returned v=>simp only at hx|-;rw[put_defers];exact hK _ _ hx
  |panicked chain=>exact hQ _ _ _ hx
  |outgrown=>obtain⟨a0,w0,h0⟩:=hx;exact⟨_,_,hQ _ _ _ h0⟩
 .refine h.mono λv w' hx=>?_;rw[put_defers];exact hK _ _ hx
 .exact hQ _ _ _ h
 .exact h.elim
def d3t(P:Program)(G:GT)(all:Array Oper)(Q:Exit->St->Prop):List Oper->St->Prop
 |[],st=>Q .normal st
 |o::rest,st=>a7d P G all o st (d3t P G all Q rest) Q
theorem c3f{all:Array Oper}{Q:Exit->St->Prop}(ds:List Deferred):∀(l:List Oper) (st:St),d3t P G all Q l st->∀(base:dH) (R:Nat->Nat->Prop) (μ:Nat->Nat) (a:Act) (w:World),Rel P G base R μ st a w->
  ∀QQ:Exit->Act->World->Prop,(∀e s a' w' R' μ',Q e s->Rel P G base R' μ' s a' w'->Step base R w R' w'->QQ e {a' with defers:=ds} w')->wpList P all QQ l {a with defers:=ds} w
 |[],st,h,base,R,μ,a,w,hr,QQ,hk=>hk _ st a w R μ h hr (.refl _ _ _)
 |o::rest,st,h,base,R,μ,a,w,hr,QQ,hk=>by
  have h1:=c6H (KK:=λa' w'=>a'.defers=[]/\wpList P all QQ rest {a' with defers:=ds} w') (QQ:=λe a' w'=>QQ e {a' with defers:=ds} w') (show a7d P G all o st (d3t P G all Q rest) Q from h) hr (λs v w' R' μ' p1 p2 p3=>⟨p2.defers,c3f ds rest s p1 base R' μ' _ w' p2 QQ λe s a' w2 R2 μ2 q1 q2 q3=>hk e s a' w2 R2 μ2 q1 q2 (p3.trans q3)⟩) λc s w' R' μ' p1 p2 p3=>hk _ s a w' R' μ' p1 p2 p3;unfold wpList;by_cases hw:Region.wanted o (yielded all a.tmps)=true
  .rw[if_pos hw]at h1;rw[if_pos (show Region.wanted o (yielded all ({a with defers:=ds}:Act).tmps)=true from hw)];rcases h1 with h1|⟨h1,a0,w0,h2⟩
   .exact .inl (f2d hr.defers h1 (λ_ _ h=>h.1) (λ_ _ h=>h.2) λ_ _ _ h=>h)
   .exact .inr ⟨h1,_,_,h2⟩
  .rw[if_neg hw]at h1;rw[if_neg (show ¬Region.wanted o (yielded all ({a with defers:=ds}:Act).tmps)=true from hw),put_defers];exact h1.2
def DW(P:Program)(G:GT)(ds:List Deferred)(c:Code)(st:St)(Q:Exit->St->Prop):Prop:=
 ∀(base:dH) (R:Nat->Nat->Prop) (μ:Nat->Nat) (a:Act) (w:World),Rel P G base R μ st a w->c.wp P (λe a' w'=>∃a0 s R' μ',a'={a0 with defers:=ds}/\Q e s/\Rel P G base R' μ' s a0 w'/\Step base R w R' w') {a with defers:=ds} w
theorem DW.region{ds:List Deferred}{id:Nat}{ops:Array Oper}{Q:Exit->St->Prop}(h:d3t P G ops Q ops.toList st):DW P G ds (.region id ops false) st Q:=λbase R μ a w hr=>wp_region_list (c3f ds ops.toList st h base R μ a w hr _ λe s a' w' R' μ' q1 q2 q3=>⟨a',s,R',μ',rfl,q1,q2,q3⟩)
theorem DW.seq{ds:List Deferred}{x y:Code}{Q:Exit->St->Prop}(h:DW P G ds x st λe s=>match e with
  | .normal=>DW P G ds y s Q
  |e=>Q e s):DW P G ds (.seq x y) st Q:=λbase R μ a w hr=>
 wp_seq (wp_mono (h base R μ a w hr) λe a1 w1 ⟨a0,s,R1,μ1,q0,q1,q2,q3⟩=>by
  cases e with
  |normal=>subst q0;exact wp_mono (q1 base R1 μ1 a0 w1 q2) λe2 a2 w2 ⟨a3,s2,R2,μ2,p0,p1,p2,p3⟩=>⟨a3,s2,R2,μ2,p0,p1,p2,q3.trans p3⟩
  |_=>exact⟨a0,s,R1,μ1,q0,q1,q2,q3⟩)
theorem DW.ret{ds:List Deferred}{Q:Exit->St->Prop}(h:Q .ret st):DW P G ds .ret st Q:=λbase R μ a w hr=>wp_ret ⟨a,st,R,μ,rfl,h,hr,.refl _ _ _⟩
attribute [simp] d3t
end
end Go.VM
end
