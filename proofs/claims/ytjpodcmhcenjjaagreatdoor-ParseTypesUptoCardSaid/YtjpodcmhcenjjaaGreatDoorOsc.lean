/- Lemmas that the law of this claim needs (ZF Ty Z4 Z3). No condition. -/
import Derived.Test.YtjpodcmhcenjjaaGreatDoorOsa
import Derived.Test.YtjpodcmhcenjjaaGreatDoorOsb
import Derived.ReadAgain
import Derived.ChangeSame
import Derived.OpenShut
import Derived.RowKit3
import Derived.KernelRfl
import Derived.Test.YtjpodcmhcenjjaaGreatDoorProg
set_option linter.unusedVariables false
set_option linter.unusedSimpArgs false
set_option linter.unusedSectionVars false
set_option maxRecDepth 100000
set_option maxHeartbeats 64000000
open Go.Proofs.Tryz
section
namespace Go.VM
open Go Go.RowKit
def WkT:List DV->List DV->Prop
 |[],[]=>True
 |d::ds,d'::ds'=>(d'=.undef\/d'=d\/(d=.d .aF/\d'=.d (.sl [])))/\WkT ds ds'
 |_,_=>False
def WkO:aW->aW->Prop
 | .cells cs,.cells uJ=>WkT cs uJ
 |o,o'=>o'=o
def WkH(H:List (Nat×aW)):List (Nat×aW)->Prop
 |[]=>True
 |(k,o')::r=>(∃o,getKey k H=some o/\WkO o o')/\WkH H r
def isNil(s:St):Loc->Bool
 | .t i=>match s.tmps[i]? with
  |some (.d .aF)=>true
  |_=>false
 | .c k off=>match getKey k s.H with
  |some (.cells cs)=>(match cs[off]? with
   |some (.d .aF)=>true
   |_=>false)
  |some (.bld _ u _)=> !u&&off==1
  |_=>false
def zW(c:TypeId×List Loc):List (TypeId×List Loc)->Option (List (TypeId×List Loc))
 |[]=>none
 |c0::r=>if c0.1=c.1/\(c.2.all λl=>c0.2.contains l)=true then some r else(zW c r).map (c0:: ·)
def b3R(s:St)(c:TypeId×List Loc):Bool:=
 match c.2 with
 |[]=>true
 |[l]=>isNil s l
 |_=>false
def a9a(s:St):List (TypeId×List Loc)->List (TypeId×List Loc)->Bool
 |_,[]=>true
 |own,c::r=>if b3R s c then a9a s own r else match zW c own with
  |some dM=>a9a s dM r
  |none=>false
def bC(H:List (Nat×aW))(own:List (TypeId×List Loc)):Bool:=own.all λc=>c.2.all λl=>match l with
 | .c k _=>(getKey k H).isSome
 |_=>true
structure uN (s s':St):Prop where
 tmps:WkT s.tmps s'.tmps
 H:WkH s.H s'.H
 own:a9a s s.own s'.own=true
 keys:bC s'.H s'.own=true
section
variable {P:Program} {G:GT} {st st':St}
variable {base:cT} {R:Nat->Nat->Prop} {μ:Nat->Nat} {a:Act} {w:World}
theorem yL:∀ {l l':List DV},WkT l l'->l'.length=l.length/\∀(i:Nat) (d':DV),l'[i]? =some d'->∃d,l[i]? =some d/\(d'=.undef\/d'=d\/(d=.d .aF/\d'=.d (.sl [])))
 |[],[],_=>by simp
 |[],_::_,h=>by simp[WkT]at h
 |_::_,[],h=>by simp[WkT]at h
 |d::l,d'::l',h=>by
  obtain⟨h1,h2⟩:=h;obtain⟨q1,q2⟩:=yL h2;refine⟨by simp[q1],λi x hx=>?_⟩;cases i with
  |zero=>simp at hx;subst hx;exact⟨d,rfl,h1⟩
  |succ i=>simp at hx;simpa using q2 i x hx
theorem c2t{H:List (Nat×aW)}:∀ {H':List (Nat×aW)},WkH H H'->∀(k:Nat) (o':aW),getKey k H'=some o'->∃o,getKey k H=some o/\WkO o o'
 |[],_,k,o',h=>by simp[getKey]at h
 |(k1,o1)::r,hw,k,o',h=>by
  obtain⟨⟨o,h1,h2⟩,h3⟩:=hw;unfold getKey at h;split at h
  .rename_i he;simp at h;subst he h;exact⟨o,h1,h2⟩
  .exact c2t h3 k o' h
theorem b3h{b:Nat}{o o':aW}(h:WkO o o')(hr:eN R μ w b o):eN R μ w b o':=by
 cases o with
 |cells cs=>
  cases o' with
  |cells uJ=>
   obtain⟨q1,q2⟩:=yL h;obtain⟨vs,T,h1,h2,h3,h4⟩:=hr;refine⟨vs,T,h1,by rw[h2,q1],λi d' hd'=>?_,λT' hm=>?_⟩
   .obtain⟨d,hd,hc⟩:=q2 i d' hd';obtain⟨p1,p2⟩:=h3 i d hd;rcases hc with rfl|rfl|⟨rfl,rfl⟩
    .exact⟨rfl,.undef _⟩
    .exact⟨p1,p2⟩
    .obtain⟨ao,he⟩:=p2.a7B.jQ;rw[he];exact⟨rfl,.d _ _ (.emp _ _)⟩
   .obtain⟨i,hi⟩:=f7Y hm;obtain⟨d,hd,hc⟩:=q2 i _ hi;rcases hc with hc|rfl|⟨_,hc⟩
    .cases hc
    .exact h4 T' (f7M hd)
    .cases hc
  |map es=>cases h
  |iter s p=>cases h
  |bld T u es=>cases h
 |map es=>cases o'<;>cases h;exact hr
 |iter s p=>cases o'<;>cases h;exact hr
 |bld T u es=>cases o'<;>cases h;exact hr
theorem a3j{c:TypeId×List Loc}:∀ {own dM:List (TypeId×List Loc)},zW c own=some dM->∃pre c0 post,own=pre++c0::post/\dM=pre++post/\c0.1=c.1/\∀l∈c.2,l∈c0.2
 |[],dM,h=>by simp[zW]at h
 |c0::r,dM,h=>by
  simp only[zW]at h;split at h
  .rename_i hc;simp at h;exact⟨[],c0,r,rfl,h.symm,hc.1,λl hl=>by have:=f7K.1 hc.2 l hl;simpa using this⟩
  .simp only[f7G]at h;obtain⟨r',hr,rfl⟩:=h;obtain⟨pre,c',post,h1,h2,h3,h4⟩:=a3j hr;exact⟨c0::pre,c',post,by simp[h1],by simp[h2],h3,h4⟩
structure c5U (P:Program) (base:cT) (R:Nat->Nat->Prop) (μ:Nat->Nat) (st:St) (a:Act) (w:World) (own:List (TypeId×List Loc)) (vs:List Value):Prop where
 len:vs.length=own.length
 one:∀(i:Nat) (c:TypeId×List Loc) (v:Value),own[i]? =some c->vs[i]? =some v->a3b P base R μ st a w c v
 apart:vs.Pairwise a3X
theorem a3X.symm{v v':Value}(h:a3X v v'):a3X v' v:=λg hg hg'=>h g hg' hg
theorem c5U.take{own dM:List (TypeId×List Loc)}{vs:List Value}{c:TypeId×List Loc}(h:c5U P base R μ st a w own vs)(ht:zW c own=some dM):
  ∃v vs1,a3b P base R μ st a w c v/\c5U P base R μ st a w dM vs1/\(∀x∈vs1,x∈vs)/\v∈vs/\∀x∈vs1,a3X v x:=by
 obtain⟨pre,c0,post,rfl,rfl,h3,h4⟩:=a3j ht;have hpl:pre.length<vs.length:=by rw[h.len];simp
 have c5H:vs=vs.take pre.length++vs[pre.length]::vs.drop (pre.length+1):=by rw[<-f7U hpl,List.take_append_drop]
 have hc:=h.one pre.length c0 vs[pre.length] (by simp) (f7L hpl);have yV:=h.apart;rw[c5H,List.pairwise_append,List.pairwise_cons]at yV;refine⟨vs[pre.length],vs.take pre.length++vs.drop (pre.length+1),⟨λl hl=>hc.dI l (h4 l hl),by rw[<-h3];exact hc.own,hc.keys⟩,⟨?_,λi c' v yU hv=>?_,?_⟩,λx hx=>?_,List.getElem_mem hpl,λx hx=>?_⟩
 .have:=h.len;simp at this|-;omega
 .by_cases hi:i<pre.length
  .refine h.one i c' v ?_ ?_
   .rw[f7S hi];simpa[f7S hi]using yU
   .rw[f7S (by simp;omega),List.getElem?_take]at hv;rw[if_pos hi]at hv;exact hv
  .refine h.one (i+1) c' v ?_ ?_
   .rw[f7P (by omega),show i+1-pre.length=(i-pre.length)+1 by omega,List.getElem?_cons_succ];simpa[f7P (Nat.le_of_not_lt hi)]using yU
   .have a3d:min pre.length vs.length=pre.length:=by omega
    rw[f7P (by simp;omega),f8a]at hv;simp only[List.length_take,a3d]at hv
    rwa[show pre.length+1+(i-pre.length)=i+1 by omega]at hv
 .rw[List.pairwise_append];exact⟨yV.1,yV.2.1.2,λx hx y hy=>yV.2.2 x hx y (.tail _ hy)⟩
 .simp only[List.mem_append]at hx;rcases hx with hx|hx
  .exact List.mem_of_mem_take hx
  .exact List.mem_of_mem_drop hx
 .simp only[List.mem_append]at hx;rcases hx with hx|hx
  .exact(yV.2.2 x hx vs[pre.length] (.head _)).symm
  .exact yV.2.1.1 x hx
theorem b7Y(hr:Rel P G base R μ st a w){l:Loc}(h:isNil st l=true){u:Value}(hu:cB a w μ l=some u):∃ao,u=.slice ao 0 0:=by
 cases l with
 |t i=>
  simp only[isNil]at h;split at h
  .rename_i hd;exact(hr.tmps i u _ hu hd).a7B.jQ
  .cases h
 |c k off=>
  simp only[isNil]at h;split at h
  .rename_i cs hk;split at h
   .rename_i hd;obtain⟨_,_,hob⟩:=hr.gY k _ hk;obtain⟨_,v,h1,h2⟩:=b0x.a4K hob off (.d .aF) hd;simp only[cB]at hu;rw[Nat.zero_add,hu]at h1;cases h1;exact h2.a7B.jQ
   .cases h
  .rename_i T u es hk;simp only[f7H,Bool.not_eq_true',beq_iff_eq]at h;obtain⟨rfl,rfl⟩:=h;obtain⟨_,_,v0,v1,T',q1,q2,_⟩:=hr.gY k _ hk;simp only[cB]at hu;rw[cell_of_row w _ _ _ T' (0,0) q1]at hu;have:=(q2 rfl).2;subst this;simp at hu;exact⟨none,hu.symm⟩
  .cases h
theorem a4Y(hr:Rel P G base R μ st a w):∀(dV own:List (TypeId×List Loc)) (vs:List Value),c5U P base R μ st a w own vs->a9a st own dV=true->
  ∃vs',c5U P base R μ st a w dV vs'/\∀v∈vs',bF v=none\/v∈vs
 |[],own,vs,_,_=>⟨[],⟨rfl,by simp,.nil⟩,by simp⟩
 |c::r,own,vs,h,hw=>by
  unfold a9a at hw;split at hw
  .rename_i hn;obtain⟨vs',h1,h2⟩:=a4Y hr r own vs h hw;have hex:∃v,a3b P base R μ st a w c v/\bF v=none:=by
    by_cases hx:∃l∈c.2,∃u,cB a w μ l=some u
    .obtain⟨l,hl,u,hu⟩:=hx;unfold b3R at hn;split at hn
     .rename_i he;rw[he]at hl;cases hl
     .rename_i l' he;rw[he]at hl;simp at hl;subst hl;obtain⟨ao,rfl⟩:=b7Y hr hn hu;have hs:bF (.slice ao 0 0)=none:=by cases ao<;>rfl
      exact⟨.slice ao 0 0,⟨λl2 hl2 u2 hu2=>by rw[he]at hl2;simp at hl2;subst hl2;rw[hu]at hu2;exact(Option.some.inj hu2).symm,.inl ⟨ao,rfl⟩,λk o _=>by rw[hs];simp⟩,hs⟩
     .cases hn
    .exact⟨.slice none 0 0,⟨λl hl u hu=>absurd ⟨l,hl,u,hu⟩ hx,.inl ⟨none,rfl⟩,λk o _=>by simp[bF]⟩,rfl⟩
   obtain⟨v,hv1,hv2⟩:=hex;refine⟨v::vs',⟨by simp[h1.len],λi c' u hc hu=>?_,List.pairwise_cons.2 ⟨λx _ g hg=>(by rw[hv2]at hg;cases hg),h1.apart⟩⟩,λx hx=>?_⟩
   .cases i with
    |zero=>simp at hc hu;subst hc hu;exact hv1
    |succ i=>simp at hc hu;exact h1.one i c' u hc hu
   .simp at hx;rcases hx with rfl|hx
    .exact .inl hv2
    .exact h2 x hx
  .split at hw
   .rename_i dM ht;obtain⟨v,vs1,q1,q2,q3,q4,q5⟩:=h.take ht;obtain⟨vs',h1,h2⟩:=a4Y hr r dM vs1 q2 hw;refine⟨v::vs',⟨by simp[h1.len],λi c' u hc hu=>?_,List.pairwise_cons.2 ⟨λx hx=>?_,h1.apart⟩⟩,λx hx=>?_⟩
    .cases i with
     |zero=>simp at hc hu;subst hc hu;exact q1
     |succ i=>simp at hc hu;exact h1.one i c' u hc hu
    .rcases h2 x hx with hs|hx'
     .exact λg _ hg'=>by rw[hs]at hg';cases hg'
     .exact q5 x hx'
    .simp at hx;rcases hx with rfl|hx
     .exact .inr q4
     .rcases h2 x hx with hs|hx'
      .exact .inl hs
      .exact .inr (q3 x hx')
   .cases hw
theorem Rel.a0H(hr:Rel P G base R μ st a w)(h:uN st st'):Rel P G base R μ st' a w:=by
 obtain⟨h1,h2⟩:=yL h.tmps;have h3:=c2t h.H;refine⟨hr.defers,by rw[hr.size,h1],λi v d' hv hd'=>?_,λk o' hk=>?_,λk k' o o' hk hk' he=>?_,λc hc k off hl=>?_,?_,hr.tQ,hr.pH,hr.base,hr.pass⟩
 .obtain⟨d,hd,hc⟩:=h2 i d' hd';have:=hr.tmps i v d hv hd;rcases hc with rfl|rfl|⟨rfl,rfl⟩
  .exact .undef _
  .exact this
  .obtain⟨ao,rfl⟩:=this.a7B.jQ;exact .d _ _ (.emp _ _)
 .obtain⟨o,ho,hw⟩:=h3 k o' hk;obtain⟨q1,q2,q3⟩:=hr.gY k o ho;exact⟨q1,q2,b3h hw q3⟩
 .obtain⟨o1,ho1,_⟩:=h3 k o hk;obtain⟨o2,ho2,_⟩:=h3 k' o' hk';exact hr.inj k k' o1 o2 ho1 ho2 he
 .have:=f7K.1 h.keys c hc;have:=f7K.1 this _ hl;exact Option.isSome_iff_exists.1 this
 .obtain⟨vs,rK⟩:=hr.own;obtain⟨vs',zS,_⟩:=a4Y hr st'.own st.own vs ⟨rK.len,rK.one,rK.apart⟩ h.own;refine⟨vs',zS.len,λi c v hc hv=>?_,zS.apart⟩;have ho:=zS.one i c v hc hv;exact⟨ho.dI,ho.own,λk o hk=>by obtain⟨o1,ho1,_⟩:=h3 k o hk;exact ho.keys k o1 ho1⟩
theorem SW.a0H{c:Code}{Q:Exit->St->Prop}(h:uN st st')(hw:SW P G c st' Q):SW P G c st Q:=λbase R μ a w hr=>hw base R μ a w (hr.a0H h)
theorem SW.loop{ι:Type}{c:Code}{Q:Exit->St->Prop}(I:ι->St)(m:ι->Nat)(x0:ι)(h0:uN st (I x0))(round:∀x,VW P G c (I x) λe s=>match e with
   | .normal=>∃y,uN s (I y)/\m y<m x
   |e=>Q e s):SW P G (.loop c) st Q:=by
 intro base R μ a w hr;refine wp_loop_ghost (λn a1 w1=>∃x R1 μ1,m x=n/\Rel P G base R1 μ1 (I x) a1 w1/\Step base R w R1 w1) (m x0) ⟨x0,R,μ,rfl,hr.a0H h0,.refl _ _ _⟩ ?_;rintro n a1 w1 ⟨x,R1,μ1,rfl,hr1,hs1⟩;refine wp_mono (a4f c (I x) _ (round x) base R1 μ1 a1 w1 hr1) λe a2 w2 ⟨s,R2,μ2,q,zC,hs2⟩=>?_;cases e with
 |normal=>obtain⟨y,hy,aE⟩:=q;exact⟨m y,aE,y,R2,μ2,rfl,zC.a0H hy,hs1.trans hs2⟩
 |_=>exact⟨s,R2,μ2,q,zC,hs1.trans hs2⟩
inductive WkD:D->D->Prop
 |refl (d:D):WkD d d
 |aF:WkD .aF (.sl [])
 |agg (cs uJ:List D):cs.length=uJ.length->(∀(i:Nat) (d d':D),cs[i]? =some d->uJ[i]? =some d'->WkD d d')->WkD (.agg cs) (.agg uJ)
 |sl (es es':List (List D)):es.length=es'.length->(∀(i:Nat) (e e':List D),es[i]? =some e->es'[i]? =some e'->e.length=e'.length)->
   (∀(i j:Nat) (e e':List D) (d d':D),es[i]? =some e->es'[i]? =some e'->e[j]? =some d->e'[j]? =some d'->WkD d d')->WkD (.sl es) (.sl es')
def WkL(l l':List D):Prop:=l.length=l'.length/\∀(i:Nat) (d d':D),l[i]? =some d->l'[i]? =some d'->WkD d d'
def d7n(l l':List (List D)):Prop:=l.length=l'.length/\∀(i:Nat) (d d':List D),l[i]? =some d->l'[i]? =some d'->WkL d d'
theorem d2h(a b:D)(l l':List D):WkL (a::l) (b::l')=(WkD a b/\WkL l l'):=by
 apply propext;constructor
 .rintro⟨h1,h2⟩;exact⟨h2 0 a b rfl rfl,by simpa using h1,λi d d' q q'=>h2 (i+1) d d' q q'⟩
 .rintro⟨h0,h1,h2⟩;refine⟨by simp[h1],λi d d' q q'=>?_⟩;cases i with
  |zero=>simp at q q';subst q q';exact h0
  |succ i=>exact h2 i d d' q q'
theorem b3T(l:List D):WkL l l=True:=by simp only[WkL,eq_iff_iff,iff_true];exact⟨trivial,λi d d' h h'=>by rw[h]at h';cases h';exact .refl _⟩
theorem b8a(l:List (List D)):d7n l l=True:=by simp only[d7n,eq_iff_iff,iff_true];exact⟨trivial,λi d d' h h'=>by rw[h]at h';cases h';rw[b3T];trivial⟩
theorem d2i(d:D):WkD d d=True:=by simp[WkD.refl]
theorem d2j:WkD .aF (.sl [])=True:=by simp[WkD.aF]
theorem d7o(cs uJ:List D):WkD (.agg cs) (.agg uJ)=WkL cs uJ:=by
 apply propext;constructor
 .intro h;cases h with
  |refl=>rw[b3T];trivial
  |agg _ _ h1 h2=>exact⟨h1,h2⟩
 .rintro⟨h1,h2⟩;exact .agg _ _ h1 h2
theorem e2O(cs uJ:List (List D)):WkD (.sl cs) (.sl uJ)=d7n cs uJ:=by
 apply propext;constructor
 .intro h;cases h with
  |refl=>rw[b8a];trivial
  |sl _ _ h1 h2 h3=>exact⟨h1,λi e e' q q'=>⟨h2 i e e' q q',λj d d' p p'=>h3 i j e e' d d' q q' p p'⟩⟩
 .rintro⟨h1,h2⟩;exact .sl _ _ h1 (λi e e' q q'=>(h2 i e e' q q').1) (λi j e e' d d' q q' p p'=>(h2 i e e' q q').2 j d d' p p')
theorem d7p(k k':IntKind)(n n':Int):WkD (.int k n) (.int k' n')=(k=k'/\n=n'):=by
 apply propext;constructor
 .intro h;cases h;exact⟨rfl,rfl⟩
 .rintro⟨rfl,rfl⟩;exact .refl _
theorem d2k(a b:Bool):WkD (.bool a) (.bool b)=(a=b):=by
 apply propext;constructor
 .intro h;cases h;rfl
 .rintro rfl;exact .refl _
theorem WkD.one{d d':D}(h:WkD d d'):d'.one=d.one:=by cases h<;>rfl
theorem V.wk{R:Nat->Nat->Prop}{w:World}{v:Value}{d:D}(h:V R w v d):∀ {d':D},WkD d d'->V R w v d':=by
 induction h with
 |int k n=>intro d' hd;cases hd;exact .int k n
 |bool b=>intro d' hd;cases hd;exact .bool b
 |str s=>intro d' hd;cases hd;exact .str s
 |aF ao=>
  intro d' hd;cases hd with
  |refl=>exact .aF ao
  |aF=>exact .emp ao 0
 |emp ao cap=>
  intro d' hd;cases hd with
  |refl=>exact .emp ao cap
  |sl _ es' h1 _ _=>have:es'=[]:=List.eq_nil_of_length_eq_zero (by simpa using h1.symm);subst this;exact .emp ao cap
 |sl b o n cap size es f h1 h2 h3 h4 h5 h6 h7 ih=>
  intro d' hd;cases hd with
  |refl=>exact .sl b o n cap size es f h1 h2 h3 h4 h5 h6 h7
  |sl _ es' q1 q2 q3=>
   have pre:∀(i:Nat) (e':List D),es'[i]? =some e'->∃e,es[i]? =some e:=λi e' he'=>by have hi:i<es'.length:=(f7I.1 he').1;exact⟨es[i]'(by omega),f7L (by omega)⟩
   have e7r:∀(i j:Nat) (e':List D) (d':D),es'[i]? =some e'->e'[j]? =some d'->∃e d,es[i]? =some e/\e[j]? =some d/\WkD d d':=λi j e' d' he' hd'=>by obtain⟨e,he⟩:=pre i e' he';have hl:=q2 i e e' he he';have hj:j<e'.length:=(f7I.1 hd').1;have hjd:e[j]? =some (e[j]'(by omega)):=f7L (by omega);exact⟨e,_,he,hjd,q3 i j e e' _ d' he he' hjd hd'⟩
   refine .sl b o n cap size es' f (by omega) h2 h3 (λe' he'=>?_) h5 (λi j e' d' he' hd'=>?_) (λi j e' d' he' hd'=>?_)
   .obtain⟨i,hi⟩:=f7Y he';obtain⟨e,he⟩:=pre i e' hi;rw[<-q2 i e e' he hi];exact h4 e (f7M he)
   .obtain⟨e,d,he,hd,hw⟩:=e7r i j e' d' he' hd';rw[hw.one];exact h6 i j e d he hd
   .obtain⟨e,d,he,hd,hw⟩:=e7r i j e' d' he' hd';exact ih i j e d he hd hw
 |agg cs ds h1 h2 h3 ih=>
  intro d' hd;cases hd with
  |refl=>exact .agg cs ds h1 h2 h3
  |agg _ ds' q1 q2=>
   have pre:∀(i:Nat) (d':D),ds'[i]? =some d'->∃d,ds[i]? =some d/\WkD d d':=λi d' he'=>by have hi:i<ds'.length:=(f7I.1 he').1;have h:=f7L (l:=ds) (i:=i) (by omega);exact⟨_,h,q2 i _ d' h he'⟩
   refine .agg cs ds' (by omega) (λi d' hd'=>?_) (λi d' hd'=>?_)
   .obtain⟨d,hd,hw⟩:=pre i d' hd';rw[hw.one];exact h2 i d hd
   .obtain⟨d,hd,hw⟩:=pre i d' hd';exact ih i d hd hw
def a7N:DV->DV->Prop
 | .d x,.d y=>WkD x y
 | .bY l,.bY l'=>WkL l l'
 |a,b=>a=b
theorem TV.wk{R:Nat->Nat->Prop}{μ:Nat->Nat}{w:World}{v:Value}{r r':DV}(h:TV R μ w v r)(hw:a7N r r'):TV R μ w v r':=by
 cases r<;>cases r'<;>simp only[a7N]at hw<;>try (cases hw;done)
 case d.d x y=>cases h with|d _ _ hv=>exact .d _ _ (hv.wk hw)
 case bY.bY l l'=>
  cases h with
  |bY vs _ h1 h2=>refine .bY vs l' (by rw[h1,hw.1]) λi d' hd'=>?_;have hi:i<l'.length:=(f7I.1 hd').1;have hg:=f7L (l:=l) (i:=i) (by rw[hw.1];exact hi);exact(h2 i _ hg).wk (hw.2 i _ d' hg hd')
 all_goals (cases hw;exact h)
theorem CS.args{f:FuncId}{ds ds':List D}{r:DV}{own:Option TypeId}(h:CS P G f ds' r own)(hd:WkL ds ds'):CS P G f ds r own:=λw R args hg hR hl hv=>h w R args hg hR (by rw[hl,hd.1]) λi d' hd'=>by have hi:i<ds'.length:=(f7I.1 hd').1;have hgt:=f7L (l:=ds) (i:=i) (by rw[hd.1];exact hi);exact(hv i _ hgt).wk (hd.2 i _ d' hgt hd')
theorem CS.res{f:FuncId}{ds:List D}{r r':DV}{own:Option TypeId}(h:CS P G f ds r' own)(hd:a7N r' r):CS P G f ds r own:=λw R args hg hR hl hv=>(h w R args hg hR hl hv).mono λ_ _ ⟨v,R',h1,h2,h3⟩=>⟨v,R',h1,λμ=>(h2 μ).wk hd,h3⟩
def a0I(ds:List D)(n:Nat):St:=⟨ds.map .d++List.replicate (n-ds.length) (.bY []),[],[]⟩
def d2l(P:Program)(s:St):ResultVar->Option D
 | .tmp i=>isD (s.tmps.getD i (.bY []))
 | .cell p ty=>match s.tmps.getD p (.bY [])with
  | .ptr k off=>(match getKey k s.H with
   |some (.cells cs)=>(b1o P ty (cs.drop off)).bind isD
   |_=>none)
  |_=>none
def a4Z(P:Program)(s:St):List ResultVar->Option (List D)
 |[]=>some []
 |r::l=>match d2l P s r,a4Z P s l with
  |some x,some ds=>some (x::ds)
  |_,_=>none
def c9m(P:Program)(s:St)(rs:List ResultVar):Option DV:=
 match a4Z P s rs with
 |some [x]=>some (.d x)
 |some ds=>some (.bY ds)
 |none=>none
def d7q(s:St)(rs:List ResultVar):Option TypeId:=
 match rs with
 |[.tmp i]=>(match s.tmps.getD i (.bY [])with
  | .d (.sl _)=>(gC (.t i) s.own).map (·.1)
  |_=>none)
 |_=>none
def b0F(tmps:Array Value):ResultVar->Sem Value
 | .tmp t=>pure (tmps.getD t undef)
 | .cell p t=>do loadVar t (<-asAddr (tmps.getD p undef))
theorem a7O(fn:Func)(tmps:Array Value):results fn tmps=(do let vs <- fn.results.mapM (b0F tmps);pure (if h:vs.size=1 then vs[0] else .tuple vs)):=by unfold results;congr 1
theorem d7r(hr:Rel P G base R μ st a w){r:ResultVar}{x:D}(h:d2l P st r=some x):∃v,(b0F a.tmps r).run P w=.ok v w/\V R w v x:=by
 cases r with
 |tmp i=>simp only[d2l]at h;have he:=hr.eval (.tmp i);simp only[St.eval,Act.eval]at he;unfold isD at h;split at h<;>simp at h;rename_i y hy;subst h;rw[hy]at he;exact⟨_,rfl,he.a7B⟩
 |cell p ty=>
  simp only[d2l]at h;have he:=hr.eval (.tmp p);simp only[St.eval,Act.eval]at he;split at h
  .rename_i k off hp;split at h
   .rename_i cs hk;rw[hp]at he;obtain⟨_,_,hob⟩:=hr.gY k _ hk;have cZ:=(b0x.a4K hob).drop off;rw[Nat.zero_add]at cZ;obtain⟨y,hy,hx⟩:=f7V.1 h;obtain⟨v,h1,h2,_⟩:=wW (P:=P) cZ hy;have hyd:y=.d x:=by
     unfold isD at hx;split at hx
     .cases hx;rfl
     .cases hx
    subst hyd;refine⟨v,?_,h2.a7B⟩;unfold b0F;simp only;rw[he.b9u];simp only[asAddr,Sem.run_bind,Sem.run_pure,Result.andThen_ok,h1]
   .cases h
  .cases h
theorem b3U(hr:Rel P G base R μ st a w):∀ {l:List ResultVar} {ds:List D},a4Z P st l=some ds->
  ∃vs,(l.mapM (b0F a.tmps)).run P w=.ok vs w/\vs.length=ds.length/\∀(i:Nat) (d:D),ds[i]? =some d->V R w (vs.getD i undef) d
 |[],ds,h=>by simp[a4Z]at h;subst h;exact⟨[],by simp,rfl,by simp⟩
 |r::l,ds,h=>by
  simp only[a4Z]at h;split at h<;>simp at h;rename_i x ds' hx hds;subst h;obtain⟨v,h1,h2⟩:=d7r hr hx;obtain⟨vs,q1,q2,q3⟩:=b3U hr hds;refine⟨v::vs,?_,by simp[q2],λi d hi=>?_⟩
  .simp only[List.mapM_cons,Sem.run_bind,h1,Result.andThen_ok,q1,Sem.run_pure]
  .cases i with
   |zero=>simp at hi;subst hi;exact h2
   |succ i=>simp at hi;simpa using q3 i d hi
theorem c7R(hr:Rel P G base R μ st a w){fn:Func}{r:DV}(h:c9m P st fn.results.toList=some r):∃v,(results fn a.tmps).run P w=.ok v w/\(∀μ',TV R μ' w v r):=by
 unfold c9m at h;cases hds:a4Z P st fn.results.toList with
 |none=>simp[hds]at h
 |some ds=>
  obtain⟨vs,h1,h2,h3⟩:=b3U hr hds;have cZ:(results fn a.tmps).run P w=.ok (if h:vs.toArray.size=1 then vs.toArray[0] else .tuple vs.toArray) w:=by rw[a7O,Array.mapM_eq_mapM_toList];simp only[Sem.run_bind,Sem.run_map,h1,Result.andThen_ok,Sem.run_pure]
  refine⟨_,cZ,λμ'=>?_⟩;have bY:∀(ds:List D),vs.length=ds.length->(∀(i:Nat) (d:D),ds[i]? =some d->V R w (vs.getD i undef) d)->TV R μ' w (.tuple vs.toArray) (.bY ds):=λds hl hv=>.bY _ _ (by simpa using hl) (λi d hi=>by have:=hv i d hi;simpa[f7J,List.getD]using this)
  rw[hds]at h
  match ds,h2,h3,h with
  |[],h2,h3,h=>simp at h;subst h;rw[dif_neg (by simp at h2;simp[h2])];exact bY [] h2 h3
  |[x],h2,h3,h=>
   simp at h;subst h
   match vs,h2,h3 with
   |[v],_,h3=>exact .d _ _ (by simpa using h3 0 x rfl)
  |x::y::l,h2,h3,h=>simp at h;subst h;rw[dif_neg (by simp at h2;simp[h2])];exact bY _ h2 h3
theorem d7s(hr:Rel P G base R μ st a w){fn:Func}{e:TypeId}(h:d7q st fn.results.toList=some e){v:Value}(hv:(results fn a.tmps).run P w=.ok v w):pG P base R w e v:=by
 unfold d7q at h;split at h
 .rename_i i hrs;split at h
  .rename_i es hd;simp only[f7G]at h;obtain⟨⟨e',dV⟩,ht,rfl⟩:=h;obtain⟨_,v0,_,hv0,kJ,_⟩:=hr.gC ht;have hs:i<a.tmps.size:=by
    rw[hr.size];by_cases aE:i<st.tmps.length
    .exact aE
    .simp[List.getD,List.getElem?_eq_none (Nat.le_of_not_lt aE)]at hd
   have hv1:v=a.tmps.getD i undef:=by
    have d2m:fn.results=#[.tmp i]:=by apply Array.ext';simpa using hrs
    rw[results_tmp d2m a.tmps P w]at hv;exact(by cases hv;rfl)
   rw[hv1,hv0 (a.tmps.getD i undef) (by simp[cB,hs])];exact kJ
  .cases h
 .cases h
def c2u(x:Option DV)(r:DV):Prop:=match x with
 |some r0=>a7N r0 r
 |none=>False
theorem b3V{x:Option DV}{r:DV}(h:c2u x r):∃r0,x=some r0/\a7N r0 r:=by
 cases x with
 |none=>cases h
 |some r0=>exact⟨r0,rfl,h⟩
def c2v(s:St)(rs:List ResultVar):Option TypeId->Prop
 |none=>True
 |some e=>d7q s rs=some e\/(match rs with
  |[.tmp i]=>(match s.tmps.getD i (.bY [])with
   | .d .aF=>True
   |_=>False)
  |_=>False)
theorem c2w(hr:Rel P G base R μ st a w){fn:Func}{e:TypeId}(h:c2v st fn.results.toList (some e)){v:Value}(hv:(results fn a.tmps).run P w=.ok v w):pG P base R w e v:=by
 rcases h with h|h
 .exact d7s hr h hv
 .split at h
  .rename_i i hrs;split at h
   .rename_i hd;have d2m:fn.results=#[.tmp i]:=by apply Array.ext';simpa using hrs
    rw[results_tmp d2m a.tmps P w]at hv;cases hv;have he:=hr.eval (.tmp i);simp only[St.eval,Act.eval,hd]at he;obtain⟨ao,h0⟩:=he.a7B.jQ;exact .inl ⟨ao,h0⟩
   .cases h
  .cases h
theorem Rel.init(fn:Func){ds:List D}{w:World}{R:Nat->Nat->Prop}{args:Array Value}(hg:a6I G (yY w.heap.size) R w)(hR:∀b o,R b o->b<w.heap.size)(hl:args.size=ds.length)(hv:∀(i:Nat) (d:D),ds[i]? =some d->V R w (args.getD i undef) d):
  Rel P G (yY w.heap.size) R (λ_=>0) (a0I ds fn.ntmps) {tmps:=args++Array.replicate (fn.ntmps-args.size) undef,defers:=[]} w:=by
 refine⟨rfl,by simp[a0I,hl],λi v d hiv hid=>?_,λk o hk=>by simp[a0I,getKey]at hk,λk k' o o' hk=>by simp[a0I,getKey]at hk,λc hc=>by simp[a0I]at hc,⟨[],rfl,λi c v hc=>by simp[a0I]at hc,.nil⟩,hg,hR,λ_ h=>h,λ_ _=>rfl⟩;simp only[a0I]at hid;by_cases hi:i<ds.length
 .rw[f7S (by simpa using hi),f7R,f7L hi]at hid;simp at hid;subst hid;have:=hv i ds[i] (f7L hi);rw[Array.getElem?_append_left (by omega)]at hiv;have hg:args.getD i undef=v:=by simp[f7J,hiv]
  rw[hg]at this;exact .d _ _ this
 .rw[f7P (by simp;omega),List.getElem?_replicate]at hid;split at hid<;>simp at hid;subst hid;rw[Array.getElem?_append_right (by omega),Array.getElem?_replicate]at hiv;split at hiv<;>simp at hiv;subst hiv;exact .bY #[] [] rfl (by simp)
theorem CS.e7s{f:FuncId}{fn:Func}{c:Code}{n:Nat}{ds:List D}{r:DV}{own:Option TypeId}(hf:P.funcs[f]? =some fn)(hb:fn.body=some c)(hn:fn.ntmps=n)(h:VW P G c (a0I ds n) λe s=>(e=.normal\/e=.ret)/\c2u (c9m P s fn.results.toList) r/\c2v s fn.results.toList own):CS P G f ds r own:=by
 intro w R args hg hR hl hv;refine calls_of_wp hf hb ?_;have kU:=Rel.init (P:=P) (G:=G) fn hg hR hl hv;rw[<-hn]at h;refine wp_mono (a4f c _ _ h (yY w.heap.size) R _ _ w kU) λe a' w' ⟨s,R',μ',⟨he,hZ,kJ⟩,eM,hs⟩=>?_;obtain⟨r0,hZ,hwk⟩:=b3V hZ;obtain⟨v,hv1,hv2⟩:=c7R eM hZ;have a5a:a'.defers=[]/\∃v,(results fn a'.tmps).run P w'=.ok v w'/\∃v' R',Ending.returned v=.returned v'/\(∀μ,TV R' μ w' v' r)/\Step (yY w.heap.size) R w R' w'/\(∀b o,R' b o->b<w'.heap.size)/\(∀e,own=some e->pG P (yY w.heap.size) R' w' e v'):=
  ⟨eM.defers,v,hv1,v,R',rfl,λμ=>(hv2 μ).wk hwk,hs,eM.pH,λe he'=>by subst he';exact c2w eM kJ hv1⟩
 rcases he with rfl|rfl
 .exact a5a
 .exact a5a
theorem Enters.mk{f:FuncId}{fn:Func}(hf:P.funcs[f]? =some fn)(h:(fn.body.isNone==false&&(fn.name== "runtime.NumGoroutine")==false)=true):Enters P f:=by
 simp only[f7H,beq_iff_eq]at h;exact⟨fn,hf,h.1,h.2⟩
end
inductive KI where
 |code (c:Code)
 |blk (id:Nat)
 |ops (q:Bool) (all:Array Oper) (rest:List Oper)
 |scp
def VK(P:Program)(G:GT):List KI->Exit->St->(Exit->St->Prop)->Prop
 |[],e,st,Q=>Q e st
 | .code c::k,.normal,st,Q=>VW P G c st λe s=>VK P G k e s Q
 | .code _::k,e,st,Q=>VK P G k e st Q
 | .blk id::k,.exit id',st,Q=>if id'=id then VK P G k .normal st Q else VK P G k (.exit id') st Q
 | .blk _::k,e,st,Q=>VK P G k e st Q
 | .ops q all rest::k,.normal,st,Q=>uL P G q all rest st λs=>VK P G k .normal s Q
 | .ops _ _ _::k,e,st,Q=>VK P G k e st Q
 | .scp::_,.goto _,_,_=>False
 | .scp::k,e,st,Q=>VK P G k e st Q
def c2x(P:Program)(G:GT)(v:DV)(x y:Code)(k:List KI)(st:St)(Q:Exit->St->Prop):Prop:=
 match v with
 | .d (.bool t)=>if t then VK P G (.code x::k) .normal st Q else VK P G (.code y::k) .normal st Q
 | .oY=>VK P G (.code x::k) .normal st Q/\VK P G (.code y::k) .normal st Q
 |_=>False
section
variable {P:Program} {G:GT} {k:List KI} {st:St} {Q:Exit->St->Prop}
theorem e2P(e:Exit):VK P G [] e st Q=Q e st:=rfl
theorem d7t:VK P G (.code .skip::k) .normal st Q=VK P G k .normal st Q:=rfl
theorem e2Q(x y:Code):VK P G (.code (.seq x y)::k) .normal st Q=VK P G (.code x::.code y::k) .normal st Q:=by simp only[VK,VW];congr 1;funext e s;cases e<;>rfl
theorem d7u(c:Operand)(x y:Code):VK P G (.code (.cond c x y)::k) .normal st Q=c2x P G (st.eval G c) x y k st Q:=rfl
theorem d2n(id:Nat)(c:Code):VK P G (.code (.block id c)::k) .normal st Q=VK P G (.code c::.blk id::k) .normal st Q:=by simp only[VK,VW];congr 1;funext e s;cases e<;>rfl
theorem d2o(l:Nat):VK P G (.code (.label l)::k) .normal st Q=VK P G k .normal st Q:=rfl
theorem b6Q:VK P G (.scp::k) .normal st Q=VK P G k .normal st Q:=rfl
theorem c5V:VK P G (.scp::k) .ret st Q=VK P G k .ret st Q:=rfl
theorem c2y(id:Nat):VK P G (.scp::k) (.exit id) st Q=VK P G k (.exit id) st Q:=rfl
theorem c9n(id:Nat)(ops:Array Oper):VK P G (.code (.region id ops false)::k) .normal st Q=VK P G (.ops false ops ops.toList::k) .normal st Q:=by simp only[VK,VW];simp
def kL(P:Program)(ops:Array Oper):Prop:=P.follows .mixedOrders=true/\d2a ops=true
theorem kL.mk{ops:Array Oper}(h:(P.follows .mixedOrders&&d2a ops)=true):kL P ops:=by simpa[kL]using h
theorem d2p(id:Nat)(ops:Array Oper):VK P G (.code (.region id ops true)::k) .normal st Q=(kL P ops/\b0E ops st=true/\VK P G (.ops true ops ops.toList::k) .normal st Q):=by simp only[VK,VW,kL];simp[and_assoc]
theorem d7v(id:Nat):VK P G (.code (.exit id)::k) .normal st Q=VK P G k (.exit id) st Q:=rfl
theorem e2R:VK P G (.code .ret::k) .normal st Q=VK P G k .ret st Q:=rfl
theorem d7w(c:Code):VK P G (.code (.loop c)::k) .normal st Q=SW P G (.loop c) st (λe s=>VK P G k e s Q):=rfl
theorem c2z(c:Code):VK P G (.code c::k) .ret st Q=VK P G k .ret st Q:=rfl
theorem b9I(c:Code)(id:Nat):VK P G (.code c::k) (.exit id) st Q=VK P G k (.exit id) st Q:=rfl
theorem b6R(id:Nat):VK P G (.blk id::k) .normal st Q=VK P G k .normal st Q:=rfl
theorem c5W(id:Nat):VK P G (.blk id::k) .ret st Q=VK P G k .ret st Q:=rfl
theorem c2A(id id':Nat):VK P G (.blk id::k) (.exit id') st Q=if id'=id then VK P G k .normal st Q else VK P G k (.exit id') st Q:=rfl
theorem c5X(q:Bool)(all:Array Oper):VK P G (.ops q all []::k) .normal st Q=VK P G k .normal st Q:=rfl
def aD(P:Program)(G:GT)(q ro qn:Bool)(f:FuncId)(ds:List D)(ls:List (Option Loc))(dst:Option Tmp)(all:Array Oper)(rest:List Oper)(k:List KI)(st:St)(Q:Exit->St->Prop):Prop:=
 (∃r own,(Enters P f/\CS P G f ds r own)/\(q=true->oG r=true)/\VK P G (.ops q all rest::k) .normal (finish st dst r (if qn then .no else a4R own)) Q)\/
 (ro=false/\∃s',(Enters P f/\mA P G f (ds.map .d) ls st dst s')/\VK P G (.ops q all rest::k) .normal s' Q)
theorem aD.mk{q ro qn:Bool}{ls:List (Option Loc)}{f:FuncId}{ds:List D}{r:DV}{own:Option TypeId}{dst:Option Tmp}{all:Array Oper}{rest:List Oper}(he:Enters P f)(hc:CS P G f ds r own)(h:VK P G (.ops q all rest::k) .normal (finish st dst r (if qn then .no else a4R own)) Q)(hkl:oG r=true:=by rfl):aD P G q ro qn f ds ls dst all rest k st Q:=.inl ⟨r,own,⟨he,hc⟩,λ_=>hkl,h⟩
def b8b(P:Program)(G:GT)(q:Bool)(x:Option Out)(dst:Option Tmp)(all:Array Oper)(rest:List Oper)(k:List KI)(Q:Exit->St->Prop):Prop:=
 match x with
 |some out=>VK P G (.ops q all rest::k) .normal (finish out.st dst out.v out.act) Q
 |none=>False
theorem c5Y{q:Bool}{st':St}{v:DV}{act:OA}{dst:Option Tmp}{all:Array Oper}{rest:List Oper}:b8b P G q (some ⟨v,act,st'⟩) dst all rest k Q=VK P G (.ops q all rest::k) .normal (finish st' dst v act) Q:=rfl
theorem c5Z(x y:Code):c2x P G (.d (.bool true)) x y k st Q=VK P G (.code x::k) .normal st Q:=rfl
theorem c9o(x y:Code):c2x P G .oY x y k st Q=(VK P G (.code x::k) .normal st Q/\VK P G (.code y::k) .normal st Q):=rfl
theorem c2B(x y:Code):c2x P G (.d (.bool false)) x y k st Q=VK P G (.code y::k) .normal st Q:=rfl
def eY(P:Program)(G:GT)(q ro:Bool)(f:FuncId)(f7F:List DV)(ls:List (Option Loc))(dst:Option Tmp)(all:Array Oper)(rest:List Oper)(k:List KI)(st:St)(Q:Exit->St->Prop):Prop:=
 a1A P G ro f f7F ls dst st λs=>VK P G (.ops q all rest::k) .normal s Q
def b1C(P:Program)(G:GT)(q:Bool)(o:Oper)(all:Array Oper)(rest:List Oper)(k:List KI)(st:St)(Q:Exit->St->Prop):Prop:=
 match mZ G o st with
 |some (f,ds)=>aD P G q (rU q all o) (q&& !tH all o) f ds (kI o) o.dst all rest k st Q
 |none=>
  match eB G o st with
  |some (f,f7F)=>eY P G q (rU q all o) f f7F (kI o) o.dst all rest k st Q
  |none=>b8b P G q ((mH P G o st).map λout=>⟨out.v,a8U q all o out.v out.act,out.st⟩) o.dst all rest k Q
def a3k(P:Program)(G:GT)(q:Bool)(y:DV)(want:Bool)(o:Oper)(all:Array Oper)(rest:List Oper)(k:List KI)(st:St)(Q:Exit->St->Prop):Prop:=
 match y with
 | .undef=>False
 | .oY=>False
 | .d (.bool b)=>if b=want then b1C P G q o all rest k st Q else VK P G (.ops q all rest::k) .normal (finish st o.dst (.bY []) .no) Q
 |_=>VK P G (.ops q all rest::k) .normal (finish st o.dst (.bY []) .no) Q
theorem a1C(q:Bool)(b want:Bool)(o:Oper)(all:Array Oper)(rest:List Oper):a3k P G q (.d (.bool b)) want o all rest k st Q=if b=want then b1C P G q o all rest k st Q else VK P G (.ops q all rest::k) .normal (finish st o.dst (.bY []) .no) Q:=rfl
theorem c6a(q:Bool)(ds:List D)(want:Bool)(o:Oper)(all:Array Oper)(rest:List Oper):a3k P G q (.bY ds) want o all rest k st Q=VK P G (.ops q all rest::k) .normal (finish st o.dst (.bY []) .no) Q:=rfl
theorem b1D(q:Bool)(all:Array Oper)(o:Oper)(rest:List Oper):VK P G (.ops q all (o::rest)::k) .normal st Q=match eR o all st.tmps with
  |some true=>b1C P G q o all rest k st Q
  |some false=>VK P G (.ops q all rest::k) .normal (finish st o.dst (.bY []) .no) Q
  |none=>False:=by
 simp only[VK,uL,pA,b1C,aD,eY,b8b];split<;>rename_i hw<;>(try simp only[hw]);split<;>rename_i hc<;>(try simp only[hc]);generalize eB G o st=x;cases x with
 |some p=>rfl
 |none=>cases mH P G o st<;>rfl
theorem c2C(q:Bool)(all:Array Oper)(dst:Option Tmp)(op:Op)(ty:TypeId)(pos:String)(after:Array Edge)(rest:List Oper):
  VK P G (.ops q all (⟨dst,op,ty,pos,after,none⟩::rest)::k) .normal st Q=b1C P G q ⟨dst,op,ty,pos,after,none⟩ all rest k st Q:=by
 rw[b1D]
 rfl
theorem b9J(q:Bool)(all:Array Oper)(dst:Option Tmp)(op:Op)(ty:TypeId)(pos:String)(after:Array Edge)(j:Nat)(want:Bool)(rest:List Oper):
  VK P G (.ops q all (⟨dst,op,ty,pos,after,some (j,want)⟩::rest)::k) .normal st Q=a3k P G q (tP all st.tmps j) want ⟨dst,op,ty,pos,after,some (j,want)⟩ all rest k st Q:=by
 rw[b1D];simp only[eR,a3k];generalize tP all st.tmps j=y;cases y with
 |d x=>
  cases x with
  |bool b=>cases b<;>cases want<;>rfl
  |_=>rfl
 |_=>rfl
theorem CS.aR{f:FuncId}{fn:Func}{c:Code}{n:Nat}{ds:List D}{r:DV}{own:Option TypeId}(hf:P.funcs[f]? =some fn)(hb:fn.body=some c)(hn:fn.ntmps=n){rs:List ResultVar}(hrs:fn.results.toList=rs)(h:VK P G [.code c] .normal (a0I ds n) λe s=>(e=.normal\/e=.ret)/\c2u (c9m P s rs) r/\c2v s rs own):CS P G f ds r own:=by subst hrs;exact CS.e7s hf hb hn h
theorem eY.mk'{q ro:Bool}{ls:List (Option Loc)}{f:FuncId}{f7F:List DV}{dst:Option Tmp}{all:Array Oper}{rest:List Oper}(h:∃s',(Enters P f/\mA P G f f7F ls st dst s')/\VK P G (.ops q all rest::k) .normal s' Q)(hro:ro=false):eY P G q ro f f7F ls dst all rest k st Q:=by subst hro;exact h
theorem aD.dV{q ro qn:Bool}{ls:List (Option Loc)}{f:FuncId}{ds:List D}{dst:Option Tmp}{all:Array Oper}{rest:List Oper}(h:∃s',(Enters P f/\mA P G f (ds.map .d) ls st dst s')/\VK P G (.ops q all rest::k) .normal s' Q)(hro:ro=false):aD P G q ro qn f ds ls dst all rest k st Q:=.inr ⟨hro,h⟩
theorem eY.ro'{q ro:Bool}{ls:List (Option Loc)}{f:FuncId}{f7F:List DV}{dst:Option Tmp}{all:Array Oper}{rest:List Oper}{d:DV}{ks:List Nat}(he:Enters P f)(hr:RO P G f f7F ks st.H d)(hn:kW ks st.own=true)(hks:(ks.all λk=>(getKey k st.H).isSome)=true)(hkl:oG d=true)(h:VK P G (.ops q all rest::k) .normal (finish st dst d .no) Q):eY P G q ro f f7F ls dst all rest k st Q:=by
 cases ro
 .exact⟨_,⟨he,hr st (λ_ _=>rfl) hn dst ls⟩,h⟩
 .exact⟨d,ks,⟨he,hr,hn,hks,hkl⟩,h⟩
theorem c2D{c:Code}(h:VK P G [.code c] .normal st Q):VW P G c st Q:=h
theorem SW.e7t{ι:Type}{c:Code}(I:ι->St)(m:ι->Nat)(x0:ι)(h0:uN st (I x0))(round:∀x,VK P G [.code c] .normal (I x) λe s=>match e with
   | .normal=>∃y,uN s (I y)/\m y<m x
   |e=>Q e s):SW P G (.loop c) st Q:=SW.loop I m x0 h0 round
end
attribute [irreducible] VK aD eY b8b c2x a3k
end Go.VM
namespace Go.VM
open Go Go.RowKit
attribute [simp] b7G takeA d2o b6Q c5V c2y e2P d7t e2Q d7u d2n c9n d2p a8U a6L tH a1z b3c cR d7v e2R d7w c2z b9I b6R c5W c2A c5X c2C b9J b1C c5Y c5Z c2B c9o c6a tP mZ eB a6f uE DV.cell b1o b7F b3r cellOf a1u b9p b9s mentions mN a1t b0E eG dZ cC sX Loc.yE oG kI a4H a6g yX a8M mH c8Q c8R a2x b3s b0v d6T a7w sD b3t uG uT c5u b3u b9q a0s vUn b3v a8N a6h a0t a0u a7x a7y uH sE a7z b9r c7C c8P a2Z b2Y sF St.eval ofConst yD wS finish dU eL getKey bP a0q kZ kV cG dropKey addAlias Loc.yE sC uF takeD pE d1z d6S c5t a0r zR rR yF sV overwrite b7E isD wT a2b idx bound eW findKeyD a6d a6e gC d6U c7B c8O wU D.one D.cells a4R a0I d2l a4Z c9m d7q
def b9K:Code->List Nat
 | .region _ ops _=>ops.toList.filterMap (·.dst)
 | .seq a b=>b9K a++b9K b
 | .cond _ a b=>b9K a++b9K b
 | .block _ c=>b9K c
 | .scope c=>b9K c
 | .loop c=>b9K c
 |_=>[]
def b3W:List Nat->List DV->List DV
 |[],l=>l
 |i::r,l=>b3W r (l.set i .undef)
def c6b:List (Nat×DV)->List DV->List DV
 |[],l=>l
 |(i,v)::r,l=>c6b r (l.set i v)
def eS(c:Code)(st:St)(ws:List (Nat×DV))(H:List (Nat×aW))(own:List (TypeId×List Loc)):St:=⟨c6b ws (b3W (b9K c) st.tmps),H,own⟩
theorem d2q(s s':St):uN s s'↔WkT s.tmps s'.tmps/\WkH s.H s'.H/\a9a s s.own s'.own=true/\bC s'.H s'.own=true:=⟨λh=>⟨h.tmps,h.H,h.own,h.keys⟩,λh=>⟨h.1,h.2.1,h.2.2.1,h.2.2.2⟩⟩
def aX{ι:Type}(F:ι->St)(m:ι->Nat)(x:ι)(s:St):Prop:=∃y,uN s (F y)/\m y<m x
theorem aX.mk{ι:Type}{F:ι->St}{m:ι->Nat}{x:ι}{s:St}(y:ι)(h:uN s (F y))(hm:m y<m x):aX F m x s:=⟨y,h,hm⟩
theorem SW.eE{P:Program}{G:GT}{st:St}{Q:Exit->St->Prop}{c:Code}{ι:Type}(ws:ι->List (Nat×DV))(H:ι->List (Nat×aW))(own:ι->List (TypeId×List Loc))(m:ι->Nat)(x0:ι)(h0:uN st (eS c st (ws x0) (H x0) (own x0)))(round:∀x,VK P G [.code c] .normal (eS c st (ws x) (H x) (own x)) λe s=>match e with
   | .normal=>aX (λy=>eS c st (ws y) (H y) (own y)) m x s
   |e=>Q e s):SW P G (.loop c) st Q:=SW.e7t (λx=>eS c st (ws x) (H x) (own x)) m x0 h0 round
attribute [irreducible] aX
attribute [simp] b9K b3W c6b eS d2q WkT WkO WkH a9a b3R isNil zW bC
theorem c9p{P:Program}{G:GT}{k:List KI}{st:St}{Q:Exit->St->Prop}{q:Bool}(o:Oper)(all:Array Oper)(rest:List Oper):a3k P G q (.d (.bool true)) true o all rest k st Q=b1C P G q o all rest k st Q:=by rw[a1C,if_pos rfl]
theorem c9q{P:Program}{G:GT}{k:List KI}{st:St}{Q:Exit->St->Prop}{q:Bool}(o:Oper)(all:Array Oper)(rest:List Oper):a3k P G q (.d (.bool false)) false o all rest k st Q=b1C P G q o all rest k st Q:=by rw[a1C,if_pos rfl]
theorem c9r{P:Program}{G:GT}{k:List KI}{st:St}{Q:Exit->St->Prop}{q:Bool}(o:Oper)(all:Array Oper)(rest:List Oper):a3k P G q (.d (.bool true)) false o all rest k st Q=VK P G (.ops q all rest::k) .normal (finish st o.dst (.bY []) .no) Q:=by rw[a1C,if_neg (by decide)]
theorem c9s{P:Program}{G:GT}{k:List KI}{st:St}{Q:Exit->St->Prop}{q:Bool}(o:Oper)(all:Array Oper)(rest:List Oper):a3k P G q (.d (.bool false)) true o all rest k st Q=VK P G (.ops q all rest::k) .normal (finish st o.dst (.bY []) .no) Q:=by rw[a1C,if_neg (by decide)]
attribute [simp] c9p c9q c9r c9s
attribute [simp] d2h b3T b8a d2i d2j d7o e2O d7p d2k a7N c2u c2v
theorem d7x(a b:Int):(a==b)=decide (a=b):=rfl
theorem d7y(a b:Int):(a !=b)= !decide (a=b):=rfl
theorem e2S(a b:List UInt8):(a==b)=decide (a=b):=by by_cases h:a=b<;>simp[h]
attribute [simp] d7x d7y e2S
theorem c2E(n m:Nat):((no_index (OfNat.ofNat n):Int)<=(m:Int))=((OfNat.ofNat n:Nat)<=m):=propext Int.ofNat_le
theorem c2F(n m:Nat):((m:Int)<=(no_index (OfNat.ofNat n):Int))=(m<=(OfNat.ofNat n:Nat)):=propext Int.ofNat_le
theorem c2G(n m:Nat):((no_index (OfNat.ofNat n):Int)<(m:Int))=((OfNat.ofNat n:Nat)<m):=propext Int.ofNat_lt
theorem c2H(n m:Nat):((m:Int)<(no_index (OfNat.ofNat n):Int))=(m<(OfNat.ofNat n:Nat)):=propext Int.ofNat_lt
theorem c2I(n m:Nat):((m:Int)=(no_index (OfNat.ofNat n):Int))=(m=(OfNat.ofNat n:Nat)):=propext Int.ofNat_inj
theorem b9L(n m:Nat):(((n:Int)+1)<=(m:Int))=(n+1<=m):=by apply propext;omega
theorem b9M(n m:Nat):(((n:Int)+1)<(m:Int))=(n+1<m):=by apply propext;omega
theorem c2J(n:Nat):(0<=(n:Int)+1)=True:=by apply propext;simp;omega
attribute [simp] b9L b9M c2J
attribute [simp] c2E c2F c2G c2H c2I
end Go.VM
end
namespace Go.Proofs.YtjpodcmhcenjjaaGreatDoor
section
open Go Go.VM
@[simp] theorem e5X:prog.cellsOf 3=1:=by kernel_rfl
@[simp] theorem e5Y:jH prog 3=some [.int .i64 0]:=by kernel_rfl
@[simp] theorem e5Z:prog.cellsOf 4=1:=by kernel_rfl
@[simp] theorem e6a:prog.cellsOf 9=1:=by kernel_rfl
@[simp] theorem e6b:prog.bytesOf 9=16:=by kernel_rfl
@[simp] theorem e2T:prog.cellsOf 24=1:=by kernel_rfl
@[simp] theorem e2U:prog.cellsOf 25=1:=by kernel_rfl
@[simp] theorem e2V:jH prog 25=some [.aF]:=by kernel_rfl
@[simp] theorem e6c:eQ prog 25=some 30:=by kernel_rfl
@[simp] theorem e2W:prog.cellsOf 26=1:=by kernel_rfl
@[simp] theorem e6d:eQ prog 26=some 135:=by kernel_rfl
@[simp] theorem e2X:prog.cellsOf 27=1:=by kernel_rfl
@[simp] theorem e6e:eQ prog 27=some 91:=by kernel_rfl
@[simp] theorem e2Y:prog.cellsOf 28=1:=by kernel_rfl
@[simp] theorem e2Z:jH prog 28=some [.aF]:=by kernel_rfl
@[simp] theorem e6f:eQ prog 28=some 45:=by kernel_rfl
@[simp] theorem e3a:prog.cellsOf 30=7:=by kernel_rfl
@[simp] theorem e3b:prog.bytesOf 30=128:=by kernel_rfl
@[simp] theorem e3c:jH prog 30=some [.int .i64 0,.str [],.int .i64 0,.aF,.aF,.aF,.aF]:=by kernel_rfl
@[simp] theorem d5B:cU prog 30=true:=by kernel_rfl
@[simp] theorem d7A:aG prog 30 0=some (0,24):=by kernel_rfl
@[simp] theorem d7B:aG prog 30 1=some (1,9):=by kernel_rfl
@[simp] theorem d7C:aG prog 30 2=some (2,3):=by kernel_rfl
@[simp] theorem d7D:aG prog 30 3=some (3,25):=by kernel_rfl
@[simp] theorem d7E:aG prog 30 4=some (4,26):=by kernel_rfl
@[simp] theorem d7F:aG prog 30 5=some (5,27):=by kernel_rfl
@[simp] theorem d7G:aG prog 30 6=some (6,28):=by kernel_rfl
@[simp] theorem e3d:prog.cellsOf 31=1:=by kernel_rfl
@[simp] theorem e3e:jH prog 31=some [.int .i64 0]:=by kernel_rfl
@[simp] theorem e3f:prog.cellsOf 38=1:=by kernel_rfl
@[simp] theorem e3g:prog.cellsOf 39=1:=by kernel_rfl
@[simp] theorem e3h:jH prog 39=some [.aF]:=by kernel_rfl
@[simp] theorem e6g:eQ prog 39=some 9:=by kernel_rfl
@[simp] theorem e3i:prog.cellsOf 40=1:=by kernel_rfl
@[simp] theorem e3j:prog.cellsOf 41=1:=by kernel_rfl
@[simp] theorem e6h:eQ prog 41=some 43:=by kernel_rfl
@[simp] theorem e3k:prog.cellsOf 43=4:=by kernel_rfl
@[simp] theorem e3l:prog.bytesOf 43=56:=by kernel_rfl
@[simp] theorem e3m:jH prog 43=some [.int .i64 0,.str [],.int .i64 0,.aF]:=by kernel_rfl
@[simp] theorem d5C:cU prog 43=true:=by kernel_rfl
@[simp] theorem d7H:aG prog 43 0=some (0,40):=by kernel_rfl
@[simp] theorem d7I:aG prog 43 1=some (1,9):=by kernel_rfl
@[simp] theorem d7J:aG prog 43 2=some (2,3):=by kernel_rfl
@[simp] theorem d7K:aG prog 43 3=some (3,41):=by kernel_rfl
@[simp] theorem e3n:prog.cellsOf 45=9:=by kernel_rfl
@[simp] theorem e3o:prog.bytesOf 45=152:=by kernel_rfl
@[simp] theorem e3p:jH prog 45=some [.int .i64 0,.str [],.aF,.aF,.int .i64 0,.str [],.int .i64 0,.aF,.aF]:=by kernel_rfl
@[simp] theorem d5D:cU prog 45=true:=by kernel_rfl
@[simp] theorem d7L:aG prog 45 0=some (0,38):=by kernel_rfl
@[simp] theorem d7M:aG prog 45 1=some (1,9):=by kernel_rfl
@[simp] theorem d7N:aG prog 45 2=some (2,28):=by kernel_rfl
@[simp] theorem d7O:aG prog 45 3=some (3,39):=by kernel_rfl
@[simp] theorem d7P:aG prog 45 4=some (4,43):=by kernel_rfl
@[simp] theorem d7Q:aG prog 45 5=some (8,41):=by kernel_rfl
@[simp] theorem e3q:prog.cellsOf 51=1:=by kernel_rfl
@[simp] theorem e6i:eQ prog 51=some 78:=by kernel_rfl
@[simp] theorem e3r:prog.cellsOf 52=1:=by kernel_rfl
@[simp] theorem e6j:eQ prog 52=some 111:=by kernel_rfl
@[simp] theorem e3s:prog.cellsOf 53=1:=by kernel_rfl
@[simp] theorem e6k:eQ prog 53=some 114:=by kernel_rfl
@[simp] theorem e3t:prog.cellsOf 54=1:=by kernel_rfl
@[simp] theorem e6l:eQ prog 54=some 82:=by kernel_rfl
@[simp] theorem e3u:prog.cellsOf 55=1:=by kernel_rfl
@[simp] theorem e6m:eQ prog 55=some 118:=by kernel_rfl
@[simp] theorem e3v:prog.cellsOf 56=1:=by kernel_rfl
@[simp] theorem e6n:eQ prog 56=some 70:=by kernel_rfl
@[simp] theorem e3w:prog.cellsOf 58=6:=by kernel_rfl
@[simp] theorem e3x:jH prog 58=some [.aF,.aF,.aF,.aF,.aF,.aF]:=by kernel_rfl
@[simp] theorem d5E:cU prog 58=true:=by kernel_rfl
@[simp] theorem d7R:aG prog 58 0=some (0,51):=by kernel_rfl
@[simp] theorem d7S:aG prog 58 1=some (1,52):=by kernel_rfl
@[simp] theorem d7T:aG prog 58 2=some (2,53):=by kernel_rfl
@[simp] theorem d7U:aG prog 58 3=some (3,54):=by kernel_rfl
@[simp] theorem d7V:aG prog 58 4=some (4,55):=by kernel_rfl
@[simp] theorem d7W:aG prog 58 5=some (5,56):=by kernel_rfl
@[simp] theorem e3y:prog.cellsOf 63=1:=by kernel_rfl
@[simp] theorem e3z:prog.cellsOf 64=1:=by kernel_rfl
@[simp] theorem e3A:jH prog 64=some [.aF]:=by kernel_rfl
@[simp] theorem e6o:eQ prog 64=some 181:=by kernel_rfl
@[simp] theorem e3B:prog.cellsOf 65=1:=by kernel_rfl
@[simp] theorem e6p:eQ prog 65=some 161:=by kernel_rfl
@[simp] theorem e3C:prog.cellsOf 66=1:=by kernel_rfl
@[simp] theorem e6q:eQ prog 66=some 163:=by kernel_rfl
@[simp] theorem e3D:prog.cellsOf 68=14:=by kernel_rfl
@[simp] theorem e3E:jH prog 68=some [.aF,.aF,.aF,.aF,.int .i64 0,.str [],.aF,.aF,.int .i64 0,.str [],.int .i64 0,.aF,.aF,.aF]:=by kernel_rfl
@[simp] theorem d7X:aG prog 68 0=some (0,39):=by kernel_rfl
@[simp] theorem d7Y:aG prog 68 1=some (1,64):=by kernel_rfl
@[simp] theorem d7Z:aG prog 68 2=some (2,65):=by kernel_rfl
@[simp] theorem d8a:aG prog 68 3=some (3,66):=by kernel_rfl
@[simp] theorem d8b:aG prog 68 4=some (4,45):=by kernel_rfl
@[simp] theorem d8c:aG prog 68 5=some (13,41):=by kernel_rfl
@[simp] theorem e3F:prog.cellsOf 70=25:=by kernel_rfl
@[simp] theorem e3G:prog.bytesOf 70=456:=by kernel_rfl
@[simp] theorem e3H:jH prog 70=some [.str [],.aF,.int .i64 0,.str [],.int .i64 0,.aF,.aF,.aF,.aF,.int .i64 0,.bool false,.aF,.aF,.aF,.aF,.int .i64 0,.str [],.aF,.aF,.int .i64 0,.str [],.int .i64 0,.aF,.aF,.aF]:=by kernel_rfl
@[simp] theorem d5F:cU prog 70=true:=by kernel_rfl
@[simp] theorem d8d:aG prog 70 0=some (0,9):=by kernel_rfl
@[simp] theorem d8e:aG prog 70 1=some (1,39):=by kernel_rfl
@[simp] theorem d8f:aG prog 70 2=some (2,30):=by kernel_rfl
@[simp] theorem d8g:aG prog 70 3=some (9,63):=by kernel_rfl
@[simp] theorem d8h:aG prog 70 4=some (10,4):=by kernel_rfl
@[simp] theorem d8i:aG prog 70 5=some (11,68):=by kernel_rfl
@[simp] theorem e3I:prog.cellsOf 75=1:=by kernel_rfl
@[simp] theorem e3J:jH prog 75=some [.aF]:=by kernel_rfl
@[simp] theorem e6r:eQ prog 75=some 179:=by kernel_rfl
@[simp] theorem e3K:prog.cellsOf 76=1:=by kernel_rfl
@[simp] theorem e6s:eQ prog 76=some 147:=by kernel_rfl
@[simp] theorem e3L:prog.cellsOf 78=4:=by kernel_rfl
@[simp] theorem e3M:prog.bytesOf 78=88:=by kernel_rfl
@[simp] theorem e3N:jH prog 78=some [.str [],.aF,.aF,.aF]:=by kernel_rfl
@[simp] theorem d5G:cU prog 78=true:=by kernel_rfl
@[simp] theorem d8j:aG prog 78 0=some (0,9):=by kernel_rfl
@[simp] theorem d8k:aG prog 78 1=some (1,39):=by kernel_rfl
@[simp] theorem d8l:aG prog 78 2=some (2,75):=by kernel_rfl
@[simp] theorem d8m:aG prog 78 3=some (3,76):=by kernel_rfl
@[simp] theorem e3O:prog.cellsOf 79=1:=by kernel_rfl
@[simp] theorem e3P:prog.cellsOf 80=1:=by kernel_rfl
@[simp] theorem e6t:eQ prog 80=some 151:=by kernel_rfl
@[simp] theorem e3Q:prog.cellsOf 82=8:=by kernel_rfl
@[simp] theorem e3R:prog.bytesOf 82=128:=by kernel_rfl
@[simp] theorem e3S:jH prog 82=some [.str [],.str [],.str [],.aF,.int .i64 0,.str [],.int .i64 0,.aF]:=by kernel_rfl
@[simp] theorem d5H:cU prog 82=true:=by kernel_rfl
@[simp] theorem d8n:aG prog 82 0=some (0,9):=by kernel_rfl
@[simp] theorem d8o:aG prog 82 1=some (1,9):=by kernel_rfl
@[simp] theorem d8p:aG prog 82 2=some (2,79):=by kernel_rfl
@[simp] theorem d8q:aG prog 82 3=some (3,80):=by kernel_rfl
@[simp] theorem d8r:aG prog 82 4=some (4,43):=by kernel_rfl
@[simp] theorem e3T:prog.cellsOf 91=9:=by kernel_rfl
@[simp] theorem e3U:prog.bytesOf 91=168:=by kernel_rfl
@[simp] theorem e3V:jH prog 91=some [.str [],.aF,.int .i64 0,.str [],.int .i64 0,.aF,.aF,.aF,.aF]:=by kernel_rfl
@[simp] theorem d5I:cU prog 91=true:=by kernel_rfl
@[simp] theorem d8s:aG prog 91 0=some (0,9):=by kernel_rfl
@[simp] theorem d8t:aG prog 91 1=some (1,39):=by kernel_rfl
@[simp] theorem d8u:aG prog 91 2=some (2,30):=by kernel_rfl
@[simp] theorem e3W:prog.cellsOf 94=1:=by kernel_rfl
@[simp] theorem e3X:prog.cellsOf 96=4:=by kernel_rfl
@[simp] theorem e3Y:prog.bytesOf 96=40:=by kernel_rfl
@[simp] theorem e3Z:jH prog 96=some [.int .i64 0,.str [],.int .i64 0,.int .i64 0]:=by kernel_rfl
@[simp] theorem d5J:cU prog 96=true:=by kernel_rfl
@[simp] theorem d8v:aG prog 96 0=some (0,94):=by kernel_rfl
@[simp] theorem d8w:aG prog 96 1=some (1,9):=by kernel_rfl
@[simp] theorem d8x:aG prog 96 2=some (2,3):=by kernel_rfl
@[simp] theorem d8y:aG prog 96 3=some (3,3):=by kernel_rfl
@[simp] theorem e0A:prog.cellsOf 103=1:=by kernel_rfl
@[simp] theorem e4a:eQ prog 103=some 96:=by kernel_rfl
@[simp] theorem e0B:jH prog 105=some [.aF,.int .i64 0,.int .i64 0,.int .i64 0]:=by kernel_rfl
@[simp] theorem d2r:cU prog 105=true:=by kernel_rfl
@[simp] theorem d5K:aG prog 105 0=some (0,103):=by kernel_rfl
@[simp] theorem d5L:aG prog 105 1=some (1,3):=by kernel_rfl
@[simp] theorem d5M:aG prog 105 2=some (2,31):=by kernel_rfl
@[simp] theorem d5N:aG prog 105 3=some (3,3):=by kernel_rfl
@[simp] theorem e0C:prog.cellsOf 109=1:=by kernel_rfl
@[simp] theorem e4b:eQ prog 109=some 148:=by kernel_rfl
@[simp] theorem e0D:prog.cellsOf 111=3:=by kernel_rfl
@[simp] theorem e0E:prog.bytesOf 111=56:=by kernel_rfl
@[simp] theorem e0F:jH prog 111=some [.str [],.str [],.aF]:=by kernel_rfl
@[simp] theorem d2s:cU prog 111=true:=by kernel_rfl
@[simp] theorem d5O:aG prog 111 0=some (0,9):=by kernel_rfl
@[simp] theorem d5P:aG prog 111 1=some (1,9):=by kernel_rfl
@[simp] theorem d5Q:aG prog 111 2=some (2,109):=by kernel_rfl
@[simp] theorem e0G:prog.cellsOf 114=12:=by kernel_rfl
@[simp] theorem e0H:prog.bytesOf 114=216:=by kernel_rfl
@[simp] theorem e0I:jH prog 114=some [.str [],.int .i64 0,.str [],.aF,.aF,.int .i64 0,.str [],.int .i64 0,.aF,.aF,.aF,.aF]:=by kernel_rfl
@[simp] theorem d2t:cU prog 114=true:=by kernel_rfl
@[simp] theorem d5R:aG prog 114 0=some (0,9):=by kernel_rfl
@[simp] theorem d5S:aG prog 114 1=some (1,45):=by kernel_rfl
@[simp] theorem d5T:aG prog 114 2=some (10,64):=by kernel_rfl
@[simp] theorem d5U:aG prog 114 3=some (11,56):=by kernel_rfl
@[simp] theorem e0J:prog.cellsOf 118=6:=by kernel_rfl
@[simp] theorem e0K:prog.bytesOf 118=96:=by kernel_rfl
@[simp] theorem e0L:jH prog 118=some [.str [],.aF,.int .i64 0,.str [],.int .i64 0,.aF]:=by kernel_rfl
@[simp] theorem d2u:cU prog 118=true:=by kernel_rfl
@[simp] theorem d5V:aG prog 118 0=some (0,9):=by kernel_rfl
@[simp] theorem d5W:aG prog 118 1=some (1,75):=by kernel_rfl
@[simp] theorem d5X:aG prog 118 2=some (2,43):=by kernel_rfl
@[simp] theorem e0M:prog.cellsOf 127=2:=by kernel_rfl
@[simp] theorem e0N:jH prog 127=some [.int .i64 0,.int .i64 0]:=by kernel_rfl
@[simp] theorem d2v:cU prog 127=true:=by kernel_rfl
@[simp] theorem d5Y:aG prog 127 0=some (0,3):=by kernel_rfl
@[simp] theorem d5Z:aG prog 127 1=some (1,31):=by kernel_rfl
@[simp] theorem e0O:jH prog 130=some [.aF,.int .i64 0]:=by kernel_rfl
@[simp] theorem d2w:cU prog 130=true:=by kernel_rfl
@[simp] theorem d6a:aG prog 130 0=some (0,103):=by kernel_rfl
@[simp] theorem d6b:aG prog 130 1=some (1,3):=by kernel_rfl
@[simp] theorem e0P:prog.cellsOf 135=10:=by kernel_rfl
@[simp] theorem e0Q:jH prog 135=some [.str [],.int .i64 0,.str [],.aF,.aF,.int .i64 0,.str [],.int .i64 0,.aF,.aF]:=by kernel_rfl
@[simp] theorem d2x:cU prog 135=true:=by kernel_rfl
@[simp] theorem d6c:aG prog 135 0=some (0,9):=by kernel_rfl
@[simp] theorem d6d:aG prog 135 1=some (1,45):=by kernel_rfl
@[simp] theorem e0R:prog.cellsOf 147=3:=by kernel_rfl
@[simp] theorem e0S:prog.bytesOf 147=64:=by kernel_rfl
@[simp] theorem e0T:jH prog 147=some [.str [],.aF,.aF]:=by kernel_rfl
@[simp] theorem d2y:cU prog 147=true:=by kernel_rfl
@[simp] theorem d6e:aG prog 147 0=some (0,9):=by kernel_rfl
@[simp] theorem d6f:aG prog 147 1=some (1,39):=by kernel_rfl
@[simp] theorem d6g:aG prog 147 2=some (2,28):=by kernel_rfl
@[simp] theorem e0U:prog.cellsOf 148=10:=by kernel_rfl
@[simp] theorem e0V:jH prog 148=some [.str [],.int .i64 0,.str [],.aF,.aF,.int .i64 0,.str [],.int .i64 0,.aF,.aF]:=by kernel_rfl
@[simp] theorem d2z:cU prog 148=true:=by kernel_rfl
@[simp] theorem d6h:aG prog 148 0=some (0,9):=by kernel_rfl
@[simp] theorem d6i:aG prog 148 1=some (1,45):=by kernel_rfl
@[simp] theorem e0W:prog.cellsOf 151=6:=by kernel_rfl
@[simp] theorem e0X:prog.bytesOf 151=96:=by kernel_rfl
@[simp] theorem e0Y:jH prog 151=some [.str [],.aF,.int .i64 0,.str [],.int .i64 0,.aF]:=by kernel_rfl
@[simp] theorem d2A:cU prog 151=true:=by kernel_rfl
@[simp] theorem d6j:aG prog 151 0=some (0,9):=by kernel_rfl
@[simp] theorem d6k:aG prog 151 1=some (1,39):=by kernel_rfl
@[simp] theorem d6l:aG prog 151 2=some (2,43):=by kernel_rfl
@[simp] theorem e0Z:prog.cellsOf 161=2:=by kernel_rfl
@[simp] theorem e1a:prog.bytesOf 161=32:=by kernel_rfl
@[simp] theorem e1b:jH prog 161=some [.str [],.str []]:=by kernel_rfl
@[simp] theorem d2B:cU prog 161=true:=by kernel_rfl
@[simp] theorem d6m:aG prog 161 0=some (0,9):=by kernel_rfl
@[simp] theorem d6n:aG prog 161 1=some (1,79):=by kernel_rfl
@[simp] theorem e1c:prog.cellsOf 163=10:=by kernel_rfl
@[simp] theorem e1d:prog.bytesOf 163=152:=by kernel_rfl
@[simp] theorem e1e:jH prog 163=some [.str [],.aF,.int .i64 0,.str [],.int .i64 0,.aF,.int .i64 0,.str [],.int .i64 0,.aF]:=by kernel_rfl
@[simp] theorem d2C:cU prog 163=true:=by kernel_rfl
@[simp] theorem d6o:aG prog 163 0=some (0,9):=by kernel_rfl
@[simp] theorem d6p:aG prog 163 1=some (1,75):=by kernel_rfl
@[simp] theorem d6q:aG prog 163 2=some (2,43):=by kernel_rfl
@[simp] theorem d6r:aG prog 163 3=some (6,43):=by kernel_rfl
@[simp] theorem e1f:prog.cellsOf 179=2:=by kernel_rfl
@[simp] theorem e1g:prog.bytesOf 179=32:=by kernel_rfl
@[simp] theorem e1h:jH prog 179=some [.str [],.str []]:=by kernel_rfl
@[simp] theorem d2D:cU prog 179=true:=by kernel_rfl
@[simp] theorem d6s:aG prog 179 0=some (0,9):=by kernel_rfl
@[simp] theorem d6t:aG prog 179 1=some (1,79):=by kernel_rfl
@[simp] theorem e1i:prog.cellsOf 181=2:=by kernel_rfl
@[simp] theorem e1j:prog.bytesOf 181=32:=by kernel_rfl
@[simp] theorem e1k:jH prog 181=some [.str [],.str []]:=by kernel_rfl
@[simp] theorem d2E:cU prog 181=true:=by kernel_rfl
@[simp] theorem d6u:aG prog 181 0=some (0,9):=by kernel_rfl
@[simp] theorem d6v:aG prog 181 1=some (1,9):=by kernel_rfl
@[simp] theorem e1l:prog.cellsOf 199=42:=by kernel_rfl
@[simp] theorem e1m:prog.cellsOf 204=1:=by kernel_rfl
@[simp] theorem e1n:jH prog 204=some [.aF]:=by kernel_rfl
@[simp] theorem d2F:cU prog 204=true:=by kernel_rfl
@[simp] theorem d6w:aG prog 204 0=some (0,103):=by kernel_rfl
@[simp] theorem e4c:eQ prog 236=some 40:=by kernel_rfl
@[simp] theorem e1o:prog.cellsOf 239=4:=by kernel_rfl
@[simp] theorem e1p:jH prog 239=some [.int .i64 0,.int .i64 0,.int .i64 0,.str []]:=by kernel_rfl
@[simp] theorem d2G:cU prog 239=true:=by kernel_rfl
@[simp] theorem d6x:aG prog 239 0=some (0,3):=by kernel_rfl
@[simp] theorem d6y:aG prog 239 1=some (1,3):=by kernel_rfl
@[simp] theorem d6z:aG prog 239 2=some (2,3):=by kernel_rfl
@[simp] theorem d6A:aG prog 239 3=some (3,9):=by kernel_rfl
@[simp] theorem e4d:gK prog 9=true:=by kernel_rfl
@[simp] theorem e1q:gK prog 30=true:=by kernel_rfl
@[simp] theorem e1r:gK prog 40=true:=by kernel_rfl
@[simp] theorem e1s:gK prog 43=true:=by kernel_rfl
@[simp] theorem e1t:gK prog 45=true:=by kernel_rfl
@[simp] theorem e1u:gK prog 70=true:=by kernel_rfl
@[simp] theorem e1v:gK prog 78=true:=by kernel_rfl
@[simp] theorem e1w:gK prog 82=true:=by kernel_rfl
@[simp] theorem e1x:gK prog 91=true:=by kernel_rfl
@[simp] theorem e1y:gK prog 96=true:=by kernel_rfl
@[simp] theorem d8z:gK prog 111=true:=by kernel_rfl
@[simp] theorem d8A:gK prog 114=true:=by kernel_rfl
@[simp] theorem d8B:gK prog 118=true:=by kernel_rfl
@[simp] theorem d8C:gK prog 135=true:=by kernel_rfl
@[simp] theorem d8D:gK prog 147=true:=by kernel_rfl
@[simp] theorem d8E:gK prog 148=true:=by kernel_rfl
@[simp] theorem d8F:gK prog 151=true:=by kernel_rfl
@[simp] theorem d8G:gK prog 161=true:=by kernel_rfl
@[simp] theorem d8H:gK prog 163=true:=by kernel_rfl
@[simp] theorem d8I:gK prog 179=true:=by kernel_rfl
@[simp] theorem d8J:gK prog 181=true:=by kernel_rfl
end
section
open Go Go.VM
variable {G:GT}
theorem wrap64{n:Int}(h: -9223372036854775808<=n/\n<=9223372036854775807):IntKind.i64.wrap n=n:=by unfold IntKind.wrap;simp[IntKind.bits,IntKind.signed];omega
theorem aY{i:Nat}(h:i<9223372036854775807):IntKind.i64.wrap ((i:Int)+1)=((i+1:Nat):Int):=by rw[wrap64 (by omega)];simp
def oK(c:Int):Bool:=decide (97<=c)&&decide (c<=122)
def b3X(c:Int):Bool:=decide (65<=c)&&decide (c<=90)
def b0G(c:Int):Bool:=decide (48<=c)&&decide (c<=57)
def anB(c:Int):Bool:=oK c||b3X c||b0G c
def wdB(c:Int):Bool:=oK c||b0G c||c==95
def sizedB(s:List UInt8):Bool:=decide (1<=s.length)&&decide (s.length<=24)
def pC(p:Int->Bool)(s:List UInt8):Bool:=s.all λc=>p c.toNat
theorem d2H(p:Int->Bool):pC p []=true:=rfl
theorem jW{p:Int->Bool}{s:List UInt8}{i:Nat}{b:Bool}(he:b=pC p (s.drop i))(aE:i<s.length)(hp:p s[i].toNat=true):b=pC p (s.drop (i+1)):=by unfold pC at he;rw[he,f7U aE];simp only[List.all_cons,hp,Bool.true_and,pC]
theorem a0l{p:Int->Bool}{s:List UInt8}{i:Nat}{b:Bool}(he:b=pC p (s.drop i))(aE:i<s.length)(hp:p s[i].toNat=false):b=false:=by unfold pC at he;rw[he,f7U aE];simp only[List.all_cons,hp,Bool.false_and]
theorem a5b{p:Int->Bool}{s:List UInt8}{i:Nat}{b:Bool}(he:b=pC p (s.drop i))(aE: ¬i<s.length):b=true:=by
 rw[he,List.drop_of_length_le (by omega)]
 rfl
theorem d2I{α:Type}{f:α->Bool}{l:List α}{i:Nat}{b:Bool}(he:b=(l.drop i).any f)(aE:i<l.length)(hp:f l[i]=false):b=(l.drop (i+1)).any f:=by rw[he,f7U aE];simp only[List.any_cons,hp,Bool.false_or]
theorem d2J{α:Type}{f:α->Bool}{l:List α}{i:Nat}{b:Bool}(he:b=(l.drop i).any f)(aE:i<l.length)(hp:f l[i]=true):b=true:=by rw[he,f7U aE];simp only[List.any_cons,hp,Bool.true_or]
theorem d8K{α:Type}{f:α->Bool}{l:List α}{i:Nat}{b:Bool}(he:b=(l.drop i).any f)(aE: ¬i<l.length):b=false:=by
 rw[he,List.drop_of_length_le (by omega)]
 rfl
theorem d2K{α:Type}{f:α->Bool}{l:List α}{i:Nat}{b:Bool}(he:b=(l.drop i).all f)(aE:i<l.length)(hp:f l[i]=true):b=(l.drop (i+1)).all f:=by rw[he,f7U aE];simp only[List.all_cons,hp,Bool.true_and]
theorem d2L{α:Type}{f:α->Bool}{l:List α}{i:Nat}{b:Bool}(he:b=(l.drop i).all f)(aE:i<l.length)(hp:f l[i]=false):b=false:=by rw[he,f7U aE];simp only[List.all_cons,hp,Bool.false_and]
theorem d8L{α:Type}{f:α->Bool}{l:List α}{i:Nat}{b:Bool}(he:b=(l.drop i).all f)(aE: ¬i<l.length):b=true:=by
 rw[he,List.drop_of_length_le (by omega)]
 rfl
theorem a1D:VM.Enters prog 266:=.mk func266 rfl
theorem a5c:VM.Enters prog 267:=.mk func267 rfl
theorem a6X:VM.Enters prog 268:=.mk func268 rfl
theorem qF:VM.Enters prog 285:=.mk func285 rfl
theorem vP:VM.Enters prog 286:=.mk func286 rfl
theorem a0J:VM.Enters prog 287:=.mk func287 rfl
theorem a5d:VM.Enters prog 252:=.mk func252 rfl
theorem a0K:VM.Enters prog 253:=.mk func253 rfl
theorem c6c:VM.Enters prog 254:=.mk func254 rfl
theorem a3l(c:Int):CS prog G 266 [.int .u8 c] (.d (.bool (oK c))) none:=by refine CS.aR func266 rfl ntmps266 rfl ?_;by_cases h:97<=c<;>simp[oK,h]
theorem a7P(c:Int):CS prog G 267 [.int .u8 c] (.d (.bool (b0G c))) none:=by refine CS.aR func267 rfl ntmps267 rfl ?_;by_cases h:48<=c<;>simp[b0G,h]
theorem a9c(c:Int):CS prog G 268 [.int .u8 c] (.d (.bool (b3X c))) none:=by refine CS.aR func268 rfl ntmps268 rfl ?_;by_cases h:65<=c<;>simp[b3X,h]
theorem sK(c:Int):CS prog G 285 [.int .u8 c] (.d (.bool (oK c))) none:=by refine CS.aR func285 rfl ntmps285 rfl ?_;by_cases h:97<=c<;>simp[oK,h]
theorem yM(c:Int):CS prog G 286 [.int .u8 c] (.d (.bool (b0G c))) none:=by refine CS.aR func286 rfl ntmps286 rfl ?_;by_cases h:48<=c<;>simp[b0G,h]
theorem a2d(c:Int):CS prog G 287 [.int .u8 c] (.d (.bool (b3X c))) none:=by refine CS.aR func287 rfl ntmps287 rfl ?_;by_cases h:65<=c<;>simp[b3X,h]
theorem a7Q(s:List UInt8):CS prog G 252 [.str s] (.d (.bool (sizedB s))) none:=by refine CS.aR func252 rfl ntmps252 rfl ?_;by_cases h:1<=s.length<;>simp[sizedB,h]
theorem a1E(s:List UInt8)(hs:s.length<=1000000):CS prog G 253 [.str s] (.d (.bool (pC anB s))) none:=by
 refine CS.aR func253 rfl ntmps253 rfl ?_;simp;refine SW.eE (ι:={i:Nat//i<=s.length/\pC anB s=pC anB (s.drop i)}) (λi=>[(3,.d (.int .i64 i.1))]) (λ_=>[]) (λ_=>[]) (λi=>s.length-i.1) ⟨0,by simp⟩ (by simp) ?_;rintro⟨i,hi,he⟩;by_cases aE:i<s.length
 .simp[aE];refine aD.mk a1D (a3l _) ?_;have hw:=aY (show i<9223372036854775807 by omega);cases h1:oK s[i].toNat
  .simp[aE];refine aD.mk a6X (a9c _) ?_;cases h2:b3X s[i].toNat
   .simp[aE];refine aD.mk a5c (a7P _) ?_;cases h3:b0G s[i].toNat
    .simp[aE];exact a0l he aE (by simp[anB,h1,h2,h3])
    .simp[aE];exact aX.mk ⟨i+1,aE,jW he aE (by simp[anB,h3])⟩ (by simp[hw]) (by simp;omega)
   .simp[aE];exact aX.mk ⟨i+1,aE,jW he aE (by simp[anB,h2])⟩ (by simp[hw]) (by simp;omega)
  .simp[aE];exact aX.mk ⟨i+1,aE,jW he aE (by simp[anB,h1])⟩ (by simp[hw]) (by simp;omega)
 .simp[aE];exact a5b he aE
def a5e(s:List UInt8):Bool:=pC wdB s&&(match s with|[]=>true|c::_=>oK c.toNat)
theorem c9t(s:List UInt8)(hs:s.length<=1000000):CS prog G 254 [.str s] (.d (.bool (a5e s))) none:=by
 refine CS.aR func254 rfl ntmps254 rfl ?_;simp;refine SW.eE (ι:={i:Nat//i<=s.length/\(0<i->pC wdB s=pC wdB (s.drop i)/\a5e s=pC wdB s)}) (λi=>[(3,.d (.int .i64 i.1))]) (λ_=>[]) (λ_=>[]) (λi=>s.length-i.1) ⟨0,by simp⟩ (by simp) ?_;rintro⟨i,hi,he⟩;by_cases aE:i<s.length
 .have hnx:wdB s[i].toNat=true->(i=0->oK s[i].toNat=true)->(0<i+1->pC wdB s=pC wdB (s.drop (i+1))/\a5e s=pC wdB s):=λhp h0 _=>by
    rcases Nat.eq_zero_or_pos i with hz|hz
    .subst hz;refine⟨jW (i:=0) rfl aE hp,?_⟩;cases s with
     |nil=>rfl
     |cons c s=>have:=h0 rfl;simp at this;simp[a5e,this]
    .exact⟨jW (he hz).1 aE hp,(he hz).2⟩
  have hw:=aY (show i<9223372036854775807 by omega);have mD:wdB s[i].toNat=false->a5e s=false:=λhp=>by
   rcases Nat.eq_zero_or_pos i with hz|hz
   .subst hz;have:=a0l (b:=pC wdB s) (i:=0) rfl aE hp;simp[a5e,this]
   .rw[(he hz).2];exact a0l (he hz).1 aE hp
  simp[aE];refine aD.mk a1D (a3l _) ?_;cases h1:oK s[i].toNat
  .rcases Nat.eq_zero_or_pos i with hz|hz
   .subst hz;simp[aE];cases s with
    |nil=>simp at aE
    |cons c s=>simp at h1;simp[a5e,h1]
   .have hz': ¬i=0:=by omega
    simp[aE,hz'];refine aD.mk a5c (a7P _) ?_;cases h3:b0G s[i].toNat
    .by_cases h4:s[i].toNat=95
     .simp[aE,h4];exact aX.mk ⟨i+1,aE,hnx (by simp[wdB,h4]) (λh=>absurd h hz')⟩ (by simp[hw]) (by simp;omega)
     .have h5: ¬((s[i].toNat:Int)=95):=by omega
      simp[aE,h4,h5];exact mD (by simp[wdB,h1,h3,h5])
    .simp[aE];exact aX.mk ⟨i+1,aE,hnx (by simp[wdB,h3]) (λh=>absurd h hz')⟩ (by simp[hw]) (by simp;omega)
  .simp[aE];exact aX.mk ⟨i+1,aE,hnx (by simp[wdB,h1]) (λ_=>h1)⟩ (by simp[hw]) (by simp;omega)
 .simp[aE];rcases Nat.eq_zero_or_pos i with hz|hz
  .subst hz;have:s=[]:=by simpa using aE
   subst this
   rfl
  .rw[(he hz).2];exact a5b (he hz).1 aE
open Go Go.VM
variable {G:GT}
def kwL:List (List UInt8):=[[97,110,100],[97,115,115,117,109,101],[98,111,111,108],[98,111,117,110,100],[99,97,115,101],[99,101,108,108],[99,108,97,115,115],[100,97,116,97],[100,101,102],[100,105,118],[101,108,115,101],[101,110,100],[102,97,108,115,101],[102,111,114,97,108,108],[102,117,110],[103,101,116],[105,102],[105,110],[105,110,115,116],[105,110,116],[105,110,118,97,114,105,97,110,116],[108,101,116],[109,97,116,99,104],[109,101,97,115,117,114,101],[109,101,116,114,105,99],[109,111,100],[109,117],[110,101,119],[110,111,116],[111,102],[111,114],[113,117,97,108],[114,101,102,108,101,99,116],[115,101,116],[116,104,101,110],[116,114,117,101],[117,115,101],[118],[118,97,108],[116,97,103],[119,104,101,114,101],[119,105,116,104]]
def aU(s:List UInt8):Bool:=kwL.any λk=>decide (k=s)
def dP:List D:=kwL.map D.str
theorem xU:VM.Enters prog 167:=.mk func167 rfl
theorem zX(hG:G 1=some dP)(s:List UInt8):CS prog G 167 [.str s] (.d (.bool (aU s))) none:=by
 refine CS.aR func167 rfl ntmps167 rfl ?_;have hlen:dP.length=42:=rfl;have e7w:List.take 42 dP=dP:=by rw[<-hlen,List.take_length]
 simp[hG,hlen,e7w];refine SW.eE (ι:={i:Nat//i<=42/\aU s=(kwL.drop i).any λk=>decide (k=s)}) (λi=>[(6,.d (.int .i64 i.1))]) (λ_=>[]) (λ_=>[]) (λi=>42-i.1) ⟨0,by simp[aU]⟩ (by simp) ?_;rintro⟨i,hi,he⟩;by_cases aE:i<42
 .have hl:i<kwL.length:=aE;have a4t:dP[i]? =some (.str kwL[i]):=by simp[dP,hl]
  have e1z:dP[i]'(by rw[hlen];exact aE)=.str kwL[i]:=by simp[dP]
  by_cases hk:kwL[i]=s
  .simp[aE,hlen,a4t,e1z,hk];exact d2J he hl (by simp[hk])
  .simp[aE,hlen,a4t,e1z,hk];exact aX.mk ⟨i+1,aE,d2I he hl (by simp[hk])⟩ (by simp[aY (show i<9223372036854775807 by omega)]) (by simp;omega)
 .simp[aE];exact d8K he aE
def d2N(p:Int->Bool)(s:List UInt8):Bool:=match s with
 |[]=>false
 |c::_=>p c.toNat
theorem uV{p:Int->Bool}{s:List UInt8}(h:0<s.length):d2N p s=p s[0].toNat:=by
 cases s with
 |nil=>simp at h
 |cons c s=>rfl
def tI(s:List UInt8):Bool:=sizedB s&&d2N oK s&& !aU s&&pC wdB s
theorem c6d:VM.Enters prog 250:=.mk func250 rfl
theorem c9u(hG:G 1=some dP)(s:List UInt8):CS prog G 250 [.str s] (.d (.bool (tI s))) none:=by
 refine CS.aR func250 rfl ntmps250 rfl ?_;simp;refine aD.mk a5d (a7Q _) ?_;cases hz:sizedB s
 .simp[tI,hz]
 .have hl:1<=s.length/\s.length<=24:=by simpa[sizedB]using hz
  have h0:0<s.length:=by omega
  simp[h0];refine aD.mk a1D (a3l _) ?_;cases h1:oK s[0].toNat
  .simp[tI,uV h0,h1]
  .simp;refine aD.mk xU (zX hG _) ?_;cases h2:aU s
   .simp;have hb:tI s=pC wdB s:=by simp[tI,hz,uV h0,h1,h2]
    refine SW.eE (ι:={i:Nat//1<=i/\i<=s.length/\pC wdB s=pC wdB (s.drop i)}) (λi=>[(3,.d (.int .i64 i.1))]) (λ_=>[]) (λ_=>[]) (λi=>s.length-i.1) ⟨1,f7X _,hl.1,jW (i:=0) rfl h0 (by simp[wdB,h1])⟩ (by simp) ?_;rintro⟨i,hi1,hi,he⟩;by_cases aE:i<s.length
    .have hw:=aY (show i<9223372036854775807 by omega);simp[aE];refine aD.mk a1D (a3l _) ?_;cases h1:oK s[i].toNat
     .simp[aE];refine aD.mk a5c (a7P _) ?_;cases h3:b0G s[i].toNat
      .by_cases h4:s[i].toNat=95
       .simp[aE,h4];exact aX.mk ⟨i+1,by omega,aE,jW he aE (by simp[wdB,h4])⟩ (by simp[hw]) (by simp;omega)
       .simp[aE,h4];rw[hb];exact a0l he aE (by simp[wdB,h1,h3];omega)
      .simp[aE];exact aX.mk ⟨i+1,by omega,aE,jW he aE (by simp[wdB,h3])⟩ (by simp[hw]) (by simp;omega)
     .simp[aE];exact aX.mk ⟨i+1,by omega,aE,jW he aE (by simp[wdB,h1])⟩ (by simp[hw]) (by simp;omega)
    .simp[aE];rw[hb];exact a5b he aE
   .simp[tI,h2]
theorem c2K:VM.Enters prog 251:=.mk func251 rfl
def jX(s:List UInt8):Bool:=sizedB s&&d2N b3X s&&pC anB s&& !decide (s=[73,110,116])&& !decide (s=[66,111,111,108])&& !decide (s=[67,101,108,108])&& !decide (s=[70,117,110])
theorem c6e(s:List UInt8):CS prog G 251 [.str s] (.d (.bool (jX s))) none:=by
 refine CS.aR func251 rfl ntmps251 rfl ?_;simp;refine aD.mk a5d (a7Q _) ?_;cases hz:sizedB s
 .simp[jX,hz]
 .have hl:1<=s.length/\s.length<=24:=by simpa[sizedB]using hz
  have h0:0<s.length:=by omega
  simp[h0];refine aD.mk a6X (a9c _) ?_;cases h1:b3X s[0].toNat
  .simp[jX,uV h0,h1]
  .simp;refine aD.mk a0K (a1E _ (by omega)) ?_;cases h2:pC anB s
   .simp[jX,h2]
   .by_cases e1:s=[73,110,116]
    .simp[jX,e1]
    by_cases e2:s=[66,111,111,108]
    .simp[jX,e2]
    by_cases e3:s=[67,101,108,108]
    .simp[jX,e3]
    simp[jX,hz,uV h0,h1,h2,e1,e2,e3]
def eJ:List UInt8->List UInt8×List UInt8×Bool
 |[]=>([],[],false)
 |c::r=>if c.toNat=46 then([],r,true) else(c::(eJ r).1,(eJ r).2)
theorem b8c:VM.Enters prog 249:=.mk func249 rfl
theorem c7T:∀(s:List UInt8) (i:Nat),(∀j (h:j<s.length),j<i->s[j].toNat≠46)->i<=s.length->eJ s=(s.take i++(eJ (s.drop i)).1,(eJ (s.drop i)).2)
 |s,0,_,_=>by simp
 |[],i+1,_,h=>by simp at h
 |c::r,i+1,hj,h=>by have h0:=hj 0 (by simp) (by omega);simp at h0 h;have ih:=c7T r i (λj h zV=>by have:=hj (j+1) (by simp;omega) (by omega);simpa using this) h;simp[eJ,h0,ih]
theorem c2L(s:List UInt8)(hs:s.length<=1000000):CS prog G 249 [.str s] (.bY [.str (eJ s).1,.str (eJ s).2.1,.bool (eJ s).2.2]) none:=by
 refine CS.aR func249 rfl ntmps249 rfl ?_;simp;refine SW.eE (ι:={i:Nat//i<=s.length/\∀j (h:j<s.length),j<i->s[j].toNat≠46}) (λi=>[(5,.d (.int .i64 i.1))]) (λ_=>[]) (λ_=>[]) (λi=>s.length-i.1) ⟨0,by simp⟩ (by simp) ?_;rintro⟨i,hi,he⟩;have c9v:=c7T s i he hi;by_cases aE:i<s.length
 .by_cases h4:s[i].toNat=46
  .have hw:IntKind.i64.wrap ((i:Int)+1)=((i+1:Nat):Int):=aY (by omega);rw[f7U aE]at c9v;simp only[eJ,h4,if_true]at c9v;have h1:i+1<=s.length:=aE;simp[aE,h4,c9v,hw,hi,h1];exact kL.mk (by kernel_rfl)
  .simp[aE,h4];refine aX.mk ⟨i+1,aE,λj h hj=>?_⟩ (by simp[aY (show i<9223372036854775807 by omega)]) (by simp;omega);by_cases zV:j=i
   .subst zV;exact h4
   .exact he j h (by omega)
 .have:i=s.length:=by omega
  subst this;rw[List.drop_length]at c9v;simp[eJ]at c9v;simp[aE,c9v]
open Go Go.VM
variable {G:GT}
def gM:List UInt8->List (List UInt8)
 |[]=>[[]]
 |c::r=>if c.toNat=46 then []::gM r else match gM r with
  |p::ps=>(c::p)::ps
  |[]=>[[c]]
theorem a3m:∀s,gM s=(eJ s).1::(if (eJ s).2.2=true then gM (eJ s).2.1 else [])
 |[]=>rfl
 |c::r=>by
  by_cases hc:c.toNat=46
  .simp[gM,eJ,hc]
  .simp only[gM,eJ,hc,if_false];rw[a3m r]
theorem c7U:∀s,(eJ s).2.2=true->(eJ s).2.1.length<s.length
 |[],h=>by simp[eJ]at h
 |c::r,h=>by
  unfold eJ at h|-;split
  .simp
  .rename_i hc;simp[hc]at h;have:=c7U r h;simp;omega
theorem c2M:∀s,(eJ s).1.length<=s.length
 |[]=>by simp[eJ]
 |c::r=>by
  unfold eJ;split
  .simp
  .simp;exact c2M r
theorem b0H:∀s,(eJ s).2.1.length<=s.length
 |[]=>by simp[eJ]
 |c::r=>by
  unfold eJ;split
  .simp
  .simp;have:=b0H r;omega
def tJ(p:List UInt8):Bool:=sizedB p&&(pC anB p||a5e p)
def pW(s:List UInt8):Bool:=decide (s.length<=120)&&(match gM s with
 |[]=>false
 |p::ps=>(tI p||jX p||(decide (p=[118])&& !ps.isEmpty))&&ps.all tJ)
def eD(b:Bool):Int:=if b then 0 else 3
theorem c9w(s:List UInt8):pW s=(decide (s.length<=120)&&((tI (eJ s).1||jX (eJ s).1||(decide ((eJ s).1=[118])&&(eJ s).2.2))&&(if (eJ s).2.2=true then(gM (eJ s).2.1).all tJ else true))):=by
 unfold pW;rw[a3m s];cases hm:(eJ s).2.2
 .simp
 .have:(gM (eJ s).2.1).isEmpty=false:=by rw[a3m];rfl
  simp[this]
theorem c6f:VM.Enters prog 241:=.mk func241 rfl
theorem c9x(hG:G 1=some dP)(s:List UInt8):CS prog G 241 [.str s] (.d (.int .i64 (eD (pW s)))) none:=by
 refine CS.aR func241 rfl ntmps241 rfl ?_;by_cases hl:120<s.length
 .have: ¬s.length<=120:=by omega
  simp[hl,pW,this,eD]
 .have hl':s.length<=120:=by omega
  simp[hl];refine aD.mk b8c (c2L _ (by omega)) ?_;simp;refine aD.mk c6d (c9u hG _) ?_;have b8d:=c9w s;simp only[hl',decide_true,Bool.true_and]at b8d;have b3Y:(tI (eJ s).1||jX (eJ s).1||(decide ((eJ s).1=[118])&&(eJ s).2.2))=false->pW s=false:=λh=>by rw[b8d,h];rfl
  have hgo:(tI (eJ s).1||jX (eJ s).1||(decide ((eJ s).1=[118])&&(eJ s).2.2))=true->pW s=if (eJ s).2.2=true then(gM (eJ s).2.1).all tJ else true:=λh=>by rw[b8d,h];rfl
  cases h1:tI (eJ s).1;rotate_left;simp
  replace hgo:=hgo (by simp[h1])
  rotate_left;simp;refine aD.mk c2K (c6e _) ?_;cases h2:jX (eJ s).1;rotate_left;simp
  replace hgo:=hgo (by simp[h1,h2])
  rotate_left 2;by_cases h3:(eJ s).1=[118];rotate_left
  .simp[h3];rw[b3Y (by rw[h1,h2];simp[h3])]
   rfl
  rotate_left 2;cases h4:(eJ s).2.2
  .simp[h3,h4];rw[b3Y (by rw[h1,h2];simp[h3,h4])]
   rfl
  simp[h3,h4]
  replace hgo:=hgo (by rw[h1,h2];simp[h3,h4])
  all_goals
   refine SW.eE (ι:={x:List UInt8×Bool//x.1.length<=120/\pW s=if x.2=true then(gM x.1).all tJ else true}) (λx=>[(4,.d (.str x.1.1)),(5,.d (.bool x.1.2))]) (λ_=>[]) (λ_=>[]) (λx=>if x.1.2=true then x.1.1.length+1 else 0) ⟨((eJ s).2.1,(eJ s).2.2),by have:=b0H s;simp;omega,hgo⟩ (by simp[*]) ?_;rintro⟨⟨r,m⟩,hr,he⟩;cases m
   .simp;rw[he]
    rfl
   .simp at hr he;simp;refine aD.mk b8c (c2L _ (by omega)) ?_;have hlen:=c2M r;simp;refine aD.mk a5d (a7Q _) ?_;have dB:pW s=(tJ (eJ r).1&&(if (eJ r).2.2=true then(gM (eJ r).2.1).all tJ else true)):=by rw[he,a3m r];cases (eJ r).2.2<;>simp
    have hnx:tJ (eJ r).1=true->pW s=(if (eJ r).2.2=true then(gM (eJ r).2.1).all tJ else true):=λhp=>by rw[dB,hp];rfl
    have hm:(if (eJ r).2.2=true then(eJ r).2.1.length+1 else 0)<r.length+1:=by
     cases hm:(eJ r).2.2
     .simp
     .have:=c7U r hm;simp;exact this
    have eM:(eJ r).2.1.length<=120:=by have:=b0H r;omega
    have sG:tJ (eJ r).1=false->pW s=false:=λhp=>by rw[dB,hp];rfl
    cases g1:sizedB (eJ r).1
    .simp;rw[sG (by simp[tJ,g1])]
     rfl
    .simp;refine aD.mk a0K (a1E _ (by omega)) ?_;cases g2:pC anB (eJ r).1
     .simp;refine aD.mk c6c (c9t _ (by omega)) ?_;cases g3:a5e (eJ r).1
      .simp;rw[sG (by simp[tJ,g1,g2,g3])]
       rfl
      .simp;exact aX.mk ⟨((eJ r).2.1,(eJ r).2.2),eM,hnx (by simp[tJ,g1,g3])⟩ (by simp) (by simpa using hm)
     .simp;exact aX.mk ⟨((eJ r).2.1,(eJ r).2.2),eM,hnx (by simp[tJ,g1,g2])⟩ (by simp) (by simpa using hm)
open Go Go.VM
variable {G:GT}
def strs(l:List (List UInt8)):List (List D):=l.map λs=>[.str s]
theorem a5f(l:List (List UInt8)):(strs l).length=l.length:=by simp[strs]
theorem c9y{l:List (List UInt8)}{i:Nat}(h:i<(strs l).length):(strs l)[i]=[.str (l[i]'(by rw[<-a5f l];exact h))]:=by simp[strs]
theorem d2O(l:List (List UInt8)):(∀x,x∈strs l->x.length=1)=True:=by simp[strs]
theorem d2P(l:List (List UInt8))(s:List UInt8):strs (l++[s])=strs l++[[.str s]]:=by simp[strs]
attribute [simp] a5f c9y d2O d2P
theorem b3Z{l:List (List UInt8)}{i:Nat}(h:i<l.length):(strs l)[i]? =some [.str l[i]]:=by simp[strs,h]
def a5g(s:List UInt8):List (List UInt8)->Nat->Int
 |[],_=> -1
 |k::r,i=>if k=s then i else a5g s r (i+1)
theorem c6g{s:List UInt8}{l:List (List UInt8)}{i j:Nat}(h:i<l.length):a5g s (l.drop i) j=if l[i]=s then(j:Int) else a5g s (l.drop (i+1)) (j+1):=by
 rw[f7U h]
 rfl
theorem b8e(s:List UInt8):∀(l:List (List UInt8)) (i:Nat),decide (0<=a5g s l i)=l.any λk=>decide (k=s)
 |[],i=>by simp[a5g]
 |k::r,i=>by
  unfold a5g;by_cases h:k=s
  .simp[h]
  .simp[h,b8e s r]
theorem c2N:VM.Enters prog 193:=.mk func193 rfl
theorem c6h(l:List (List UInt8))(s:List UInt8)(hl:l.length<=1000000):CS prog G 193 [.sl (strs l),.str s] (.d (.int .i64 (a5g s l 0))) none:=by
 refine CS.aR func193 rfl ntmps193 rfl ?_;simp[a5f];refine SW.eE (ι:={i:Nat//i<=l.length/\a5g s l 0=a5g s (l.drop i) i}) (λi=>[(8,.d (.int .i64 i.1))]) (λ_=>[]) (λ_=>[]) (λi=>l.length-i.1) ⟨0,by simp⟩ (by simp) ?_;rintro⟨i,hi,he⟩;by_cases aE:i<l.length
 .have hg:=b3Z aE;rw[c6g aE]at he;by_cases hk:l[i]=s
  .simp[aE,a5f,hg,hk];rw[if_pos hk]at he;rw[he]
  .simp[aE,a5f,hg,hk];rw[if_neg hk]at he;exact aX.mk ⟨i+1,aE,he⟩ (by simp[aY (show i<9223372036854775807 by omega)]) (by simp;omega)
 .simp[aE];rw[he,List.drop_of_length_le (by omega)]
  rfl
theorem b2C:VM.Enters prog 194:=.mk func194 rfl
theorem b4a:CS prog G 194 [] (.d (.sl (strs kwL))) none:=by refine CS.aR func194 rfl ntmps194 rfl ?_;simp[show List.range 42=[0,1,2,3,4,5,6,7,8,9,10,11,12,13,14,15,16,17,18,19,20,21,22,23,24,25,26,27,28,29,30,31,32,33,34,35,36,37,38,39,40,41] from rfl];simp[strs,kwL]
theorem a0L:VM.Enters prog 181:=.mk func181 rfl
theorem a2e(s:List UInt8):CS prog G 181 [.str s] (.d (.bool (aU s))) none:=by refine CS.aR func181 rfl ntmps181 rfl ?_;simp;refine aD.mk b2C b4a ?_;simp;refine aD.mk c2N (c6h kwL s (by decide)) ?_;have:=b8e s kwL 0;simp;simp[aU, <- this]
theorem b9N:VM.Enters prog 278:=.mk func278 rfl
theorem c2O(s:List UInt8):CS prog G 278 [.str s] (.d (.int .i64 (eD (tI s)))) none:=by
 refine CS.aR func278 rfl ntmps278 rfl ?_;by_cases hl1:s.length<1
 .have:sizedB s=false:=by simp[sizedB];omega
  simp[hl1,tI,this,eD]
 by_cases hl2:24<s.length
 .have:sizedB s=false:=by simp[sizedB];omega
  simp[hl1,hl2,tI,this,eD]
 have hz:sizedB s=true:=by simp[sizedB];omega
 have h0:0<s.length:=by omega
 simp[hl1,hl2,h0];refine aD.mk qF (sK _) ?_;cases h1:oK s[0].toNat
 .simp[tI,uV h0,h1,eD]
 simp;refine aD.mk a0L (a2e _) ?_;cases h2:aU s
 .simp;have hb:tI s=pC wdB s:=by simp[tI,hz,uV h0,h1,h2]
  refine SW.eE (ι:={i:Nat//i<=s.length/\pC wdB s=pC wdB (s.drop i)}) (λi=>[(24,.d (.int .i64 i.1))]) (λ_=>[]) (λ_=>[]) (λi=>s.length-i.1) ⟨0,by simp⟩ (by simp) ?_;rintro⟨i,hi,he⟩;by_cases aE:i<s.length
  .have hw:=aY (show i<9223372036854775807 by omega);simp[aE];refine aD.mk qF (sK _) ?_;cases h1:oK s[i].toNat
   .simp[aE];refine aD.mk vP (yM _) ?_;cases h3:b0G s[i].toNat
    .by_cases h4:s[i].toNat=95
     .simp[aE,h4];exact aX.mk ⟨i+1,aE,jW he aE (by simp[wdB,h4])⟩ (by simp[hw]) (by simp;omega)
     .simp[aE,h4];rw[hb,a0l he aE (by simp[wdB,h1,h3];omega)]
      rfl
    .simp[aE];exact aX.mk ⟨i+1,aE,jW he aE (by simp[wdB,h3])⟩ (by simp[hw]) (by simp;omega)
   .simp[aE];exact aX.mk ⟨i+1,aE,jW he aE (by simp[wdB,h1])⟩ (by simp[hw]) (by simp;omega)
  .simp[aE];rw[hb,a5b he aE]
   rfl
 .simp[tI,h2,eD]
theorem b9O:VM.Enters prog 279:=.mk func279 rfl
theorem c2P(s:List UInt8):CS prog G 279 [.str s] (.d (.int .i64 (eD (jX s)))) none:=by
 refine CS.aR func279 rfl ntmps279 rfl ?_;by_cases hl1:s.length<1
 .have:sizedB s=false:=by simp[sizedB];omega
  simp[hl1,jX,this,eD]
 by_cases hl2:24<s.length
 .have:sizedB s=false:=by simp[sizedB];omega
  simp[hl1,hl2,jX,this,eD]
 have hz:sizedB s=true:=by simp[sizedB];omega
 have h0:0<s.length:=by omega
 simp[hl1,hl2,h0];refine aD.mk a0J (a2d _) ?_;cases h1:b3X s[0].toNat
 .simp[jX,uV h0,h1,eD]
 by_cases e1:s=[73,110,116]
 .simp[jX,e1,eD]
 by_cases e2:s=[66,111,111,108]
 .simp[jX,e2,eD]
 by_cases e3:s=[67,101,108,108]
 .simp[jX,e3,eD]
 by_cases e4:s=[70,117,110]
 .simp[jX,e4,eD]
 simp[e1,e2,e3,e4];have hb:jX s=pC anB s:=by simp[jX,hz,uV h0,h1,e1,e2,e3,e4]
 refine SW.eE (ι:={i:Nat//i<=s.length/\pC anB s=pC anB (s.drop i)}) (λi=>[(36,.d (.int .i64 i.1))]) (λ_=>[]) (λ_=>[]) (λi=>s.length-i.1) ⟨0,by simp⟩ (by simp) ?_;rintro⟨i,hi,he⟩;by_cases aE:i<s.length
 .have hw:=aY (show i<9223372036854775807 by omega);simp[aE];refine aD.mk qF (sK _) ?_;cases h1:oK s[i].toNat
  .simp[aE];refine aD.mk a0J (a2d _) ?_;cases h2:b3X s[i].toNat
   .simp[aE];refine aD.mk vP (yM _) ?_;cases h3:b0G s[i].toNat
    .simp[aE];rw[hb,a0l he aE (by simp[anB,h1,h2,h3])]
     rfl
    .simp[aE];exact aX.mk ⟨i+1,aE,jW he aE (by simp[anB,h3])⟩ (by simp[hw]) (by simp;omega)
   .simp[aE];exact aX.mk ⟨i+1,aE,jW he aE (by simp[anB,h2])⟩ (by simp[hw]) (by simp;omega)
  .simp[aE];exact aX.mk ⟨i+1,aE,jW he aE (by simp[anB,h1])⟩ (by simp[hw]) (by simp;omega)
 .simp[aE];rw[hb,a5b he aE]
  rfl
end
end Go.Proofs.YtjpodcmhcenjjaaGreatDoor
section
namespace Go.VM
open Go Go.RowKit Go.ChangeShapes Go.WideShapes
mutual
def flat {H:Type}:DataW H->List D
 | .lit (.int k n)=>[.int k n]
 | .lit (.bool b)=>[.bool b]
 | .lit (.string s)=>[.str s]
 | .nil=>[.sl []]
 | .slice es _=>[.sl (yN es)]
 | .agg ps=>vQ ps
 |_=>[]
def yN {H:Type}:List (DataW H)->List (List D)
 |[]=>[]
 |d::r=>flat d::yN r
def vQ {H:Type}:List (DataW H)->List D
 |[]=>[]
 |d::r=>flat d++vQ r
end
theorem b1E{H:Type}:∀l:List (DataW H),yN l=l.map flat
 |[]=>by simp[yN]
 |d::r=>by simp[yN,b1E r]
theorem b4b{H:Type}:∀l:List (DataW H),vQ l=(l.map flat).flatten
 |[]=>by simp[vQ]
 |d::r=>by simp[vQ,b4b r]
inductive a1F (P:Program):TypeId->List D->Prop
 |bool {t:TypeId} {b:Bool}:P.underlying t=some .bool->a1F P t [.bool b]
 |int {t:TypeId} {k:IntKind} {n:Int}:P.underlying t=some (.int k)->(Lit.int k n).wf=true->a1F P t [.int k n]
 |str {t:TypeId} {s:List UInt8}:P.underlying t=some .string->s.length<=maxLen->a1F P t [.str s]
 |sl {t e:TypeId} {es:List (List D)}:P.underlying t=some (.slice e)->es.length<=maxLen->(∀x∈es,a1F P e x)->a1F P t [.sl es]
 |struct {t:TypeId} {fs:Array Field} {ds:List D}:P.underlying t=some (.struct fs)->ds.length=P.cellsOf t->(∀f∈fs.toList,a1F P f.type ((ds.drop f.offset).take (P.cellsOf f.type)))->a1F P t ds
 |array {t e:TypeId} {n:Nat} {ds:List D}:P.underlying t=some (.array n e)->ds.length=P.cellsOf t->(∀i,i<n->a1F P e ((ds.drop (i*P.cellsOf e)).take (P.cellsOf e)))->a1F P t ds
def a1G(P:Program)(L:List TypeId):Bool:=L.all λt=>decide (t<P.types.size)&&match P.underlying t with
 |some .bool|some (.int _)|some .string=>true
 |some (.slice e)=>L.contains e&&decide (0<P.cellsOf e)
 |some (.struct fs)=>fs.toList.all λf=>L.contains f.type
 |some (.array _ e)=>L.contains e
 |_=>false
theorem c2Q{w:World}{a:Addr}{m:Nat}{v:Value}(h:w.cell? (a.add m)=some v):w.cell? ⟨a.block,a.off+m,none⟩=some v:=by
 obtain⟨b,o,sp⟩:=a;by_cases hm:m=0
 .subst hm;simp only[Addr.add,if_true]at h;unfold World.cell? at h|-;simp only at h|-;cases hb:w.heap[b]? with
  |none=>rw[hb]at h;cases h
  |some o'=>
   rw[hb]at h;cases o' with
   |cells c _ _=>
    simp only at h|-;split at h
    .cases h
    .simpa using h
   |_=>cases h
 .simpa[Addr.add,hm]using h
theorem c9z{w:World}{a:Addr}{v:Value}(h:w.cell? a=some v):a.spot=none:=by
 unfold World.cell? at h;split at h
 .split at h
  .cases h
  .rename_i hs;simpa using hs
 .cases h
theorem c7V{w:World}{a:Addr}{v:Value}(h:w.cell? a=some v):a.block<w.heap.size:=by
 unfold World.cell? at h;split at h
 .rename_i hb;exact(f7Q.1 hb).1
 .cases h
theorem tA{α β:Type}{f:α->Option β}:∀ {l:List α} {r:List β},l.mapM f=some r->∀(i:Nat) (a:α),l[i]? =some a->∃b,r[i]? =some b/\f a=some b
 |[],_,_,i,a,ha=>by simp at ha
 |x::l,r,h,i,a,ha=>by
  rw[List.mapM_cons]at h;obtain⟨b,hb,h⟩:=f7V.1 h;obtain⟨bs,hbs,h⟩:=f7V.1 h;cases h;cases i with
  |zero=>simp at ha;subst ha;exact⟨b,rfl,hb⟩
  |succ i=>exact tA hbs i a (by simpa using ha)
theorem a5h{w:World}{base:Nat}{a:Addr}{n:Nat}{cs:List Value}(h:w.cells? base a n=some cs):cs.length=n/\∀j,j<n->w.cell? (a.add j)=some (cs.getD j undef):=by
 unfold World.cells? at h;split at h
 .have hl:=mapM_some_length h;refine⟨by simpa using hl,λj hj=>?_⟩;obtain⟨v,h1,h2⟩:=tA h j j (by simp[hj]);simpa[List.getD,h1]using h2
 .cases h
theorem a9d{α:Type}:∀(ls:List (List α)) (j:Nat) (l:List α),ls[j]? =some l->(ls.flatten.drop ((ls.take j).map List.length).sum).take l.length=l
 |[],j,l,h=>by simp at h
 |x::r,0,l,h=>by simp at h;subst h;simp
 |x::r,j+1,l,h=>by simp only[List.getElem?_cons_succ]at h;have:=a9d r j l h;simp only[List.flatten_cons,List.take_succ_cons,List.map_cons,List.sum_cons];rw[<-List.drop_drop,List.drop_append_of_le_length (f7X _),List.drop_length,List.nil_append];exact this
theorem b4c{α:Type}:∀(ls:List (List α)) (i:Nat) (x:α),ls.flatten[i]? =some x->∃j l k,ls[j]? =some l/\l[k]? =some x/\i=((ls.take j).map List.length).sum+k
 |[],i,x,h=>by simp at h
 |l::r,i,x,h=>by
  simp only[List.flatten_cons]at h;by_cases hi:i<l.length
  .rw[f7S hi]at h;exact⟨0,l,i,rfl,h,by simp⟩
  .rw[f7P (by omega)]at h;obtain⟨j,l',k,h1,h2,h3⟩:=b4c r _ x h;exact⟨j+1,l',k,h1,h2,by rw[List.take_succ_cons,List.map_cons,List.sum_cons];omega⟩
section
variable {P:Program} {H:Type} {enc:TypeId×Value->H} {w:World} {sp:Nat->Bool} {held:Bool} {L:List TypeId}
abbrev RW(w:World):Nat->Nat->Prop:=λb _=>b<w.heap.size
theorem b4d{parts:List (DataW H×List MemPlace)}{cs:List Value}{offs:List Nat}{szs:List Nat}(hl:offs.length=parts.length)(hl':szs.length=parts.length)(e4e:∀(j:Nat) (o:Nat),offs[j]? =some o->o=(szs.take j).sum)(qO:cs.length=szs.sum)(h:∀(j:Nat) (y:DataW H×List MemPlace) (o s:Nat),parts[j]? =some y->offs[j]? =some o->szs[j]? =some s->(flat y.1).length=((cs.drop o).take s).length/\∀i d,(flat y.1)[i]? =some d->d.one=true/\V (RW w) w (((cs.drop o).take s).getD i undef) d):
  (vQ (parts.map (·.1))).length=cs.length/\(∀(j:Nat) (y:DataW H×List MemPlace) (o s:Nat),parts[j]? =some y->offs[j]? =some o->szs[j]? =some s->((vQ (parts.map (·.1))).drop o).take s=flat y.1)/\
   ∀i d,(vQ (parts.map (·.1)))[i]? =some d->d.one=true/\V (RW w) w (cs.getD i undef) d:=by
 rw[b4b,List.map_map];have hlen:∀(j:Nat) (y:DataW H×List MemPlace) (o s:Nat),parts[j]? =some y->offs[j]? =some o->szs[j]? =some s->(flat y.1).length=s:=λj y o s h1 h2 h3=>by
  rw[(h j y o s h1 h2 h3).1,List.length_take,List.length_drop];have:=e4e j o h2;have hle:(szs.take j).sum+s<=szs.sum:=by
   have hj:j<szs.length:=(f7I.1 h3).1;have hs:szs[j]=s:=by rw[f7L hj]at h3;exact Option.some.inj h3
   have e:szs.sum=(szs.take j).sum+(szs.drop j).sum:=by rw[<-List.sum_append,List.take_append_drop]
   rw[e,f7U hj,List.sum_cons,hs];omega
  omega
 have e7x:parts.map (List.length∘flat∘(·.1))=szs:=by
  apply List.ext_getElem?;intro j;rw[f7R];by_cases hj:j<parts.length
  .have h1:parts[j]? =some parts[j]:=f7L hj;have h2:offs[j]? =some (offs[j]'(by omega)):=f7L _;have h3:szs[j]? =some (szs[j]'(by omega)):=f7L _;rw[h1,h3];simpa using hlen j _ _ _ h1 h2 h3
  .rw[List.getElem?_eq_none (by omega),List.getElem?_eq_none (by omega)]
   rfl
 have a7R:∀j,(((parts.map (flat∘(·.1))).take j).map List.length).sum=(szs.take j).sum:=λj=>by rw[<-e7x, <- List.map_take, <- List.map_take,List.map_map]
 refine⟨?_,λj y o s h1 h2 h3=>?_,λi d hi=>?_⟩
 .rw[List.length_flatten,List.map_map,e7x,qO]
 .have:=a9d (parts.map (flat∘(·.1))) j (flat y.1) (by rw[f7R,h1];rfl);rw[a7R, <- e4e j o h2,hlen j y o s h1 h2 h3]at this;exact this
 .obtain⟨j,l,k,h1,h2,h3⟩:=b4c _ i d hi;rw[a7R]at h3;rw[f7R]at h1;obtain⟨y,hy,rfl⟩:=f7G.1 h1;have hj:j<parts.length:=(f7I.1 hy).1;have e2:offs[j]? =some (offs[j]'(by omega)):=f7L _;have e3:szs[j]? =some (szs[j]'(by omega)):=f7L _;obtain⟨q1,q2⟩:=h j y _ _ hy e2 e3;obtain⟨q3,q4⟩:=q2 k d h2;refine⟨q3,?_⟩;have hk:k<(flat y.1).length:=(f7I.1 h2).1;rw[hlen j y _ _ hy e2 e3]at hk;have:((cs.drop (offs[j]'(by omega))).take (szs[j]'(by omega))).getD k undef=cs.getD i undef:=by simp only[List.getD,List.getElem?_take,hk,if_true,f8a];rw[h3,e4e j _ e2]
  rwa[this]at q4
theorem b0I(rT:laidOutB P=true)(hp:a1G P L=true):∀(n:Nat) (t:TypeId) (cs:List Value) (x:DataW H×List MemPlace),L.contains t=true->DataW.trod enc P w 0 sp held n t cs=some x->
  (flat x.1).length=cs.length/\a1F P t (flat x.1)/\∀i d,(flat x.1)[i]? =some d->d.one=true/\V (RW w) w (cs.getD i undef) d:=by
 intro n
 induction n with
 |zero=>intro t cs x _ h;simp[DataW.trod]at h
 |succ n ih=>
  intro t cs x hT h;have oU:=f7K.1 hp t (by simpa using hT);simp only[f7H,decide_eq_true_eq]at oU;obtain⟨hts,oU⟩:=oU;rw[DataW.trod_step]at h;have one:∀(v:Value) (d:D),d.one=true->V (RW w) w v d->∀i d',([d]:List D)[i]? =some d'->d'.one=true/\V (RW w) w ([v].getD i undef) d':=λv d h1 h2 i d' hi=>by
   cases i with
   |zero=>simp at hi;subst hi;exact⟨h1,h2⟩
   |succ i=>simp at hi
  unfold DataW.trodStep at h;split at h
  case h_1 b hu=>simp at h;subst h;exact⟨rfl,.bool hu,one _ _ rfl (.bool b)⟩
  case h_2 k k' m hu=>
   split at h
   .rename_i hk;obtain⟨rfl,hk⟩:=hk;simp at h;subst h;exact⟨rfl,.int hu hk,one _ _ rfl (.int _ _)⟩
   .cases h
  case h_3 hu=>rw[hu]at oU;cases oU
  case h_4 s hu=>
   split at h
   .rename_i hs;simp at h;subst h;exact⟨rfl,.str hu (by simpa using hs),one _ _ rfl (.str s.data.toList)⟩
   .cases h
  case h_5 hu=>rw[hu]at oU;cases oU
  case h_6 hu=>rw[hu]at oU;cases oU
  case h_7 e hu=>simp at h;subst h;exact⟨rfl,.sl hu (by simp) (by simp),one _ _ rfl (.emp none 0)⟩
  case h_8 e a len cap hu=>
   rw[hu]at oU;simp only[f7H,decide_eq_true_eq]at oU;obtain⟨heL,jG⟩:=oU;simp only at h;split at h
   .rename_i hc;obtain⟨_,hlc,hcm⟩:=hc;simp only[f7G,f7V]at h;obtain⟨elems,he,rest,_,rfl⟩:=h;have hlen:elems.length=len:=by simpa using mapM_some_length he
    have each:∀(i:Nat) (y:DataW H×List MemPlace),elems[i]? =some y->∃uJ,w.cells? 0 (a.add (i*P.cellsOf e)) (P.cellsOf e)=some uJ/\DataW.trod enc P w 0 sp held n e uJ=some y:=λi y hy=>by
     have hi:i<len:=by have:=(f7I.1 hy).1;omega
     obtain⟨v,h1,h2⟩:=tA he i i (by simp[hi]);rw[hy]at h1;cases h1;simpa only[f7V]using h2
    simp only[flat,b1E,List.map_map];refine⟨rfl,.sl hu (by simp[hlen];omega) (λz hz=>?_),?_⟩
    .obtain⟨y,hy,rfl⟩:=List.mem_map.1 hz;obtain⟨i,hi⟩:=List.mem_iff_getElem?.1 hy;obtain⟨uJ,h1,h2⟩:=each i y hi;exact(ih e uJ y heL h2).2.1
    .refine one _ _ rfl ?_;by_cases h0:len=0
     .subst h0;have:elems=[]:=List.eq_nil_of_length_eq_zero hlen;subst this;exact .emp _ _
     .obtain⟨y0,hy0⟩:∃y,elems[0]? =some y:=⟨elems[0]'(by omega),f7L _⟩;obtain⟨cs0,wL,_⟩:=each 0 y0 hy0;have h00:=(a5h wL).2 0 jG;have e1B:a.spot=none:=by simpa[Addr.add]using c9z h00
      obtain⟨b,o,sp0⟩:=a;simp only at e1B;subst e1B;have cell:∀(i j:Nat),i<len->j<P.cellsOf e->∃y uJ,elems[i]? =some y/\DataW.trod enc P w 0 sp held n e uJ=some y/\uJ.length=P.cellsOf e/\w.cell? ⟨b,o+i*P.cellsOf e+j,none⟩=some (uJ.getD j undef):=λi j hi hj=>by
       have hy:elems[i]? =some (elems[i]'(by omega)):=f7L _;obtain⟨uJ,h1,h2⟩:=each i _ hy;obtain⟨h3,h4⟩:=a5h h1;refine⟨_,uJ,hy,h2,h3,?_⟩;have h5:=c2Q (h4 j hj);have e1:((⟨b,o,none⟩:Addr).add (i*P.cellsOf e)).block=b:=by unfold Addr.add;split<;>rfl
       have e2:((⟨b,o,none⟩:Addr).add (i*P.cellsOf e)).off=o+i*P.cellsOf e:=by
        unfold Addr.add;split
        .rename_i hz;simp[hz]
        .rfl
       rw[e1,e2]at h5;exact h5
      have kid:∀(i j:Nat) (e':List D) (d:D),(elems.map (flat∘(·.1)))[i]? =some e'->e'[j]? =some d->d.one=true/\V (RW w) w ((w.cell? ⟨b,o+i*P.cellsOf e+j,none⟩).getD undef) d:=λi j e' d h1 h2=>by
       rw[f7R]at h1;obtain⟨y,hy,rfl⟩:=f7G.1 h1;have hi:i<len:=by have:=(f7I.1 hy).1;omega
       obtain⟨uJ,e7y,htr⟩:=each i y hy;obtain⟨q1,_,q3⟩:=ih e uJ y heL htr;obtain⟨p1,p2⟩:=q3 j d h2;have hj:j<P.cellsOf e:=by have:=(f7I.1 h2).1;have h3:=(a5h e7y).1;simp only[Function.comp]at this;omega
       obtain⟨y',cs2,hy',f4M,hl2,oV⟩:=cell i j hi hj;rw[hy]at hy';cases hy';obtain⟨h3,h4⟩:=a5h e7y;have h5:=c2Q (h4 j hj);have e1:((⟨b,o,none⟩:Addr).add (i*P.cellsOf e)).block=b:=by unfold Addr.add;split<;>rfl
       have e2:((⟨b,o,none⟩:Addr).add (i*P.cellsOf e)).off=o+i*P.cellsOf e:=by
        unfold Addr.add;split
        .rename_i hz;simp[hz]
        .rfl
       rw[e1,e2]at h5;rw[h5];exact⟨p1,p2⟩
      refine .sl b o len cap (P.cellsOf e) _ (λi j=>(w.cell? ⟨b,o+i*P.cellsOf e+j,none⟩).getD undef) (by simp[hlen]) hlc jG (λx hx=>?_) (λi j hi hj=>?_) (λi j e' d h1 h2=>(kid i j e' d h1 h2).1) (λi j e' d h1 h2=>(kid i j e' d h1 h2).2)
      .obtain⟨y,hy,rfl⟩:=List.mem_map.1 hx;obtain⟨i,hi⟩:=List.mem_iff_getElem?.1 hy;obtain⟨uJ,h1,h2⟩:=each i y hi;simp only[Function.comp];rw[(ih e uJ y heL h2).1,(a5h h1).1]
      .obtain⟨_,_,_,_,_,oV⟩:=cell i j hi hj;rw[oV];exact⟨c7V oV,rfl⟩
   .cases h
  case h_9 cs _ _ fs hu=>
   rw[hu]at oU;simp only at oU;split at h
   .rename_i hc;obtain⟨hk1,hk2,hk3⟩:=kid_struct rT hts hu;simp only[f7G]at h;obtain⟨xs,hx,rfl⟩:=h;have hlen:xs.length=fs.toList.length:=mapM_some_length hx;obtain⟨q1,q2,q3⟩:=b4d (w:=w) (parts:=xs) (cs:=cs) (offs:=fs.toList.map (·.offset)) (szs:=fs.toList.map λf=>P.cellsOf f.type) (by simp[hlen]) (by simp[hlen])
     (λj o ho=>by rw[f7R]at ho;obtain⟨f,hf,rfl⟩:=f7G.1 ho;rw[hk3 j f hf,List.map_take]) (by rw[hc,hk2])
     (λj y o s h1 h2 h3=>by rw[f7R]at h2 h3;obtain⟨f,hf,rfl⟩:=f7G.1 h2;rw[hf]at h3;simp only[Option.map_some,f7N]at h3;subst h3;obtain⟨v,p1,p2⟩:=tA hx j f hf;rw[h1]at p1;cases p1;have:=ih f.type _ _ (f7K.1 oU f (f7M hf)) p2;exact⟨this.1,this.2.2⟩)
    simp only[flat];refine⟨q1,.struct hu (by rw[q1,hc]) (λf hf=>?_),q3⟩;obtain⟨j,hj⟩:=List.mem_iff_getElem?.1 hf;obtain⟨v,p1,p2⟩:=tA hx j f hj;rw[q2 j v f.offset (P.cellsOf f.type) p1 (by rw[f7R,hj];rfl) (by rw[f7R,hj];rfl)];exact(ih f.type _ _ (f7K.1 oU f hf) p2).2.1
   .cases h
  case h_10 cs _ _ m e hu=>
   rw[hu]at oU;simp only at oU;split at h
   .rename_i hc;obtain⟨_,hk2⟩:=kid_array rT hts hu;simp only[f7G]at h;obtain⟨xs,hx,rfl⟩:=h;have hlen:xs.length=m:=by simpa using mapM_some_length hx
    have at':∀(j:Nat) (y:DataW H×List MemPlace),xs[j]? =some y->DataW.trod enc P w 0 sp held n e ((cs.drop (j*P.cellsOf e)).take (P.cellsOf e))=some y:=λj y hy=>by
     have hj:j<m:=by have:=(f7I.1 hy).1;omega
     obtain⟨v,p1,p2⟩:=tA hx j j (by simp[hj]);rw[hy]at p1;cases p1;exact p2
    have d8N:∀j,j<=m->(((List.replicate m (P.cellsOf e)).take j).sum)=j*P.cellsOf e:=λj hj=>by rw[List.take_replicate,Nat.min_eq_left hj,List.sum_replicate_nat]
    obtain⟨q1,q2,q3⟩:=b4d (w:=w) (parts:=xs) (cs:=cs) (offs:=(List.range m).map λi=>i*P.cellsOf e) (szs:=List.replicate m (P.cellsOf e)) (by simp[hlen]) (by simp[hlen])
     (λj o ho=>by
      rw[f7R]at ho;obtain⟨i,hi,rfl⟩:=f7G.1 ho;have hjm:j<m:=by have:=(f7I.1 hi).1;simpa using this
      have:i=j:=by rw[List.getElem?_range hjm]at hi;simpa using hi.symm
      rw[this,d8N j (by omega)]) (by rw[hc,hk2,List.sum_replicate_nat])
     (λj y o s h1 h2 h3=>by
      have hjm:j<m:=by have:=(f7I.1 h1).1;omega
      have ho:o=j*P.cellsOf e:=by rw[f7R,List.getElem?_range hjm]at h2;simpa using h2.symm
      have hs:s=P.cellsOf e:=by rw[List.getElem?_replicate,if_pos hjm]at h3;simpa using h3.symm
      subst ho hs;have:=ih e _ _ oU (at' j y h1);exact⟨this.1,this.2.2⟩)
    simp only[flat];refine⟨q1,.array hu (by rw[q1,hc]) (λi hi=>?_),q3⟩;have hy:xs[i]? =some (xs[i]'(by omega)):=f7L _;rw[q2 i _ (i*P.cellsOf e) (P.cellsOf e) hy (by rw[f7R,List.getElem?_range hi];rfl) (by rw[List.getElem?_replicate,if_pos hi])];exact(ih e _ _ oU (at' i _ hy)).2.1
   .cases h
  all_goals first|(rename_i hu;rw[hu]at oU;cases oU;done)|(cases h;done)
theorem d2Q{t:TypeId}{ds:List D}(hu:P.underlying t=some .string)(h:a1F P t ds):∃s,ds=[.str s]/\s.length<=maxLen:=by
 cases h with
 |str _ h=>exact⟨_,rfl,h⟩
 |_ h1=>rw[hu]at h1;cases h1
def a6Y(P:Program)(t:TypeId)(d:D):Prop:=
 match P.underlying t with
 |some u=>if pE u then ∃cs,d=.agg cs/\a1F P t cs else a1F P t [d]
 |none=>False
def a9e(P:Program):List TypeId->List D->Prop
 |[],[]=>True
 |t::ts,d::ds=>a6Y P t d/\a9e P ts ds
 |_,_=>False
theorem c9A{t:TypeId}{u:TypeDesc}{d:D}(hu:P.underlying t=some u)(ha:pE u=false)(h:a6Y P t d):a1F P t [d]:=by unfold a6Y at h;rw[hu]at h;simp only[ha]at h;exact h
theorem c9B{t:TypeId}{d:D}(hu:P.underlying t=some .string)(h:a6Y P t d):∃s,d=.str s/\s.length<=maxLen:=by obtain⟨s,h1,h2⟩:=d2Q hu (c9A hu rfl h);cases h1;exact⟨s,rfl,h2⟩
theorem b4e{r:Reach}{b0:Nat}{t:TypeId}{v:Value}{u:TypeDesc}(hu:P.underlying t=some u)(ha:pE u=false)(hp:(match P.underlying t with|some .bool|some (.int _)|some .string|some (.slice _)=>true|_=>false)=true)(a1o:Value.okWide P w r b0 t v):v.cells=#[v]:=by
 unfold Value.okWide at a1o;rw[hu]at a1o hp;cases u<;>simp only[pE]at ha<;>(try cases ha)<;>simp only[]at hp<;>(try cases hp)
 all_goals
  simp only[Cell.okWide,hu]at a1o;cases v<;>first|rfl|(simp[Cell.ok,hu]at a1o)
theorem d2R{r:Reach}{b0:Nat}(rT:laidOutB P=true)(hp:a1G P L=true){t:TypeId}{v:Value}{d:DataW H}{ps:List MemPlace}(hT:L.contains t=true)(a1o:Value.okWide P w r b0 t v)(h:DataW.Trod enc P w 0 sp held t v d ps):
  ∃x,a6Y P t x/\V (RW w) w v x:=by
 obtain⟨n,hn⟩:=h;obtain⟨h1,h2,h3⟩:=b0I rT hp n t _ _ hT hn;have oU:=f7K.1 hp t (by simpa using hT);simp only[f7H,decide_eq_true_eq]at oU;obtain⟨_,oU⟩:=oU;cases hu:P.underlying t with
 |none=>rw[hu]at oU;cases oU
 |some u=>
  cases ha:pE u with
  |true=>
   have hv:∃cs:Array Value,v=.agg cs:=by
    unfold Value.okWide at a1o;rw[hu]at a1o;cases u<;>simp only[pE]at ha<;>(try cases ha)
    .obtain⟨cs,hv,_⟩:=a1o;exact⟨cs,hv⟩
    .obtain⟨cs,hv,_⟩:=a1o;exact⟨cs,hv⟩
   obtain⟨cs,rfl⟩:=hv;refine⟨.agg (flat d),by simp only[a6Y,hu,ha,if_true];exact⟨_,rfl,h2⟩,.agg _ _ (by simpa[Value.cells]using h1.symm) (λi x hx=>(h3 i x hx).1) (λi x hx=>?_)⟩;have:=(h3 i x hx).2;simpa[Value.cells,List.getD,f7J]using this
  |false=>
   have hc:v.cells=#[v]:=by refine b4e hu ha ?_ a1o;rw[hu]at oU|-;cases u<;>simp only[pE]at ha<;>(try cases ha)<;>first|rfl|(simp at oU)
   rw[hc]at h1 h3;simp at h1;obtain⟨x,hx⟩:∃x,flat d=[x]:=List.length_eq_one_iff.1 h1;simp only[hx]at h2 h3;refine⟨x,by simp only[a6Y,hu,ha];exact h2,?_⟩;simpa using (h3 0 x rfl).2
theorem a2D{r:Reach}{b0:Nat}(rT:laidOutB P=true)(hp:a1G P L=true):∀ {ts:List TypeId} {vs:List Value} {ds:List (DataW H)} {ps:List MemPlace},(∀t∈ts,L.contains t=true)->(∀(j:Nat) t v,ts[j]? =some t->vs[j]? =some v->Value.okWide P w r b0 t v)->
  DataW.TrodAll enc P w 0 sp held ts vs ds ps->∃xs,a9e P ts xs/\vs.length=xs.length/\∀(i:Nat) (d:D),xs[i]? =some d->V (RW w) w (vs.getD i undef) d
 |[],_,_,_,_,_,h=>by obtain⟨rfl,rfl,rfl⟩:=trodAll_nil h;exact⟨[],trivial,rfl,by simp⟩
 |t::ts,_,_,_,hT,hv,h=>by
  obtain⟨v,vs1,d,ds1,a,b,rfl,rfl,rfl,h1,h2⟩:=trodAll_cons h;obtain⟨x,q1,q2⟩:=d2R rT hp (hT t (.head _)) (hv 0 t v rfl rfl) h1;obtain⟨xs,q3,q4,q5⟩:=a2D rT hp (λt ht=>hT t (.tail _ ht)) (λj t v a b=>hv (j+1) t v a b) h2;refine⟨x::xs,⟨q1,q3⟩,by simp[q4],λi d hi=>?_⟩;cases i with
  |zero=>simp at hi;subst hi;simpa using q2
  |succ i=>simp at hi;simpa using q5 i d hi
theorem a6Z{w':World}{base:Nat}:∀ {ts:List TypeId} {vs:List Value} {ds:List (DataW H)} {ps:List MemPlace},DataW.TrodAll enc P w base sp held ts vs ds ps->(∀p∈ps,w.sameAt w' p)->DataW.TrodAll enc P w' base sp held ts vs ds ps
 |[],[],[],_,h,_=>h
 |_::_,_::_,_::_,_,⟨p,q,⟨n,hn⟩,h2,e⟩,hs=>⟨p,q,⟨n,DataW.trod_carry n _ _ _ hn λx hx=>hs x (by rw[e];exact List.mem_append_left _ hx)⟩,a6Z h2 λx hx=>hs x (by rw[e];exact List.mem_append_right _ hx),e⟩
theorem b1F{base:Nat}:∀ {ts:List TypeId} {vs:List Value} {ds:List (DataW H)} {ps:List MemPlace},DataW.TrodAll enc P w base sp held ts vs ds ps->ds.length=ts.length
 |[],[],[],_,_=>rfl
 |_::_,_::_,_::_,_,⟨_,_,_,h,_⟩=>by simp[b1F h]
theorem c9C{f:Func}{s:ChangeSpec}{apart fresh handsOn again:Bool}{W W':World}{args:Array Value}{v:Value}{ds gs:List (DataW H)}{before:List MemPlace}(hW:DataW.Whole enc P f.params.toList s.vars apart W args.toList ds gs before)(mD:Below W.heap.size W W')(hZ:∀(b:Nat) (sp:Nat->Bool) (hd:Bool),DataW.TrodAll enc P W' b sp hd f.resultTypes.toList (v.resultList f.resultTypes.size) (s.fn H (ds++gs)).results [])(jI:∀sp:Nat->Bool,(∀p∈before,sp p.block=true)->DataW.TrodAll enc P W' 0 sp true f.params.toList args.toList (s.fn H (ds++gs)).args before)(c2R:∀sp:Nat->Bool,(∀p∈before,sp p.block=true)->DataW.TrodVars enc P W' sp s.vars (s.fn H (ds++gs)).vars [])(mP:∀(j:Nat) (t:TypeId) (r:Value),f.resultTypes[j]? =some t->(v.resultList f.resultTypes.size)[j]? =some r->Value.okWide P W' .any 0 t r):
  s.post enc P f apart fresh handsOn again W args v W':=by
 have aE:=hW.lt;have hold:∀p∈before,(λb=>decide (b<W.heap.size)) p.block=true:=λp hp=>by simpa using aE p hp
 refine⟨ds,gs,before,[],before,[],hW,hZ _ _ _,jI _ hold,c2R _ hold,World.keptBut_mono (λp hp=>⟨hp,?_⟩) (mD.frame (· ∈before)),λ_=>?_⟩
 .exact Or.inr (by simpa using hp)
 .obtain⟨_,_,_,_,_,hz,hn⟩:=hW;refine⟨mP,_,_,([]++before)++[],⟨[]++before,[],trodAll_append (jI _ (λ_ _=>rfl)) (hZ _ _ _),c2R _ (λ_ _=>rfl),rfl,?_,?_⟩,?_⟩
  .intro b off hp;have hp':MemPlace.cell b off∈before:=by simpa using hp
   rw[mD.frozen (aE _ hp')];exact hz b off hp'
  .intro ha;simpa using hn ha
  .intro p hp _;simpa using hp
theorem a9f{W:World}:∀ {laid:List (String×DataW Unit)} {ps:List MemPlace},DataW.LaidVars P W laid ps->∀(n:String) (d:DataW Unit),(n,d)∈laid->
  ∃g t cs fuel p,P.globalNamed n=some g/\(P.globals[g]?).map (·.type)=some t/\W.var? P n=some cs/\DataW.trod (λ_=>()) P W 0 (λ_=>true) false fuel t cs.toList=some (d,p)
 |[],_,_,n,d,hm=>by cases hm
 |(n',d')::r,_,⟨g,t,cs,fuel,p,q,h1,h2,h3,h4,h5,_⟩,n,d,hm=>by
  rcases List.mem_cons.1 hm with he|hm
  .cases he;exact⟨g,t,cs,fuel,p,h1,h2,h3,h4⟩
  .exact a9f h5 n d hm
theorem laidMetH_plain{laid:List (String×DataW Unit)}{W:World}(hh:(laid.filter λx=>x.2.handleName?.isSome).isEmpty=true)(h:laidMetH P laid W):laidMet P laid W:=by unfold laidMetH at h;rw[List.isEmpty_iff.1 hh]at h;exact h
theorem c2S{laid:List (String×DataW Unit)}{W:World}(hh:(laid.filter λx=>x.2.handleName?.isSome).isEmpty=true)(h:laidMet P laid W):laidMetH P laid W:=by unfold laidMetH;rw[List.isEmpty_iff.1 hh];exact h
theorem c2T{laid:List (String×DataW Unit)}{W:World}(rT:laidOutB P=true)(hp:a1G P L=true)(hh:(laid.filter λx=>x.2.handleName?.isSome).isEmpty=true)(h:laidMetH P laid W){n:String}{d:DataW Unit}{g:Nat}{t:TypeId}(hm:(n,d)∈laid)(hg:P.globalNamed n=some g)(ht:(P.globals[g]?).map (·.type)=some t)(hL:L.contains t=true):
  Run (RW W) W g 0 (flat d)/\g<W.heap.size/\∃arr T fr,W.heap[g]? =some (.cells arr T fr)/\arr.size=(flat d).length:=by
 obtain⟨ps,hl,_⟩:=laidMetH_plain hh h;obtain⟨g',t',cs,fuel,p,h1,h2,h3,h4⟩:=a9f hl n d hm;rw[hg]at h1;cases h1;rw[ht]at h2;cases h2;obtain⟨q1,_,q3⟩:=b0I rT hp fuel t _ _ hL h4;simp only[Array.length_toList]at q1;have f1a:∃T fr,W.heap[g]? =some (.cells cs T fr):=by
  unfold World.var? at h3;rw[hg]at h3;simp only[Option.bind_some]at h3;split at h3
  .rename_i T fr hb;cases h3;exact⟨T,fr,hb⟩
  .cases h3
 obtain⟨T,fr,hb⟩:=f1a;refine⟨λj x hj=>?_,(f7Q.1 hb).1,cs,T,fr,hb,q1.symm⟩;obtain⟨p1,p2⟩:=q3 j x hj;have hjl:j<cs.size:=by have:=(f7I.1 hj).1;rw[q1]at this;exact this
 have oV:W.cell? ⟨g,0+j,none⟩=some (cs[j]'hjl):=by unfold World.cell?;simp only[hb];simp[hjl]
 refine⟨p1,c7V oV,_,oV,?_⟩;have:cs.toList.getD j undef=cs[j]:=by simp[List.getD,hjl]
 rwa[this]at p2
end
end Go.VM
end
