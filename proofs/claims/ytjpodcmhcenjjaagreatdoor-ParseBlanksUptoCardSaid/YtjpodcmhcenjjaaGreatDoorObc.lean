/- Lemmas that the law of this claim needs (ZF Ty Z4 Z3). No condition. -/
import Derived.Test.YtjpodcmhcenjjaaGreatDoorOba
import Derived.Test.YtjpodcmhcenjjaaGreatDoorObb
import Derived.ReadAgain
import Derived.ChangeSame
import Derived.OpenShut
import Derived.RowKit3
import Derived.KernelRfl
import Derived.Test.YtjpodcmhcenjjaaGreatDoorProg
set_option linter.unusedVariables false
set_option linter.unusedSimpArgs false
set_option linter.unusedSectionVars false
set_option maxRecDepth 100000
set_option maxHeartbeats 64000000
open Go.Proofs.Tryz
section
namespace Go.VM
open Go Go.RowKit
def WkT:List DV->List DV->Prop
 |[],[]=>True
 |d::ds,d'::ds'=>(d'=.undef\/d'=d\/(d=.d .aJ/\d'=.d (.sl [])))/\WkT ds ds'
 |_,_=>False
def WkO:aW->aW->Prop
 | .cells cs,.cells sX=>WkT cs sX
 |o,o'=>o'=o
def WkH(H:List (Nat×aW)):List (Nat×aW)->Prop
 |[]=>True
 |(k,o')::r=>(∃o,getKey k H=some o/\WkO o o')/\WkH H r
def isNil(s:St):Loc->Bool
 | .t i=>match s.tmps[i]? with
  |some (.d .aJ)=>true
  |_=>false
 | .c k off=>match getKey k s.H with
  |some (.cells cs)=>(match cs[off]? with
   |some (.d .aJ)=>true
   |_=>false)
  |some (.bld _ u _)=> !u&&off==1
  |_=>false
def yE(c:TypeId×List Loc):List (TypeId×List Loc)->Option (List (TypeId×List Loc))
 |[]=>none
 |c0::r=>if c0.1=c.1/\(c.2.all λl=>c0.2.contains l)=true then some r else(yE c r).map (c0:: ·)
def b1x(s:St)(c:TypeId×List Loc):Bool:=
 match c.2 with
 |[]=>true
 |[l]=>isNil s l
 |_=>false
def a7j(s:St):List (TypeId×List Loc)->List (TypeId×List Loc)->Bool
 |_,[]=>true
 |own,c::r=>if b1x s c then a7j s own r else match yE c own with
  |some dZ=>a7j s dZ r
  |none=>false
def bA(H:List (Nat×aW))(own:List (TypeId×List Loc)):Bool:=own.all λc=>c.2.all λl=>match l with
 | .c k _=>(getKey k H).isSome
 |_=>true
structure yF (s s':St):Prop where
 tmps:WkT s.tmps s'.tmps
 H:WkH s.H s'.H
 own:a7j s s.own s'.own=true
 keys:bA s'.H s'.own=true
section
variable {P:Program} {G:GT} {st st':St}
variable {base:cN} {R:Nat->Nat->Prop} {μ:Nat->Nat} {a:Act} {w:World}
theorem zH:∀ {l l':List DV},WkT l l'->l'.length=l.length/\∀(i:Nat) (d':DV),l'[i]? =some d'->∃d,l[i]? =some d/\(d'=.undef\/d'=d\/(d=.d .aJ/\d'=.d (.sl [])))
 |[],[],_=>by simp
 |[],_::_,h=>by simp[WkT]at h
 |_::_,[],h=>by simp[WkT]at h
 |d::l,d'::l',h=>by
  obtain⟨h1,h2⟩:=h;obtain⟨q1,q2⟩:=zH h2;refine⟨by simp[q1],λi x hx=>?_⟩;cases i with
  |zero=>simp at hx;subst hx;exact⟨d,rfl,h1⟩
  |succ i=>simp at hx;simpa using q2 i x hx
theorem b8P{H:List (Nat×aW)}:∀ {H':List (Nat×aW)},WkH H H'->∀(k:Nat) (o':aW),getKey k H'=some o'->∃o,getKey k H=some o/\WkO o o'
 |[],_,k,o',h=>by simp[getKey]at h
 |(k1,o1)::r,hw,k,o',h=>by
  obtain⟨⟨o,h1,h2⟩,h3⟩:=hw;unfold getKey at h;split at h
  .rename_i he;simp at h;subst he h;exact⟨o,h1,h2⟩
  .exact b8P h3 k o' h
theorem b0L{b:Nat}{o o':aW}(h:WkO o o')(hr:gK R μ w b o):gK R μ w b o':=by
 cases o with
 |cells cs=>
  cases o' with
  |cells sX=>
   obtain⟨q1,q2⟩:=zH h;obtain⟨vs,T,h1,h2,h3,h4⟩:=hr;refine⟨vs,T,h1,by rw[h2,q1],λi d' hd'=>?_,λT' hm=>?_⟩
   .obtain⟨d,hd,hc⟩:=q2 i d' hd';obtain⟨p1,p2⟩:=h3 i d hd;rcases hc with rfl|rfl|⟨rfl,rfl⟩
    .exact⟨rfl,.undef _⟩
    .exact⟨p1,p2⟩
    .obtain⟨ao,he⟩:=p2.a6W.jM;rw[he];exact⟨rfl,.d _ _ (.emp _ _)⟩
   .obtain⟨i,hi⟩:=f3e hm;obtain⟨d,hd,hc⟩:=q2 i _ hi;rcases hc with hc|rfl|⟨_,hc⟩
    .cases hc
    .exact h4 T' (f2S hd)
    .cases hc
  |map es=>cases h
  |iter s p=>cases h
  |bld T u es=>cases h
 |map es=>cases o'<;>cases h;exact hr
 |iter s p=>cases o'<;>cases h;exact hr
 |bld T u es=>cases o'<;>cases h;exact hr
theorem a2d{c:TypeId×List Loc}:∀ {own dZ:List (TypeId×List Loc)},yE c own=some dZ->∃pre c0 post,own=pre++c0::post/\dZ=pre++post/\c0.1=c.1/\∀l∈c.2,l∈c0.2
 |[],dZ,h=>by simp[yE]at h
 |c0::r,dZ,h=>by
  simp only[yE]at h;split at h
  .rename_i hc;simp at h;exact⟨[],c0,r,rfl,h.symm,hc.1,λl hl=>by have:=f2Q.1 hc.2 l hl;simpa using this⟩
  .simp only[f2M]at h;obtain⟨r',hr,rfl⟩:=h;obtain⟨pre,c',post,h1,h2,h3,h4⟩:=a2d hr;exact⟨c0::pre,c',post,by simp[h1],by simp[h2],h3,h4⟩
structure c1S (P:Program) (base:cN) (R:Nat->Nat->Prop) (μ:Nat->Nat) (st:St) (a:Act) (w:World) (own:List (TypeId×List Loc)) (vs:List Value):Prop where
 len:vs.length=own.length
 one:∀(i:Nat) (c:TypeId×List Loc) (v:Value),own[i]? =some c->vs[i]? =some v->a1V P base R μ st a w c v
 apart:vs.Pairwise a2E
theorem a2E.symm{v v':Value}(h:a2E v v'):a2E v' v:=λg hg hg'=>h g hg' hg
theorem c1S.take{own dZ:List (TypeId×List Loc)}{vs:List Value}{c:TypeId×List Loc}(h:c1S P base R μ st a w own vs)(ht:yE c own=some dZ):
  ∃v vs1,a1V P base R μ st a w c v/\c1S P base R μ st a w dZ vs1/\(∀x∈vs1,x∈vs)/\v∈vs/\∀x∈vs1,a2E v x:=by
 obtain⟨pre,c0,post,rfl,rfl,h3,h4⟩:=a2d ht;have hpl:pre.length<vs.length:=by rw[h.len];simp
 have c1F:vs=vs.take pre.length++vs[pre.length]::vs.drop (pre.length+1):=by rw[<-f3a hpl,List.take_append_drop]
 have hc:=h.one pre.length c0 vs[pre.length] (by simp) (f2R hpl);have xE:=h.apart;rw[c1F,List.pairwise_append,List.pairwise_cons]at xE;refine⟨vs[pre.length],vs.take pre.length++vs.drop (pre.length+1),⟨λl hl=>hc.dF l (h4 l hl),by rw[<-h3];exact hc.own,hc.keys⟩,⟨?_,λi c' v xA hv=>?_,?_⟩,λx hx=>?_,List.getElem_mem hpl,λx hx=>?_⟩
 .have:=h.len;simp at this|-;omega
 .by_cases hi:i<pre.length
  .refine h.one i c' v ?_ ?_
   .rw[f2Y hi];simpa[f2Y hi]using xA
   .rw[f2Y (by simp;omega),List.getElem?_take]at hv;rw[if_pos hi]at hv;exact hv
  .refine h.one (i+1) c' v ?_ ?_
   .rw[f2V (by omega),show i+1-pre.length=(i-pre.length)+1 by omega,List.getElem?_cons_succ];simpa[f2V (Nat.le_of_not_lt hi)]using xA
   .have a1X:min pre.length vs.length=pre.length:=by omega
    rw[f2V (by simp;omega),f3g]at hv;simp only[List.length_take,a1X]at hv
    rwa[show pre.length+1+(i-pre.length)=i+1 by omega]at hv
 .rw[List.pairwise_append];exact⟨xE.1,xE.2.1.2,λx hx y hy=>xE.2.2 x hx y (.tail _ hy)⟩
 .simp only[List.mem_append]at hx;rcases hx with hx|hx
  .exact List.mem_of_mem_take hx
  .exact List.mem_of_mem_drop hx
 .simp only[List.mem_append]at hx;rcases hx with hx|hx
  .exact(xE.2.2 x hx vs[pre.length] (.head _)).symm
  .exact xE.2.1.1 x hx
theorem b4X(hr:Rel P G base R μ st a w){l:Loc}(h:isNil st l=true){u:Value}(hu:bZ a w μ l=some u):∃ao,u=.slice ao 0 0:=by
 cases l with
 |t i=>
  simp only[isNil]at h;split at h
  .rename_i hd;exact(hr.tmps i u _ hu hd).a6W.jM
  .cases h
 |c k off=>
  simp only[isNil]at h;split at h
  .rename_i cs hk;split at h
   .rename_i hd;obtain⟨_,_,hob⟩:=hr.gM k _ hk;obtain⟨_,v,h1,h2⟩:=a8u.a3q hob off (.d .aJ) hd;simp only[bZ]at hu;rw[Nat.zero_add,hu]at h1;cases h1;exact h2.a6W.jM
   .cases h
  .rename_i T u es hk;simp only[f2N,Bool.not_eq_true',beq_iff_eq]at h;obtain⟨rfl,rfl⟩:=h;obtain⟨_,_,v0,v1,T',q1,q2,_⟩:=hr.gM k _ hk;simp only[bZ]at hu;rw[cell_of_row w _ _ _ T' (0,0) q1]at hu;have:=(q2 rfl).2;subst this;simp at hu;exact⟨none,hu.symm⟩
  .cases h
theorem a3G(hr:Rel P G base R μ st a w):∀(dP own:List (TypeId×List Loc)) (vs:List Value),c1S P base R μ st a w own vs->a7j st own dP=true->
  ∃vs',c1S P base R μ st a w dP vs'/\∀v∈vs',bF v=none\/v∈vs
 |[],own,vs,_,_=>⟨[],⟨rfl,by simp,.nil⟩,by simp⟩
 |c::r,own,vs,h,hw=>by
  unfold a7j at hw;split at hw
  .rename_i hn;obtain⟨vs',h1,h2⟩:=a3G hr r own vs h hw;have hex:∃v,a1V P base R μ st a w c v/\bF v=none:=by
    by_cases hx:∃l∈c.2,∃u,bZ a w μ l=some u
    .obtain⟨l,hl,u,hu⟩:=hx;unfold b1x at hn;split at hn
     .rename_i he;rw[he]at hl;cases hl
     .rename_i l' he;rw[he]at hl;simp at hl;subst hl;obtain⟨ao,rfl⟩:=b4X hr hn hu;have hs:bF (.slice ao 0 0)=none:=by cases ao<;>rfl
      exact⟨.slice ao 0 0,⟨λl2 hl2 u2 hu2=>by rw[he]at hl2;simp at hl2;subst hl2;rw[hu]at hu2;exact(Option.some.inj hu2).symm,.inl ⟨ao,rfl⟩,λk o _=>by rw[hs];simp⟩,hs⟩
     .cases hn
    .exact⟨.slice none 0 0,⟨λl hl u hu=>absurd ⟨l,hl,u,hu⟩ hx,.inl ⟨none,rfl⟩,λk o _=>by simp[bF]⟩,rfl⟩
   obtain⟨v,hv1,hv2⟩:=hex;refine⟨v::vs',⟨by simp[h1.len],λi c' u hc hu=>?_,List.pairwise_cons.2 ⟨λx _ g hg=>(by rw[hv2]at hg;cases hg),h1.apart⟩⟩,λx hx=>?_⟩
   .cases i with
    |zero=>simp at hc hu;subst hc hu;exact hv1
    |succ i=>simp at hc hu;exact h1.one i c' u hc hu
   .simp at hx;rcases hx with rfl|hx
    .exact .inl hv2
    .exact h2 x hx
  .split at hw
   .rename_i dZ ht;obtain⟨v,vs1,q1,q2,q3,q4,q5⟩:=h.take ht;obtain⟨vs',h1,h2⟩:=a3G hr r dZ vs1 q2 hw;refine⟨v::vs',⟨by simp[h1.len],λi c' u hc hu=>?_,List.pairwise_cons.2 ⟨λx hx=>?_,h1.apart⟩⟩,λx hx=>?_⟩
    .cases i with
     |zero=>simp at hc hu;subst hc hu;exact q1
     |succ i=>simp at hc hu;exact h1.one i c' u hc hu
    .rcases h2 x hx with hs|hx'
     .exact λg _ hg'=>by rw[hs]at hg';cases hg'
     .exact q5 x hx'
    .simp at hx;rcases hx with rfl|hx
     .exact .inr q4
     .rcases h2 x hx with hs|hx'
      .exact .inl hs
      .exact .inr (q3 x hx')
   .cases hw
theorem Rel.a0X(hr:Rel P G base R μ st a w)(h:yF st st'):Rel P G base R μ st' a w:=by
 obtain⟨h1,h2⟩:=zH h.tmps;have h3:=b8P h.H;refine⟨hr.defers,by rw[hr.size,h1],λi v d' hv hd'=>?_,λk o' hk=>?_,λk k' o o' hk hk' he=>?_,λc hc k off hl=>?_,?_,hr.tP,hr.pE,hr.base,hr.pass⟩
 .obtain⟨d,hd,hc⟩:=h2 i d' hd';have:=hr.tmps i v d hv hd;rcases hc with rfl|rfl|⟨rfl,rfl⟩
  .exact .undef _
  .exact this
  .obtain⟨ao,rfl⟩:=this.a6W.jM;exact .d _ _ (.emp _ _)
 .obtain⟨o,ho,hw⟩:=h3 k o' hk;obtain⟨q1,q2,q3⟩:=hr.gM k o ho;exact⟨q1,q2,b0L hw q3⟩
 .obtain⟨o1,ho1,_⟩:=h3 k o hk;obtain⟨o2,ho2,_⟩:=h3 k' o' hk';exact hr.inj k k' o1 o2 ho1 ho2 he
 .have:=f2Q.1 h.keys c hc;have:=f2Q.1 this _ hl;exact Option.isSome_iff_exists.1 this
 .obtain⟨vs,pF⟩:=hr.own;obtain⟨vs',yA,_⟩:=a3G hr st'.own st.own vs ⟨pF.len,pF.one,pF.apart⟩ h.own;refine⟨vs',yA.len,λi c v hc hv=>?_,yA.apart⟩;have ho:=yA.one i c v hc hv;exact⟨ho.dF,ho.own,λk o hk=>by obtain⟨o1,ho1,_⟩:=h3 k o hk;exact ho.keys k o1 ho1⟩
theorem SW.a0X{c:Code}{Q:Exit->St->Prop}(h:yF st st')(hw:SW P G c st' Q):SW P G c st Q:=λbase R μ a w hr=>hw base R μ a w (hr.a0X h)
theorem SW.loop{ι:Type}{c:Code}{Q:Exit->St->Prop}(I:ι->St)(m:ι->Nat)(x0:ι)(h0:yF st (I x0))(round:∀x,VW P G c (I x) λe s=>match e with
   | .normal=>∃y,yF s (I y)/\m y<m x
   |e=>Q e s):SW P G (.loop c) st Q:=by
 intro base R μ a w hr;refine wp_loop_ghost (λn a1 w1=>∃x R1 μ1,m x=n/\Rel P G base R1 μ1 (I x) a1 w1/\Step base R w R1 w1) (m x0) ⟨x0,R,μ,rfl,hr.a0X h0,.refl _ _ _⟩ ?_;rintro n a1 w1 ⟨x,R1,μ1,rfl,hr1,hs1⟩;refine wp_mono (a2M c (I x) _ (round x) base R1 μ1 a1 w1 hr1) λe a2 w2 ⟨s,R2,μ2,q,hr2,hs2⟩=>?_;cases e with
 |normal=>obtain⟨y,hy,aI⟩:=q;exact⟨m y,aI,y,R2,μ2,rfl,hr2.a0X hy,hs1.trans hs2⟩
 |_=>exact⟨s,R2,μ2,q,hr2,hs1.trans hs2⟩
inductive WkD:D->D->Prop
 |refl (d:D):WkD d d
 |aJ:WkD .aJ (.sl [])
 |agg (cs sX:List D):cs.length=sX.length->(∀(i:Nat) (d d':D),cs[i]? =some d->sX[i]? =some d'->WkD d d')->WkD (.agg cs) (.agg sX)
 |sl (es es':List (List D)):es.length=es'.length->(∀(i:Nat) (e e':List D),es[i]? =some e->es'[i]? =some e'->e.length=e'.length)->
   (∀(i j:Nat) (e e':List D) (d d':D),es[i]? =some e->es'[i]? =some e'->e[j]? =some d->e'[j]? =some d'->WkD d d')->WkD (.sl es) (.sl es')
def WkL(l l':List D):Prop:=l.length=l'.length/\∀(i:Nat) (d d':D),l[i]? =some d->l'[i]? =some d'->WkD d d'
def d2K(l l':List (List D)):Prop:=l.length=l'.length/\∀(i:Nat) (d d':List D),l[i]? =some d->l'[i]? =some d'->WkL d d'
theorem c7P(a b:D)(l l':List D):WkL (a::l) (b::l')=(WkD a b/\WkL l l'):=by
 apply propext;constructor
 .rintro⟨h1,h2⟩;exact⟨h2 0 a b rfl rfl,by simpa using h1,λi d d' q q'=>h2 (i+1) d d' q q'⟩
 .rintro⟨h0,h1,h2⟩;refine⟨by simp[h1],λi d d' q q'=>?_⟩;cases i with
  |zero=>simp at q q';subst q q';exact h0
  |succ i=>exact h2 i d d' q q'
theorem b1z(l:List D):WkL l l=True:=by simp only[WkL,eq_iff_iff,iff_true];exact⟨trivial,λi d d' h h'=>by rw[h]at h';cases h';exact .refl _⟩
theorem b4Y(l:List (List D)):d2K l l=True:=by simp only[d2K,eq_iff_iff,iff_true];exact⟨trivial,λi d d' h h'=>by rw[h]at h';cases h';rw[b1z];trivial⟩
theorem c7Q(d:D):WkD d d=True:=by simp[WkD.refl]
theorem c7R:WkD .aJ (.sl [])=True:=by simp[WkD.aJ]
theorem d2L(cs sX:List D):WkD (.agg cs) (.agg sX)=WkL cs sX:=by
 apply propext;constructor
 .intro h;cases h with
  |refl=>rw[b1z];trivial
  |agg _ _ h1 h2=>exact⟨h1,h2⟩
 .rintro⟨h1,h2⟩;exact .agg _ _ h1 h2
theorem d8m(cs sX:List (List D)):WkD (.sl cs) (.sl sX)=d2K cs sX:=by
 apply propext;constructor
 .intro h;cases h with
  |refl=>rw[b4Y];trivial
  |sl _ _ h1 h2 h3=>exact⟨h1,λi e e' q q'=>⟨h2 i e e' q q',λj d d' p p'=>h3 i j e e' d d' q q' p p'⟩⟩
 .rintro⟨h1,h2⟩;exact .sl _ _ h1 (λi e e' q q'=>(h2 i e e' q q').1) (λi j e e' d d' q q' p p'=>(h2 i e e' q q').2 j d d' p p')
theorem d2M(k k':IntKind)(n n':Int):WkD (.int k n) (.int k' n')=(k=k'/\n=n'):=by
 apply propext;constructor
 .intro h;cases h;exact⟨rfl,rfl⟩
 .rintro⟨rfl,rfl⟩;exact .refl _
theorem c7S(a b:Bool):WkD (.bool a) (.bool b)=(a=b):=by
 apply propext;constructor
 .intro h;cases h;rfl
 .rintro rfl;exact .refl _
theorem WkD.one{d d':D}(h:WkD d d'):d'.one=d.one:=by cases h<;>rfl
theorem V.wk{R:Nat->Nat->Prop}{w:World}{v:Value}{d:D}(h:V R w v d):∀ {d':D},WkD d d'->V R w v d':=by
 induction h with
 |int k n=>intro d' hd;cases hd;exact .int k n
 |bool b=>intro d' hd;cases hd;exact .bool b
 |str s=>intro d' hd;cases hd;exact .str s
 |aJ ao=>
  intro d' hd;cases hd with
  |refl=>exact .aJ ao
  |aJ=>exact .emp ao 0
 |emp ao cap=>
  intro d' hd;cases hd with
  |refl=>exact .emp ao cap
  |sl _ es' h1 _ _=>have:es'=[]:=List.eq_nil_of_length_eq_zero (by simpa using h1.symm);subst this;exact .emp ao cap
 |sl b o n cap size es f h1 h2 h3 h4 h5 h6 h7 ih=>
  intro d' hd;cases hd with
  |refl=>exact .sl b o n cap size es f h1 h2 h3 h4 h5 h6 h7
  |sl _ es' q1 q2 q3=>
   have pre:∀(i:Nat) (e':List D),es'[i]? =some e'->∃e,es[i]? =some e:=λi e' he'=>by have hi:i<es'.length:=(f2O.1 he').1;exact⟨es[i]'(by omega),f2R (by omega)⟩
   have e2G:∀(i j:Nat) (e':List D) (d':D),es'[i]? =some e'->e'[j]? =some d'->∃e d,es[i]? =some e/\e[j]? =some d/\WkD d d':=λi j e' d' he' hd'=>by obtain⟨e,he⟩:=pre i e' he';have hl:=q2 i e e' he he';have hj:j<e'.length:=(f2O.1 hd').1;have hjd:e[j]? =some (e[j]'(by omega)):=f2R (by omega);exact⟨e,_,he,hjd,q3 i j e e' _ d' he he' hjd hd'⟩
   refine .sl b o n cap size es' f (by omega) h2 h3 (λe' he'=>?_) h5 (λi j e' d' he' hd'=>?_) (λi j e' d' he' hd'=>?_)
   .obtain⟨i,hi⟩:=f3e he';obtain⟨e,he⟩:=pre i e' hi;rw[<-q2 i e e' he hi];exact h4 e (f2S he)
   .obtain⟨e,d,he,hd,hw⟩:=e2G i j e' d' he' hd';rw[hw.one];exact h6 i j e d he hd
   .obtain⟨e,d,he,hd,hw⟩:=e2G i j e' d' he' hd';exact ih i j e d he hd hw
 |agg cs ds h1 h2 h3 ih=>
  intro d' hd;cases hd with
  |refl=>exact .agg cs ds h1 h2 h3
  |agg _ ds' q1 q2=>
   have pre:∀(i:Nat) (d':D),ds'[i]? =some d'->∃d,ds[i]? =some d/\WkD d d':=λi d' he'=>by have hi:i<ds'.length:=(f2O.1 he').1;have h:=f2R (l:=ds) (i:=i) (by omega);exact⟨_,h,q2 i _ d' h he'⟩
   refine .agg cs ds' (by omega) (λi d' hd'=>?_) (λi d' hd'=>?_)
   .obtain⟨d,hd,hw⟩:=pre i d' hd';rw[hw.one];exact h2 i d hd
   .obtain⟨d,hd,hw⟩:=pre i d' hd';exact ih i d hd hw
def a8A:DV->DV->Prop
 | .d x,.d y=>WkD x y
 | .cJ l,.cJ l'=>WkL l l'
 |a,b=>a=b
theorem TV.wk{R:Nat->Nat->Prop}{μ:Nat->Nat}{w:World}{v:Value}{r r':DV}(h:TV R μ w v r)(hw:a8A r r'):TV R μ w v r':=by
 cases r<;>cases r'<;>simp only[a8A]at hw<;>try (cases hw;done)
 case d.d x y=>cases h with|d _ _ hv=>exact .d _ _ (hv.wk hw)
 case cJ.cJ l l'=>
  cases h with
  |cJ vs _ h1 h2=>refine .cJ vs l' (by rw[h1,hw.1]) λi d' hd'=>?_;have hi:i<l'.length:=(f2O.1 hd').1;have hg:=f2R (l:=l) (i:=i) (by rw[hw.1];exact hi);exact(h2 i _ hg).wk (hw.2 i _ d' hg hd')
 all_goals (cases hw;exact h)
theorem CS.args{f:FuncId}{ds ds':List D}{r:DV}{own:Option TypeId}(h:CS P G f ds' r own)(hd:WkL ds ds'):CS P G f ds r own:=λw R args hg hR hl hv=>h w R args hg hR (by rw[hl,hd.1]) λi d' hd'=>by have hi:i<ds'.length:=(f2O.1 hd').1;have hgt:=f2R (l:=ds) (i:=i) (by rw[hd.1];exact hi);exact(hv i _ hgt).wk (hd.2 i _ d' hgt hd')
theorem CS.res{f:FuncId}{ds:List D}{r r':DV}{own:Option TypeId}(h:CS P G f ds r' own)(hd:a8A r' r):CS P G f ds r own:=λw R args hg hR hl hv=>(h w R args hg hR hl hv).mono λ_ _ ⟨v,R',h1,h2,h3⟩=>⟨v,R',h1,λμ=>(h2 μ).wk hd,h3⟩
def zI(ds:List D)(n:Nat):St:=⟨ds.map .d++List.replicate (n-ds.length) (.cJ []),[],[]⟩
def c7T(P:Program)(s:St):ResultVar->Option D
 | .tmp i=>isD (s.tmps.getD i (.cJ []))
 | .cell p ty=>match s.tmps.getD p (.cJ [])with
  | .ptr k off=>(match getKey k s.H with
   |some (.cells cs)=>(a9o P ty (cs.drop off)).bind isD
   |_=>none)
  |_=>none
def a3H(P:Program)(s:St):List ResultVar->Option (List D)
 |[]=>some []
 |r::l=>match c7T P s r,a3H P s l with
  |some x,some ds=>some (x::ds)
  |_,_=>none
def c5m(P:Program)(s:St)(rs:List ResultVar):Option DV:=
 match a3H P s rs with
 |some [x]=>some (.d x)
 |some ds=>some (.cJ ds)
 |none=>none
def d2N(s:St)(rs:List ResultVar):Option TypeId:=
 match rs with
 |[.tmp i]=>(match s.tmps.getD i (.cJ [])with
  | .d (.sl _)=>(eV (.t i) s.own).map (·.1)
  |_=>none)
 |_=>none
def a8B(tmps:Array Value):ResultVar->Sem Value
 | .tmp t=>pure (tmps.getD t undef)
 | .cell p t=>do loadVar t (<-asAddr (tmps.getD p undef))
theorem a6j(fn:Func)(tmps:Array Value):results fn tmps=(do let vs <- fn.results.mapM (a8B tmps);pure (if h:vs.size=1 then vs[0] else .tuple vs)):=by unfold results;congr 1
theorem d2O(hr:Rel P G base R μ st a w){r:ResultVar}{x:D}(h:c7T P st r=some x):∃v,(a8B a.tmps r).run P w=.ok v w/\V R w v x:=by
 cases r with
 |tmp i=>simp only[c7T]at h;have he:=hr.eval (.tmp i);simp only[St.eval,Act.eval]at he;unfold isD at h;split at h<;>simp at h;rename_i y hy;subst h;rw[hy]at he;exact⟨_,rfl,he.a6W⟩
 |cell p ty=>
  simp only[c7T]at h;have he:=hr.eval (.tmp p);simp only[St.eval,Act.eval]at he;split at h
  .rename_i k off hp;split at h
   .rename_i cs hk;rw[hp]at he;obtain⟨_,_,hob⟩:=hr.gM k _ hk;have cD:=(a8u.a3q hob).drop off;rw[Nat.zero_add]at cD;obtain⟨y,hy,hx⟩:=f3b.1 h;obtain⟨v,h1,h2,_⟩:=vH (P:=P) cD hy;have hyd:y=.d x:=by
     unfold isD at hx;split at hx
     .cases hx;rfl
     .cases hx
    subst hyd;refine⟨v,?_,h2.a6W⟩;unfold a8B;simp only;rw[he.b6h];simp only[asAddr,Sem.run_bind,Sem.run_pure,Result.andThen_ok,h1]
   .cases h
  .cases h
theorem b1A(hr:Rel P G base R μ st a w):∀ {l:List ResultVar} {ds:List D},a3H P st l=some ds->
  ∃vs,(l.mapM (a8B a.tmps)).run P w=.ok vs w/\vs.length=ds.length/\∀(i:Nat) (d:D),ds[i]? =some d->V R w (vs.getD i undef) d
 |[],ds,h=>by simp[a3H]at h;subst h;exact⟨[],by simp,rfl,by simp⟩
 |r::l,ds,h=>by
  simp only[a3H]at h;split at h<;>simp at h;rename_i x ds' hx hds;subst h;obtain⟨v,h1,h2⟩:=d2O hr hx;obtain⟨vs,q1,q2,q3⟩:=b1A hr hds;refine⟨v::vs,?_,by simp[q2],λi d hi=>?_⟩
  .simp only[List.mapM_cons,Sem.run_bind,h1,Result.andThen_ok,q1,Sem.run_pure]
  .cases i with
   |zero=>simp at hi;subst hi;exact h2
   |succ i=>simp at hi;simpa using q3 i d hi
theorem c3G(hr:Rel P G base R μ st a w){fn:Func}{r:DV}(h:c5m P st fn.results.toList=some r):∃v,(results fn a.tmps).run P w=.ok v w/\(∀μ',TV R μ' w v r):=by
 unfold c5m at h;cases hds:a3H P st fn.results.toList with
 |none=>simp[hds]at h
 |some ds=>
  obtain⟨vs,h1,h2,h3⟩:=b1A hr hds;have cD:(results fn a.tmps).run P w=.ok (if h:vs.toArray.size=1 then vs.toArray[0] else .tuple vs.toArray) w:=by rw[a6j,Array.mapM_eq_mapM_toList];simp only[Sem.run_bind,Sem.run_map,h1,Result.andThen_ok,Sem.run_pure]
  refine⟨_,cD,λμ'=>?_⟩;have cJ:∀(ds:List D),vs.length=ds.length->(∀(i:Nat) (d:D),ds[i]? =some d->V R w (vs.getD i undef) d)->TV R μ' w (.tuple vs.toArray) (.cJ ds):=λds hl hv=>.cJ _ _ (by simpa using hl) (λi d hi=>by have:=hv i d hi;simpa[f2P,List.getD]using this)
  rw[hds]at h
  match ds,h2,h3,h with
  |[],h2,h3,h=>simp at h;subst h;rw[dif_neg (by simp at h2;simp[h2])];exact cJ [] h2 h3
  |[x],h2,h3,h=>
   simp at h;subst h
   match vs,h2,h3 with
   |[v],_,h3=>exact .d _ _ (by simpa using h3 0 x rfl)
  |x::y::l,h2,h3,h=>simp at h;subst h;rw[dif_neg (by simp at h2;simp[h2])];exact cJ _ h2 h3
theorem d2P(hr:Rel P G base R μ st a w){fn:Func}{e:TypeId}(h:d2N st fn.results.toList=some e){v:Value}(hv:(results fn a.tmps).run P w=.ok v w):oK P base R w e v:=by
 unfold d2N at h;split at h
 .rename_i i hrs;split at h
  .rename_i es hd;simp only[f2M]at h;obtain⟨⟨e',dP⟩,ht,rfl⟩:=h;obtain⟨_,v0,_,hv0,kF,_⟩:=hr.eV ht;have hs:i<a.tmps.size:=by
    rw[hr.size];by_cases aI:i<st.tmps.length
    .exact aI
    .simp[List.getD,List.getElem?_eq_none (Nat.le_of_not_lt aI)]at hd
   have hv1:v=a.tmps.getD i undef:=by
    have c7U:fn.results=#[.tmp i]:=by apply Array.ext';simpa using hrs
    rw[results_tmp c7U a.tmps P w]at hv;exact(by cases hv;rfl)
   rw[hv1,hv0 (a.tmps.getD i undef) (by simp[bZ,hs])];exact kF
  .cases h
 .cases h
def b8Q(x:Option DV)(r:DV):Prop:=match x with
 |some r0=>a8A r0 r
 |none=>False
theorem b1B{x:Option DV}{r:DV}(h:b8Q x r):∃r0,x=some r0/\a8A r0 r:=by
 cases x with
 |none=>cases h
 |some r0=>exact⟨r0,rfl,h⟩
def b8R(s:St)(rs:List ResultVar):Option TypeId->Prop
 |none=>True
 |some e=>d2N s rs=some e\/(match rs with
  |[.tmp i]=>(match s.tmps.getD i (.cJ [])with
   | .d .aJ=>True
   |_=>False)
  |_=>False)
theorem b8S(hr:Rel P G base R μ st a w){fn:Func}{e:TypeId}(h:b8R st fn.results.toList (some e)){v:Value}(hv:(results fn a.tmps).run P w=.ok v w):oK P base R w e v:=by
 rcases h with h|h
 .exact d2P hr h hv
 .split at h
  .rename_i i hrs;split at h
   .rename_i hd;have c7U:fn.results=#[.tmp i]:=by apply Array.ext';simpa using hrs
    rw[results_tmp c7U a.tmps P w]at hv;cases hv;have he:=hr.eval (.tmp i);simp only[St.eval,Act.eval,hd]at he;obtain⟨ao,h0⟩:=he.a6W.jM;exact .inl ⟨ao,h0⟩
   .cases h
  .cases h
theorem Rel.init(fn:Func){ds:List D}{w:World}{R:Nat->Nat->Prop}{args:Array Value}(hg:a5c G (xC w.heap.size) R w)(hR:∀b o,R b o->b<w.heap.size)(hl:args.size=ds.length)(hv:∀(i:Nat) (d:D),ds[i]? =some d->V R w (args.getD i undef) d):
  Rel P G (xC w.heap.size) R (λ_=>0) (zI ds fn.ntmps) {tmps:=args++Array.replicate (fn.ntmps-args.size) undef,defers:=[]} w:=by
 refine⟨rfl,by simp[zI,hl],λi v d hiv hid=>?_,λk o hk=>by simp[zI,getKey]at hk,λk k' o o' hk=>by simp[zI,getKey]at hk,λc hc=>by simp[zI]at hc,⟨[],rfl,λi c v hc=>by simp[zI]at hc,.nil⟩,hg,hR,λ_ h=>h,λ_ _=>rfl⟩;simp only[zI]at hid;by_cases hi:i<ds.length
 .rw[f2Y (by simpa using hi),f2X,f2R hi]at hid;simp at hid;subst hid;have:=hv i ds[i] (f2R hi);rw[Array.getElem?_append_left (by omega)]at hiv;have hg:args.getD i undef=v:=by simp[f2P,hiv]
  rw[hg]at this;exact .d _ _ this
 .rw[f2V (by simp;omega),List.getElem?_replicate]at hid;split at hid<;>simp at hid;subst hid;rw[Array.getElem?_append_right (by omega),Array.getElem?_replicate]at hiv;split at hiv<;>simp at hiv;subst hiv;exact .cJ #[] [] rfl (by simp)
theorem CS.e2H{f:FuncId}{fn:Func}{c:Code}{n:Nat}{ds:List D}{r:DV}{own:Option TypeId}(hf:P.funcs[f]? =some fn)(hb:fn.body=some c)(hn:fn.ntmps=n)(h:VW P G c (zI ds n) λe s=>(e=.normal\/e=.ret)/\b8Q (c5m P s fn.results.toList) r/\b8R s fn.results.toList own):CS P G f ds r own:=by
 intro w R args hg hR hl hv;refine calls_of_wp hf hb ?_;have jU:=Rel.init (P:=P) (G:=G) fn hg hR hl hv;rw[<-hn]at h;refine wp_mono (a2M c _ _ h (xC w.heap.size) R _ _ w jU) λe a' w' ⟨s,R',μ',⟨he,kC,kF⟩,eK,hs⟩=>?_;obtain⟨r0,kC,hwk⟩:=b1B kC;obtain⟨v,hv1,hv2⟩:=c3G eK kC;have a3I:a'.defers=[]/\∃v,(results fn a'.tmps).run P w'=.ok v w'/\∃v' R',Ending.returned v=.returned v'/\(∀μ,TV R' μ w' v' r)/\Step (xC w.heap.size) R w R' w'/\(∀b o,R' b o->b<w'.heap.size)/\(∀e,own=some e->oK P (xC w.heap.size) R' w' e v'):=
  ⟨eK.defers,v,hv1,v,R',rfl,λμ=>(hv2 μ).wk hwk,hs,eK.pE,λe he'=>by subst he';exact b8S eK kF hv1⟩
 rcases he with rfl|rfl
 .exact a3I
 .exact a3I
theorem Enters.mk{f:FuncId}{fn:Func}(hf:P.funcs[f]? =some fn)(h:(fn.body.isNone==false&&(fn.name== "runtime.NumGoroutine")==false)=true):Enters P f:=by
 simp only[f2N,beq_iff_eq]at h;exact⟨fn,hf,h.1,h.2⟩
end
inductive KI where
 |code (c:Code)
 |blk (id:Nat)
 |ops (q:Bool) (all:Array Oper) (rest:List Oper)
 |scp
def VK(P:Program)(G:GT):List KI->Exit->St->(Exit->St->Prop)->Prop
 |[],e,st,Q=>Q e st
 | .code c::k,.normal,st,Q=>VW P G c st λe s=>VK P G k e s Q
 | .code _::k,e,st,Q=>VK P G k e st Q
 | .blk id::k,.exit id',st,Q=>if id'=id then VK P G k .normal st Q else VK P G k (.exit id') st Q
 | .blk _::k,e,st,Q=>VK P G k e st Q
 | .ops q all rest::k,.normal,st,Q=>sE P G q all rest st λs=>VK P G k .normal s Q
 | .ops _ _ _::k,e,st,Q=>VK P G k e st Q
 | .scp::_,.goto _,_,_=>False
 | .scp::k,e,st,Q=>VK P G k e st Q
def b8T(P:Program)(G:GT)(v:DV)(x y:Code)(k:List KI)(st:St)(Q:Exit->St->Prop):Prop:=
 match v with
 | .d (.bool t)=>if t then VK P G (.code x::k) .normal st Q else VK P G (.code y::k) .normal st Q
 | .pC=>VK P G (.code x::k) .normal st Q/\VK P G (.code y::k) .normal st Q
 |_=>False
section
variable {P:Program} {G:GT} {k:List KI} {st:St} {Q:Exit->St->Prop}
theorem d8n(e:Exit):VK P G [] e st Q=Q e st:=rfl
theorem d2Q:VK P G (.code .skip::k) .normal st Q=VK P G k .normal st Q:=rfl
theorem d8o(x y:Code):VK P G (.code (.seq x y)::k) .normal st Q=VK P G (.code x::.code y::k) .normal st Q:=by simp only[VK,VW];congr 1;funext e s;cases e<;>rfl
theorem d2R(c:Operand)(x y:Code):VK P G (.code (.cond c x y)::k) .normal st Q=b8T P G (st.eval G c) x y k st Q:=rfl
theorem c7V(id:Nat)(c:Code):VK P G (.code (.block id c)::k) .normal st Q=VK P G (.code c::.blk id::k) .normal st Q:=by simp only[VK,VW];congr 1;funext e s;cases e<;>rfl
theorem c7W(l:Nat):VK P G (.code (.label l)::k) .normal st Q=VK P G k .normal st Q:=rfl
theorem b3S:VK P G (.scp::k) .normal st Q=VK P G k .normal st Q:=rfl
theorem c1T:VK P G (.scp::k) .ret st Q=VK P G k .ret st Q:=rfl
theorem b8U(id:Nat):VK P G (.scp::k) (.exit id) st Q=VK P G k (.exit id) st Q:=rfl
theorem c5n(id:Nat)(ops:Array Oper):VK P G (.code (.region id ops false)::k) .normal st Q=VK P G (.ops false ops ops.toList::k) .normal st Q:=by simp only[VK,VW];simp
def gE(P:Program)(ops:Array Oper):Prop:=P.follows .mixedOrders=true/\c7H ops=true
theorem gE.mk{ops:Array Oper}(h:(P.follows .mixedOrders&&c7H ops)=true):gE P ops:=by simpa[gE]using h
theorem c7X(id:Nat)(ops:Array Oper):VK P G (.code (.region id ops true)::k) .normal st Q=(gE P ops/\a8z ops st=true/\VK P G (.ops true ops ops.toList::k) .normal st Q):=by simp only[VK,VW,gE];simp[and_assoc]
theorem d2S(id:Nat):VK P G (.code (.exit id)::k) .normal st Q=VK P G k (.exit id) st Q:=rfl
theorem d8p:VK P G (.code .ret::k) .normal st Q=VK P G k .ret st Q:=rfl
theorem d2T(c:Code):VK P G (.code (.loop c)::k) .normal st Q=SW P G (.loop c) st (λe s=>VK P G k e s Q):=rfl
theorem b8V(c:Code):VK P G (.code c::k) .ret st Q=VK P G k .ret st Q:=rfl
theorem b6u(c:Code)(id:Nat):VK P G (.code c::k) (.exit id) st Q=VK P G k (.exit id) st Q:=rfl
theorem b3T(id:Nat):VK P G (.blk id::k) .normal st Q=VK P G k .normal st Q:=rfl
theorem c1U(id:Nat):VK P G (.blk id::k) .ret st Q=VK P G k .ret st Q:=rfl
theorem b8W(id id':Nat):VK P G (.blk id::k) (.exit id') st Q=if id'=id then VK P G k .normal st Q else VK P G k (.exit id') st Q:=rfl
theorem c1V(q:Bool)(all:Array Oper):VK P G (.ops q all []::k) .normal st Q=VK P G k .normal st Q:=rfl
def aE(P:Program)(G:GT)(q ro qn:Bool)(f:FuncId)(ds:List D)(ls:List (Option Loc))(dst:Option Tmp)(all:Array Oper)(rest:List Oper)(k:List KI)(st:St)(Q:Exit->St->Prop):Prop:=
 (∃r own,(Enters P f/\CS P G f ds r own)/\(q=true->qM r=true)/\VK P G (.ops q all rest::k) .normal (finish st dst r (if qn then .no else a3z own)) Q)\/
 (ro=false/\∃s',(Enters P f/\mP P G f (ds.map .d) ls st dst s')/\VK P G (.ops q all rest::k) .normal s' Q)
theorem aE.mk{q ro qn:Bool}{ls:List (Option Loc)}{f:FuncId}{ds:List D}{r:DV}{own:Option TypeId}{dst:Option Tmp}{all:Array Oper}{rest:List Oper}(he:Enters P f)(hc:CS P G f ds r own)(h:VK P G (.ops q all rest::k) .normal (finish st dst r (if qn then .no else a3z own)) Q)(hkl:qM r=true:=by rfl):aE P G q ro qn f ds ls dst all rest k st Q:=.inl ⟨r,own,⟨he,hc⟩,λ_=>hkl,h⟩
def a9D(P:Program)(G:GT)(q:Bool)(x:Option Out)(dst:Option Tmp)(all:Array Oper)(rest:List Oper)(k:List KI)(Q:Exit->St->Prop):Prop:=
 match x with
 |some out=>VK P G (.ops q all rest::k) .normal (finish out.st dst out.v out.act) Q
 |none=>False
theorem c1W{q:Bool}{st':St}{v:DV}{act:OA}{dst:Option Tmp}{all:Array Oper}{rest:List Oper}:a9D P G q (some ⟨v,act,st'⟩) dst all rest k Q=VK P G (.ops q all rest::k) .normal (finish st' dst v act) Q:=rfl
theorem c1X(x y:Code):b8T P G (.d (.bool true)) x y k st Q=VK P G (.code x::k) .normal st Q:=rfl
theorem c5o(x y:Code):b8T P G .pC x y k st Q=(VK P G (.code x::k) .normal st Q/\VK P G (.code y::k) .normal st Q):=rfl
theorem b8X(x y:Code):b8T P G (.d (.bool false)) x y k st Q=VK P G (.code y::k) .normal st Q:=rfl
def eR(P:Program)(G:GT)(q ro:Bool)(f:FuncId)(f2L:List DV)(ls:List (Option Loc))(dst:Option Tmp)(all:Array Oper)(rest:List Oper)(k:List KI)(st:St)(Q:Exit->St->Prop):Prop:=
 a0p P G ro f f2L ls dst st λs=>VK P G (.ops q all rest::k) .normal s Q
def a9E(P:Program)(G:GT)(q:Bool)(o:Oper)(all:Array Oper)(rest:List Oper)(k:List KI)(st:St)(Q:Exit->St->Prop):Prop:=
 match gJ G o st with
 |some (f,ds)=>aE P G q (qN q all o) (q&& !sA all o) f ds (jL o) o.dst all rest k st Q
 |none=>
  match cR G o st with
  |some (f,f2L)=>eR P G q (qN q all o) f f2L (jL o) o.dst all rest k st Q
  |none=>a9D P G q ((jT P G o st).map λout=>⟨out.v,a7d q all o out.v out.act,out.st⟩) o.dst all rest k Q
def a2e(P:Program)(G:GT)(q:Bool)(y:DV)(want:Bool)(o:Oper)(all:Array Oper)(rest:List Oper)(k:List KI)(st:St)(Q:Exit->St->Prop):Prop:=
 match y with
 | .undef=>False
 | .pC=>False
 | .d (.bool b)=>if b=want then a9E P G q o all rest k st Q else VK P G (.ops q all rest::k) .normal (finish st o.dst (.cJ []) .no) Q
 |_=>VK P G (.ops q all rest::k) .normal (finish st o.dst (.cJ []) .no) Q
theorem a0s(q:Bool)(b want:Bool)(o:Oper)(all:Array Oper)(rest:List Oper):a2e P G q (.d (.bool b)) want o all rest k st Q=if b=want then a9E P G q o all rest k st Q else VK P G (.ops q all rest::k) .normal (finish st o.dst (.cJ []) .no) Q:=rfl
theorem c1Y(q:Bool)(ds:List D)(want:Bool)(o:Oper)(all:Array Oper)(rest:List Oper):a2e P G q (.cJ ds) want o all rest k st Q=VK P G (.ops q all rest::k) .normal (finish st o.dst (.cJ []) .no) Q:=rfl
theorem a9F(q:Bool)(all:Array Oper)(o:Oper)(rest:List Oper):VK P G (.ops q all (o::rest)::k) .normal st Q=match dJ o all st.tmps with
  |some true=>a9E P G q o all rest k st Q
  |some false=>VK P G (.ops q all rest::k) .normal (finish st o.dst (.cJ []) .no) Q
  |none=>False:=by
 simp only[VK,sE,mE,a9E,aE,eR,a9D];split<;>rename_i hw<;>(try simp only[hw]);split<;>rename_i hc<;>(try simp only[hc]);generalize cR G o st=x;cases x with
 |some p=>rfl
 |none=>cases jT P G o st<;>rfl
theorem b8Y(q:Bool)(all:Array Oper)(dst:Option Tmp)(op:Op)(ty:TypeId)(pos:String)(after:Array Edge)(rest:List Oper):
  VK P G (.ops q all (⟨dst,op,ty,pos,after,none⟩::rest)::k) .normal st Q=a9E P G q ⟨dst,op,ty,pos,after,none⟩ all rest k st Q:=by
 rw[a9F]
 rfl
theorem b6v(q:Bool)(all:Array Oper)(dst:Option Tmp)(op:Op)(ty:TypeId)(pos:String)(after:Array Edge)(j:Nat)(want:Bool)(rest:List Oper):
  VK P G (.ops q all (⟨dst,op,ty,pos,after,some (j,want)⟩::rest)::k) .normal st Q=a2e P G q (sH all st.tmps j) want ⟨dst,op,ty,pos,after,some (j,want)⟩ all rest k st Q:=by
 rw[a9F];simp only[dJ,a2e];generalize sH all st.tmps j=y;cases y with
 |d x=>
  cases x with
  |bool b=>cases b<;>cases want<;>rfl
  |_=>rfl
 |_=>rfl
theorem CS.aZ{f:FuncId}{fn:Func}{c:Code}{n:Nat}{ds:List D}{r:DV}{own:Option TypeId}(hf:P.funcs[f]? =some fn)(hb:fn.body=some c)(hn:fn.ntmps=n){rs:List ResultVar}(hrs:fn.results.toList=rs)(h:VK P G [.code c] .normal (zI ds n) λe s=>(e=.normal\/e=.ret)/\b8Q (c5m P s rs) r/\b8R s rs own):CS P G f ds r own:=by subst hrs;exact CS.e2H hf hb hn h
theorem eR.mk'{q ro:Bool}{ls:List (Option Loc)}{f:FuncId}{f2L:List DV}{dst:Option Tmp}{all:Array Oper}{rest:List Oper}(h:∃s',(Enters P f/\mP P G f f2L ls st dst s')/\VK P G (.ops q all rest::k) .normal s' Q)(hro:ro=false):eR P G q ro f f2L ls dst all rest k st Q:=by subst hro;exact h
theorem aE.dP{q ro qn:Bool}{ls:List (Option Loc)}{f:FuncId}{ds:List D}{dst:Option Tmp}{all:Array Oper}{rest:List Oper}(h:∃s',(Enters P f/\mP P G f (ds.map .d) ls st dst s')/\VK P G (.ops q all rest::k) .normal s' Q)(hro:ro=false):aE P G q ro qn f ds ls dst all rest k st Q:=.inr ⟨hro,h⟩
theorem eR.ro'{q ro:Bool}{ls:List (Option Loc)}{f:FuncId}{f2L:List DV}{dst:Option Tmp}{all:Array Oper}{rest:List Oper}{d:DV}{ks:List Nat}(he:Enters P f)(hr:RO P G f f2L ks st.H d)(hn:jW ks st.own=true)(hks:(ks.all λk=>(getKey k st.H).isSome)=true)(hkl:qM d=true)(h:VK P G (.ops q all rest::k) .normal (finish st dst d .no) Q):eR P G q ro f f2L ls dst all rest k st Q:=by
 cases ro
 .exact⟨_,⟨he,hr st (λ_ _=>rfl) hn dst ls⟩,h⟩
 .exact⟨d,ks,⟨he,hr,hn,hks,hkl⟩,h⟩
theorem b8Z{c:Code}(h:VK P G [.code c] .normal st Q):VW P G c st Q:=h
theorem SW.e2I{ι:Type}{c:Code}(I:ι->St)(m:ι->Nat)(x0:ι)(h0:yF st (I x0))(round:∀x,VK P G [.code c] .normal (I x) λe s=>match e with
   | .normal=>∃y,yF s (I y)/\m y<m x
   |e=>Q e s):SW P G (.loop c) st Q:=SW.loop I m x0 h0 round
end
attribute [irreducible] VK aE eR a9D b8T a2e
end Go.VM
namespace Go.VM
open Go Go.RowKit
attribute [simp] b4H takeA c7W b3S c1T b8U d8n d2Q d8o d2R c7V c5n c7X a7d a5d sA a0o b0J cO d2S d8p d2T b8V b6u b3T c1U b8W c1V b8Y b6v a9E c1W c1X b8X c5o c1Y sH gJ cR a4z sT DV.cell a9o b4G b0V cellOf a0k b6a b6d mentions kP a0j a8z eA dV cA rO Loc.wN qM jL a3m a4A xB a6T jT c4N c4O a1s b0W a8s d2n a5Q qW a9p qE tG c1s b0X b6b yX vUn b0Y a6U a4B yY yZ a5R a5S qX qY a5T b6c c3q c4M a1T b0G qZ St.eval ofConst wM vD finish dO eG getKey bU yV kB jV cE dropKey addAlias Loc.wN qV sU takeD mS c7k d2m c1r yW xY qK wO rL overwrite b4F isD vE a0U idx bound eP findKeyD a4x a4y eV d2o c3p c4L vF D.one D.cells a3z zI c7T a3H c5m d2N
def b6w:Code->List Nat
 | .region _ ops _=>ops.toList.filterMap (·.dst)
 | .seq a b=>b6w a++b6w b
 | .cond _ a b=>b6w a++b6w b
 | .block _ c=>b6w c
 | .scope c=>b6w c
 | .loop c=>b6w c
 |_=>[]
def b1C:List Nat->List DV->List DV
 |[],l=>l
 |i::r,l=>b1C r (l.set i .undef)
def c1Z:List (Nat×DV)->List DV->List DV
 |[],l=>l
 |(i,v)::r,l=>c1Z r (l.set i v)
def oI(c:Code)(st:St)(ws:List (Nat×DV))(H:List (Nat×aW))(own:List (TypeId×List Loc)):St:=⟨c1Z ws (b1C (b6w c) st.tmps),H,own⟩
theorem c7Y(s s':St):yF s s'↔WkT s.tmps s'.tmps/\WkH s.H s'.H/\a7j s s.own s'.own=true/\bA s'.H s'.own=true:=⟨λh=>⟨h.tmps,h.H,h.own,h.keys⟩,λh=>⟨h.1,h.2.1,h.2.2.1,h.2.2.2⟩⟩
def bJ{ι:Type}(F:ι->St)(m:ι->Nat)(x:ι)(s:St):Prop:=∃y,yF s (F y)/\m y<m x
theorem bJ.mk{ι:Type}{F:ι->St}{m:ι->Nat}{x:ι}{s:St}(y:ι)(h:yF s (F y))(hm:m y<m x):bJ F m x s:=⟨y,h,hm⟩
theorem SW.eL{P:Program}{G:GT}{st:St}{Q:Exit->St->Prop}{c:Code}{ι:Type}(ws:ι->List (Nat×DV))(H:ι->List (Nat×aW))(own:ι->List (TypeId×List Loc))(m:ι->Nat)(x0:ι)(h0:yF st (oI c st (ws x0) (H x0) (own x0)))(round:∀x,VK P G [.code c] .normal (oI c st (ws x) (H x) (own x)) λe s=>match e with
   | .normal=>bJ (λy=>oI c st (ws y) (H y) (own y)) m x s
   |e=>Q e s):SW P G (.loop c) st Q:=SW.e2I (λx=>oI c st (ws x) (H x) (own x)) m x0 h0 round
attribute [irreducible] bJ
attribute [simp] b6w b1C c1Z oI c7Y WkT WkO WkH a7j b1x isNil yE bA
theorem c5p{P:Program}{G:GT}{k:List KI}{st:St}{Q:Exit->St->Prop}{q:Bool}(o:Oper)(all:Array Oper)(rest:List Oper):a2e P G q (.d (.bool true)) true o all rest k st Q=a9E P G q o all rest k st Q:=by rw[a0s,if_pos rfl]
theorem c5q{P:Program}{G:GT}{k:List KI}{st:St}{Q:Exit->St->Prop}{q:Bool}(o:Oper)(all:Array Oper)(rest:List Oper):a2e P G q (.d (.bool false)) false o all rest k st Q=a9E P G q o all rest k st Q:=by rw[a0s,if_pos rfl]
theorem c5r{P:Program}{G:GT}{k:List KI}{st:St}{Q:Exit->St->Prop}{q:Bool}(o:Oper)(all:Array Oper)(rest:List Oper):a2e P G q (.d (.bool true)) false o all rest k st Q=VK P G (.ops q all rest::k) .normal (finish st o.dst (.cJ []) .no) Q:=by rw[a0s,if_neg (by decide)]
theorem c5s{P:Program}{G:GT}{k:List KI}{st:St}{Q:Exit->St->Prop}{q:Bool}(o:Oper)(all:Array Oper)(rest:List Oper):a2e P G q (.d (.bool false)) true o all rest k st Q=VK P G (.ops q all rest::k) .normal (finish st o.dst (.cJ []) .no) Q:=by rw[a0s,if_neg (by decide)]
attribute [simp] c5p c5q c5r c5s
attribute [simp] c7P b1z b4Y c7Q c7R d2L d8m d2M c7S a8A b8Q b8R
theorem d2U(a b:Int):(a==b)=decide (a=b):=rfl
theorem d2V(a b:Int):(a !=b)= !decide (a=b):=rfl
theorem d8q(a b:List UInt8):(a==b)=decide (a=b):=by by_cases h:a=b<;>simp[h]
attribute [simp] d2U d2V d8q
theorem b9a(n m:Nat):((no_index (OfNat.ofNat n):Int)<=(m:Int))=((OfNat.ofNat n:Nat)<=m):=propext Int.ofNat_le
theorem b9b(n m:Nat):((m:Int)<=(no_index (OfNat.ofNat n):Int))=(m<=(OfNat.ofNat n:Nat)):=propext Int.ofNat_le
theorem b9c(n m:Nat):((no_index (OfNat.ofNat n):Int)<(m:Int))=((OfNat.ofNat n:Nat)<m):=propext Int.ofNat_lt
theorem b9d(n m:Nat):((m:Int)<(no_index (OfNat.ofNat n):Int))=(m<(OfNat.ofNat n:Nat)):=propext Int.ofNat_lt
theorem b9e(n m:Nat):((m:Int)=(no_index (OfNat.ofNat n):Int))=(m=(OfNat.ofNat n:Nat)):=propext Int.ofNat_inj
theorem b6x(n m:Nat):(((n:Int)+1)<=(m:Int))=(n+1<=m):=by apply propext;omega
theorem b6y(n m:Nat):(((n:Int)+1)<(m:Int))=(n+1<m):=by apply propext;omega
theorem b9f(n:Nat):(0<=(n:Int)+1)=True:=by apply propext;simp;omega
attribute [simp] b6x b6y b9f
attribute [simp] b9a b9b b9c b9d b9e
end Go.VM
end
namespace Go.Proofs.YtjpodcmhcenjjaaGreatDoor
section
open Go Go.VM
@[simp] theorem e1o:prog.cellsOf 3=1:=by kernel_rfl
@[simp] theorem e1p:jA prog 3=some [.int .i64 0]:=by kernel_rfl
@[simp] theorem e1q:prog.cellsOf 4=1:=by kernel_rfl
@[simp] theorem e1r:prog.cellsOf 9=1:=by kernel_rfl
@[simp] theorem e1s:prog.bytesOf 9=16:=by kernel_rfl
@[simp] theorem d8r:prog.cellsOf 24=1:=by kernel_rfl
@[simp] theorem d8s:prog.cellsOf 25=1:=by kernel_rfl
@[simp] theorem d8t:jA prog 25=some [.aJ]:=by kernel_rfl
@[simp] theorem e1t:eJ prog 25=some 30:=by kernel_rfl
@[simp] theorem d8u:prog.cellsOf 26=1:=by kernel_rfl
@[simp] theorem e1u:eJ prog 26=some 135:=by kernel_rfl
@[simp] theorem d8v:prog.cellsOf 27=1:=by kernel_rfl
@[simp] theorem e1v:eJ prog 27=some 91:=by kernel_rfl
@[simp] theorem d8w:prog.cellsOf 28=1:=by kernel_rfl
@[simp] theorem d8x:jA prog 28=some [.aJ]:=by kernel_rfl
@[simp] theorem e1w:eJ prog 28=some 45:=by kernel_rfl
@[simp] theorem d8y:prog.cellsOf 30=7:=by kernel_rfl
@[simp] theorem d8z:prog.bytesOf 30=128:=by kernel_rfl
@[simp] theorem d8A:jA prog 30=some [.int .i64 0,.str [],.int .i64 0,.aJ,.aJ,.aJ,.aJ]:=by kernel_rfl
@[simp] theorem d1b:cW prog 30=true:=by kernel_rfl
@[simp] theorem d2X:aH prog 30 0=some (0,24):=by kernel_rfl
@[simp] theorem d2Y:aH prog 30 1=some (1,9):=by kernel_rfl
@[simp] theorem d2Z:aH prog 30 2=some (2,3):=by kernel_rfl
@[simp] theorem d3a:aH prog 30 3=some (3,25):=by kernel_rfl
@[simp] theorem d3b:aH prog 30 4=some (4,26):=by kernel_rfl
@[simp] theorem d3c:aH prog 30 5=some (5,27):=by kernel_rfl
@[simp] theorem d3d:aH prog 30 6=some (6,28):=by kernel_rfl
@[simp] theorem d8B:prog.cellsOf 31=1:=by kernel_rfl
@[simp] theorem d8C:jA prog 31=some [.int .i64 0]:=by kernel_rfl
@[simp] theorem d8D:prog.cellsOf 38=1:=by kernel_rfl
@[simp] theorem d8E:prog.cellsOf 39=1:=by kernel_rfl
@[simp] theorem d8F:jA prog 39=some [.aJ]:=by kernel_rfl
@[simp] theorem e1x:eJ prog 39=some 9:=by kernel_rfl
@[simp] theorem d8G:prog.cellsOf 40=1:=by kernel_rfl
@[simp] theorem d8H:prog.cellsOf 41=1:=by kernel_rfl
@[simp] theorem e1y:eJ prog 41=some 43:=by kernel_rfl
@[simp] theorem d8I:prog.cellsOf 43=4:=by kernel_rfl
@[simp] theorem d8J:prog.bytesOf 43=56:=by kernel_rfl
@[simp] theorem d8K:jA prog 43=some [.int .i64 0,.str [],.int .i64 0,.aJ]:=by kernel_rfl
@[simp] theorem d1c:cW prog 43=true:=by kernel_rfl
@[simp] theorem d3e:aH prog 43 0=some (0,40):=by kernel_rfl
@[simp] theorem d3f:aH prog 43 1=some (1,9):=by kernel_rfl
@[simp] theorem d3g:aH prog 43 2=some (2,3):=by kernel_rfl
@[simp] theorem d3h:aH prog 43 3=some (3,41):=by kernel_rfl
@[simp] theorem d8L:prog.cellsOf 45=9:=by kernel_rfl
@[simp] theorem d8M:prog.bytesOf 45=152:=by kernel_rfl
@[simp] theorem d8N:jA prog 45=some [.int .i64 0,.str [],.aJ,.aJ,.int .i64 0,.str [],.int .i64 0,.aJ,.aJ]:=by kernel_rfl
@[simp] theorem d1d:cW prog 45=true:=by kernel_rfl
@[simp] theorem d3i:aH prog 45 0=some (0,38):=by kernel_rfl
@[simp] theorem d3j:aH prog 45 1=some (1,9):=by kernel_rfl
@[simp] theorem d3k:aH prog 45 2=some (2,28):=by kernel_rfl
@[simp] theorem d3l:aH prog 45 3=some (3,39):=by kernel_rfl
@[simp] theorem d3m:aH prog 45 4=some (4,43):=by kernel_rfl
@[simp] theorem d3n:aH prog 45 5=some (8,41):=by kernel_rfl
@[simp] theorem d8O:prog.cellsOf 51=1:=by kernel_rfl
@[simp] theorem e1z:eJ prog 51=some 78:=by kernel_rfl
@[simp] theorem d8P:prog.cellsOf 52=1:=by kernel_rfl
@[simp] theorem e1A:eJ prog 52=some 111:=by kernel_rfl
@[simp] theorem d8Q:prog.cellsOf 53=1:=by kernel_rfl
@[simp] theorem e1B:eJ prog 53=some 114:=by kernel_rfl
@[simp] theorem d8R:prog.cellsOf 54=1:=by kernel_rfl
@[simp] theorem e1C:eJ prog 54=some 82:=by kernel_rfl
@[simp] theorem d8S:prog.cellsOf 55=1:=by kernel_rfl
@[simp] theorem e1D:eJ prog 55=some 118:=by kernel_rfl
@[simp] theorem d8T:prog.cellsOf 56=1:=by kernel_rfl
@[simp] theorem e1E:eJ prog 56=some 70:=by kernel_rfl
@[simp] theorem d8U:prog.cellsOf 58=6:=by kernel_rfl
@[simp] theorem d8V:jA prog 58=some [.aJ,.aJ,.aJ,.aJ,.aJ,.aJ]:=by kernel_rfl
@[simp] theorem d1e:cW prog 58=true:=by kernel_rfl
@[simp] theorem d3o:aH prog 58 0=some (0,51):=by kernel_rfl
@[simp] theorem d3p:aH prog 58 1=some (1,52):=by kernel_rfl
@[simp] theorem d3q:aH prog 58 2=some (2,53):=by kernel_rfl
@[simp] theorem d3r:aH prog 58 3=some (3,54):=by kernel_rfl
@[simp] theorem d3s:aH prog 58 4=some (4,55):=by kernel_rfl
@[simp] theorem d3t:aH prog 58 5=some (5,56):=by kernel_rfl
@[simp] theorem d8W:prog.cellsOf 63=1:=by kernel_rfl
@[simp] theorem d8X:prog.cellsOf 64=1:=by kernel_rfl
@[simp] theorem d8Y:jA prog 64=some [.aJ]:=by kernel_rfl
@[simp] theorem e1F:eJ prog 64=some 181:=by kernel_rfl
@[simp] theorem d8Z:prog.cellsOf 65=1:=by kernel_rfl
@[simp] theorem e1G:eJ prog 65=some 161:=by kernel_rfl
@[simp] theorem d9a:prog.cellsOf 66=1:=by kernel_rfl
@[simp] theorem e1H:eJ prog 66=some 163:=by kernel_rfl
@[simp] theorem d9b:prog.cellsOf 68=14:=by kernel_rfl
@[simp] theorem d9c:jA prog 68=some [.aJ,.aJ,.aJ,.aJ,.int .i64 0,.str [],.aJ,.aJ,.int .i64 0,.str [],.int .i64 0,.aJ,.aJ,.aJ]:=by kernel_rfl
@[simp] theorem d3u:aH prog 68 0=some (0,39):=by kernel_rfl
@[simp] theorem d3v:aH prog 68 1=some (1,64):=by kernel_rfl
@[simp] theorem d3w:aH prog 68 2=some (2,65):=by kernel_rfl
@[simp] theorem d3x:aH prog 68 3=some (3,66):=by kernel_rfl
@[simp] theorem d3y:aH prog 68 4=some (4,45):=by kernel_rfl
@[simp] theorem d3z:aH prog 68 5=some (13,41):=by kernel_rfl
@[simp] theorem d9d:prog.cellsOf 70=25:=by kernel_rfl
@[simp] theorem d9e:prog.bytesOf 70=456:=by kernel_rfl
@[simp] theorem d9f:jA prog 70=some [.str [],.aJ,.int .i64 0,.str [],.int .i64 0,.aJ,.aJ,.aJ,.aJ,.int .i64 0,.bool false,.aJ,.aJ,.aJ,.aJ,.int .i64 0,.str [],.aJ,.aJ,.int .i64 0,.str [],.int .i64 0,.aJ,.aJ,.aJ]:=by kernel_rfl
@[simp] theorem d1f:cW prog 70=true:=by kernel_rfl
@[simp] theorem d3A:aH prog 70 0=some (0,9):=by kernel_rfl
@[simp] theorem d3B:aH prog 70 1=some (1,39):=by kernel_rfl
@[simp] theorem d3C:aH prog 70 2=some (2,30):=by kernel_rfl
@[simp] theorem d3D:aH prog 70 3=some (9,63):=by kernel_rfl
@[simp] theorem d3E:aH prog 70 4=some (10,4):=by kernel_rfl
@[simp] theorem d3F:aH prog 70 5=some (11,68):=by kernel_rfl
@[simp] theorem d9g:prog.cellsOf 75=1:=by kernel_rfl
@[simp] theorem d9h:jA prog 75=some [.aJ]:=by kernel_rfl
@[simp] theorem e1I:eJ prog 75=some 179:=by kernel_rfl
@[simp] theorem d9i:prog.cellsOf 76=1:=by kernel_rfl
@[simp] theorem e1J:eJ prog 76=some 147:=by kernel_rfl
@[simp] theorem d9j:prog.cellsOf 78=4:=by kernel_rfl
@[simp] theorem d9k:prog.bytesOf 78=88:=by kernel_rfl
@[simp] theorem d9l:jA prog 78=some [.str [],.aJ,.aJ,.aJ]:=by kernel_rfl
@[simp] theorem d1g:cW prog 78=true:=by kernel_rfl
@[simp] theorem d3G:aH prog 78 0=some (0,9):=by kernel_rfl
@[simp] theorem d3H:aH prog 78 1=some (1,39):=by kernel_rfl
@[simp] theorem d3I:aH prog 78 2=some (2,75):=by kernel_rfl
@[simp] theorem d3J:aH prog 78 3=some (3,76):=by kernel_rfl
@[simp] theorem d9m:prog.cellsOf 79=1:=by kernel_rfl
@[simp] theorem d9n:prog.cellsOf 80=1:=by kernel_rfl
@[simp] theorem e1K:eJ prog 80=some 151:=by kernel_rfl
@[simp] theorem d9o:prog.cellsOf 82=8:=by kernel_rfl
@[simp] theorem d9p:prog.bytesOf 82=128:=by kernel_rfl
@[simp] theorem d9q:jA prog 82=some [.str [],.str [],.str [],.aJ,.int .i64 0,.str [],.int .i64 0,.aJ]:=by kernel_rfl
@[simp] theorem d1h:cW prog 82=true:=by kernel_rfl
@[simp] theorem d3K:aH prog 82 0=some (0,9):=by kernel_rfl
@[simp] theorem d3L:aH prog 82 1=some (1,9):=by kernel_rfl
@[simp] theorem d3M:aH prog 82 2=some (2,79):=by kernel_rfl
@[simp] theorem d3N:aH prog 82 3=some (3,80):=by kernel_rfl
@[simp] theorem d3O:aH prog 82 4=some (4,43):=by kernel_rfl
@[simp] theorem d9r:prog.cellsOf 91=9:=by kernel_rfl
@[simp] theorem d9s:prog.bytesOf 91=168:=by kernel_rfl
@[simp] theorem d9t:jA prog 91=some [.str [],.aJ,.int .i64 0,.str [],.int .i64 0,.aJ,.aJ,.aJ,.aJ]:=by kernel_rfl
@[simp] theorem d1i:cW prog 91=true:=by kernel_rfl
@[simp] theorem d3P:aH prog 91 0=some (0,9):=by kernel_rfl
@[simp] theorem d3Q:aH prog 91 1=some (1,39):=by kernel_rfl
@[simp] theorem d3R:aH prog 91 2=some (2,30):=by kernel_rfl
@[simp] theorem d9u:prog.cellsOf 94=1:=by kernel_rfl
@[simp] theorem d9v:prog.cellsOf 96=4:=by kernel_rfl
@[simp] theorem d9w:prog.bytesOf 96=40:=by kernel_rfl
@[simp] theorem d9x:jA prog 96=some [.int .i64 0,.str [],.int .i64 0,.int .i64 0]:=by kernel_rfl
@[simp] theorem d1j:cW prog 96=true:=by kernel_rfl
@[simp] theorem d3S:aH prog 96 0=some (0,94):=by kernel_rfl
@[simp] theorem d3T:aH prog 96 1=some (1,9):=by kernel_rfl
@[simp] theorem d3U:aH prog 96 2=some (2,3):=by kernel_rfl
@[simp] theorem d3V:aH prog 96 3=some (3,3):=by kernel_rfl
@[simp] theorem d6d:prog.cellsOf 103=1:=by kernel_rfl
@[simp] theorem d9y:eJ prog 103=some 96:=by kernel_rfl
@[simp] theorem d6e:prog.cellsOf 109=1:=by kernel_rfl
@[simp] theorem d9z:eJ prog 109=some 148:=by kernel_rfl
@[simp] theorem d6f:prog.cellsOf 111=3:=by kernel_rfl
@[simp] theorem d6g:prog.bytesOf 111=56:=by kernel_rfl
@[simp] theorem d6h:jA prog 111=some [.str [],.str [],.aJ]:=by kernel_rfl
@[simp] theorem c7Z:cW prog 111=true:=by kernel_rfl
@[simp] theorem d1k:aH prog 111 0=some (0,9):=by kernel_rfl
@[simp] theorem d1l:aH prog 111 1=some (1,9):=by kernel_rfl
@[simp] theorem d1m:aH prog 111 2=some (2,109):=by kernel_rfl
@[simp] theorem d6i:prog.cellsOf 114=12:=by kernel_rfl
@[simp] theorem d6j:prog.bytesOf 114=216:=by kernel_rfl
@[simp] theorem d6k:jA prog 114=some [.str [],.int .i64 0,.str [],.aJ,.aJ,.int .i64 0,.str [],.int .i64 0,.aJ,.aJ,.aJ,.aJ]:=by kernel_rfl
@[simp] theorem c8a:cW prog 114=true:=by kernel_rfl
@[simp] theorem d1n:aH prog 114 0=some (0,9):=by kernel_rfl
@[simp] theorem d1o:aH prog 114 1=some (1,45):=by kernel_rfl
@[simp] theorem d1p:aH prog 114 2=some (10,64):=by kernel_rfl
@[simp] theorem d1q:aH prog 114 3=some (11,56):=by kernel_rfl
@[simp] theorem d6l:prog.cellsOf 118=6:=by kernel_rfl
@[simp] theorem d6m:prog.bytesOf 118=96:=by kernel_rfl
@[simp] theorem d6n:jA prog 118=some [.str [],.aJ,.int .i64 0,.str [],.int .i64 0,.aJ]:=by kernel_rfl
@[simp] theorem c8b:cW prog 118=true:=by kernel_rfl
@[simp] theorem d1r:aH prog 118 0=some (0,9):=by kernel_rfl
@[simp] theorem d1s:aH prog 118 1=some (1,75):=by kernel_rfl
@[simp] theorem d1t:aH prog 118 2=some (2,43):=by kernel_rfl
@[simp] theorem d6o:prog.cellsOf 127=2:=by kernel_rfl
@[simp] theorem d6p:jA prog 127=some [.int .i64 0,.int .i64 0]:=by kernel_rfl
@[simp] theorem c8c:cW prog 127=true:=by kernel_rfl
@[simp] theorem d1u:aH prog 127 0=some (0,3):=by kernel_rfl
@[simp] theorem d1v:aH prog 127 1=some (1,31):=by kernel_rfl
@[simp] theorem d6q:jA prog 130=some [.aJ,.int .i64 0]:=by kernel_rfl
@[simp] theorem c8d:cW prog 130=true:=by kernel_rfl
@[simp] theorem d1w:aH prog 130 0=some (0,103):=by kernel_rfl
@[simp] theorem d1x:aH prog 130 1=some (1,3):=by kernel_rfl
@[simp] theorem d6r:prog.cellsOf 135=10:=by kernel_rfl
@[simp] theorem d6s:jA prog 135=some [.str [],.int .i64 0,.str [],.aJ,.aJ,.int .i64 0,.str [],.int .i64 0,.aJ,.aJ]:=by kernel_rfl
@[simp] theorem c8e:cW prog 135=true:=by kernel_rfl
@[simp] theorem d1y:aH prog 135 0=some (0,9):=by kernel_rfl
@[simp] theorem d1z:aH prog 135 1=some (1,45):=by kernel_rfl
@[simp] theorem d6t:prog.cellsOf 147=3:=by kernel_rfl
@[simp] theorem d6u:prog.bytesOf 147=64:=by kernel_rfl
@[simp] theorem d6v:jA prog 147=some [.str [],.aJ,.aJ]:=by kernel_rfl
@[simp] theorem c8f:cW prog 147=true:=by kernel_rfl
@[simp] theorem d1A:aH prog 147 0=some (0,9):=by kernel_rfl
@[simp] theorem d1B:aH prog 147 1=some (1,39):=by kernel_rfl
@[simp] theorem d1C:aH prog 147 2=some (2,28):=by kernel_rfl
@[simp] theorem d6w:prog.cellsOf 148=10:=by kernel_rfl
@[simp] theorem d6x:jA prog 148=some [.str [],.int .i64 0,.str [],.aJ,.aJ,.int .i64 0,.str [],.int .i64 0,.aJ,.aJ]:=by kernel_rfl
@[simp] theorem c8g:cW prog 148=true:=by kernel_rfl
@[simp] theorem d1D:aH prog 148 0=some (0,9):=by kernel_rfl
@[simp] theorem d1E:aH prog 148 1=some (1,45):=by kernel_rfl
@[simp] theorem d6y:prog.cellsOf 151=6:=by kernel_rfl
@[simp] theorem d6z:prog.bytesOf 151=96:=by kernel_rfl
@[simp] theorem d6A:jA prog 151=some [.str [],.aJ,.int .i64 0,.str [],.int .i64 0,.aJ]:=by kernel_rfl
@[simp] theorem c8h:cW prog 151=true:=by kernel_rfl
@[simp] theorem d1F:aH prog 151 0=some (0,9):=by kernel_rfl
@[simp] theorem d1G:aH prog 151 1=some (1,39):=by kernel_rfl
@[simp] theorem d1H:aH prog 151 2=some (2,43):=by kernel_rfl
@[simp] theorem d6B:prog.cellsOf 161=2:=by kernel_rfl
@[simp] theorem d6C:prog.bytesOf 161=32:=by kernel_rfl
@[simp] theorem d6D:jA prog 161=some [.str [],.str []]:=by kernel_rfl
@[simp] theorem c8i:cW prog 161=true:=by kernel_rfl
@[simp] theorem d1I:aH prog 161 0=some (0,9):=by kernel_rfl
@[simp] theorem d1J:aH prog 161 1=some (1,79):=by kernel_rfl
@[simp] theorem d9A:a1r prog 161=some [.string,.string]:=by kernel_rfl
@[simp] theorem d6E:prog.cellsOf 163=10:=by kernel_rfl
@[simp] theorem d6F:prog.bytesOf 163=152:=by kernel_rfl
@[simp] theorem d6G:jA prog 163=some [.str [],.aJ,.int .i64 0,.str [],.int .i64 0,.aJ,.int .i64 0,.str [],.int .i64 0,.aJ]:=by kernel_rfl
@[simp] theorem c8j:cW prog 163=true:=by kernel_rfl
@[simp] theorem d1K:aH prog 163 0=some (0,9):=by kernel_rfl
@[simp] theorem d1L:aH prog 163 1=some (1,75):=by kernel_rfl
@[simp] theorem d1M:aH prog 163 2=some (2,43):=by kernel_rfl
@[simp] theorem d1N:aH prog 163 3=some (6,43):=by kernel_rfl
@[simp] theorem d6H:prog.cellsOf 179=2:=by kernel_rfl
@[simp] theorem d6I:prog.bytesOf 179=32:=by kernel_rfl
@[simp] theorem d6J:jA prog 179=some [.str [],.str []]:=by kernel_rfl
@[simp] theorem c8k:cW prog 179=true:=by kernel_rfl
@[simp] theorem d1O:aH prog 179 0=some (0,9):=by kernel_rfl
@[simp] theorem d1P:aH prog 179 1=some (1,79):=by kernel_rfl
@[simp] theorem d9B:a1r prog 179=some [.string,.string]:=by kernel_rfl
@[simp] theorem d6K:prog.cellsOf 181=2:=by kernel_rfl
@[simp] theorem d6L:prog.bytesOf 181=32:=by kernel_rfl
@[simp] theorem d6M:jA prog 181=some [.str [],.str []]:=by kernel_rfl
@[simp] theorem c8l:cW prog 181=true:=by kernel_rfl
@[simp] theorem d1Q:aH prog 181 0=some (0,9):=by kernel_rfl
@[simp] theorem d1R:aH prog 181 1=some (1,9):=by kernel_rfl
@[simp] theorem d9C:a1r prog 181=some [.string,.string]:=by kernel_rfl
@[simp] theorem d6N:prog.cellsOf 199=42:=by kernel_rfl
@[simp] theorem d6O:prog.cellsOf 204=1:=by kernel_rfl
@[simp] theorem d6P:jA prog 204=some [.aJ]:=by kernel_rfl
@[simp] theorem c8m:cW prog 204=true:=by kernel_rfl
@[simp] theorem d1S:aH prog 204 0=some (0,103):=by kernel_rfl
@[simp] theorem d9D:eJ prog 236=some 40:=by kernel_rfl
@[simp] theorem d6Q:prog.cellsOf 239=4:=by kernel_rfl
@[simp] theorem d6R:jA prog 239=some [.int .i64 0,.int .i64 0,.int .i64 0,.str []]:=by kernel_rfl
@[simp] theorem c8n:cW prog 239=true:=by kernel_rfl
@[simp] theorem d1T:aH prog 239 0=some (0,3):=by kernel_rfl
@[simp] theorem d1U:aH prog 239 1=some (1,3):=by kernel_rfl
@[simp] theorem d1V:aH prog 239 2=some (2,3):=by kernel_rfl
@[simp] theorem d1W:aH prog 239 3=some (3,9):=by kernel_rfl
@[simp] theorem d9E:eY prog 9=true:=by kernel_rfl
@[simp] theorem d6S:eY prog 30=true:=by kernel_rfl
@[simp] theorem d6T:eY prog 40=true:=by kernel_rfl
@[simp] theorem d6U:eY prog 43=true:=by kernel_rfl
@[simp] theorem d6V:eY prog 45=true:=by kernel_rfl
@[simp] theorem d6W:eY prog 70=true:=by kernel_rfl
@[simp] theorem d6X:eY prog 78=true:=by kernel_rfl
@[simp] theorem d6Y:eY prog 82=true:=by kernel_rfl
@[simp] theorem d6Z:eY prog 91=true:=by kernel_rfl
@[simp] theorem d7a:eY prog 96=true:=by kernel_rfl
@[simp] theorem d3W:eY prog 111=true:=by kernel_rfl
@[simp] theorem d3X:eY prog 114=true:=by kernel_rfl
@[simp] theorem d3Y:eY prog 118=true:=by kernel_rfl
@[simp] theorem d3Z:eY prog 135=true:=by kernel_rfl
@[simp] theorem d4a:eY prog 147=true:=by kernel_rfl
@[simp] theorem d4b:eY prog 148=true:=by kernel_rfl
@[simp] theorem d4c:eY prog 151=true:=by kernel_rfl
@[simp] theorem d4d:eY prog 161=true:=by kernel_rfl
@[simp] theorem d4e:eY prog 163=true:=by kernel_rfl
@[simp] theorem d4f:eY prog 179=true:=by kernel_rfl
@[simp] theorem d4g:eY prog 181=true:=by kernel_rfl
end
section
open Go Go.VM
variable {G:GT}
theorem wrap64{n:Int}(h: -9223372036854775808<=n/\n<=9223372036854775807):IntKind.i64.wrap n=n:=by unfold IntKind.wrap;simp[IntKind.bits,IntKind.signed];omega
theorem bC{i:Nat}(h:i<9223372036854775807):IntKind.i64.wrap ((i:Int)+1)=((i+1:Nat):Int):=by rw[wrap64 (by omega)];simp
def zJ(c:Int):Bool:=decide (97<=c)&&decide (c<=122)
def c5t(c:Int):Bool:=decide (65<=c)&&decide (c<=90)
def c2a(c:Int):Bool:=decide (48<=c)&&decide (c<=57)
def anB(c:Int):Bool:=zJ c||c5t c||c2a c
def wdB(c:Int):Bool:=zJ c||c2a c||c==95
def sizedB(s:List UInt8):Bool:=decide (1<=s.length)&&decide (s.length<=24)
def wT(p:Int->Bool)(s:List UInt8):Bool:=s.all λc=>p c.toNat
theorem rR{p:Int->Bool}{s:List UInt8}{i:Nat}{b:Bool}(he:b=wT p (s.drop i))(aI:i<s.length)(hp:p s[i].toNat=true):b=wT p (s.drop (i+1)):=by unfold wT at he;rw[he,f3a aI];simp only[List.all_cons,hp,Bool.true_and,wT]
theorem a4E{p:Int->Bool}{s:List UInt8}{i:Nat}{b:Bool}(he:b=wT p (s.drop i))(aI:i<s.length)(hp:p s[i].toNat=false):b=false:=by unfold wT at he;rw[he,f3a aI];simp only[List.all_cons,hp,Bool.false_and]
theorem b1E{p:Int->Bool}{s:List UInt8}{i:Nat}{b:Bool}(he:b=wT p (s.drop i))(aI: ¬i<s.length):b=true:=by
 rw[he,List.drop_of_length_le (by omega)]
 rfl
theorem c8p{α:Type}{f:α->Bool}{l:List α}{i:Nat}{b:Bool}(he:b=(l.drop i).any f)(aI:i<l.length)(hp:f l[i]=false):b=(l.drop (i+1)).any f:=by rw[he,f3a aI];simp only[List.any_cons,hp,Bool.false_or]
theorem c8q{α:Type}{f:α->Bool}{l:List α}{i:Nat}{b:Bool}(he:b=(l.drop i).any f)(aI:i<l.length)(hp:f l[i]=true):b=true:=by rw[he,f3a aI];simp only[List.any_cons,hp,Bool.true_or]
theorem d4h{α:Type}{f:α->Bool}{l:List α}{i:Nat}{b:Bool}(he:b=(l.drop i).any f)(aI: ¬i<l.length):b=false:=by
 rw[he,List.drop_of_length_le (by omega)]
 rfl
theorem a0t:VM.Enters prog 266:=.mk func266 rfl
theorem a3J:VM.Enters prog 267:=.mk func267 rfl
theorem a5t:VM.Enters prog 268:=.mk func268 rfl
theorem a3K:VM.Enters prog 252:=.mk func252 rfl
theorem zK:VM.Enters prog 253:=.mk func253 rfl
theorem c2b:VM.Enters prog 254:=.mk func254 rfl
theorem a2f(c:Int):CS prog G 266 [.int .u8 c] (.d (.bool (zJ c))) none:=by refine CS.aZ func266 rfl ntmps266 rfl ?_;by_cases h:97<=c<;>simp[zJ,h]
theorem a6k(c:Int):CS prog G 267 [.int .u8 c] (.d (.bool (c2a c))) none:=by refine CS.aZ func267 rfl ntmps267 rfl ?_;by_cases h:48<=c<;>simp[c2a,h]
theorem a7k(c:Int):CS prog G 268 [.int .u8 c] (.d (.bool (c5t c))) none:=by refine CS.aZ func268 rfl ntmps268 rfl ?_;by_cases h:65<=c<;>simp[c5t,h]
theorem a6l(s:List UInt8):CS prog G 252 [.str s] (.d (.bool (sizedB s))) none:=by refine CS.aZ func252 rfl ntmps252 rfl ?_;by_cases h:1<=s.length<;>simp[sizedB,h]
theorem a0u(s:List UInt8)(hs:s.length<=1000000):CS prog G 253 [.str s] (.d (.bool (wT anB s))) none:=by
 refine CS.aZ func253 rfl ntmps253 rfl ?_;simp;refine SW.eL (ι:={i:Nat//i<=s.length/\wT anB s=wT anB (s.drop i)}) (λi=>[(3,.d (.int .i64 i.1))]) (λ_=>[]) (λ_=>[]) (λi=>s.length-i.1) ⟨0,by simp⟩ (by simp) ?_;rintro⟨i,hi,he⟩;by_cases aI:i<s.length
 .simp[aI];refine aE.mk a0t (a2f _) ?_;have hw:=bC (show i<9223372036854775807 by omega);cases h1:zJ s[i].toNat
  .simp[aI];refine aE.mk a5t (a7k _) ?_;cases h2:c5t s[i].toNat
   .simp[aI];refine aE.mk a3J (a6k _) ?_;cases h3:c2a s[i].toNat
    .simp[aI];exact a4E he aI (by simp[anB,h1,h2,h3])
    .simp[aI];exact bJ.mk ⟨i+1,aI,rR he aI (by simp[anB,h3])⟩ (by simp[hw]) (by simp;omega)
   .simp[aI];exact bJ.mk ⟨i+1,aI,rR he aI (by simp[anB,h2])⟩ (by simp[hw]) (by simp;omega)
  .simp[aI];exact bJ.mk ⟨i+1,aI,rR he aI (by simp[anB,h1])⟩ (by simp[hw]) (by simp;omega)
 .simp[aI];exact b1E he aI
def a7l(s:List UInt8):Bool:=wT wdB s&&(match s with|[]=>true|c::_=>zJ c.toNat)
theorem c5u(s:List UInt8)(hs:s.length<=1000000):CS prog G 254 [.str s] (.d (.bool (a7l s))) none:=by
 refine CS.aZ func254 rfl ntmps254 rfl ?_;simp;refine SW.eL (ι:={i:Nat//i<=s.length/\(0<i->wT wdB s=wT wdB (s.drop i)/\a7l s=wT wdB s)}) (λi=>[(3,.d (.int .i64 i.1))]) (λ_=>[]) (λ_=>[]) (λi=>s.length-i.1) ⟨0,by simp⟩ (by simp) ?_;rintro⟨i,hi,he⟩;by_cases aI:i<s.length
 .have hnx:wdB s[i].toNat=true->(i=0->zJ s[i].toNat=true)->(0<i+1->wT wdB s=wT wdB (s.drop (i+1))/\a7l s=wT wdB s):=λhp h0 _=>by
    rcases Nat.eq_zero_or_pos i with hz|hz
    .subst hz;refine⟨rR (i:=0) rfl aI hp,?_⟩;cases s with
     |nil=>rfl
     |cons c s=>have:=h0 rfl;simp at this;simp[a7l,this]
    .exact⟨rR (he hz).1 aI hp,(he hz).2⟩
  have hw:=bC (show i<9223372036854775807 by omega);have mM:wdB s[i].toNat=false->a7l s=false:=λhp=>by
   rcases Nat.eq_zero_or_pos i with hz|hz
   .subst hz;have:=a4E (b:=wT wdB s) (i:=0) rfl aI hp;simp[a7l,this]
   .rw[(he hz).2];exact a4E (he hz).1 aI hp
  simp[aI];refine aE.mk a0t (a2f _) ?_;cases h1:zJ s[i].toNat
  .rcases Nat.eq_zero_or_pos i with hz|hz
   .subst hz;simp[aI];cases s with
    |nil=>simp at aI
    |cons c s=>simp at h1;simp[a7l,h1]
   .have hz': ¬i=0:=by omega
    simp[aI,hz'];refine aE.mk a3J (a6k _) ?_;cases h3:c2a s[i].toNat
    .by_cases h4:s[i].toNat=95
     .simp[aI,h4];exact bJ.mk ⟨i+1,aI,hnx (by simp[wdB,h4]) (λh=>absurd h hz')⟩ (by simp[hw]) (by simp;omega)
     .have h5: ¬((s[i].toNat:Int)=95):=by omega
      simp[aI,h4,h5];exact mM (by simp[wdB,h1,h3,h5])
    .simp[aI];exact bJ.mk ⟨i+1,aI,hnx (by simp[wdB,h3]) (λh=>absurd h hz')⟩ (by simp[hw]) (by simp;omega)
  .simp[aI];exact bJ.mk ⟨i+1,aI,hnx (by simp[wdB,h1]) (λ_=>h1)⟩ (by simp[hw]) (by simp;omega)
 .simp[aI];rcases Nat.eq_zero_or_pos i with hz|hz
  .subst hz;have:s=[]:=by simpa using aI
   subst this
   rfl
  .rw[(he hz).2];exact b1E (he hz).1 aI
open Go Go.VM
variable {G:GT}
def kwL:List (List UInt8):=[[97,110,100],[97,115,115,117,109,101],[98,111,111,108],[98,111,117,110,100],[99,97,115,101],[99,101,108,108],[99,108,97,115,115],[100,97,116,97],[100,101,102],[100,105,118],[101,108,115,101],[101,110,100],[102,97,108,115,101],[102,111,114,97,108,108],[102,117,110],[103,101,116],[105,102],[105,110],[105,110,115,116],[105,110,116],[105,110,118,97,114,105,97,110,116],[108,101,116],[109,97,116,99,104],[109,101,97,115,117,114,101],[109,101,116,114,105,99],[109,111,100],[109,117],[110,101,119],[110,111,116],[111,102],[111,114],[113,117,97,108],[114,101,102,108,101,99,116],[115,101,116],[116,104,101,110],[116,114,117,101],[117,115,101],[118],[118,97,108],[116,97,103],[119,104,101,114,101],[119,105,116,104]]
def aX(s:List UInt8):Bool:=kwL.any λk=>decide (k=s)
def dK:List D:=kwL.map D.str
theorem wF:VM.Enters prog 167:=.mk func167 rfl
theorem yG(hG:G 1=some dK)(s:List UInt8):CS prog G 167 [.str s] (.d (.bool (aX s))) none:=by
 refine CS.aZ func167 rfl ntmps167 rfl ?_;have hlen:dK.length=42:=rfl;have e2L:List.take 42 dK=dK:=by rw[<-hlen,List.take_length]
 simp[hG,hlen,e2L];refine SW.eL (ι:={i:Nat//i<=42/\aX s=(kwL.drop i).any λk=>decide (k=s)}) (λi=>[(6,.d (.int .i64 i.1))]) (λ_=>[]) (λ_=>[]) (λi=>42-i.1) ⟨0,by simp[aX]⟩ (by simp) ?_;rintro⟨i,hi,he⟩;by_cases aI:i<42
 .have hl:i<kwL.length:=aI;have a2Y:dK[i]? =some (.str kwL[i]):=by simp[dK,hl]
  have d7b:dK[i]'(by rw[hlen];exact aI)=.str kwL[i]:=by simp[dK]
  by_cases hk:kwL[i]=s
  .simp[aI,hlen,a2Y,d7b,hk];exact c8q he hl (by simp[hk])
  .simp[aI,hlen,a2Y,d7b,hk];exact bJ.mk ⟨i+1,aI,c8p he hl (by simp[hk])⟩ (by simp[bC (show i<9223372036854775807 by omega)]) (by simp;omega)
 .simp[aI];exact d4h he aI
def c8r(p:Int->Bool)(s:List UInt8):Bool:=match s with
 |[]=>false
 |c::_=>p c.toNat
theorem a4F{p:Int->Bool}{s:List UInt8}(h:0<s.length):c8r p s=p s[0].toNat:=by
 cases s with
 |nil=>simp at h
 |cons c s=>rfl
def a3L(s:List UInt8):Bool:=sizedB s&&c8r zJ s&& !aX s&&wT wdB s
theorem c2c:VM.Enters prog 250:=.mk func250 rfl
theorem c5v(hG:G 1=some dK)(s:List UInt8):CS prog G 250 [.str s] (.d (.bool (a3L s))) none:=by
 refine CS.aZ func250 rfl ntmps250 rfl ?_;simp;refine aE.mk a3K (a6l _) ?_;cases hz:sizedB s
 .simp[a3L,hz]
 .have hl:1<=s.length/\s.length<=24:=by simpa[sizedB]using hz
  have h0:0<s.length:=by omega
  simp[h0];refine aE.mk a0t (a2f _) ?_;cases h1:zJ s[0].toNat
  .simp[a3L,a4F h0,h1]
  .simp;refine aE.mk wF (yG hG _) ?_;cases h2:aX s
   .simp;have hb:a3L s=wT wdB s:=by simp[a3L,hz,a4F h0,h1,h2]
    refine SW.eL (ι:={i:Nat//1<=i/\i<=s.length/\wT wdB s=wT wdB (s.drop i)}) (λi=>[(3,.d (.int .i64 i.1))]) (λ_=>[]) (λ_=>[]) (λi=>s.length-i.1) ⟨1,f3d _,hl.1,rR (i:=0) rfl h0 (by simp[wdB,h1])⟩ (by simp) ?_;rintro⟨i,hi1,hi,he⟩;by_cases aI:i<s.length
    .have hw:=bC (show i<9223372036854775807 by omega);simp[aI];refine aE.mk a0t (a2f _) ?_;cases h1:zJ s[i].toNat
     .simp[aI];refine aE.mk a3J (a6k _) ?_;cases h3:c2a s[i].toNat
      .by_cases h4:s[i].toNat=95
       .simp[aI,h4];exact bJ.mk ⟨i+1,by omega,aI,rR he aI (by simp[wdB,h4])⟩ (by simp[hw]) (by simp;omega)
       .simp[aI,h4];rw[hb];exact a4E he aI (by simp[wdB,h1,h3];omega)
      .simp[aI];exact bJ.mk ⟨i+1,by omega,aI,rR he aI (by simp[wdB,h3])⟩ (by simp[hw]) (by simp;omega)
     .simp[aI];exact bJ.mk ⟨i+1,by omega,aI,rR he aI (by simp[wdB,h1])⟩ (by simp[hw]) (by simp;omega)
    .simp[aI];rw[hb];exact b1E he aI
   .simp[a3L,h2]
theorem b9g:VM.Enters prog 251:=.mk func251 rfl
def vK(s:List UInt8):Bool:=sizedB s&&c8r c5t s&&wT anB s&& !decide (s=[73,110,116])&& !decide (s=[66,111,111,108])&& !decide (s=[67,101,108,108])&& !decide (s=[70,117,110])
theorem c2d(s:List UInt8):CS prog G 251 [.str s] (.d (.bool (vK s))) none:=by
 refine CS.aZ func251 rfl ntmps251 rfl ?_;simp;refine aE.mk a3K (a6l _) ?_;cases hz:sizedB s
 .simp[vK,hz]
 .have hl:1<=s.length/\s.length<=24:=by simpa[sizedB]using hz
  have h0:0<s.length:=by omega
  simp[h0];refine aE.mk a5t (a7k _) ?_;cases h1:c5t s[0].toNat
  .simp[vK,a4F h0,h1]
  .simp;refine aE.mk zK (a0u _ (by omega)) ?_;cases h2:wT anB s
   .simp[vK,h2]
   .by_cases e1:s=[73,110,116]
    .simp[vK,e1]
    by_cases e2:s=[66,111,111,108]
    .simp[vK,e2]
    by_cases e3:s=[67,101,108,108]
    .simp[vK,e3]
    simp[vK,hz,a4F h0,h1,h2,e1,e2,e3]
def eD:List UInt8->List UInt8×List UInt8×Bool
 |[]=>([],[],false)
 |c::r=>if c.toNat=46 then([],r,true) else(c::(eD r).1,(eD r).2)
theorem b4Z:VM.Enters prog 249:=.mk func249 rfl
theorem c3I:∀(s:List UInt8) (i:Nat),(∀j (h:j<s.length),j<i->s[j].toNat≠46)->i<=s.length->eD s=(s.take i++(eD (s.drop i)).1,(eD (s.drop i)).2)
 |s,0,_,_=>by simp
 |[],i+1,_,h=>by simp at h
 |c::r,i+1,hj,h=>by have h0:=hj 0 (by simp) (by omega);simp at h0 h;have ih:=c3I r i (λj h yD=>by have:=hj (j+1) (by simp;omega) (by omega);simpa using this) h;simp[eD,h0,ih]
theorem b9h(s:List UInt8)(hs:s.length<=1000000):CS prog G 249 [.str s] (.cJ [.str (eD s).1,.str (eD s).2.1,.bool (eD s).2.2]) none:=by
 refine CS.aZ func249 rfl ntmps249 rfl ?_;simp;refine SW.eL (ι:={i:Nat//i<=s.length/\∀j (h:j<s.length),j<i->s[j].toNat≠46}) (λi=>[(5,.d (.int .i64 i.1))]) (λ_=>[]) (λ_=>[]) (λi=>s.length-i.1) ⟨0,by simp⟩ (by simp) ?_;rintro⟨i,hi,he⟩;have c5w:=c3I s i he hi;by_cases aI:i<s.length
 .by_cases h4:s[i].toNat=46
  .have hw:IntKind.i64.wrap ((i:Int)+1)=((i+1:Nat):Int):=bC (by omega);rw[f3a aI]at c5w;simp only[eD,h4,if_true]at c5w;have h1:i+1<=s.length:=aI;simp[aI,h4,c5w,hw,hi,h1];exact gE.mk (by kernel_rfl)
  .simp[aI,h4];refine bJ.mk ⟨i+1,aI,λj h hj=>?_⟩ (by simp[bC (show i<9223372036854775807 by omega)]) (by simp;omega);by_cases yD:j=i
   .subst yD;exact h4
   .exact he j h (by omega)
 .have:i=s.length:=by omega
  subst this;rw[List.drop_length]at c5w;simp[eD]at c5w;simp[aI,c5w]
open Go Go.VM
variable {G:GT}
def vL:List UInt8->List (List UInt8)
 |[]=>[[]]
 |c::r=>if c.toNat=46 then []::vL r else match vL r with
  |p::ps=>(c::p)::ps
  |[]=>[[c]]
theorem a2g:∀s,vL s=(eD s).1::(if (eD s).2.2=true then vL (eD s).2.1 else [])
 |[]=>rfl
 |c::r=>by
  by_cases hc:c.toNat=46
  .simp[vL,eD,hc]
  .simp only[vL,eD,hc,if_false];rw[a2g r]
theorem c3J:∀s,(eD s).2.2=true->(eD s).2.1.length<s.length
 |[],h=>by simp[eD]at h
 |c::r,h=>by
  unfold eD at h|-;split
  .simp
  .rename_i hc;simp[hc]at h;have:=c3J r h;simp;omega
theorem b9i:∀s,(eD s).1.length<=s.length
 |[]=>by simp[eD]
 |c::r=>by
  unfold eD;split
  .simp
  .simp;exact b9i r
theorem a8C:∀s,(eD s).2.1.length<=s.length
 |[]=>by simp[eD]
 |c::r=>by
  unfold eD;split
  .simp
  .simp;have:=a8C r;omega
def a1y(p:List UInt8):Bool:=sizedB p&&(wT anB p||a7l p)
def a1z(s:List UInt8):Bool:=decide (s.length<=120)&&(match vL s with
 |[]=>false
 |p::ps=>(a3L p||vK p||(decide (p=[118])&& !ps.isEmpty))&&ps.all a1y)
def b0M(b:Bool):Int:=if b then 0 else 3
theorem c5x(s:List UInt8):a1z s=(decide (s.length<=120)&&((a3L (eD s).1||vK (eD s).1||(decide ((eD s).1=[118])&&(eD s).2.2))&&(if (eD s).2.2=true then(vL (eD s).2.1).all a1y else true))):=by
 unfold a1z;rw[a2g s];cases hm:(eD s).2.2
 .simp
 .have:(vL (eD s).2.1).isEmpty=false:=by rw[a2g];rfl
  simp[this]
theorem c2e:VM.Enters prog 241:=.mk func241 rfl
theorem c5y(hG:G 1=some dK)(s:List UInt8):CS prog G 241 [.str s] (.d (.int .i64 (b0M (a1z s)))) none:=by
 refine CS.aZ func241 rfl ntmps241 rfl ?_;by_cases hl:120<s.length
 .have: ¬s.length<=120:=by omega
  simp[hl,a1z,this,b0M]
 .have hl':s.length<=120:=by omega
  simp[hl];refine aE.mk b4Z (b9h _ (by omega)) ?_;simp;refine aE.mk c2c (c5v hG _) ?_;have c8s:=c5x s;simp only[hl',decide_true,Bool.true_and]at c8s;have d7c:(a3L (eD s).1||vK (eD s).1||(decide ((eD s).1=[118])&&(eD s).2.2))=false->a1z s=false:=λh=>by rw[c8s,h];rfl
  have hgo:(a3L (eD s).1||vK (eD s).1||(decide ((eD s).1=[118])&&(eD s).2.2))=true->a1z s=if (eD s).2.2=true then(vL (eD s).2.1).all a1y else true:=λh=>by rw[c8s,h];rfl
  cases h1:a3L (eD s).1;rotate_left;simp
  replace hgo:=hgo (by simp[h1])
  rotate_left;simp;refine aE.mk b9g (c2d _) ?_;cases h2:vK (eD s).1;rotate_left;simp
  replace hgo:=hgo (by simp[h1,h2])
  rotate_left 2;by_cases h3:(eD s).1=[118];rotate_left
  .simp[h3];rw[d7c (by rw[h1,h2];simp[h3])]
   rfl
  rotate_left 2;cases h4:(eD s).2.2
  .simp[h3,h4];rw[d7c (by rw[h1,h2];simp[h3,h4])]
   rfl
  simp[h3,h4]
  replace hgo:=hgo (by rw[h1,h2];simp[h3,h4])
  all_goals
   refine SW.eL (ι:={x:List UInt8×Bool//x.1.length<=120/\a1z s=if x.2=true then(vL x.1).all a1y else true}) (λx=>[(4,.d (.str x.1.1)),(5,.d (.bool x.1.2))]) (λ_=>[]) (λ_=>[]) (λx=>if x.1.2=true then x.1.1.length+1 else 0) ⟨((eD s).2.1,(eD s).2.2),by have:=a8C s;simp;omega,hgo⟩ (by simp[*]) ?_;rintro⟨⟨r,m⟩,hr,he⟩;cases m
   .simp;rw[he]
    rfl
   .simp at hr he;simp;refine aE.mk b4Z (b9h _ (by omega)) ?_;have hlen:=b9i r;simp;refine aE.mk a3K (a6l _) ?_;have cY:a1z s=(a1y (eD r).1&&(if (eD r).2.2=true then(vL (eD r).2.1).all a1y else true)):=by rw[he,a2g r];cases (eD r).2.2<;>simp
    have hnx:a1y (eD r).1=true->a1z s=(if (eD r).2.2=true then(vL (eD r).2.1).all a1y else true):=λhp=>by rw[cY,hp];rfl
    have hm:(if (eD r).2.2=true then(eD r).2.1.length+1 else 0)<r.length+1:=by
     cases hm:(eD r).2.2
     .simp
     .have:=c3J r hm;simp;exact this
    have eK:(eD r).2.1.length<=120:=by have:=a8C r;omega
    have sI:a1y (eD r).1=false->a1z s=false:=λhp=>by rw[cY,hp];rfl
    cases g1:sizedB (eD r).1
    .simp;rw[sI (by simp[a1y,g1])]
     rfl
    .simp;refine aE.mk zK (a0u _ (by omega)) ?_;cases g2:wT anB (eD r).1
     .simp;refine aE.mk c2b (c5u _ (by omega)) ?_;cases g3:a7l (eD r).1
      .simp;rw[sI (by simp[a1y,g1,g2,g3])]
       rfl
      .simp;exact bJ.mk ⟨((eD r).2.1,(eD r).2.2),eK,hnx (by simp[a1y,g1,g3])⟩ (by simp) (by simpa using hm)
     .simp;exact bJ.mk ⟨((eD r).2.1,(eD r).2.2),eK,hnx (by simp[a1y,g1,g2])⟩ (by simp) (by simpa using hm)
open Go Go.VM
variable {G:GT}
def strs(l:List (List UInt8)):List (List D):=l.map λs=>[.str s]
theorem b9j(l:List (List UInt8)):(strs l).length=l.length:=by simp[strs]
theorem c5z{l:List (List UInt8)}{i:Nat}(h:i<(strs l).length):(strs l)[i]=[.str (l[i]'(by rw[<-b9j l];exact h))]:=by simp[strs]
theorem c8t(l:List (List UInt8)):(∀x,x∈strs l->x.length=1)=True:=by simp[strs]
theorem c8u(l:List (List UInt8))(s:List UInt8):strs (l++[s])=strs l++[[.str s]]:=by simp[strs]
attribute [simp] b9j c5z c8t c8u
theorem b9k{l:List (List UInt8)}{i:Nat}(h:i<l.length):(strs l)[i]? =some [.str l[i]]:=by simp[strs,h]
def c8v(s:List UInt8):List (List UInt8)->Nat->Int
 |[],_=> -1
 |k::r,i=>if k=s then i else c8v s r (i+1)
end
end Go.Proofs.YtjpodcmhcenjjaaGreatDoor
section
namespace Go.VM
open Go Go.RowKit Go.ChangeShapes Go.WideShapes
mutual
def flat {H:Type}:DataW H->List D
 | .lit (.int k n)=>[.int k n]
 | .lit (.bool b)=>[.bool b]
 | .lit (.string s)=>[.str s]
 | .nil=>[.sl []]
 | .slice es _=>[.sl (wU es)]
 | .agg ps=>uB ps
 |_=>[]
def wU {H:Type}:List (DataW H)->List (List D)
 |[]=>[]
 |d::r=>flat d::wU r
def uB {H:Type}:List (DataW H)->List D
 |[]=>[]
 |d::r=>flat d++uB r
end
theorem a9G{H:Type}:∀l:List (DataW H),wU l=l.map flat
 |[]=>by simp[wU]
 |d::r=>by simp[wU,a9G r]
theorem b1F{H:Type}:∀l:List (DataW H),uB l=(l.map flat).flatten
 |[]=>by simp[uB]
 |d::r=>by simp[uB,b1F r]
inductive a0v (P:Program):TypeId->List D->Prop
 |bool {t:TypeId} {b:Bool}:P.underlying t=some .bool->a0v P t [.bool b]
 |int {t:TypeId} {k:IntKind} {n:Int}:P.underlying t=some (.int k)->(Lit.int k n).wf=true->a0v P t [.int k n]
 |str {t:TypeId} {s:List UInt8}:P.underlying t=some .string->s.length<=maxLen->a0v P t [.str s]
 |sl {t e:TypeId} {es:List (List D)}:P.underlying t=some (.slice e)->es.length<=maxLen->(∀x∈es,a0v P e x)->a0v P t [.sl es]
 |struct {t:TypeId} {fs:Array Field} {ds:List D}:P.underlying t=some (.struct fs)->ds.length=P.cellsOf t->(∀f∈fs.toList,a0v P f.type ((ds.drop f.offset).take (P.cellsOf f.type)))->a0v P t ds
 |array {t e:TypeId} {n:Nat} {ds:List D}:P.underlying t=some (.array n e)->ds.length=P.cellsOf t->(∀i,i<n->a0v P e ((ds.drop (i*P.cellsOf e)).take (P.cellsOf e)))->a0v P t ds
def a0w(P:Program)(L:List TypeId):Bool:=L.all λt=>decide (t<P.types.size)&&match P.underlying t with
 |some .bool|some (.int _)|some .string=>true
 |some (.slice e)=>L.contains e&&decide (0<P.cellsOf e)
 |some (.struct fs)=>fs.toList.all λf=>L.contains f.type
 |some (.array _ e)=>L.contains e
 |_=>false
theorem b9l{w:World}{a:Addr}{m:Nat}{v:Value}(h:w.cell? (a.add m)=some v):w.cell? ⟨a.block,a.off+m,none⟩=some v:=by
 obtain⟨b,o,sp⟩:=a;by_cases hm:m=0
 .subst hm;simp only[Addr.add,if_true]at h;unfold World.cell? at h|-;simp only at h|-;cases hb:w.heap[b]? with
  |none=>rw[hb]at h;cases h
  |some o'=>
   rw[hb]at h;cases o' with
   |cells c _ _=>
    simp only at h|-;split at h
    .cases h
    .simpa using h
   |_=>cases h
 .simpa[Addr.add,hm]using h
theorem c5A{w:World}{a:Addr}{v:Value}(h:w.cell? a=some v):a.spot=none:=by
 unfold World.cell? at h;split at h
 .split at h
  .cases h
  .rename_i hs;simpa using hs
 .cases h
theorem c3K{w:World}{a:Addr}{v:Value}(h:w.cell? a=some v):a.block<w.heap.size:=by
 unfold World.cell? at h;split at h
 .rename_i hb;exact(f2W.1 hb).1
 .cases h
theorem rS{α β:Type}{f:α->Option β}:∀ {l:List α} {r:List β},l.mapM f=some r->∀(i:Nat) (a:α),l[i]? =some a->∃b,r[i]? =some b/\f a=some b
 |[],_,_,i,a,ha=>by simp at ha
 |x::l,r,h,i,a,ha=>by
  rw[List.mapM_cons]at h;obtain⟨b,hb,h⟩:=f3b.1 h;obtain⟨bs,hbs,h⟩:=f3b.1 h;cases h;cases i with
  |zero=>simp at ha;subst ha;exact⟨b,rfl,hb⟩
  |succ i=>exact rS hbs i a (by simpa using ha)
theorem a3M{w:World}{base:Nat}{a:Addr}{n:Nat}{cs:List Value}(h:w.cells? base a n=some cs):cs.length=n/\∀j,j<n->w.cell? (a.add j)=some (cs.getD j undef):=by
 unfold World.cells? at h;split at h
 .have hl:=mapM_some_length h;refine⟨by simpa using hl,λj hj=>?_⟩;obtain⟨v,h1,h2⟩:=rS h j j (by simp[hj]);simpa[List.getD,h1]using h2
 .cases h
theorem a7m{α:Type}:∀(ls:List (List α)) (j:Nat) (l:List α),ls[j]? =some l->(ls.flatten.drop ((ls.take j).map List.length).sum).take l.length=l
 |[],j,l,h=>by simp at h
 |x::r,0,l,h=>by simp at h;subst h;simp
 |x::r,j+1,l,h=>by simp only[List.getElem?_cons_succ]at h;have:=a7m r j l h;simp only[List.flatten_cons,List.take_succ_cons,List.map_cons,List.sum_cons];rw[<-List.drop_drop,List.drop_append_of_le_length (f3d _),List.drop_length,List.nil_append];exact this
theorem b1G{α:Type}:∀(ls:List (List α)) (i:Nat) (x:α),ls.flatten[i]? =some x->∃j l k,ls[j]? =some l/\l[k]? =some x/\i=((ls.take j).map List.length).sum+k
 |[],i,x,h=>by simp at h
 |l::r,i,x,h=>by
  simp only[List.flatten_cons]at h;by_cases hi:i<l.length
  .rw[f2Y hi]at h;exact⟨0,l,i,rfl,h,by simp⟩
  .rw[f2V (by omega)]at h;obtain⟨j,l',k,h1,h2,h3⟩:=b1G r _ x h;exact⟨j+1,l',k,h1,h2,by rw[List.take_succ_cons,List.map_cons,List.sum_cons];omega⟩
section
variable {P:Program} {H:Type} {enc:TypeId×Value->H} {w:World} {sp:Nat->Bool} {held:Bool} {L:List TypeId}
abbrev RW(w:World):Nat->Nat->Prop:=λb _=>b<w.heap.size
theorem b1H{parts:List (DataW H×List MemPlace)}{cs:List Value}{offs:List Nat}{szs:List Nat}(hl:offs.length=parts.length)(hl':szs.length=parts.length)(d9G:∀(j:Nat) (o:Nat),offs[j]? =some o->o=(szs.take j).sum)(pR:cs.length=szs.sum)(h:∀(j:Nat) (y:DataW H×List MemPlace) (o s:Nat),parts[j]? =some y->offs[j]? =some o->szs[j]? =some s->(flat y.1).length=((cs.drop o).take s).length/\∀i d,(flat y.1)[i]? =some d->d.one=true/\V (RW w) w (((cs.drop o).take s).getD i undef) d):
  (uB (parts.map (·.1))).length=cs.length/\(∀(j:Nat) (y:DataW H×List MemPlace) (o s:Nat),parts[j]? =some y->offs[j]? =some o->szs[j]? =some s->((uB (parts.map (·.1))).drop o).take s=flat y.1)/\
   ∀i d,(uB (parts.map (·.1)))[i]? =some d->d.one=true/\V (RW w) w (cs.getD i undef) d:=by
 rw[b1F,List.map_map];have hlen:∀(j:Nat) (y:DataW H×List MemPlace) (o s:Nat),parts[j]? =some y->offs[j]? =some o->szs[j]? =some s->(flat y.1).length=s:=λj y o s h1 h2 h3=>by
  rw[(h j y o s h1 h2 h3).1,List.length_take,List.length_drop];have:=d9G j o h2;have hle:(szs.take j).sum+s<=szs.sum:=by
   have hj:j<szs.length:=(f2O.1 h3).1;have hs:szs[j]=s:=by rw[f2R hj]at h3;exact Option.some.inj h3
   have e:szs.sum=(szs.take j).sum+(szs.drop j).sum:=by rw[<-List.sum_append,List.take_append_drop]
   rw[e,f3a hj,List.sum_cons,hs];omega
  omega
 have e2M:parts.map (List.length∘flat∘(·.1))=szs:=by
  apply List.ext_getElem?;intro j;rw[f2X];by_cases hj:j<parts.length
  .have h1:parts[j]? =some parts[j]:=f2R hj;have h2:offs[j]? =some (offs[j]'(by omega)):=f2R _;have h3:szs[j]? =some (szs[j]'(by omega)):=f2R _;rw[h1,h3];simpa using hlen j _ _ _ h1 h2 h3
  .rw[List.getElem?_eq_none (by omega),List.getElem?_eq_none (by omega)]
   rfl
 have b3U:∀j,(((parts.map (flat∘(·.1))).take j).map List.length).sum=(szs.take j).sum:=λj=>by rw[<-e2M, <- List.map_take, <- List.map_take,List.map_map]
 refine⟨?_,λj y o s h1 h2 h3=>?_,λi d hi=>?_⟩
 .rw[List.length_flatten,List.map_map,e2M,pR]
 .have:=a7m (parts.map (flat∘(·.1))) j (flat y.1) (by rw[f2X,h1];rfl);rw[b3U, <- d9G j o h2,hlen j y o s h1 h2 h3]at this;exact this
 .obtain⟨j,l,k,h1,h2,h3⟩:=b1G _ i d hi;rw[b3U]at h3;rw[f2X]at h1;obtain⟨y,hy,rfl⟩:=f2M.1 h1;have hj:j<parts.length:=(f2O.1 hy).1;have e2:offs[j]? =some (offs[j]'(by omega)):=f2R _;have e3:szs[j]? =some (szs[j]'(by omega)):=f2R _;obtain⟨q1,q2⟩:=h j y _ _ hy e2 e3;obtain⟨q3,q4⟩:=q2 k d h2;refine⟨q3,?_⟩;have hk:k<(flat y.1).length:=(f2O.1 h2).1;rw[hlen j y _ _ hy e2 e3]at hk;have:((cs.drop (offs[j]'(by omega))).take (szs[j]'(by omega))).getD k undef=cs.getD i undef:=by simp only[List.getD,List.getElem?_take,hk,if_true,f3g];rw[h3,d9G j _ e2]
  rwa[this]at q4
theorem a8D(tQ:laidOutB P=true)(hp:a0w P L=true):∀(n:Nat) (t:TypeId) (cs:List Value) (x:DataW H×List MemPlace),L.contains t=true->DataW.trod enc P w 0 sp held n t cs=some x->
  (flat x.1).length=cs.length/\a0v P t (flat x.1)/\∀i d,(flat x.1)[i]? =some d->d.one=true/\V (RW w) w (cs.getD i undef) d:=by
 intro n
 induction n with
 |zero=>intro t cs x _ h;simp[DataW.trod]at h
 |succ n ih=>
  intro t cs x hT h;have mW:=f2Q.1 hp t (by simpa using hT);simp only[f2N,decide_eq_true_eq]at mW;obtain⟨hts,mW⟩:=mW;rw[DataW.trod_step]at h;have one:∀(v:Value) (d:D),d.one=true->V (RW w) w v d->∀i d',([d]:List D)[i]? =some d'->d'.one=true/\V (RW w) w ([v].getD i undef) d':=λv d h1 h2 i d' hi=>by
   cases i with
   |zero=>simp at hi;subst hi;exact⟨h1,h2⟩
   |succ i=>simp at hi
  unfold DataW.trodStep at h;split at h
  case h_1 b hu=>simp at h;subst h;exact⟨rfl,.bool hu,one _ _ rfl (.bool b)⟩
  case h_2 k k' m hu=>
   split at h
   .rename_i hk;obtain⟨rfl,hk⟩:=hk;simp at h;subst h;exact⟨rfl,.int hu hk,one _ _ rfl (.int _ _)⟩
   .cases h
  case h_3 hu=>rw[hu]at mW;cases mW
  case h_4 s hu=>
   split at h
   .rename_i hs;simp at h;subst h;exact⟨rfl,.str hu (by simpa using hs),one _ _ rfl (.str s.data.toList)⟩
   .cases h
  case h_5 hu=>rw[hu]at mW;cases mW
  case h_6 hu=>rw[hu]at mW;cases mW
  case h_7 e hu=>simp at h;subst h;exact⟨rfl,.sl hu (by simp) (by simp),one _ _ rfl (.emp none 0)⟩
  case h_8 e a len cap hu=>
   rw[hu]at mW;simp only[f2N,decide_eq_true_eq]at mW;obtain⟨heL,hU⟩:=mW;simp only at h;split at h
   .rename_i hc;obtain⟨_,hlc,hcm⟩:=hc;simp only[f2M,f3b]at h;obtain⟨elems,he,rest,_,rfl⟩:=h;have hlen:elems.length=len:=by simpa using mapM_some_length he
    have each:∀(i:Nat) (y:DataW H×List MemPlace),elems[i]? =some y->∃sX,w.cells? 0 (a.add (i*P.cellsOf e)) (P.cellsOf e)=some sX/\DataW.trod enc P w 0 sp held n e sX=some y:=λi y hy=>by
     have hi:i<len:=by have:=(f2O.1 hy).1;omega
     obtain⟨v,h1,h2⟩:=rS he i i (by simp[hi]);rw[hy]at h1;cases h1;simpa only[f3b]using h2
    simp only[flat,a9G,List.map_map];refine⟨rfl,.sl hu (by simp[hlen];omega) (λz hz=>?_),?_⟩
    .obtain⟨y,hy,rfl⟩:=List.mem_map.1 hz;obtain⟨i,hi⟩:=List.mem_iff_getElem?.1 hy;obtain⟨sX,h1,h2⟩:=each i y hi;exact(ih e sX y heL h2).2.1
    .refine one _ _ rfl ?_;by_cases h0:len=0
     .subst h0;have:elems=[]:=List.eq_nil_of_length_eq_zero hlen;subst this;exact .emp _ _
     .obtain⟨y0,hy0⟩:∃y,elems[0]? =some y:=⟨elems[0]'(by omega),f2R _⟩;obtain⟨cs0,xZ,_⟩:=each 0 y0 hy0;have h00:=(a3M xZ).2 0 hU;have d7d:a.spot=none:=by simpa[Addr.add]using c5A h00
      obtain⟨b,o,sp0⟩:=a;simp only at d7d;subst d7d;have cell:∀(i j:Nat),i<len->j<P.cellsOf e->∃y sX,elems[i]? =some y/\DataW.trod enc P w 0 sp held n e sX=some y/\sX.length=P.cellsOf e/\w.cell? ⟨b,o+i*P.cellsOf e+j,none⟩=some (sX.getD j undef):=λi j hi hj=>by
       have hy:elems[i]? =some (elems[i]'(by omega)):=f2R _;obtain⟨sX,h1,h2⟩:=each i _ hy;obtain⟨h3,h4⟩:=a3M h1;refine⟨_,sX,hy,h2,h3,?_⟩;have h5:=b9l (h4 j hj);have e1:((⟨b,o,none⟩:Addr).add (i*P.cellsOf e)).block=b:=by unfold Addr.add;split<;>rfl
       have e2:((⟨b,o,none⟩:Addr).add (i*P.cellsOf e)).off=o+i*P.cellsOf e:=by
        unfold Addr.add;split
        .rename_i hz;simp[hz]
        .rfl
       rw[e1,e2]at h5;exact h5
      have kid:∀(i j:Nat) (e':List D) (d:D),(elems.map (flat∘(·.1)))[i]? =some e'->e'[j]? =some d->d.one=true/\V (RW w) w ((w.cell? ⟨b,o+i*P.cellsOf e+j,none⟩).getD undef) d:=λi j e' d h1 h2=>by
       rw[f2X]at h1;obtain⟨y,hy,rfl⟩:=f2M.1 h1;have hi:i<len:=by have:=(f2O.1 hy).1;omega
       obtain⟨sX,e2N,htr⟩:=each i y hy;obtain⟨q1,_,q3⟩:=ih e sX y heL htr;obtain⟨p1,p2⟩:=q3 j d h2;have hj:j<P.cellsOf e:=by have:=(f2O.1 h2).1;have h3:=(a3M e2N).1;simp only[Function.comp]at this;omega
       obtain⟨y',cs2,hy',e9R,hl2,mY⟩:=cell i j hi hj;rw[hy]at hy';cases hy';obtain⟨h3,h4⟩:=a3M e2N;have h5:=b9l (h4 j hj);have e1:((⟨b,o,none⟩:Addr).add (i*P.cellsOf e)).block=b:=by unfold Addr.add;split<;>rfl
       have e2:((⟨b,o,none⟩:Addr).add (i*P.cellsOf e)).off=o+i*P.cellsOf e:=by
        unfold Addr.add;split
        .rename_i hz;simp[hz]
        .rfl
       rw[e1,e2]at h5;rw[h5];exact⟨p1,p2⟩
      refine .sl b o len cap (P.cellsOf e) _ (λi j=>(w.cell? ⟨b,o+i*P.cellsOf e+j,none⟩).getD undef) (by simp[hlen]) hlc hU (λx hx=>?_) (λi j hi hj=>?_) (λi j e' d h1 h2=>(kid i j e' d h1 h2).1) (λi j e' d h1 h2=>(kid i j e' d h1 h2).2)
      .obtain⟨y,hy,rfl⟩:=List.mem_map.1 hx;obtain⟨i,hi⟩:=List.mem_iff_getElem?.1 hy;obtain⟨sX,h1,h2⟩:=each i y hi;simp only[Function.comp];rw[(ih e sX y heL h2).1,(a3M h1).1]
      .obtain⟨_,_,_,_,_,mY⟩:=cell i j hi hj;rw[mY];exact⟨c3K mY,rfl⟩
   .cases h
  case h_9 cs _ _ fs hu=>
   rw[hu]at mW;simp only at mW;split at h
   .rename_i hc;obtain⟨hk1,xF,hk3⟩:=kid_struct tQ hts hu;simp only[f2M]at h;obtain⟨xs,hx,rfl⟩:=h;have hlen:xs.length=fs.toList.length:=mapM_some_length hx;obtain⟨q1,q2,q3⟩:=b1H (w:=w) (parts:=xs) (cs:=cs) (offs:=fs.toList.map (·.offset)) (szs:=fs.toList.map λf=>P.cellsOf f.type) (by simp[hlen]) (by simp[hlen])
     (λj o ho=>by rw[f2X]at ho;obtain⟨f,hf,rfl⟩:=f2M.1 ho;rw[hk3 j f hf,List.map_take]) (by rw[hc,xF])
     (λj y o s h1 h2 h3=>by rw[f2X]at h2 h3;obtain⟨f,hf,rfl⟩:=f2M.1 h2;rw[hf]at h3;simp only[Option.map_some,f2T]at h3;subst h3;obtain⟨v,p1,p2⟩:=rS hx j f hf;rw[h1]at p1;cases p1;have:=ih f.type _ _ (f2Q.1 mW f (f2S hf)) p2;exact⟨this.1,this.2.2⟩)
    simp only[flat];refine⟨q1,.struct hu (by rw[q1,hc]) (λf hf=>?_),q3⟩;obtain⟨j,hj⟩:=List.mem_iff_getElem?.1 hf;obtain⟨v,p1,p2⟩:=rS hx j f hj;rw[q2 j v f.offset (P.cellsOf f.type) p1 (by rw[f2X,hj];rfl) (by rw[f2X,hj];rfl)];exact(ih f.type _ _ (f2Q.1 mW f hf) p2).2.1
   .cases h
  case h_10 cs _ _ m e hu=>
   rw[hu]at mW;simp only at mW;split at h
   .rename_i hc;obtain⟨_,xF⟩:=kid_array tQ hts hu;simp only[f2M]at h;obtain⟨xs,hx,rfl⟩:=h;have hlen:xs.length=m:=by simpa using mapM_some_length hx
    have at':∀(j:Nat) (y:DataW H×List MemPlace),xs[j]? =some y->DataW.trod enc P w 0 sp held n e ((cs.drop (j*P.cellsOf e)).take (P.cellsOf e))=some y:=λj y hy=>by
     have hj:j<m:=by have:=(f2O.1 hy).1;omega
     obtain⟨v,p1,p2⟩:=rS hx j j (by simp[hj]);rw[hy]at p1;cases p1;exact p2
    have d4j:∀j,j<=m->(((List.replicate m (P.cellsOf e)).take j).sum)=j*P.cellsOf e:=λj hj=>by rw[List.take_replicate,Nat.min_eq_left hj,List.sum_replicate_nat]
    obtain⟨q1,q2,q3⟩:=b1H (w:=w) (parts:=xs) (cs:=cs) (offs:=(List.range m).map λi=>i*P.cellsOf e) (szs:=List.replicate m (P.cellsOf e)) (by simp[hlen]) (by simp[hlen])
     (λj o ho=>by
      rw[f2X]at ho;obtain⟨i,hi,rfl⟩:=f2M.1 ho;have hjm:j<m:=by have:=(f2O.1 hi).1;simpa using this
      have:i=j:=by rw[List.getElem?_range hjm]at hi;simpa using hi.symm
      rw[this,d4j j (by omega)]) (by rw[hc,xF,List.sum_replicate_nat])
     (λj y o s h1 h2 h3=>by
      have hjm:j<m:=by have:=(f2O.1 h1).1;omega
      have ho:o=j*P.cellsOf e:=by rw[f2X,List.getElem?_range hjm]at h2;simpa using h2.symm
      have hs:s=P.cellsOf e:=by rw[List.getElem?_replicate,if_pos hjm]at h3;simpa using h3.symm
      subst ho hs;have:=ih e _ _ mW (at' j y h1);exact⟨this.1,this.2.2⟩)
    simp only[flat];refine⟨q1,.array hu (by rw[q1,hc]) (λi hi=>?_),q3⟩;have hy:xs[i]? =some (xs[i]'(by omega)):=f2R _;rw[q2 i _ (i*P.cellsOf e) (P.cellsOf e) hy (by rw[f2X,List.getElem?_range hi];rfl) (by rw[List.getElem?_replicate,if_pos hi])];exact(ih e _ _ mW (at' i _ hy)).2.1
   .cases h
  all_goals first|(rename_i hu;rw[hu]at mW;cases mW;done)|(cases h;done)
theorem c8x{t:TypeId}{ds:List D}(hu:P.underlying t=some .string)(h:a0v P t ds):∃s,ds=[.str s]/\s.length<=maxLen:=by
 cases h with
 |str _ h=>exact⟨_,rfl,h⟩
 |_ h1=>rw[hu]at h1;cases h1
def a5u(P:Program)(t:TypeId)(d:D):Prop:=
 match P.underlying t with
 |some u=>if mS u then ∃cs,d=.agg cs/\a0v P t cs else a0v P t [d]
 |none=>False
def a7n(P:Program):List TypeId->List D->Prop
 |[],[]=>True
 |t::ts,d::ds=>a5u P t d/\a7n P ts ds
 |_,_=>False
theorem c5B{t:TypeId}{u:TypeDesc}{d:D}(hu:P.underlying t=some u)(ha:mS u=false)(h:a5u P t d):a0v P t [d]:=by unfold a5u at h;rw[hu]at h;simp only[ha]at h;exact h
theorem c5C{t:TypeId}{d:D}(hu:P.underlying t=some .string)(h:a5u P t d):∃s,d=.str s/\s.length<=maxLen:=by obtain⟨s,h1,h2⟩:=c8x hu (c5B hu rfl h);cases h1;exact⟨s,rfl,h2⟩
theorem b1I{r:Reach}{b0:Nat}{t:TypeId}{v:Value}{u:TypeDesc}(hu:P.underlying t=some u)(ha:mS u=false)(hp:(match P.underlying t with|some .bool|some (.int _)|some .string|some (.slice _)=>true|_=>false)=true)(a0f:Value.okWide P w r b0 t v):v.cells=#[v]:=by
 unfold Value.okWide at a0f;rw[hu]at a0f hp;cases u<;>simp only[mS]at ha<;>(try cases ha)<;>simp only[]at hp<;>(try cases hp)
 all_goals
  simp only[Cell.okWide,hu]at a0f;cases v<;>first|rfl|(simp[Cell.ok,hu]at a0f)
theorem c8y{r:Reach}{b0:Nat}(tQ:laidOutB P=true)(hp:a0w P L=true){t:TypeId}{v:Value}{d:DataW H}{ps:List MemPlace}(hT:L.contains t=true)(a0f:Value.okWide P w r b0 t v)(h:DataW.Trod enc P w 0 sp held t v d ps):
  ∃x,a5u P t x/\V (RW w) w v x:=by
 obtain⟨n,hn⟩:=h;obtain⟨h1,h2,h3⟩:=a8D tQ hp n t _ _ hT hn;have mW:=f2Q.1 hp t (by simpa using hT);simp only[f2N,decide_eq_true_eq]at mW;obtain⟨_,mW⟩:=mW;cases hu:P.underlying t with
 |none=>rw[hu]at mW;cases mW
 |some u=>
  cases ha:mS u with
  |true=>
   have hv:∃cs:Array Value,v=.agg cs:=by
    unfold Value.okWide at a0f;rw[hu]at a0f;cases u<;>simp only[mS]at ha<;>(try cases ha)
    .obtain⟨cs,hv,_⟩:=a0f;exact⟨cs,hv⟩
    .obtain⟨cs,hv,_⟩:=a0f;exact⟨cs,hv⟩
   obtain⟨cs,rfl⟩:=hv;refine⟨.agg (flat d),by simp only[a5u,hu,ha,if_true];exact⟨_,rfl,h2⟩,.agg _ _ (by simpa[Value.cells]using h1.symm) (λi x hx=>(h3 i x hx).1) (λi x hx=>?_)⟩;have:=(h3 i x hx).2;simpa[Value.cells,List.getD,f2P]using this
  |false=>
   have hc:v.cells=#[v]:=by refine b1I hu ha ?_ a0f;rw[hu]at mW|-;cases u<;>simp only[mS]at ha<;>(try cases ha)<;>first|rfl|(simp at mW)
   rw[hc]at h1 h3;simp at h1;obtain⟨x,hx⟩:∃x,flat d=[x]:=List.length_eq_one_iff.1 h1;simp only[hx]at h2 h3;refine⟨x,by simp only[a5u,hu,ha];exact h2,?_⟩;simpa using (h3 0 x rfl).2
theorem a1A{r:Reach}{b0:Nat}(tQ:laidOutB P=true)(hp:a0w P L=true):∀ {ts:List TypeId} {vs:List Value} {ds:List (DataW H)} {ps:List MemPlace},(∀t∈ts,L.contains t=true)->(∀(j:Nat) t v,ts[j]? =some t->vs[j]? =some v->Value.okWide P w r b0 t v)->
  DataW.TrodAll enc P w 0 sp held ts vs ds ps->∃xs,a7n P ts xs/\vs.length=xs.length/\∀(i:Nat) (d:D),xs[i]? =some d->V (RW w) w (vs.getD i undef) d
 |[],_,_,_,_,_,h=>by obtain⟨rfl,rfl,rfl⟩:=trodAll_nil h;exact⟨[],trivial,rfl,by simp⟩
 |t::ts,_,_,_,hT,hv,h=>by
  obtain⟨v,vs1,d,ds1,a,b,rfl,rfl,rfl,h1,h2⟩:=trodAll_cons h;obtain⟨x,q1,q2⟩:=c8y tQ hp (hT t (.head _)) (hv 0 t v rfl rfl) h1;obtain⟨xs,q3,q4,q5⟩:=a1A tQ hp (λt ht=>hT t (.tail _ ht)) (λj t v a b=>hv (j+1) t v a b) h2;refine⟨x::xs,⟨q1,q3⟩,by simp[q4],λi d hi=>?_⟩;cases i with
  |zero=>simp at hi;subst hi;simpa using q2
  |succ i=>simp at hi;simpa using q5 i d hi
theorem a5v{w':World}{base:Nat}:∀ {ts:List TypeId} {vs:List Value} {ds:List (DataW H)} {ps:List MemPlace},DataW.TrodAll enc P w base sp held ts vs ds ps->(∀p∈ps,w.sameAt w' p)->DataW.TrodAll enc P w' base sp held ts vs ds ps
 |[],[],[],_,h,_=>h
 |_::_,_::_,_::_,_,⟨p,q,⟨n,hn⟩,h2,e⟩,hs=>⟨p,q,⟨n,DataW.trod_carry n _ _ _ hn λx hx=>hs x (by rw[e];exact List.mem_append_left _ hx)⟩,a5v h2 λx hx=>hs x (by rw[e];exact List.mem_append_right _ hx),e⟩
theorem a9H{base:Nat}:∀ {ts:List TypeId} {vs:List Value} {ds:List (DataW H)} {ps:List MemPlace},DataW.TrodAll enc P w base sp held ts vs ds ps->ds.length=ts.length
 |[],[],[],_,_=>rfl
 |_::_,_::_,_::_,_,⟨_,_,_,h,_⟩=>by simp[a9H h]
theorem c5D{f:Func}{s:ChangeSpec}{apart fresh handsOn again:Bool}{W W':World}{args:Array Value}{v:Value}{ds gs:List (DataW H)}{before:List MemPlace}(hW:DataW.Whole enc P f.params.toList s.vars apart W args.toList ds gs before)(mM:Below W.heap.size W W')(kC:∀(b:Nat) (sp:Nat->Bool) (hd:Bool),DataW.TrodAll enc P W' b sp hd f.resultTypes.toList (v.resultList f.resultTypes.size) (s.fn H (ds++gs)).results [])(kR:∀sp:Nat->Bool,(∀p∈before,sp p.block=true)->DataW.TrodAll enc P W' 0 sp true f.params.toList args.toList (s.fn H (ds++gs)).args before)(b9m:∀sp:Nat->Bool,(∀p∈before,sp p.block=true)->DataW.TrodVars enc P W' sp s.vars (s.fn H (ds++gs)).vars [])(rK:∀(j:Nat) (t:TypeId) (r:Value),f.resultTypes[j]? =some t->(v.resultList f.resultTypes.size)[j]? =some r->Value.okWide P W' .any 0 t r):
  s.post enc P f apart fresh handsOn again W args v W':=by
 have aI:=hW.lt;have hold:∀p∈before,(λb=>decide (b<W.heap.size)) p.block=true:=λp hp=>by simpa using aI p hp
 refine⟨ds,gs,before,[],before,[],hW,kC _ _ _,kR _ hold,b9m _ hold,World.keptBut_mono (λp hp=>⟨hp,?_⟩) (mM.frame (· ∈before)),λ_=>?_⟩
 .exact Or.inr (by simpa using hp)
 .obtain⟨_,_,_,_,_,hz,hn⟩:=hW;refine⟨rK,_,_,([]++before)++[],⟨[]++before,[],trodAll_append (kR _ (λ_ _=>rfl)) (kC _ _ _),b9m _ (λ_ _=>rfl),rfl,?_,?_⟩,?_⟩
  .intro b off hp;have hp':MemPlace.cell b off∈before:=by simpa using hp
   rw[mM.frozen (aI _ hp')];exact hz b off hp'
  .intro ha;simpa using hn ha
  .intro p hp _;simpa using hp
theorem a7o{W:World}:∀ {laid:List (String×DataW Unit)} {ps:List MemPlace},DataW.LaidVars P W laid ps->∀(n:String) (d:DataW Unit),(n,d)∈laid->
  ∃g t cs fuel p,P.globalNamed n=some g/\(P.globals[g]?).map (·.type)=some t/\W.var? P n=some cs/\DataW.trod (λ_=>()) P W 0 (λ_=>true) false fuel t cs.toList=some (d,p)
 |[],_,_,n,d,hm=>by cases hm
 |(n',d')::r,_,⟨g,t,cs,fuel,p,q,h1,h2,h3,h4,h5,_⟩,n,d,hm=>by
  rcases List.mem_cons.1 hm with he|hm
  .cases he;exact⟨g,t,cs,fuel,p,h1,h2,h3,h4⟩
  .exact a7o h5 n d hm
theorem laidMetH_plain{laid:List (String×DataW Unit)}{W:World}(hh:(laid.filter λx=>x.2.handleName?.isSome).isEmpty=true)(h:laidMetH P laid W):laidMet P laid W:=by unfold laidMetH at h;rw[List.isEmpty_iff.1 hh]at h;exact h
theorem b9n{laid:List (String×DataW Unit)}{W:World}(hh:(laid.filter λx=>x.2.handleName?.isSome).isEmpty=true)(h:laidMet P laid W):laidMetH P laid W:=by unfold laidMetH;rw[List.isEmpty_iff.1 hh];exact h
theorem b9o{laid:List (String×DataW Unit)}{W:World}(tQ:laidOutB P=true)(hp:a0w P L=true)(hh:(laid.filter λx=>x.2.handleName?.isSome).isEmpty=true)(h:laidMetH P laid W){n:String}{d:DataW Unit}{g:Nat}{t:TypeId}(hm:(n,d)∈laid)(hg:P.globalNamed n=some g)(ht:(P.globals[g]?).map (·.type)=some t)(hL:L.contains t=true):
  Run (RW W) W g 0 (flat d)/\g<W.heap.size/\∃arr T fr,W.heap[g]? =some (.cells arr T fr)/\arr.size=(flat d).length:=by
 obtain⟨ps,hl,_⟩:=laidMetH_plain hh h;obtain⟨g',t',cs,fuel,p,h1,h2,h3,h4⟩:=a7o hl n d hm;rw[hg]at h1;cases h1;rw[ht]at h2;cases h2;obtain⟨q1,_,q3⟩:=a8D tQ hp fuel t _ _ hL h4;simp only[Array.length_toList]at q1;have e6z:∃T fr,W.heap[g]? =some (.cells cs T fr):=by
  unfold World.var? at h3;rw[hg]at h3;simp only[Option.bind_some]at h3;split at h3
  .rename_i T fr hb;cases h3;exact⟨T,fr,hb⟩
  .cases h3
 obtain⟨T,fr,hb⟩:=e6z;refine⟨λj x hj=>?_,(f2W.1 hb).1,cs,T,fr,hb,q1.symm⟩;obtain⟨p1,p2⟩:=q3 j x hj;have xU:j<cs.size:=by have:=(f2O.1 hj).1;rw[q1]at this;exact this
 have mY:W.cell? ⟨g,0+j,none⟩=some (cs[j]'xU):=by unfold World.cell?;simp only[hb];simp[xU]
 refine⟨p1,c3K mY,_,mY,?_⟩;have:cs.toList.getD j undef=cs[j]:=by simp[List.getD,xU]
 rwa[this]at p2
end
end Go.VM
end
