/- Lemmas. No condition. -/
import Derived.Test.YtmfbjecjccipfaaGreatDoorOwb
import Derived.ReadAgain
import Derived.ChangeSame
import Derived.OpenShut
import Derived.RowKit3
import Derived.KernelRfl
import Derived.Test.YtmfbjecjccipfaaGreatDoorProg
set_option linter.unusedVariables false
set_option linter.unusedSimpArgs false
set_option linter.unusedSectionVars false
set_option maxRecDepth 100000
set_option maxHeartbeats 64000000
open Go.Proofs.Tryz
section
namespace Go.VM
open Go Go.RowKit
def WkT:List DV->List DV->Prop
 |[],[]=>True
 |d::ds,d'::ds'=>(d'=.undef\/d'=d\/(d=.d .aE/\d'=.d (.sl [])))/\WkT ds ds'
 |_,_=>False
def WkO:bG->bG->Prop
 |.cells cs,.cells xU=>WkT cs xU
 |o,o'=>o'=o
def WkH(H:List (Nat×bG)):List (Nat×bG)->Prop
 |[]=>True
 |(k,o')::r=>(∃o,getKey k H=some o/\WkO o o')/\WkH H r
def isNil(s:St):Loc->Bool
 |.t i=>match s.tmps[i]? with
  |some (.d .aE)=>true
  |_=>false
 |.c k off=>match getKey k s.H with
  |some (.cells cs)=>(match cs[off]? with
   |some (.d .aE)=>true
   |_=>false)
  |some (.bld _ u _)=> !u&&off==1
  |_=>false
def a1X(c:TypeId×List Loc):List (TypeId×List Loc)->Option (List (TypeId×List Loc))
 |[]=>none
 |c0::r=>if c0.1=c.1/\(c.2.all λl=>c0.2.contains l)=true then some r else(a1X c r).map (c0:: ·)
def b7b(s:St)(c:TypeId×List Loc):Bool:=
 match c.2 with
 |[]=>true
 |[l]=>isNil s l
 |_=>false
def b1O(s:St):List (TypeId×List Loc)->List (TypeId×List Loc)->Bool
 |_,[]=>true
 |own,c::r=>if b7b s c then b1O s own r else match a1X c own with
  |some own1=>b1O s own1 r
  |none=>false
def bK(H:List (Nat×bG))(own:List (TypeId×List Loc)):Bool:=own.all λc=>c.2.all λl=>match l with
 |.c k _=>(getKey k H).isSome
 |_=>true
structure yY (s s':St):Prop where
 tmps:WkT s.tmps s'.tmps
 H:WkH s.H s'.H
 own:b1O s s.own s'.own=true
 keys:bK s'.H s'.own=true
section
variable {P:Program} {G:GT} {st st':St}
variable {base:dU} {R:Nat->Nat->Prop} {μ:Nat->Nat} {a:Act} {w:World}
theorem a1f:∀{l l':List DV},WkT l l'->l'.length=l.length/\∀(i:Nat)(d':DV),l'[i]? =some d'->∃d,l[i]? =some d/\(d'=.undef\/d'=d\/(d=.d .aE/\d'=.d (.sl [])))
 |[],[],_=>by simp
 |[],_::_,h=>by simp[WkT]at h
 |_::_,[],h=>by simp[WkT]at h
 |d::l,d'::l',h=>by
  obtain⟨h1,h2⟩:=h;obtain⟨q1,q2⟩:=a1f h2;refine⟨by simp[q1],λi x hx=>?_⟩;cases i with
  |zero=>simp at hx;subst hx;exact⟨d,rfl,h1⟩
  |succ i=>simp at hx;simpa using q2 i x hx
theorem c6c{H:List (Nat×bG)}:∀{H':List (Nat×bG)},WkH H H'->∀(k:Nat)(o':bG),getKey k H'=some o'->∃o,getKey k H=some o/\WkO o o'
 |[],_,k,o',h=>by simp[getKey]at h
 |(k1,o1)::r,hw,k,o',h=>by
  obtain⟨⟨o,h1,h2⟩,h3⟩:=hw;unfold getKey at h;split at h
  .rename_i he;simp at h;subst he h;exact⟨o,h1,h2⟩
  .exact c6c h3 k o' h
theorem b6t{b:Nat}{o o':bG}(h:WkO o o')(hr:oC R μ w b o):oC R μ w b o':=by
 cases o with
 |cells cs=>
  cases o' with
  |cells xU=>
   obtain⟨q1,q2⟩:=a1f h;obtain⟨vs,T,h1,h2,h3,h4⟩:=hr;refine⟨vs,T,h1,by rw[h2,q1],λi d' hd'=>?_,λT' hm=>?_⟩
   .obtain⟨d,hd,hc⟩:=q2 i d' hd';obtain⟨p1,p2⟩:=h3 i d hd;rcases hc with rfl|rfl|⟨rfl,rfl⟩
    .exact⟨rfl,.undef _⟩
    .exact⟨p1,p2⟩
    .obtain⟨ao,he⟩:=p2.b1B.mW;rw[he];exact⟨rfl,.d _ _ (.emp _ _)⟩
   .obtain⟨i,hi⟩:=g3H hm;obtain⟨d,hd,hc⟩:=q2 i _ hi;rcases hc with hc|rfl|⟨_,hc⟩
    .cases hc
    .exact h4 T' (g3v hd)
    .cases hc
  |map es=>cases h
  |iter s p=>cases h
  |bld T u es=>cases h
 |map es=>cases o'<;>cases h;exact hr
 |iter s p=>cases o'<;>cases h;exact hr
 |bld T u es=>cases o'<;>cases h;exact hr
theorem a5D{c:TypeId×List Loc}:∀{own own1:List (TypeId×List Loc)},a1X c own=some own1->∃pre c0 post,own=pre++c0::post/\own1=pre++post/\c0.1=c.1/\∀l∈c.2,l∈c0.2
 |[],own1,h=>by simp[a1X]at h
 |c0::r,own1,h=>by
  simp only[a1X]at h;split at h
  .rename_i hc;simp at h;exact⟨[],c0,r,rfl,h.symm,hc.1,λl hl=>by have:=g3t.1 hc.2 l hl;simpa using this⟩
  .simp only[g3p]at h;obtain⟨r',hr,rfl⟩:=h;obtain⟨pre,c',post,h1,h2,h3,h4⟩:=a5D hr;exact⟨c0::pre,c',post,by simp[h1],by simp[h2],h3,h4⟩
structure c9T (P:Program) (base:dU) (R:Nat->Nat->Prop) (μ:Nat->Nat) (st:St) (a:Act) (w:World) (own:List (TypeId×List Loc)) (vs:List Value):Prop where
 len:vs.length=own.length
 one:∀(i:Nat)(c:TypeId×List Loc)(v:Value),own[i]? =some c->vs[i]? =some v->a5v P base R μ st a w c v
 apart:vs.Pairwise a6r
variable{v:Value}
theorem a6r.symm{v':Value}(h:a6r v v'):a6r v' v:=λg hg hg'=>h g hg' hg
theorem c9T.take{own own1:List (TypeId×List Loc)}{vs:List Value}{c:TypeId×List Loc}(h:c9T P base R μ st a w own vs)(ht:a1X c own=some own1):
  ∃v vs1,a5v P base R μ st a w c v/\c9T P base R μ st a w own1 vs1/\(∀x∈vs1,x∈vs)/\v∈vs/\∀x∈vs1,a6r v x:=by
 obtain⟨pre,c0,post,rfl,rfl,h3,h4⟩:=a5D ht;have hpl:pre.length<vs.length:=by rw[h.len];simp
 have c9H:vs=vs.take pre.length++vs[pre.length]::vs.drop (pre.length+1):=by rw[<-g3D hpl,g4d]
 have hc:=h.one pre.length c0 vs[pre.length] (by simp) (g3u hpl);have hap:=h.apart;rw[c9H,List.pairwise_append,List.pairwise_cons]at hap;refine⟨vs[pre.length],vs.take pre.length++vs.drop (pre.length+1),⟨λl hl=>hc.eU l (h4 l hl),by rw[<-h3];exact hc.own,hc.keys⟩,⟨?_,λi c' v hc' hv=>?_,?_⟩,λx hx=>?_,g3P hpl,λx hx=>?_⟩
 .have:=h.len;simp at this|-;omega
 .by_cases hi:i<pre.length
  .refine h.one i c' v ?_ ?_
   .rw[g3B hi];simpa[g3B hi]using hc'
   .rw[g3B (by simp;omega),g3W]at hv;rw[if_pos hi]at hv;exact hv
  .refine h.one (i+1) c' v ?_ ?_
   .rw[g3y (by omega),show i+1-pre.length=(i-pre.length)+1 by omega,List.getElem?_cons_succ];simpa[g3y (g3Z hi)]using hc'
   .have a5x:min pre.length vs.length=pre.length:=by omega
    rw[g3y (by simp;omega),g3J]at hv;simp only[g4c,a5x]at hv
    rwa[show pre.length+1+(i-pre.length)=i+1 by omega]at hv
 .rw[List.pairwise_append];exact⟨hap.1,hap.2.1.2,λx hx y hy=>hap.2.2 x hx y (.tail _ hy)⟩
 .simp only[g3Q]at hx;rcases hx with hx|hx
  .exact g4r hx
  .exact List.mem_of_mem_drop hx
 .simp only[g3Q]at hx;rcases hx with hx|hx
  .exact(hap.2.2 x hx vs[pre.length] (.head _)).symm
  .exact hap.2.1.1 x hx
theorem c1y(hr:Rel P G base R μ st a w){l:Loc}(h:isNil st l=true){u:Value}(hu:cY a w μ l=some u):∃ao,u=.slice ao 0 0:=by
 cases l with
 |t i=>
  simp only[isNil]at h;split at h
  .rename_i hd;exact(hr.tmps i u _ hu hd).b1B.mW
  .cases h
 |c k off=>
  simp only[isNil]at h;split at h
  .rename_i cs hk;split at h
   .rename_i hd;obtain⟨_,_,hob⟩:=hr.mL k _ hk;obtain⟨_,v,h1,h2⟩:=b3x.c2W hob off (.d .aE) hd;simp only[cY]at hu;rw[Nat.zero_add,hu]at h1;cases h1;exact h2.b1B.mW
   .cases h
  .rename_i T u es hk;simp only[g3q,g3M,beq_iff_eq]at h;obtain⟨rfl,rfl⟩:=h;obtain⟨_,_,v0,v1,T',q1,q2,_⟩:=hr.mL k _ hk;simp only[cY]at hu;rw[cell_of_row w _ _ _ T' (0,0) q1]at hu;have:=(q2 rfl).2;subst this;simp at hu;exact⟨none,hu.symm⟩
  .cases h
theorem a7t(hr:Rel P G base R μ st a w):∀(gM own:List (TypeId×List Loc))(vs:List Value),c9T P base R μ st a w own vs->b1O st own gM=true->
  ∃vs',c9T P base R μ st a w gM vs'/\∀v∈vs',bR v=none\/v∈vs
 |[],own,vs,_,_=>⟨[],⟨rfl,by simp,.nil⟩,by simp⟩
 |c::r,own,vs,h,hw=>by
  unfold b1O at hw;split at hw
  .rename_i hn;obtain⟨vs',h1,h2⟩:=a7t hr r own vs h hw;have hex:∃v,a5v P base R μ st a w c v/\bR v=none:=by
    by_cases hx:∃l∈c.2,∃u,cY a w μ l=some u
    .obtain⟨l,hl,u,hu⟩:=hx;unfold b7b at hn;split at hn
     .rename_i he;rw[he]at hl;cases hl
     .rename_i l' he;rw[he]at hl;simp at hl;subst hl;obtain⟨ao,rfl⟩:=c1y hr hn hu;have hs:bR (.slice ao 0 0)=none:=by cases ao<;>rfl
      exact⟨.slice ao 0 0,⟨λl2 hl2 u2 hu2=>by rw[he]at hl2;simp at hl2;subst hl2;rw[hu]at hu2;exact(Option.some.inj hu2).symm,.inl ⟨ao,rfl⟩,λk o _=>by rw[hs];simp⟩,hs⟩
     .cases hn
    .exact⟨.slice none 0 0,⟨λl hl u hu=>absurd ⟨l,hl,u,hu⟩ hx,.inl ⟨none,rfl⟩,λk o _=>by simp[bR]⟩,rfl⟩
   obtain⟨v,hv1,hv2⟩:=hex;refine⟨v::vs',⟨by simp[h1.len],λi c' u hc hu=>?_,List.pairwise_cons.2 ⟨λx _ g hg=>(by rw[hv2]at hg;cases hg),h1.apart⟩⟩,λx hx=>?_⟩
   .cases i with
    |zero=>simp at hc hu;subst hc hu;exact hv1
    |succ i=>simp at hc hu;exact h1.one i c' u hc hu
   .simp at hx;rcases hx with rfl|hx
    .exact .inl hv2
    .exact h2 x hx
  .split at hw
   .rename_i own1 ht;obtain⟨v,vs1,q1,q2,q3,q4,q5⟩:=h.take ht;obtain⟨vs',h1,h2⟩:=a7t hr r own1 vs1 q2 hw;refine⟨v::vs',⟨by simp[h1.len],λi c' u hc hu=>?_,List.pairwise_cons.2 ⟨λx hx=>?_,h1.apart⟩⟩,λx hx=>?_⟩
    .cases i with
     |zero=>simp at hc hu;subst hc hu;exact q1
     |succ i=>simp at hc hu;exact h1.one i c' u hc hu
    .rcases h2 x hx with hs|hx'
     .exact λg _ hg'=>by rw[hs]at hg';cases hg'
     .exact q5 x hx'
    .simp at hx;rcases hx with rfl|hx
     .exact .inr q4
     .rcases h2 x hx with hs|hx'
      .exact .inl hs
      .exact .inr (q3 x hx')
   .cases hw
theorem Rel.a4n(hr:Rel P G base R μ st a w)(h:yY st st'):Rel P G base R μ st' a w:=by
 obtain⟨h1,h2⟩:=a1f h.tmps;have h3:=c6c h.H;refine⟨hr.defers,by rw[hr.size,h1],λi v d' hv hd'=>?_,λk o' hk=>?_,λk k' o o' hk hk' he=>?_,λc hc k off hl=>?_,?_,hr.wY,hr.sB,hr.base,hr.pass⟩
 .obtain⟨d,hd,hc⟩:=h2 i d' hd';have:=hr.tmps i v d hv hd;rcases hc with rfl|rfl|⟨rfl,rfl⟩
  .exact .undef _
  .exact this
  .obtain⟨ao,rfl⟩:=this.b1B.mW;exact .d _ _ (.emp _ _)
 .obtain⟨o,ho,hw⟩:=h3 k o' hk;obtain⟨q1,q2,q3⟩:=hr.mL k o ho;exact⟨q1,q2,b6t hw q3⟩
 .obtain⟨o1,ho1,_⟩:=h3 k o hk;obtain⟨o2,ho2,_⟩:=h3 k' o' hk';exact hr.inj k k' o1 o2 ho1 ho2 he
 .have:=g3t.1 h.keys c hc;have:=g3t.1 this _ hl;exact g3S.1 this
 .obtain⟨vs,tA⟩:=hr.own;obtain⟨vs',hv',_⟩:=a7t hr st'.own st.own vs ⟨tA.len,tA.one,tA.apart⟩ h.own;refine⟨vs',hv'.len,λi c v hc hv=>?_,hv'.apart⟩;have ho:=hv'.one i c v hc hv;exact⟨ho.eU,ho.own,λk o hk=>by obtain⟨o1,ho1,_⟩:=h3 k o hk;exact ho.keys k o1 ho1⟩
theorem SW.a4n{c:Code}{Q:Exit->St->Prop}(h:yY st st')(hw:SW P G c st' Q):SW P G c st Q:=λbase R μ a w hr=>hw base R μ a w (hr.a4n h)
theorem SW.loop{ι:Type}{c:Code}{Q:Exit->St->Prop}(I:ι->St)(m:ι->Nat)(x0:ι)(h0:yY st (I x0))(round:∀x,VW P G c (I x) λe s=>match e with
   |.normal=>∃y,yY s (I y)/\m y<m x
   |e=>Q e s):SW P G (.loop c) st Q:=by
 intro base R μ a w hr;refine wp_loop_ghost (λn a1 w1=>∃x R1 μ1,m x=n/\Rel P G base R1 μ1 (I x) a1 w1/\Step base R w R1 w1) (m x0) ⟨x0,R,μ,rfl,hr.a4n h0,.refl _ _ _⟩ ?_;rintro n a1 w1 ⟨x,R1,μ1,rfl,hr1,hs1⟩;refine wp_mono (a6z c (I x) _ (round x) base R1 μ1 a1 w1 hr1) λe a2 w2 ⟨s,R2,μ2,q,hr2,hs2⟩=>?_;cases e with
 |normal=>obtain⟨y,hy,aG⟩:=q;exact⟨m y,aG,y,R2,μ2,rfl,hr2.a4n hy,hs1.trans hs2⟩
 |_=>exact⟨s,R2,μ2,q,hr2,hs1.trans hs2⟩
inductive WkD:D->D->Prop
 |refl (d:D):WkD d d
 |aE:WkD .aE (.sl [])
 |agg (cs xU:List D):cs.length=xU.length->(∀(i:Nat)(d d':D),cs[i]? =some d->xU[i]? =some d'->WkD d d')->WkD (.agg cs) (.agg xU)
 |sl (es es':List (List D)):es.length=es'.length->(∀(i:Nat)(e e':List D),es[i]? =some e->es'[i]? =some e'->e.length=e'.length)->
   (∀(i j:Nat)(e e':List D)(d d':D),es[i]? =some e->es'[i]? =some e'->e[j]? =some d->e'[j]? =some d'->WkD d d')->WkD (.sl es) (.sl es')
def WkL(l l':List D):Prop:=l.length=l'.length/\∀(i:Nat)(d d':D),l[i]? =some d->l'[i]? =some d'->WkD d d'
def b7d(l l':List (List D)):Prop:=l.length=l'.length/\∀(i:Nat)(d d':List D),l[i]? =some d->l'[i]? =some d'->WkL d d'
theorem d6G(a b:D)(l l':List D):WkL (a::l) (b::l')=(WkD a b/\WkL l l'):=by
 apply propext;constructor
 .rintro⟨h1,h2⟩;exact⟨h2 0 a b rfl rfl,by simpa using h1,λi d d' q q'=>h2 (i+1) d d' q q'⟩
 .rintro⟨h0,h1,h2⟩;refine⟨by simp[h1],λi d d' q q'=>?_⟩;cases i with
  |zero=>simp at q q';subst q q';exact h0
  |succ i=>exact h2 i d d' q q'
theorem d3F(a b:List D)(l l':List (List D)):b7d (a::l) (b::l')=(WkL a b/\b7d l l'):=by
 apply propext;constructor
 .rintro⟨h1,h2⟩;exact⟨h2 0 a b rfl rfl,by simpa using h1,λi d d' q q'=>h2 (i+1) d d' q q'⟩
 .rintro⟨h0,h1,h2⟩;refine⟨by simp[h1],λi d d' q q'=>?_⟩;cases i with
  |zero=>simp at q q';subst q q';exact h0
  |succ i=>exact h2 i d d' q q'
theorem b7e(l:List D):WkL l l=True:=by simp only[WkL,eq_iff_iff,iff_true];exact⟨trivial,λi d d' h h'=>by rw[h]at h';cases h';exact .refl _⟩
theorem c1z(l:List (List D)):b7d l l=True:=by simp only[b7d,eq_iff_iff,iff_true];exact⟨trivial,λi d d' h h'=>by rw[h]at h';cases h';rw[b7e];trivial⟩
theorem d6H(d:D):WkD d d=True:=by simp[WkD.refl]
theorem d6I:WkD .aE (.sl [])=True:=by simp[WkD.aE]
theorem e1H(cs xU:List D):WkD (.agg cs) (.agg xU)=WkL cs xU:=by
 apply propext;constructor
 .intro h;cases h with
  |refl=>rw[b7e];trivial
  |agg _ _ h1 h2=>exact⟨h1,h2⟩
 .rintro⟨h1,h2⟩;exact .agg _ _ h1 h2
theorem e7K(cs xU:List (List D)):WkD (.sl cs) (.sl xU)=b7d cs xU:=by
 apply propext;constructor
 .intro h;cases h with
  |refl=>rw[c1z];trivial
  |sl _ _ h1 h2 h3=>exact⟨h1,λi e e' q q'=>⟨h2 i e e' q q',λj d d' p p'=>h3 i j e e' d d' q q' p p'⟩⟩
 .rintro⟨h1,h2⟩;exact .sl _ _ h1 (λi e e' q q'=>(h2 i e e' q q').1) (λi j e e' d d' q q' p p'=>(h2 i e e' q q').2 j d d' p p')
theorem e1I(k k':IntKind)(n n':Int):WkD (.int k n) (.int k' n')=(k=k'/\n=n'):=by
 apply propext;constructor
 .intro h;cases h;exact⟨rfl,rfl⟩
 .rintro⟨rfl,rfl⟩;exact .refl _
theorem d6J(a b:Bool):WkD (.bool a) (.bool b)=(a=b):=by
 apply propext;constructor
 .intro h;cases h;rfl
 .rintro rfl;exact .refl _
theorem WkD.one{d d':D}(h:WkD d d'):d'.one=d.one:=by cases h<;>rfl
theorem V.wk{R:Nat->Nat->Prop}{w:World}{d:D}(h:V R w v d):∀{d':D},WkD d d'->V R w v d':=by
 induction h with
 |int k n=>intro d' hd;cases hd;exact .int k n
 |bool b=>intro d' hd;cases hd;exact .bool b
 |str s=>intro d' hd;cases hd;exact .str s
 |aE ao=>
  intro d' hd;cases hd with
  |refl=>exact .aE ao
  |aE=>exact .emp ao 0
 |emp ao cap=>
  intro d' hd;cases hd with
  |refl=>exact .emp ao cap
  |sl _ es' h1 _ _=>have:es'=[]:=g4a (by simpa using h1.symm);subst this;exact .emp ao cap
 |sl b o n cap size es f h1 h2 h3 h4 h5 h6 h7 ih=>
  intro d' hd;cases hd with
  |refl=>exact .sl b o n cap size es f h1 h2 h3 h4 h5 h6 h7
  |sl _ es' q1 q2 q3=>
   have pre:∀(i:Nat)(e':List D),es'[i]? =some e'->∃e,es[i]? =some e:=λi e' he'=>by have hi:i<es'.length:=(g3r.1 he').1;exact⟨es[i]'(by omega),g3u (by omega)⟩
   have f2y:∀(i j:Nat)(e':List D)(d':D),es'[i]? =some e'->e'[j]? =some d'->∃e d,es[i]? =some e/\e[j]? =some d/\WkD d d':=λi j e' d' he' hd'=>by obtain⟨e,he⟩:=pre i e' he';have hl:=q2 i e e' he he';have hj:j<e'.length:=(g3r.1 hd').1;have hjd:e[j]? =some (e[j]'(by omega)):=g3u (by omega);exact⟨e,_,he,hjd,q3 i j e e' _ d' he he' hjd hd'⟩
   refine .sl b o n cap size es' f (by omega) h2 h3 (λe' he'=>?_) h5 (λi j e' d' he' hd'=>?_) (λi j e' d' he' hd'=>?_)
   .obtain⟨i,hi⟩:=g3H he';obtain⟨e,he⟩:=pre i e' hi;rw[<-q2 i e e' he hi];exact h4 e (g3v he)
   .obtain⟨e,d,he,hd,hw⟩:=f2y i j e' d' he' hd';rw[hw.one];exact h6 i j e d he hd
   .obtain⟨e,d,he,hd,hw⟩:=f2y i j e' d' he' hd';exact ih i j e d he hd hw
 |agg cs ds h1 h2 h3 ih=>
  intro d' hd;cases hd with
  |refl=>exact .agg cs ds h1 h2 h3
  |agg _ ds' q1 q2=>
   have pre:∀(i:Nat)(d':D),ds'[i]? =some d'->∃d,ds[i]? =some d/\WkD d d':=λi d' he'=>by have hi:i<ds'.length:=(g3r.1 he').1;have h:=g3u (l:=ds) (i:=i) (by omega);exact⟨_,h,q2 i _ d' h he'⟩
   refine .agg cs ds' (by omega) (λi d' hd'=>?_) (λi d' hd'=>?_)
   .obtain⟨d,hd,hw⟩:=pre i d' hd';rw[hw.one];exact h2 i d hd
   .obtain⟨d,hd,hw⟩:=pre i d' hd';exact ih i d hd hw
def b0E:DV->DV->Prop
 |.d x,.d y=>WkD x y
 |.cX l,.cX l'=>WkL l l'
 |a,b=>a=b
theorem TV.wk{R:Nat->Nat->Prop}{μ:Nat->Nat}{w:World}{v:Value}{r r':DV}(h:TV R μ w v r)(hw:b0E r r'):TV R μ w v r':=by
 cases r<;>cases r'<;>simp only[b0E]at hw<;>try (cases hw;done)
 case d.d x y=>cases h with|d _ _ hv=>exact .d _ _ (hv.wk hw)
 case cX.cX l l'=>
  cases h with
  |cX vs _ h1 h2=>refine .cX vs l' (by rw[h1,hw.1]) λi d' hd'=>?_;have hi:i<l'.length:=(g3r.1 hd').1;have hg:=g3u (l:=l) (i:=i) (by rw[hw.1];exact hi);exact(h2 i _ hg).wk (hw.2 i _ d' hg hd')
 all_goals (cases hw;exact h)
theorem CS.args{f:FuncId}{ds ds':List D}{r:DV}{own:Option TypeId}(h:CS P G f ds' r own)(hd:WkL ds ds'):CS P G f ds r own:=λw R args hg hR hl hv=>h w R args hg hR (by rw[hl,hd.1]) λi d' hd'=>by have hi:i<ds'.length:=(g3r.1 hd').1;have hgt:=g3u (l:=ds) (i:=i) (by rw[hd.1];exact hi);exact(hv i _ hgt).wk (hd.2 i _ d' hgt hd')
variable{r:DV}{f:FuncId}{own:Option TypeId}{ds:List D}
theorem CS.res{r':DV}(h:CS P G f ds r' own)(hd:b0E r' r):CS P G f ds r own:=λw R args hg hR hl hv=>(h w R args hg hR hl hv).mono λ_ _ ⟨v,R',h1,h2,h3⟩=>⟨v,R',h1,λμ=>(h2 μ).wk hd,h3⟩
def a2L(ds:List D)(n:Nat):St:=⟨ds.map .d++List.replicate (n-ds.length) (.cX []),[],[]⟩
def d6K(P:Program)(s:St):ResultVar->Option D
 |.tmp i=>isD (s.tmps.getD i (.cX []))
 |.cell p ty=>match s.tmps.getD p (.cX [])with
  |.ptr k off=>(match getKey k s.H with
   |some (.cells cs)=>(b4x P ty (cs.drop off)).bind isD
   |_=>none)
  |_=>none
def a7v(P:Program)(s:St):List ResultVar->Option (List D)
 |[]=>some []
 |r::l=>match d6K P s r,a7v P s l with
  |some x,some ds=>some (x::ds)
  |_,_=>none
def d3G(P:Program)(s:St)(rs:List ResultVar):Option DV:=
 match a7v P s rs with
 |some [x]=>some (.d x)
 |some ds=>some (.cX ds)
 |none=>none
def e1J(s:St)(rs:List ResultVar):Option TypeId:=
 match rs with
 |[.tmp i]=>(match s.tmps.getD i (.cX [])with
  |.d (.sl _)=>(jW (.t i) s.own).map (·.1)
  |_=>none)
 |_=>none
def b3E(tmps:Array Value):ResultVar->Sem Value
 |.tmp t=>pure (tmps.getD t undef)
 |.cell p t=>do loadVar t (<-asAddr (tmps.getD p undef))
theorem b0F(fn:Func)(tmps:Array Value):results fn tmps=(do let vs <- fn.results.mapM (b3E tmps);pure (if h:vs.size=1 then vs[0] else .tuple vs)):=by unfold results;congr 1
theorem e1K(hr:Rel P G base R μ st a w){r:ResultVar}{x:D}(h:d6K P st r=some x):∃v,(b3E a.tmps r).run P w=.ok v w/\V R w v x:=by
 cases r with
 |tmp i=>simp only[d6K]at h;have he:=hr.eval (.tmp i);simp only[St.eval,Act.eval]at he;unfold isD at h;split at h<;>simp at h;rename_i y hy;subst h;rw[hy]at he;exact⟨_,rfl,he.b1B⟩
 |cell p ty=>
  simp only[d6K]at h;have he:=hr.eval (.tmp p);simp only[St.eval,Act.eval]at he;split at h
  .rename_i k off hp;split at h
   .rename_i cs hk;rw[hp]at he;obtain⟨_,_,hob⟩:=hr.mL k _ hk;have dG:=(b3x.c2W hob).drop off;rw[Nat.zero_add]at dG;obtain⟨y,hy,hx⟩:=g3E.1 h;obtain⟨v,h1,h2,_⟩:=a0s (P:=P) dG hy;have hyd:y=.d x:=by
     unfold isD at hx;split at hx
     .cases hx;rfl
     .cases hx
    subst hyd;refine⟨v,?_,h2.b1B⟩;unfold b3E;simp only;rw[he.c2X];simp only[asAddr,g4f,Sem.run_pure,g4h,h1]
   .cases h
  .cases h
theorem b7f(hr:Rel P G base R μ st a w):∀{l:List ResultVar}{ds:List D},a7v P st l=some ds->
  ∃vs,(l.mapM (b3E a.tmps)).run P w=.ok vs w/\vs.length=ds.length/\∀(i:Nat)(d:D),ds[i]? =some d->V R w (vs.getD i undef) d
 |[],ds,h=>by simp[a7v]at h;subst h;exact⟨[],by simp,rfl,by simp⟩
 |r::l,ds,h=>by
  simp only[a7v]at h;split at h<;>simp at h;rename_i x ds' hx hds;subst h;obtain⟨v,h1,h2⟩:=e1K hr hx;obtain⟨vs,q1,q2,q3⟩:=b7f hr hds;refine⟨v::vs,?_,by simp[q2],λi d hi=>?_⟩
  .simp only[List.mapM_cons,g4f,h1,g4h,q1,Sem.run_pure]
  .cases i with
   |zero=>simp at hi;subst hi;exact h2
   |succ i=>simp at hi;simpa using q3 i d hi
variable{fn:Func}
theorem d2f(hr:Rel P G base R μ st a w)(h:d3G P st fn.results.toList=some r):∃v,(results fn a.tmps).run P w=.ok v w/\(∀μ',TV R μ' w v r):=by
 unfold d3G at h;cases hds:a7v P st fn.results.toList with
 |none=>simp[hds]at h
 |some ds=>
  obtain⟨vs,h1,h2,h3⟩:=b7f hr hds;have dG:(results fn a.tmps).run P w=.ok (if h:vs.toArray.size=1 then vs.toArray[0] else .tuple vs.toArray) w:=by rw[b0F,Array.mapM_eq_mapM_toList];simp only[g4f,Sem.run_map,h1,g4h,Sem.run_pure]
  refine⟨_,dG,λμ'=>?_⟩;have cX:∀(ds:List D),vs.length=ds.length->(∀(i:Nat)(d:D),ds[i]? =some d->V R w (vs.getD i undef) d)->TV R μ' w (.tuple vs.toArray) (.cX ds):=λds hl hv=>.cX _ _ (by simpa using hl) (λi d hi=>by have:=hv i d hi;simpa[g3s,List.getD]using this)
  rw[hds]at h
  match ds,h2,h3,h with
  |[],h2,h3,h=>simp at h;subst h;rw[dif_neg (by simp at h2;simp[h2])];exact cX [] h2 h3
  |[x],h2,h3,h=>
   simp at h;subst h
   match vs,h2,h3 with
   |[v],_,h3=>exact .d _ _ (by simpa using h3 0 x rfl)
  |x::y::l,h2,h3,h=>simp at h;subst h;rw[dif_neg (by simp at h2;simp[h2])];exact cX _ h2 h3
variable{e:TypeId}
theorem e1L(hr:Rel P G base R μ st a w)(h:e1J st fn.results.toList=some e)(hv:(results fn a.tmps).run P w=.ok v w):sA P base R w e v:=by
 unfold e1J at h;split at h
 .rename_i i hrs;split at h
  .rename_i es hd;simp only[g3p]at h;obtain⟨⟨e',gM⟩,ht,rfl⟩:=h;obtain⟨_,v0,_,hv0,oO,_⟩:=hr.jW ht;have hs:i<a.tmps.size:=by
    rw[hr.size];by_cases aG:i<st.tmps.length
    .exact aG
    .simp[List.getD,g3X (g3Z aG)]at hd
   have hv1:v=a.tmps.getD i undef:=by
    have d6L:fn.results=#[.tmp i]:=by apply Array.ext';simpa using hrs
    rw[results_tmp d6L a.tmps P w]at hv;exact(by cases hv;rfl)
   rw[hv1,hv0 (a.tmps.getD i undef) (by simp[cY,hs])];exact oO
  .cases h
 .cases h
def c6d(x:Option DV)(r:DV):Prop:=match x with
 |some r0=>b0E r0 r
 |none=>False
theorem b7g{x:Option DV}(h:c6d x r):∃r0,x=some r0/\b0E r0 r:=by
 cases x with
 |none=>cases h
 |some r0=>exact⟨r0,rfl,h⟩
def c6e(s:St)(rs:List ResultVar):Option TypeId->Prop
 |none=>True
 |some e=>e1J s rs=some e\/(match rs with
  |[.tmp i]=>(match s.tmps.getD i (.cX [])with
   |.d .aE=>True
   |_=>False)
  |_=>False)
theorem c6f(hr:Rel P G base R μ st a w)(h:c6e st fn.results.toList (some e))(hv:(results fn a.tmps).run P w=.ok v w):sA P base R w e v:=by
 rcases h with h|h
 .exact e1L hr h hv
 .split at h
  .rename_i i hrs;split at h
   .rename_i hd;have d6L:fn.results=#[.tmp i]:=by apply Array.ext';simpa using hrs
    rw[results_tmp d6L a.tmps P w]at hv;cases hv;have he:=hr.eval (.tmp i);simp only[St.eval,Act.eval,hd]at he;obtain⟨ao,h0⟩:=he.b1B.mW;exact .inl ⟨ao,h0⟩
   .cases h
  .cases h
theorem Rel.init(fn:Func){w:World}{R:Nat->Nat->Prop}{args:Array Value}(hg:a9t G (a1q w.heap.size) R w)(hR:∀b o,R b o->b<w.heap.size)(hl:args.size=ds.length)(hv:∀(i:Nat)(d:D),ds[i]? =some d->V R w (args.getD i undef) d):
  Rel P G (a1q w.heap.size) R (λ_=>0) (a2L ds fn.ntmps) {tmps:=args++Array.replicate (fn.ntmps-args.size) undef,defers:=[]} w:=by
 refine⟨rfl,by simp[a2L,hl],λi v d hiv hid=>?_,λk o hk=>by simp[a2L,getKey]at hk,λk k' o o' hk=>by simp[a2L,getKey]at hk,λc hc=>by simp[a2L]at hc,⟨[],rfl,λi c v hc=>by simp[a2L]at hc,.nil⟩,hg,hR,λ_ h=>h,λ_ _=>rfl⟩;simp only[a2L]at hid;by_cases hi:i<ds.length
 .rw[g3B (by simpa using hi),g3A,g3u hi]at hid;simp at hid;subst hid;have:=hv i ds[i] (g3u hi);rw[g3Y (by omega)]at hiv;have hg:args.getD i undef=v:=by simp[g3s,hiv]
  rw[hg]at this;exact .d _ _ this
 .rw[g3y (by simp;omega),g4i]at hid;split at hid<;>simp at hid;subst hid;rw[g4n (by omega),Array.getElem?_replicate]at hiv;split at hiv<;>simp at hiv;subst hiv;exact .cX #[] [] rfl (by simp)
theorem CS.f2z{c:Code}{n:Nat}(hf:P.funcs[f]? =some fn)(hb:fn.body=some c)(hn:fn.ntmps=n)(h:VW P G c (a2L ds n) λe s=>(e=.normal\/e=.ret)/\c6d (d3G P s fn.results.toList) r/\c6e s fn.results.toList own):CS P G f ds r own:=by
 intro w R args hg hR hl hv;refine calls_of_wp hf hb ?_;have rT:=Rel.init (P:=P) (G:=G) fn hg hR hl hv;rw[<-hn]at h;refine wp_mono (a6z c _ _ h (a1q w.heap.size) R _ _ w rT) λe a' w' ⟨s,R',μ',⟨he,mB,oO⟩,jG,hs⟩=>?_;obtain⟨r0,mB,hwk⟩:=b7g mB;obtain⟨v,hv1,hv2⟩:=d2f jG mB;have a7w:a'.defers=[]/\∃v,(results fn a'.tmps).run P w'=.ok v w'/\∃v' R',Ending.returned v=.returned v'/\(∀μ,TV R' μ w' v' r)/\Step (a1q w.heap.size) R w R' w'/\(∀b o,R' b o->b<w'.heap.size)/\(∀e,own=some e->sA P (a1q w.heap.size) R' w' e v'):=
  ⟨jG.defers,v,hv1,v,R',rfl,λμ=>(hv2 μ).wk hwk,hs,jG.sB,λe he'=>by subst he';exact c6f jG oO hv1⟩
 rcases he with rfl|rfl
 .exact a7w
 .exact a7w
theorem Enters.mk(hf:P.funcs[f]? =some fn)(h:(fn.body.isNone==false&&(fn.name== "runtime.NumGoroutine")==false)=true):Enters P f:=by
 simp only[g3q,beq_iff_eq]at h;exact⟨fn,hf,h.1,h.2⟩
end
inductive KI where
 |code (c:Code)
 |blk (id:Nat)
 |ops (q:Bool) (all:Array Oper) (rest:List Oper)
 |scp
def VK(P:Program)(G:GT):List KI->Exit->St->(Exit->St->Prop)->Prop
 |[],e,st,Q=>Q e st
 |.code c::k,.normal,st,Q=>VW P G c st λe s=>VK P G k e s Q
 |.code _::k,e,st,Q=>VK P G k e st Q
 |.blk id::k,.exit id',st,Q=>if id'=id then VK P G k .normal st Q else VK P G k (.exit id') st Q
 |.blk _::k,e,st,Q=>VK P G k e st Q
 |.ops q all rest::k,.normal,st,Q=>vU P G q all rest st λs=>VK P G k .normal s Q
 |.ops _ _ _::k,e,st,Q=>VK P G k e st Q
 |.scp::_,.goto _,_,_=>False
 |.scp::k,e,st,Q=>VK P G k e st Q
def c6g(P:Program)(G:GT)(v:DV)(x y:Code)(k:List KI)(st:St)(Q:Exit->St->Prop):Prop:=
 match v with
 |.d (.bool t)=>if t then VK P G (.code x::k) .normal st Q else VK P G (.code y::k) .normal st Q
 |.rS=>VK P G (.code x::k) .normal st Q/\VK P G (.code y::k) .normal st Q
 |_=>False
section
variable {P:Program} {G:GT} {k:List KI} {st:St} {Q:Exit->St->Prop}
theorem e7L(e:Exit):VK P G [] e st Q=Q e st:=rfl
theorem e1M:VK P G (.code .skip::k) .normal st Q=VK P G k .normal st Q:=rfl
theorem e7M(x y:Code):VK P G (.code (.seq x y)::k) .normal st Q=VK P G (.code x::.code y::k) .normal st Q:=by simp only[VK,VW];congr 1;funext e s;cases e<;>rfl
theorem e1N(c:Operand)(x y:Code):VK P G (.code (.cond c x y)::k) .normal st Q=c6g P G (st.eval G c) x y k st Q:=rfl
theorem d6M(id:Nat)(c:Code):VK P G (.code (.block id c)::k) .normal st Q=VK P G (.code c::.blk id::k) .normal st Q:=by simp only[VK,VW];congr 1;funext e s;cases e<;>rfl
theorem d6N(l:Nat):VK P G (.code (.label l)::k) .normal st Q=VK P G k .normal st Q:=rfl
theorem c0k:VK P G (.scp::k) .normal st Q=VK P G k .normal st Q:=rfl
theorem c9U:VK P G (.scp::k) .ret st Q=VK P G k .ret st Q:=rfl
theorem c6h(id:Nat):VK P G (.scp::k) (.exit id) st Q=VK P G k (.exit id) st Q:=rfl
theorem d3H(id:Nat)(ops:Array Oper):VK P G (.code (.region id ops false)::k) .normal st Q=VK P G (.ops false ops ops.toList::k) .normal st Q:=by simp only[VK,VW];simp
def a7x(P:Program)(ops:Array Oper):Prop:=P.follows .mixedOrders=true/\d6x ops=true
theorem a7x.mk{ops:Array Oper}(h:(P.follows .mixedOrders&&d6x ops)=true:=by kernel_rfl):a7x P ops:=by simpa[a7x]using h
theorem d6O(id:Nat)(ops:Array Oper):VK P G (.code (.region id ops true)::k) .normal st Q=(a7x P ops/\b3C ops st=true/\VK P G (.ops true ops ops.toList::k) .normal st Q):=by simp only[VK,VW,a7x];simp[and_assoc]
theorem e1O(id:Nat):VK P G (.code (.exit id)::k) .normal st Q=VK P G k (.exit id) st Q:=rfl
theorem e7N:VK P G (.code .ret::k) .normal st Q=VK P G k .ret st Q:=rfl
theorem e1P(c:Code):VK P G (.code (.loop c)::k) .normal st Q=SW P G (.loop c) st (λe s=>VK P G k e s Q):=rfl
theorem c6i(c:Code):VK P G (.code c::k) .ret st Q=VK P G k .ret st Q:=rfl
theorem c3n(c:Code)(id:Nat):VK P G (.code c::k) (.exit id) st Q=VK P G k (.exit id) st Q:=rfl
theorem c0l(id:Nat):VK P G (.blk id::k) .normal st Q=VK P G k .normal st Q:=rfl
theorem c9V(id:Nat):VK P G (.blk id::k) .ret st Q=VK P G k .ret st Q:=rfl
theorem c6j(id id':Nat):VK P G (.blk id::k) (.exit id') st Q=if id'=id then VK P G k .normal st Q else VK P G k (.exit id') st Q:=rfl
theorem c9W(q:Bool)(all:Array Oper):VK P G (.ops q all []::k) .normal st Q=VK P G k .normal st Q:=rfl
def aC(P:Program)(G:GT)(q ro qn:Bool)(f:FuncId)(ds:List D)(ls:List (Option Loc))(dst:Option Tmp)(all:Array Oper)(rest:List Oper)(k:List KI)(st:St)(Q:Exit->St->Prop):Prop:=
 (∃r own,(Enters P f/\CS P G f ds r own)/\(q=true->qN r=true)/\VK P G (.ops q all rest::k) .normal (finish st dst r (if qn then .no else a7n own)) Q)\/
 (ro=false/\∃s',(Enters P f/\pC P G f (ds.map .d) ls st dst s')/\VK P G (.ops q all rest::k) .normal s' Q)
variable{all:Array Oper}{q qn ro:Bool}{f:FuncId}{own:Option TypeId}{r:DV}{ds:List D}{rest:List Oper}{ls:List (Option Loc)}{dst:Option Tmp}
theorem aC.mk(he:Enters P f)(hc:CS P G f ds r own)(h:VK P G (.ops q all rest::k) .normal (finish st dst r (if qn then .no else a7n own)) Q)(hkl:qN r=true:=by rfl):aC P G q ro qn f ds ls dst all rest k st Q:=.inl ⟨r,own,⟨he,hc⟩,λ_=>hkl,h⟩
def c1A(P:Program)(G:GT)(q:Bool)(x:Option Out)(dst:Option Tmp)(all:Array Oper)(rest:List Oper)(k:List KI)(Q:Exit->St->Prop):Prop:=
 match x with
 |some out=>VK P G (.ops q all rest::k) .normal (finish out.st dst out.v out.act) Q
 |none=>False
theorem c9X{st':St}{v:DV}{act:OA}:c1A P G q (some ⟨v,act,st'⟩) dst all rest k Q=VK P G (.ops q all rest::k) .normal (finish st' dst v act) Q:=rfl
theorem c9Y(x y:Code):c6g P G (.d (.bool true)) x y k st Q=VK P G (.code x::k) .normal st Q:=rfl
theorem d3I(x y:Code):c6g P G .rS x y k st Q=(VK P G (.code x::k) .normal st Q/\VK P G (.code y::k) .normal st Q):=rfl
theorem c6k(x y:Code):c6g P G (.d (.bool false)) x y k st Q=VK P G (.code y::k) .normal st Q:=rfl
def jH(P:Program)(G:GT)(q ro:Bool)(f:FuncId)(g3o:List DV)(ls:List (Option Loc))(dst:Option Tmp)(all:Array Oper)(rest:List Oper)(k:List KI)(st:St)(Q:Exit->St->Prop):Prop:=
 a3H P G ro f g3o ls dst st λs=>VK P G (.ops q all rest::k) .normal s Q
def b4N(P:Program)(G:GT)(q:Bool)(o:Oper)(all:Array Oper)(rest:List Oper)(k:List KI)(st:St)(Q:Exit->St->Prop):Prop:=
 match kY G o st with
 |some (f,ds)=>aC P G q (uK q all o) (q&& !wK all o) f ds (oN o) o.dst all rest k st Q
 |none=>
  match eB G o st with
  |some (f,g3o)=>jH P G q (uK q all o) f g3o (oN o) o.dst all rest k st Q
  |none=>c1A P G q ((pH P G o st).map λout=>⟨out.v,b1I q all o out.v out.act,out.st⟩) o.dst all rest k Q
def a5E(P:Program)(G:GT)(q:Bool)(y:DV)(want:Bool)(o:Oper)(all:Array Oper)(rest:List Oper)(k:List KI)(st:St)(Q:Exit->St->Prop):Prop:=
 match y with
 |.undef=>False
 |.rS=>False
 |.d (.bool b)=>if b=want then b4N P G q o all rest k st Q else VK P G (.ops q all rest::k) .normal (finish st o.dst (.cX []) .no) Q
 |_=>VK P G (.ops q all rest::k) .normal (finish st o.dst (.cX []) .no) Q
theorem a3J(q:Bool)(b want:Bool)(o:Oper)(all:Array Oper)(rest:List Oper):a5E P G q (.d (.bool b)) want o all rest k st Q=if b=want then b4N P G q o all rest k st Q else VK P G (.ops q all rest::k) .normal (finish st o.dst (.cX []) .no) Q:=rfl
theorem c9Z(q:Bool)(ds:List D)(want:Bool)(o:Oper)(all:Array Oper)(rest:List Oper):a5E P G q (.cX ds) want o all rest k st Q=VK P G (.ops q all rest::k) .normal (finish st o.dst (.cX []) .no) Q:=rfl
theorem b4O(q:Bool)(all:Array Oper)(o:Oper)(rest:List Oper):VK P G (.ops q all (o::rest)::k) .normal st Q=match gC o all st.tmps with
  |some true=>b4N P G q o all rest k st Q
  |some false=>VK P G (.ops q all rest::k) .normal (finish st o.dst (.cX []) .no) Q
  |none=>False:=by
 simp only[VK,vU,qO,b4N,aC,jH,c1A];split<;>rename_i hw<;>(try simp only[hw]);split<;>rename_i hc<;>(try simp only[hc]);generalize eB G o st=x;cases x with
 |some p=>rfl
 |none=>cases pH P G o st<;>rfl
theorem c6l(q:Bool)(all:Array Oper)(dst:Option Tmp)(op:Op)(ty:TypeId)(pos:String)(after:Array Edge)(rest:List Oper):
  VK P G (.ops q all (⟨dst,op,ty,pos,after,none⟩::rest)::k) .normal st Q=b4N P G q ⟨dst,op,ty,pos,after,none⟩ all rest k st Q:=by
 rw[b4O]
 rfl
theorem c3o(q:Bool)(all:Array Oper)(dst:Option Tmp)(op:Op)(ty:TypeId)(pos:String)(after:Array Edge)(j:Nat)(want:Bool)(rest:List Oper):
  VK P G (.ops q all (⟨dst,op,ty,pos,after,some (j,want)⟩::rest)::k) .normal st Q=a5E P G q (wX all st.tmps j) want ⟨dst,op,ty,pos,after,some (j,want)⟩ all rest k st Q:=by
 rw[b4O];simp only[gC,a5E];generalize wX all st.tmps j=y;cases y with
 |d x=>
  cases x with
  |bool b=>cases b<;>cases want<;>rfl
  |_=>rfl
 |_=>rfl
variable{c:Code}
theorem CS.aY{fn:Func}{n:Nat}(hf:P.funcs[f]? =some fn)(hb:fn.body=some c)(hn:fn.ntmps=n){rs:List ResultVar}(hrs:fn.results.toList=rs)(h:VK P G [.code c] .normal (a2L ds n) λe s=>(e=.normal\/e=.ret)/\c6d (d3G P s rs) r/\c6e s rs own):CS P G f ds r own:=by subst hrs;exact CS.f2z hf hb hn h
variable{g3o:List DV}
theorem jH.mk'(h:∃s',(Enters P f/\pC P G f g3o ls st dst s')/\VK P G (.ops q all rest::k) .normal s' Q)(hro:ro=false):jH P G q ro f g3o ls dst all rest k st Q:=by subst hro;exact h
theorem aC.gM(h:∃s',(Enters P f/\pC P G f (ds.map .d) ls st dst s')/\VK P G (.ops q all rest::k) .normal s' Q)(hro:ro=false):aC P G q ro qn f ds ls dst all rest k st Q:=.inr ⟨hro,h⟩
theorem jH.ro'{d:DV}{ks:List Nat}(he:Enters P f)(hr:RO P G f g3o ks st.H d)(hn:oX ks st.own=true)(hks:(ks.all λk=>(getKey k st.H).isSome)=true)(hkl:qN d=true)(h:VK P G (.ops q all rest::k) .normal (finish st dst d .no) Q):jH P G q ro f g3o ls dst all rest k st Q:=by
 cases ro
 .exact⟨_,⟨he,hr st (λ_ _=>rfl) hn dst ls⟩,h⟩
 .exact⟨d,ks,⟨he,hr,hn,hks,hkl⟩,h⟩
theorem c6m(h:VK P G [.code c] .normal st Q):VW P G c st Q:=h
theorem SW.f2A{ι:Type}(I:ι->St)(m:ι->Nat)(x0:ι)(h0:yY st (I x0))(round:∀x,VK P G [.code c] .normal (I x) λe s=>match e with
   |.normal=>∃y,yY s (I y)/\m y<m x
   |e=>Q e s):SW P G (.loop c) st Q:=SW.loop I m x0 h0 round
end
attribute [irreducible] VK aC jH c1A c6g a5E
end Go.VM
namespace Go.VM
open Go Go.RowKit
attribute [simp] c1g takeA d6N c0k c9U c6h e7L e1M e7M e1N d6M d3H d6O b1I a9v wK a3G b6q dW e1O e7N e1P c6i c3n c0l c9V c6j c9W c6l c3o b4N c9X c9Y c6k d3I c9Z wX kY eB a8H xQ DV.cell b4x c1f b6G cellOf a3B c2R c2U mentions pW a3A b3C gY gS dI vV Loc.a0Y qN oN a7b a8I a1p b1z pH d3i d3j a4P b6I b3v e1o b0q uW b4y uF yH c9t b6J c2S a2A vUn b6K e1p a2B b0r b0s uX uY b0t c2T d1Q d3h a5t uZ St.eval ofConst a0X a0n finish gL jS getKey cF a2z pB oW dH dropKey addAlias Loc.a0Y uV xR takeD qX d5Y e1n c9s b6H a1Q a8G a0Z a1R overwrite c1e isD a0p a4k idx bound jT findKeyD jW e1q d1P d3g a0q D.one D.cells a7n a2L d6K a7v d3G e1J
def c3p:Code->List Nat
 |.region _ ops _=>ops.toList.filterMap (·.dst)
 |.seq a b=>c3p a++c3p b
 |.cond _ a b=>c3p a++c3p b
 |.block _ c=>c3p c
 |.scope c=>c3p c
 |.loop c=>c3p c
 |_=>[]
def b7h:List Nat->List DV->List DV
 |[],l=>l
 |i::r,l=>b7h r (l.set i .undef)
def d0a:List (Nat×DV)->List DV->List DV
 |[],l=>l
 |(i,v)::r,l=>d0a r (l.set i v)
def mR(c:Code)(st:St)(ws:List (Nat×DV))(H:List (Nat×bG))(own:List (TypeId×List Loc)):St:=⟨d0a ws (b7h (c3p c) st.tmps),H,own⟩
theorem d6P(s s':St):yY s s'↔WkT s.tmps s'.tmps/\WkH s.H s'.H/\b1O s s.own s'.own=true/\bK s'.H s'.own=true:=⟨λh=>⟨h.tmps,h.H,h.own,h.keys⟩,λh=>⟨h.1,h.2.1,h.2.2.1,h.2.2.2⟩⟩
def bE{ι:Type}(F:ι->St)(m:ι->Nat)(x:ι)(s:St):Prop:=∃y,yY s (F y)/\m y<m x
theorem bE.mk{ι:Type}{F:ι->St}{m:ι->Nat}{x:ι}{s:St}(y:ι)(h:yY s (F y))(hm:m y<m x):bE F m x s:=⟨y,h,hm⟩
variable{G:GT}{P:Program}{Q:Exit->St->Prop}{st:St}
theorem SW.eA{c:Code}{ι:Type}(ws:ι->List (Nat×DV))(H:ι->List (Nat×bG))(own:ι->List (TypeId×List Loc))(m:ι->Nat)(x0:ι)(h0:yY st (mR c st (ws x0) (H x0) (own x0)))(round:∀x,VK P G [.code c] .normal (mR c st (ws x) (H x) (own x)) λe s=>match e with
   |.normal=>bE (λy=>mR c st (ws y) (H y) (own y)) m x s
   |e=>Q e s):SW P G (.loop c) st Q:=SW.f2A (λx=>mR c st (ws x) (H x) (own x)) m x0 h0 round
attribute [irreducible] bE
attribute [simp] c3p b7h d0a mR d6P WkT WkO WkH b1O b7b isNil a1X bK
variable{q:Bool}{k:List KI}
theorem d3J(o:Oper)(all:Array Oper)(rest:List Oper):a5E P G q (.d (.bool true)) true o all rest k st Q=b4N P G q o all rest k st Q:=by rw[a3J,if_pos rfl]
theorem d3K(o:Oper)(all:Array Oper)(rest:List Oper):a5E P G q (.d (.bool false)) false o all rest k st Q=b4N P G q o all rest k st Q:=by rw[a3J,if_pos rfl]
theorem d3L(o:Oper)(all:Array Oper)(rest:List Oper):a5E P G q (.d (.bool true)) false o all rest k st Q=VK P G (.ops q all rest::k) .normal (finish st o.dst (.cX []) .no) Q:=by rw[a3J,if_neg (by decide)]
theorem d3M(o:Oper)(all:Array Oper)(rest:List Oper):a5E P G q (.d (.bool false)) true o all rest k st Q=VK P G (.ops q all rest::k) .normal (finish st o.dst (.cX []) .no) Q:=by rw[a3J,if_neg (by decide)]
attribute [simp] d3J d3K d3L d3M
attribute [simp] d6G d3F b7e c1z d6H d6I e1H e7K e1I d6J b0E c6d c6e
theorem e1Q(a b:Int):(a==b)=decide (a=b):=rfl
theorem e1R(a b:Int):(a !=b)= !decide (a=b):=rfl
theorem e7P(a b:List UInt8):(a==b)=decide (a=b):=by by_cases h:a=b<;>simp[h]
attribute [simp] e1Q e1R e7P
theorem c6n(n m:Nat):((no_index (OfNat.ofNat n):Int)<=(m:Int))=((OfNat.ofNat n:Nat)<=m):=propext Int.ofNat_le
theorem c6o(n m:Nat):((m:Int)<=(no_index (OfNat.ofNat n):Int))=(m<=(OfNat.ofNat n:Nat)):=propext Int.ofNat_le
theorem c6p(n m:Nat):((no_index (OfNat.ofNat n):Int)<(m:Int))=((OfNat.ofNat n:Nat)<m):=propext Int.ofNat_lt
theorem c6q(n m:Nat):((m:Int)<(no_index (OfNat.ofNat n):Int))=(m<(OfNat.ofNat n:Nat)):=propext Int.ofNat_lt
theorem c6r(n m:Nat):((m:Int)=(no_index (OfNat.ofNat n):Int))=(m=(OfNat.ofNat n:Nat)):=propext Int.ofNat_inj
theorem c3q(n m:Nat):(((n:Int)+1)<=(m:Int))=(n+1<=m):=by apply propext;omega
theorem c3r(n m:Nat):(((n:Int)+1)<(m:Int))=(n+1<m):=by apply propext;omega
theorem c6s(n:Nat):(0<=(n:Int)+1)=True:=by apply propext;simp;omega
attribute [simp] c3q c3r c6s
attribute [simp] c6n c6o c6p c6q c6r
end Go.VM
end
namespace Go.Proofs.YtmfbjecjccipfaaGreatDoor
section
open Go Go.VM
@[simp] theorem f1f:prog.cellsOf 3=1/\mM prog 3=some [.int .i64 0]/\prog.cellsOf 4=1/\prog.cellsOf 9=1/\prog.bytesOf 9=16/\prog.cellsOf 23=1/\jL prog 23=some 69/\prog.cellsOf 24=1/\jL prog 24=some 95/\prog.cellsOf 25=1/\jL prog 25=some 98/\prog.cellsOf 26=1/\jL prog 26=some 73/\prog.cellsOf 27=1/\jL prog 27=some 102/\prog.cellsOf 28=1/\jL prog 28=some 58/\prog.cellsOf 30=6/\mM prog 30=some [.aE,.aE,.aE,.aE,.aE,.aE]/\dV prog 30=true/\aO prog 30 0=some (0,23)/\aO prog 30 1=some (1,24)/\aO prog 30 2=some (2,25)/\aO prog 30 3=some (3,26)/\aO prog 30 4=some (4,27)/\aO prog 30 5=some (5,28)/\prog.cellsOf 31=1/\mM prog 31=some [.int .i64 0]/\prog.cellsOf 36=1/\mM prog 36=some [.aE]:=by and_intros<;>kernel_rfl
@[simp] theorem f1q:jL prog 36=some 9/\prog.cellsOf 37=1/\prog.cellsOf 38=1/\mM prog 38=some [.aE]/\jL prog 38=some 43/\prog.cellsOf 39=1/\jL prog 39=some 176/\prog.cellsOf 40=1/\jL prog 40=some 143/\prog.cellsOf 41=1/\mM prog 41=some [.aE]/\jL prog 41=some 54/\prog.cellsOf 43=7/\prog.bytesOf 43=128/\mM prog 43=some [.int .i64 0,.str [],.int .i64 0,.aE,.aE,.aE,.aE]/\dV prog 43=true/\aO prog 43 0=some (0,37)/\aO prog 43 1=some (1,9)/\aO prog 43 2=some (2,3)/\aO prog 43 3=some (3,38)/\aO prog 43 4=some (4,39)/\aO prog 43 5=some (5,40)/\aO prog 43 6=some (6,41)/\prog.cellsOf 44=1/\prog.cellsOf 45=1/\mM prog 45=some [.aE]/\jL prog 45=some 168/\prog.cellsOf 46=1/\jL prog 46=some 146/\prog.cellsOf 47=1:=by and_intros<;>kernel_rfl
@[simp] theorem f1x:jL prog 47=some 148/\prog.cellsOf 48=1/\prog.cellsOf 49=1/\prog.cellsOf 50=1/\jL prog 50=some 52/\prog.cellsOf 52=4/\prog.bytesOf 52=56/\mM prog 52=some [.int .i64 0,.str [],.int .i64 0,.aE]/\dV prog 52=true/\aO prog 52 0=some (0,49)/\aO prog 52 1=some (1,9)/\aO prog 52 2=some (2,3)/\aO prog 52 3=some (3,50)/\prog.cellsOf 54=9/\prog.bytesOf 54=152/\mM prog 54=some [.int .i64 0,.str [],.aE,.aE,.int .i64 0,.str [],.int .i64 0,.aE,.aE]/\dV prog 54=true/\aO prog 54 0=some (0,48)/\aO prog 54 1=some (1,9)/\aO prog 54 2=some (2,41)/\aO prog 54 3=some (3,36)/\aO prog 54 4=some (4,52)/\aO prog 54 5=some (8,50)/\prog.cellsOf 56=14/\mM prog 56=some [.aE,.aE,.aE,.aE,.int .i64 0,.str [],.aE,.aE,.int .i64 0,.str [],.int .i64 0,.aE,.aE,.aE]/\dV prog 56=true/\aO prog 56 0=some (0,36)/\aO prog 56 1=some (1,45)/\aO prog 56 2=some (2,46)/\aO prog 56 3=some (3,47):=by and_intros<;>kernel_rfl
@[simp] theorem e2u:aO prog 56 4=some (4,54)/\aO prog 56 5=some (13,50)/\prog.cellsOf 58=25/\prog.bytesOf 58=456/\mM prog 58=some [.str [],.aE,.int .i64 0,.str [],.int .i64 0,.aE,.aE,.aE,.aE,.int .i64 0,.bool false,.aE,.aE,.aE,.aE,.int .i64 0,.str [],.aE,.aE,.int .i64 0,.str [],.int .i64 0,.aE,.aE,.aE]/\dV prog 58=true/\aO prog 58 0=some (0,9)/\aO prog 58 1=some (1,36)/\aO prog 58 2=some (2,43)/\aO prog 58 3=some (9,44)/\aO prog 58 4=some (10,4)/\aO prog 58 5=some (11,56)/\prog.cellsOf 66=1/\mM prog 66=some [.aE]/\jL prog 66=some 166/\prog.cellsOf 67=1/\jL prog 67=some 128/\prog.cellsOf 69=4/\prog.bytesOf 69=88/\mM prog 69=some [.str [],.aE,.aE,.aE]/\dV prog 69=true/\aO prog 69 0=some (0,9)/\aO prog 69 1=some (1,36)/\aO prog 69 2=some (2,66)/\aO prog 69 3=some (3,67)/\prog.cellsOf 70=1/\prog.cellsOf 71=1/\jL prog 71=some 136/\prog.cellsOf 73=8/\prog.bytesOf 73=128:=by and_intros<;>kernel_rfl
@[simp] theorem e8P:mM prog 73=some [.str [],.str [],.str [],.aE,.int .i64 0,.str [],.int .i64 0,.aE]/\dV prog 73=true/\aO prog 73 0=some (0,9)/\aO prog 73 1=some (1,9)/\aO prog 73 2=some (2,70)/\aO prog 73 3=some (3,71)/\aO prog 73 4=some (4,52)/\prog.cellsOf 77=1/\prog.cellsOf 79=4/\prog.bytesOf 79=40/\mM prog 79=some [.int .i64 0,.str [],.int .i64 0,.int .i64 0]/\dV prog 79=true/\aO prog 79 0=some (0,77)/\aO prog 79 1=some (1,9)/\aO prog 79 2=some (2,3)/\aO prog 79 3=some (3,3)/\prog.cellsOf 87=1/\jL prog 87=some 79/\mM prog 89=some [.aE,.int .i64 0,.int .i64 0,.int .i64 0]/\dV prog 89=true/\aO prog 89 0=some (0,87)/\aO prog 89 1=some (1,3)/\aO prog 89 2=some (2,31)/\aO prog 89 3=some (3,3)/\prog.cellsOf 93=1/\jL prog 93=some 131/\prog.cellsOf 95=3/\prog.bytesOf 95=56/\mM prog 95=some [.str [],.str [],.aE]/\dV prog 95=true:=by and_intros<;>kernel_rfl
@[simp] theorem e2T:aO prog 95 0=some (0,9)/\aO prog 95 1=some (1,9)/\aO prog 95 2=some (2,93)/\prog.cellsOf 98=12/\prog.bytesOf 98=216/\mM prog 98=some [.str [],.int .i64 0,.str [],.aE,.aE,.int .i64 0,.str [],.int .i64 0,.aE,.aE,.aE,.aE]/\dV prog 98=true/\aO prog 98 0=some (0,9)/\aO prog 98 1=some (1,54)/\aO prog 98 2=some (10,45)/\aO prog 98 3=some (11,28)/\prog.cellsOf 102=6/\prog.bytesOf 102=96/\mM prog 102=some [.str [],.aE,.int .i64 0,.str [],.int .i64 0,.aE]/\dV prog 102=true/\aO prog 102 0=some (0,9)/\aO prog 102 1=some (1,66)/\aO prog 102 2=some (2,52)/\prog.cellsOf 115=2/\mM prog 115=some [.int .i64 0,.int .i64 0]/\dV prog 115=true/\aO prog 115 0=some (0,3)/\aO prog 115 1=some (1,31)/\mM prog 118=some [.aE,.int .i64 0]/\dV prog 118=true/\aO prog 118 0=some (0,87)/\aO prog 118 1=some (1,3)/\prog.cellsOf 128=3/\prog.bytesOf 128=64/\mM prog 128=some [.str [],.aE,.aE]:=by and_intros<;>kernel_rfl
@[simp] theorem d6T:dV prog 128=true/\aO prog 128 0=some (0,9)/\aO prog 128 1=some (1,36)/\aO prog 128 2=some (2,41)/\prog.cellsOf 131=10/\prog.bytesOf 131=168/\mM prog 131=some [.str [],.int .i64 0,.str [],.aE,.aE,.int .i64 0,.str [],.int .i64 0,.aE,.aE]/\dV prog 131=true/\aO prog 131 0=some (0,9)/\aO prog 131 1=some (1,54)/\prog.cellsOf 136=6/\prog.bytesOf 136=96/\mM prog 136=some [.str [],.aE,.int .i64 0,.str [],.int .i64 0,.aE]/\dV prog 136=true/\aO prog 136 0=some (0,9)/\aO prog 136 1=some (1,36)/\aO prog 136 2=some (2,52)/\prog.cellsOf 143=9/\prog.bytesOf 143=168/\mM prog 143=some [.str [],.aE,.int .i64 0,.str [],.int .i64 0,.aE,.aE,.aE,.aE]/\dV prog 143=true/\aO prog 143 0=some (0,9)/\aO prog 143 1=some (1,36)/\aO prog 143 2=some (2,43)/\prog.cellsOf 146=2/\prog.bytesOf 146=32/\mM prog 146=some [.str [],.str []]/\dV prog 146=true/\aO prog 146 0=some (0,9)/\aO prog 146 1=some (1,70):=by and_intros<;>kernel_rfl
@[simp] theorem e9d:a4O prog 146=some [.string,.string]/\prog.cellsOf 148=10/\prog.bytesOf 148=152/\mM prog 148=some [.str [],.aE,.int .i64 0,.str [],.int .i64 0,.aE,.int .i64 0,.str [],.int .i64 0,.aE]/\dV prog 148=true/\aO prog 148 0=some (0,9)/\aO prog 148 1=some (1,66)/\aO prog 148 2=some (2,52)/\aO prog 148 3=some (6,52)/\prog.cellsOf 166=2/\prog.bytesOf 166=32/\mM prog 166=some [.str [],.str []]/\dV prog 166=true/\aO prog 166 0=some (0,9)/\aO prog 166 1=some (1,70)/\a4O prog 166=some [.string,.string]/\prog.cellsOf 168=2/\prog.bytesOf 168=32/\mM prog 168=some [.str [],.str []]/\dV prog 168=true/\aO prog 168 0=some (0,9)/\aO prog 168 1=some (1,9)/\a4O prog 168=some [.string,.string]/\prog.cellsOf 176=10/\mM prog 176=some [.str [],.int .i64 0,.str [],.aE,.aE,.int .i64 0,.str [],.int .i64 0,.aE,.aE]/\dV prog 176=true/\aO prog 176 0=some (0,9)/\aO prog 176 1=some (1,54)/\prog.cellsOf 194=42/\prog.cellsOf 198=1:=by and_intros<;>kernel_rfl
@[simp] theorem e6n:mM prog 198=some [.aE]/\dV prog 198=true/\aO prog 198 0=some (0,87)/\jL prog 230=some 49/\prog.cellsOf 233=4/\mM prog 233=some [.int .i64 0,.int .i64 0,.int .i64 0,.str []]/\dV prog 233=true/\aO prog 233 0=some (0,3)/\aO prog 233 1=some (1,3)/\aO prog 233 2=some (2,3)/\aO prog 233 3=some (3,9)/\kF prog 9=true/\kF prog 43=true/\kF prog 49=true/\kF prog 52=true/\kF prog 54=true/\kF prog 58=true/\kF prog 69=true/\kF prog 73=true/\kF prog 79=true/\kF prog 95=true/\kF prog 98=true/\kF prog 102=true/\kF prog 128=true/\kF prog 131=true/\kF prog 136=true/\kF prog 143=true/\kF prog 146=true/\kF prog 148=true/\kF prog 166=true:=by and_intros<;>kernel_rfl
@[simp] theorem e3i:kF prog 168=true/\kF prog 176=true:=by and_intros<;>kernel_rfl
end
section
open Go Go.VM
variable {G:GT}
theorem wrap64{n:Int}(h: -9223372036854775808<=n/\n<=9223372036854775807):IntKind.i64.wrap n=n:=by unfold IntKind.wrap;simp[IntKind.bits,IntKind.signed];omega
variable{i:Nat}
theorem aX(h:i<9223372036854775807):IntKind.i64.wrap ((i:Int)+1)=((i+1:Nat):Int):=by rw[wrap64 (by omega)];simp
def qS(c:Int):Bool:=decide (97<=c)&&decide (c<=122)
def b7i(c:Int):Bool:=decide (65<=c)&&decide (c<=90)
def b3F(c:Int):Bool:=decide (48<=c)&&decide (c<=57)
def anB(c:Int):Bool:=qS c||b7i c||b3F c
def wdB(c:Int):Bool:=qS c||b3F c||c==95
def sizedB(s:List UInt8):Bool:=decide (1<=s.length)&&decide (s.length<=24)
def rV(p:Int->Bool)(s:List UInt8):Bool:=s.all λc=>p c.toNat
theorem d7e(p:Int->Bool):rV p []=true:=rfl
variable{s:List UInt8}{b:Bool}{p:Int->Bool}
theorem oE(he:b=rV p (s.drop i))(aG:i<s.length)(hp:p s[i].toNat=true):b=rV p (s.drop (i+1)):=by unfold rV at he;rw[he,g3D aG];simp only[List.all_cons,hp,Bool.true_and,rV]
theorem a2s(he:b=rV p (s.drop i))(aG:i<s.length)(hp:p s[i].toNat=false):b=false:=by unfold rV at he;rw[he,g3D aG];simp only[List.all_cons,hp,Bool.false_and]
theorem a7y(he:b=rV p (s.drop i))(aG:¬i<s.length):b=true:=by
 rw[he,List.drop_of_length_le (by omega)]
 rfl
theorem d7f{α:Type}{f:α->Bool}{l:List α}(he:b=(l.drop i).any f)(aG:i<l.length)(hp:f l[i]=false:=by simp[hk]):b=(l.drop (i+1)).any f:=by rw[he,g3D aG];simp only[List.any_cons,hp,Bool.false_or]
theorem d7g{α:Type}{f:α->Bool}{l:List α}(he:b=(l.drop i).any f)(aG:i<l.length)(hp:f l[i]=true:=by simp[hk]):b=true:=by rw[he,g3D aG];simp only[List.any_cons,hp,Bool.true_or]
theorem e3k{α:Type}{f:α->Bool}{l:List α}(he:b=(l.drop i).any f)(aG:¬i<l.length):b=false:=by
 rw[he,List.drop_of_length_le (by omega)]
 rfl
theorem d7h{α:Type}{f:α->Bool}{l:List α}(he:b=(l.drop i).all f)(aG:i<l.length)(hp:f l[i]=true):b=(l.drop (i+1)).all f:=by rw[he,g3D aG];simp only[List.all_cons,hp,Bool.true_and]
theorem d7i{α:Type}{f:α->Bool}{l:List α}(he:b=(l.drop i).all f)(aG:i<l.length)(hp:f l[i]=false):b=false:=by rw[he,g3D aG];simp only[List.all_cons,hp,Bool.false_and]
theorem e3l{α:Type}{f:α->Bool}{l:List α}(he:b=(l.drop i).all f)(aG:¬i<l.length):b=true:=by
 rw[he,List.drop_of_length_le (by omega)]
 rfl
theorem a3K:VM.Enters prog 251:=.mk func251 rfl
theorem tE:VM.Enters prog 270:=.mk func270 rfl
theorem zI:VM.Enters prog 271:=.mk func271 rfl
variable{c:Int}
theorem a5F:CS prog G 251 [.int .u8 c] (.d (.bool (qS c))) none:=by refine CS.aY func251 rfl ntmps251 rfl ?_;by_cases h:97<=c<;>simp[qS,h]
theorem b0G:CS prog G 252 [.int .u8 c] (.d (.bool (b3F c))) none:=by refine CS.aY func252 rfl ntmps252 rfl ?_;by_cases h:48<=c<;>simp[b3F,h]
theorem b1Q:CS prog G 253 [.int .u8 c] (.d (.bool (b7i c))) none:=by refine CS.aY func253 rfl ntmps253 rfl ?_;by_cases h:65<=c<;>simp[b7i,h]
theorem vF:CS prog G 270 [.int .u8 c] (.d (.bool (qS c))) none:=by refine CS.aY func270 rfl ntmps270 rfl ?_;by_cases h:97<=c<;>simp[qS,h]
theorem a1g:CS prog G 271 [.int .u8 c] (.d (.bool (b3F c))) none:=by refine CS.aY func271 rfl ntmps271 rfl ?_;by_cases h:48<=c<;>simp[b3F,h]
theorem a4o:CS prog G 272 [.int .u8 c] (.d (.bool (b7i c))) none:=by refine CS.aY func272 rfl ntmps272 rfl ?_;by_cases h:65<=c<;>simp[b7i,h]
theorem b0H:CS prog G 237 [.str s] (.d (.bool (sizedB s))) none:=by refine CS.aY func237 rfl ntmps237 rfl ?_;by_cases h:1<=s.length<;>simp[sizedB,h]
theorem a3L(hs:s.length<=1000000:=by omega):CS prog G 238 [.str s] (.d (.bool (rV anB s))) none:=by
 refine CS.aY func238 rfl ntmps238 rfl ?_;simp;refine SW.eA (ι:={i:Nat//i<=s.length/\rV anB s=rV anB (s.drop i)}) (λi=>[(3,.d (.int .i64 i.1))]) (λ_=>[]) (λ_=>[]) (λi=>s.length-i.1) ⟨0,by simp⟩ (by simp) ?_;rintro⟨i,hi,he⟩;by_cases aG:i<s.length
 .simp[aG];refine aC.mk a3K (a5F) ?_;have hw:=aX (show i<9223372036854775807 by omega);cases h1:qS s[i].toNat
  .simp[aG];refine aC.mk (.mk func253 rfl) (b1Q) ?_;cases h2:b7i s[i].toNat
   .simp[aG];refine aC.mk (.mk func252 rfl) (b0G) ?_;cases h3:b3F s[i].toNat
    .simp[aG];exact a2s he aG (by simp[anB,h1,h2,h3])
    .simp[aG];exact bE.mk ⟨i+1,aG,oE he aG (by simp[anB,h3])⟩ (by simp[hw]) (by simp;omega)
   .simp[aG];exact bE.mk ⟨i+1,aG,oE he aG (by simp[anB,h2])⟩ (by simp[hw]) (by simp;omega)
  .simp[aG];exact bE.mk ⟨i+1,aG,oE he aG (by simp[anB,h1])⟩ (by simp[hw]) (by simp;omega)
 .simp[aG];exact a7y he aG
def a7B(s:List UInt8):Bool:=rV wdB s&&(match s with|[]=>true|c::_=>qS c.toNat)
theorem d3N(hs:s.length<=1000000:=by omega):CS prog G 239 [.str s] (.d (.bool (a7B s))) none:=by
 refine CS.aY func239 rfl ntmps239 rfl ?_;simp;refine SW.eA (ι:={i:Nat//i<=s.length/\(0<i->rV wdB s=rV wdB (s.drop i)/\a7B s=rV wdB s)}) (λi=>[(3,.d (.int .i64 i.1))]) (λ_=>[]) (λ_=>[]) (λi=>s.length-i.1) ⟨0,by simp⟩ (by simp) ?_;rintro⟨i,hi,he⟩;by_cases aG:i<s.length
 .have hnx:wdB s[i].toNat=true->(i=0->qS s[i].toNat=true)->(0<i+1->rV wdB s=rV wdB (s.drop (i+1))/\a7B s=rV wdB s):=λhp h0 _=>by
    rcases Nat.eq_zero_or_pos i with hz|hz
    .subst hz;refine⟨oE (i:=0) rfl aG hp,?_⟩;cases s with
     |nil=>rfl
     |cons c s=>have:=h0 rfl;simp at this;simp[a7B,this]
    .exact⟨oE (he hz).1 aG hp,(he hz).2⟩
  have hw:=aX (show i<9223372036854775807 by omega);have pP:wdB s[i].toNat=false->a7B s=false:=λhp=>by
   rcases Nat.eq_zero_or_pos i with hz|hz
   .subst hz;have:=a2s (b:=rV wdB s) (i:=0) rfl aG hp;simp[a7B,this]
   .rw[(he hz).2];exact a2s (he hz).1 aG hp
  simp[aG];refine aC.mk a3K (a5F) ?_;cases h1:qS s[i].toNat
  .rcases Nat.eq_zero_or_pos i with hz|hz
   .subst hz;simp[aG];cases s with
    |nil=>simp at aG
    |cons c s=>simp at h1;simp[a7B,h1]
   .have hz':¬i=0:=by omega
    simp[aG,hz'];refine aC.mk (.mk func252 rfl) (b0G) ?_;cases h3:b3F s[i].toNat
    .by_cases h4:s[i].toNat=95
     .simp[aG,h4];exact bE.mk ⟨i+1,aG,hnx (by simp[wdB,h4]) (λh=>absurd h hz')⟩ (by simp[hw]) (by simp;omega)
     .have h5:¬((s[i].toNat:Int)=95):=by omega
      simp[aG,h4,h5];exact pP (by simp[wdB,h1,h3,h5])
    .simp[aG];exact bE.mk ⟨i+1,aG,hnx (by simp[wdB,h3]) (λh=>absurd h hz')⟩ (by simp[hw]) (by simp;omega)
  .simp[aG];exact bE.mk ⟨i+1,aG,hnx (by simp[wdB,h1]) (λ_=>h1)⟩ (by simp[hw]) (by simp;omega)
 .simp[aG];rcases Nat.eq_zero_or_pos i with hz|hz
  .subst hz;have:s=[]:=by simpa using aG
   subst this
   rfl
  .rw[(he hz).2];exact a7y (he hz).1 aG
open Go Go.VM
variable {G:GT}
def kwL:List (List UInt8):=[[97,110,100],[97,115,115,117,109,101],[98,111,111,108],[98,111,117,110,100],[99,97,115,101],[99,101,108,108],[99,108,97,115,115],[100,97,116,97],[100,101,102],[100,105,118],[101,108,115,101],[101,110,100],[102,97,108,115,101],[102,111,114,97,108,108],[102,117,110],[103,101,116],[105,102],[105,110],[105,110,115,116],[105,110,116],[105,110,118,97,114,105,97,110,116],[108,101,116],[109,97,116,99,104],[109,101,97,115,117,114,101],[109,101,116,114,105,99],[109,111,100],[109,117],[110,101,119],[110,111,116],[111,102],[111,114],[113,117,97,108],[114,101,102,108,101,99,116],[115,101,116],[116,104,101,110],[116,114,117,101],[117,115,101],[118],[118,97,108],[116,97,103],[119,104,101,114,101],[119,105,116,104]]
def aH(s:List UInt8):Bool:=kwL.any λk=>decide (k=s)
def gD:List D:=kwL.map D.str
theorem a0R:VM.Enters prog 144:=.mk func144 rfl
theorem a1Z(hG:G 1=some gD)(s:List UInt8):CS prog G 144 [.str s] (.d (.bool (aH s))) none:=by
 refine CS.aY func144 rfl ntmps144 rfl ?_;have hlen:gD.length=42:=rfl;have f2E:List.take 42 gD=gD:=by rw[<-hlen,g4j]
 simp[hG,hlen,f2E];refine SW.eA (ι:={i:Nat//i<=42/\aH s=(kwL.drop i).any λk=>decide (k=s)}) (λi=>[(6,.d (.int .i64 i.1))]) (λ_=>[]) (λ_=>[]) (λi=>42-i.1) ⟨0,by simp[aH]⟩ (by simp) ?_;rintro⟨i,hi,he⟩;by_cases aG:i<42
 .have hl:i<kwL.length:=aG;have a6Q:gD[i]? =some (.str kwL[i]):=by simp[gD,hl]
  have e6A:gD[i]'(by rw[hlen];exact aG)=.str kwL[i]:=by simp[gD]
  by_cases hk:kwL[i]=s
  .simp[aG,hlen,a6Q,e6A,hk];exact d7g he hl
  .simp[aG,hlen,a6Q,e6A,hk];exact bE.mk ⟨i+1,aG,d7f he hl⟩ (by simp[aX (show i<9223372036854775807 by omega)]) (by simp;omega)
 .simp[aG];exact e3k he aG
def d7k(p:Int->Bool)(s:List UInt8):Bool:=match s with
 |[]=>false
 |c::_=>p c.toNat
theorem yJ(h:0<s.length):d7k p s=p s[0].toNat:=by
 cases s with
 |nil=>simp at h
 |cons c s=>rfl
def wL(s:List UInt8):Bool:=sizedB s&&d7k qS s&& !aH s&&rV wdB s
theorem d3O(hG:G 1=some gD):CS prog G 235 [.str s] (.d (.bool (wL s))) none:=by
 refine CS.aY func235 rfl ntmps235 rfl ?_;simp;refine aC.mk (.mk func237 rfl) (b0H) ?_;cases hz:sizedB s
 .simp[wL,hz]
 .have hl:1<=s.length/\s.length<=24:=by simpa[sizedB]using hz
  have h0:0<s.length:=by omega
  simp[h0];refine aC.mk a3K (a5F) ?_;cases h1:qS s[0].toNat
  .simp[wL,yJ h0,h1]
  .simp;refine aC.mk a0R (a1Z hG _) ?_;cases h2:aH s
   .simp;have hb:wL s=rV wdB s:=by simp[wL,hz,yJ h0,h1,h2]
    refine SW.eA (ι:={i:Nat//1<=i/\i<=s.length/\rV wdB s=rV wdB (s.drop i)}) (λi=>[(3,.d (.int .i64 i.1))]) (λ_=>[]) (λ_=>[]) (λi=>s.length-i.1) ⟨1,g3G _,hl.1,oE (i:=0) rfl h0 (by simp[wdB,h1])⟩ (by simp) ?_;rintro⟨i,hi1,hi,he⟩;by_cases aG:i<s.length
    .have hw:=aX (show i<9223372036854775807 by omega);simp[aG];refine aC.mk a3K (a5F) ?_;cases h1:qS s[i].toNat
     .simp[aG];refine aC.mk (.mk func252 rfl) (b0G) ?_;cases h3:b3F s[i].toNat
      .by_cases h4:s[i].toNat=95
       .simp[aG,h4];exact bE.mk ⟨i+1,by omega,aG,oE he aG (by simp[wdB,h4])⟩ (by simp[hw]) (by simp;omega)
       .simp[aG,h4];rw[hb];exact a2s he aG (by simp[wdB,h1,h3];omega)
      .simp[aG];exact bE.mk ⟨i+1,by omega,aG,oE he aG (by simp[wdB,h3])⟩ (by simp[hw]) (by simp;omega)
     .simp[aG];exact bE.mk ⟨i+1,by omega,aG,oE he aG (by simp[wdB,h1])⟩ (by simp[hw]) (by simp;omega)
    .simp[aG];rw[hb];exact a7y he aG
   .simp[wL,h2]
def oF(s:List UInt8):Bool:=sizedB s&&d7k b7i s&&rV anB s&& !decide (s=[73,110,116])&& !decide (s=[66,111,111,108])&& !decide (s=[67,101,108,108])&& !decide (s=[70,117,110])
theorem d0d:CS prog G 236 [.str s] (.d (.bool (oF s))) none:=by
 refine CS.aY func236 rfl ntmps236 rfl ?_;simp;refine aC.mk (.mk func237 rfl) (b0H) ?_;cases hz:sizedB s
 .simp[oF,hz]
 .have hl:1<=s.length/\s.length<=24:=by simpa[sizedB]using hz
  have h0:0<s.length:=by omega
  simp[h0];refine aC.mk (.mk func253 rfl) (b1Q) ?_;cases h1:b7i s[0].toNat
  .simp[oF,yJ h0,h1]
  .simp;refine aC.mk (.mk func238 rfl) (a3L) ?_;cases h2:rV anB s
   .simp[oF,h2]
   .by_cases e1:s=[73,110,116]
    .simp[oF,e1]
    by_cases e2:s=[66,111,111,108]
    .simp[oF,e2]
    by_cases e3:s=[67,101,108,108]
    .simp[oF,e3]
    simp[oF,hz,yJ h0,h1,h2,e1,e2,e3]
def hZ:List UInt8->List UInt8×List UInt8×Bool
 |[]=>([],[],false)
 |c::r=>if c.toNat=46 then([],r,true) else(c::(hZ r).1,(hZ r).2)
theorem d2h:∀(s:List UInt8)(i:Nat),(∀j (h:j<s.length),j<i->s[j].toNat≠46)->i<=s.length->hZ s=(s.take i++(hZ (s.drop i)).1,(hZ (s.drop i)).2)
 |s,0,_,_=>by simp
 |[],i+1,_,h=>by simp at h
 |c::r,i+1,hj,h=>by have h0:=hj 0 (by simp) (by omega);simp at h0 h;have ih:=d2h r i (λj h hji=>by have:=hj (j+1) (by simp;omega) (by omega);simpa using this) h;simp[hZ,h0,ih]
theorem c6u(hs:s.length<=1000000:=by omega):CS prog G 234 [.str s] (.cX [.str (hZ s).1,.str (hZ s).2.1,.bool (hZ s).2.2]) none:=by
 refine CS.aY func234 rfl ntmps234 rfl ?_;simp;refine SW.eA (ι:={i:Nat//i<=s.length/\∀j (h:j<s.length),j<i->s[j].toNat≠46}) (λi=>[(5,.d (.int .i64 i.1))]) (λ_=>[]) (λ_=>[]) (λi=>s.length-i.1) ⟨0,by simp⟩ (by simp) ?_;rintro⟨i,hi,he⟩;have d3P:=d2h s i he hi;by_cases aG:i<s.length
 .by_cases h4:s[i].toNat=46
  .have hw:IntKind.i64.wrap ((i:Int)+1)=((i+1:Nat):Int):=aX (by omega);rw[g3D aG]at d3P;simp only[hZ,h4,if_true]at d3P;have h1:i+1<=s.length:=aG;simp[aG,h4,d3P,hw,hi,h1];exact a7x.mk
  .simp[aG,h4];refine bE.mk ⟨i+1,aG,λj h hj=>?_⟩ (by simp[aX (show i<9223372036854775807 by omega)]) (by simp;omega);by_cases hji:j=i
   .subst hji;exact h4
   .exact he j h (by omega)
 .have:i=s.length:=by omega
  subst this;rw[List.drop_length]at d3P;simp[hZ]at d3P;simp[aG,d3P]
open Go Go.VM
variable {G:GT}
def kH:List UInt8->List (List UInt8)
 |[]=>[[]]
 |c::r=>if c.toNat=46 then []::kH r else match kH r with
  |p::ps=>(c::p)::ps
  |[]=>[[c]]
theorem a5G:∀s,kH s=(hZ s).1::(if (hZ s).2.2=true then kH (hZ s).2.1 else [])
 |[]=>rfl
 |c::r=>by
  by_cases hc:c.toNat=46
  .simp[kH,hZ,hc]
  .simp only[kH,hZ,hc,if_false];rw[a5G r]
theorem d2i:∀s,(hZ s).2.2=true->(hZ s).2.1.length<s.length
 |[],h=>by simp[hZ]at h
 |c::r,h=>by
  unfold hZ at h|-;split
  .simp
  .rename_i hc;simp[hc]at h;have:=d2i r h;simp;omega
theorem c6v:∀s,(hZ s).1.length<=s.length
 |[]=>by simp[hZ]
 |c::r=>by
  unfold hZ;split
  .simp
  .simp;exact c6v r
theorem b3G:∀s,(hZ s).2.1.length<=s.length
 |[]=>by simp[hZ]
 |c::r=>by
  unfold hZ;split
  .simp
  .simp;have:=b3G r;omega
def wM(p:List UInt8):Bool:=sizedB p&&(rV anB p||a7B p)
def sT(s:List UInt8):Bool:=decide (s.length<=120)&&(match kH s with
 |[]=>false
 |p::ps=>(wL p||oF p||(decide (p=[118])&& !ps.isEmpty))&&ps.all wM)
def gU(b:Bool):Int:=if b then 0 else 3
theorem d3Q(s:List UInt8):sT s=(decide (s.length<=120)&&((wL (hZ s).1||oF (hZ s).1||(decide ((hZ s).1=[118])&&(hZ s).2.2))&&(if (hZ s).2.2=true then(kH (hZ s).2.1).all wM else true))):=by
 unfold sT;rw[a5G s];cases hm:(hZ s).2.2
 .simp
 .have:(kH (hZ s).2.1).isEmpty=false:=by rw[a5G];rfl
  simp[this]
theorem d3R(hG:G 1=some gD)(s:List UInt8):CS prog G 225 [.str s] (.d (.int .i64 (gU (sT s)))) none:=by
 refine CS.aY func225 rfl ntmps225 rfl ?_;by_cases hl:120<s.length
 .have:¬s.length<=120:=by omega
  simp[hl,sT,this,gU]
 .have hl':s.length<=120:=by omega
  simp[hl];refine aC.mk (.mk func234 rfl) (c6u) ?_;simp;refine aC.mk (.mk func235 rfl) (d3O hG) ?_;have c1C:=d3Q s;simp only[hl',decide_true,Bool.true_and]at c1C;have b7j:(wL (hZ s).1||oF (hZ s).1||(decide ((hZ s).1=[118])&&(hZ s).2.2))=false->sT s=false:=λh=>by rw[c1C,h];rfl
  have hgo:(wL (hZ s).1||oF (hZ s).1||(decide ((hZ s).1=[118])&&(hZ s).2.2))=true->sT s=if (hZ s).2.2=true then(kH (hZ s).2.1).all wM else true:=λh=>by rw[c1C,h];rfl
  cases h1:wL (hZ s).1;rotate_left;simp
  replace hgo:=hgo (by simp[h1])
  rotate_left;simp;refine aC.mk (.mk func236 rfl) (d0d) ?_;cases h2:oF (hZ s).1;rotate_left;simp
  replace hgo:=hgo (by simp[h1,h2])
  rotate_left 2;by_cases h3:(hZ s).1=[118];rotate_left
  .simp[h3];rw[b7j (by rw[h1,h2];simp[h3])]
   rfl
  rotate_left 2;cases h4:(hZ s).2.2
  .simp[h3,h4];rw[b7j (by rw[h1,h2];simp[h3,h4])]
   rfl
  simp[h3,h4]
  replace hgo:=hgo (by rw[h1,h2];simp[h3,h4])
  all_goals
   refine SW.eA (ι:={x:List UInt8×Bool//x.1.length<=120/\sT s=if x.2=true then(kH x.1).all wM else true}) (λx=>[(4,.d (.str x.1.1)),(5,.d (.bool x.1.2))]) (λ_=>[]) (λ_=>[]) (λx=>if x.1.2=true then x.1.1.length+1 else 0) ⟨((hZ s).2.1,(hZ s).2.2),by have:=b3G s;simp;omega,hgo⟩ (by simp[*]) ?_;rintro⟨⟨r,m⟩,hr,he⟩;cases m
   .simp;rw[he]
    rfl
   .simp at hr he;simp;refine aC.mk (.mk func234 rfl) (c6u) ?_;have hlen:=c6v r;simp;refine aC.mk (.mk func237 rfl) (b0H) ?_;have eQ:sT s=(wM (hZ r).1&&(if (hZ r).2.2=true then(kH (hZ r).2.1).all wM else true)):=by rw[he,a5G r];cases (hZ r).2.2<;>simp
    have hnx:wM (hZ r).1=true->sT s=(if (hZ r).2.2=true then(kH (hZ r).2.1).all wM else true):=λhp=>by rw[eQ,hp];rfl
    have hm:(if (hZ r).2.2=true then(hZ r).2.1.length+1 else 0)<r.length+1:=by
     cases hm:(hZ r).2.2
     .simp
     .have:=d2i r hm;simp;exact this
    have jG:(hZ r).2.1.length<=120:=by have:=b3G r;omega
    have vB:wM (hZ r).1=false->sT s=false:=λhp=>by rw[eQ,hp];rfl
    cases g1:sizedB (hZ r).1
    .simp;rw[vB (by simp[wM,g1])]
     rfl
    .simp;refine aC.mk (.mk func238 rfl) (a3L) ?_;cases g2:rV anB (hZ r).1
     .simp;refine aC.mk (.mk func239 rfl) (d3N) ?_;cases g3:a7B (hZ r).1
      .simp;rw[vB (by simp[wM,g1,g2,g3])]
       rfl
      .simp;exact bE.mk ⟨((hZ r).2.1,(hZ r).2.2),jG,hnx (by simp[wM,g1,g3])⟩ (by simp) (by simpa using hm)
     .simp;exact bE.mk ⟨((hZ r).2.1,(hZ r).2.2),jG,hnx (by simp[wM,g1,g2])⟩ (by simp) (by simpa using hm)
open Go Go.VM
variable {G:GT}
def strs(l:List (List UInt8)):List (List D):=l.map λs=>[.str s]
theorem a7C(l:List (List UInt8)):(strs l).length=l.length:=by simp[strs]
variable{l:List (List UInt8)}
theorem d3S(h:i<(strs l).length):(strs l)[i]=[.str (l[i]'(by rw[<-a7C l];exact h))]:=by simp[strs]
theorem d7l(l:List (List UInt8)):(∀x,x∈strs l->x.length=1)=True:=by simp[strs]
theorem d7m(l:List (List UInt8))(s:List UInt8):strs (l++[s])=strs l++[[.str s]]:=by simp[strs]
attribute [simp] a7C d3S d7l d7m
theorem b7k(h:i<l.length):(strs l)[i]? =some [.str l[i]]:=by simp[strs,h]
def b1R(s:List UInt8):List (List UInt8)->Nat->Int
 |[],_=> -1
 |k::r,i=>if k=s then i else b1R s r (i+1)
theorem d0f{j:Nat}(h:i<l.length):b1R s (l.drop i) j=if l[i]=s then(j:Int) else b1R s (l.drop (i+1)) (j+1):=by
 rw[g3D h]
 rfl
theorem c1D(s:List UInt8):∀(l:List (List UInt8))(i:Nat),decide (0<=b1R s l i)=l.any λk=>decide (k=s)
 |[],i=>by simp[b1R]
 |k::r,i=>by
  unfold b1R;by_cases h:k=s
  .simp[h]
  .simp[h,c1D s r]
theorem d0g(l:List (List UInt8))(s:List UInt8)(hl:l.length<=1000000:=by decide):CS prog G 173 [.sl (strs l),.str s] (.d (.int .i64 (b1R s l 0))) none:=by
 refine CS.aY func173 rfl ntmps173 rfl ?_;simp[a7C];refine SW.eA (ι:={i:Nat//i<=l.length/\b1R s l 0=b1R s (l.drop i) i}) (λi=>[(8,.d (.int .i64 i.1))]) (λ_=>[]) (λ_=>[]) (λi=>l.length-i.1) ⟨0,by simp⟩ (by simp) ?_;rintro⟨i,hi,he⟩;by_cases aG:i<l.length
 .have hg:=b7k aG;rw[d0f aG]at he;by_cases hk:l[i]=s
  .simp[aG,a7C,hg,hk];rw[if_pos hk]at he;rw[he]
  .simp[aG,a7C,hg,hk];rw[if_neg hk]at he;exact bE.mk ⟨i+1,aG,he⟩ (by simp[aX (show i<9223372036854775807 by omega)]) (by simp;omega)
 .simp[aG];rw[he,List.drop_of_length_le (by omega)]
  rfl
theorem b7l:CS prog G 174 [] (.d (.sl (strs kwL))) none:=by refine CS.aY func174 rfl ntmps174 rfl ?_;simp[show List.range 42=[0,1,2,3,4,5,6,7,8,9,10,11,12,13,14,15,16,17,18,19,20,21,22,23,24,25,26,27,28,29,30,31,32,33,34,35,36,37,38,39,40,41] from rfl];simp[strs,kwL]
theorem a4p(s:List UInt8):CS prog G 154 [.str s] (.d (.bool (aH s))) none:=by refine CS.aY func154 rfl ntmps154 rfl ?_;simp;refine aC.mk (.mk func174 rfl) b7l ?_;simp;refine aC.mk (.mk func173 rfl) (d0g kwL s) ?_;have:=c1D s kwL 0;simp;simp[aH, <- this]
theorem c6x:CS prog G 261 [.str s] (.d (.int .i64 (gU (wL s)))) none:=by
 refine CS.aY func261 rfl ntmps261 rfl ?_;by_cases hl1:s.length<1
 .have:sizedB s=false:=by simp[sizedB];omega
  simp[hl1,wL,this,gU]
 by_cases hl2:24<s.length
 .have:sizedB s=false:=by simp[sizedB];omega
  simp[hl1,hl2,wL,this,gU]
 have hz:sizedB s=true:=by simp[sizedB];omega
 have h0:0<s.length:=by omega
 simp[hl1,hl2,h0];refine aC.mk tE (vF) ?_;cases h1:qS s[0].toNat
 .simp[wL,yJ h0,h1,gU]
 simp;refine aC.mk (.mk func154 rfl) (a4p _) ?_;cases h2:aH s
 .simp;have hb:wL s=rV wdB s:=by simp[wL,hz,yJ h0,h1,h2]
  refine SW.eA (ι:={i:Nat//i<=s.length/\rV wdB s=rV wdB (s.drop i)}) (λi=>[(24,.d (.int .i64 i.1))]) (λ_=>[]) (λ_=>[]) (λi=>s.length-i.1) ⟨0,by simp⟩ (by simp) ?_;rintro⟨i,hi,he⟩;by_cases aG:i<s.length
  .have hw:=aX (show i<9223372036854775807 by omega);simp[aG];refine aC.mk tE (vF) ?_;cases h1:qS s[i].toNat
   .simp[aG];refine aC.mk zI (a1g) ?_;cases h3:b3F s[i].toNat
    .by_cases h4:s[i].toNat=95
     .simp[aG,h4];exact bE.mk ⟨i+1,aG,oE he aG (by simp[wdB,h4])⟩ (by simp[hw]) (by simp;omega)
     .simp[aG,h4];rw[hb,a2s he aG (by simp[wdB,h1,h3];omega)]
      rfl
    .simp[aG];exact bE.mk ⟨i+1,aG,oE he aG (by simp[wdB,h3])⟩ (by simp[hw]) (by simp;omega)
   .simp[aG];exact bE.mk ⟨i+1,aG,oE he aG (by simp[wdB,h1])⟩ (by simp[hw]) (by simp;omega)
  .simp[aG];rw[hb,a7y he aG]
   rfl
 .simp[wL,h2,gU]
theorem c6y:CS prog G 262 [.str s] (.d (.int .i64 (gU (oF s)))) none:=by
 refine CS.aY func262 rfl ntmps262 rfl ?_;by_cases hl1:s.length<1
 .have:sizedB s=false:=by simp[sizedB];omega
  simp[hl1,oF,this,gU]
 by_cases hl2:24<s.length
 .have:sizedB s=false:=by simp[sizedB];omega
  simp[hl1,hl2,oF,this,gU]
 have hz:sizedB s=true:=by simp[sizedB];omega
 have h0:0<s.length:=by omega
 simp[hl1,hl2,h0];refine aC.mk (.mk func272 rfl) (a4o) ?_;cases h1:b7i s[0].toNat
 .simp[oF,yJ h0,h1,gU]
 by_cases e1:s=[73,110,116]
 .simp[oF,e1,gU]
 by_cases e2:s=[66,111,111,108]
 .simp[oF,e2,gU]
 by_cases e3:s=[67,101,108,108]
 .simp[oF,e3,gU]
 by_cases e4:s=[70,117,110]
 .simp[oF,e4,gU]
 simp[e1,e2,e3,e4];have hb:oF s=rV anB s:=by simp[oF,hz,yJ h0,h1,e1,e2,e3,e4]
 refine SW.eA (ι:={i:Nat//i<=s.length/\rV anB s=rV anB (s.drop i)}) (λi=>[(36,.d (.int .i64 i.1))]) (λ_=>[]) (λ_=>[]) (λi=>s.length-i.1) ⟨0,by simp⟩ (by simp) ?_;rintro⟨i,hi,he⟩;by_cases aG:i<s.length
 .have hw:=aX (show i<9223372036854775807 by omega);simp[aG];refine aC.mk tE (vF) ?_;cases h1:qS s[i].toNat
  .simp[aG];refine aC.mk (.mk func272 rfl) (a4o) ?_;cases h2:b7i s[i].toNat
   .simp[aG];refine aC.mk zI (a1g) ?_;cases h3:b3F s[i].toNat
    .simp[aG];rw[hb,a2s he aG (by simp[anB,h1,h2,h3])]
     rfl
    .simp[aG];exact bE.mk ⟨i+1,aG,oE he aG (by simp[anB,h3])⟩ (by simp[hw]) (by simp;omega)
   .simp[aG];exact bE.mk ⟨i+1,aG,oE he aG (by simp[anB,h2])⟩ (by simp[hw]) (by simp;omega)
  .simp[aG];exact bE.mk ⟨i+1,aG,oE he aG (by simp[anB,h1])⟩ (by simp[hw]) (by simp;omega)
 .simp[aG];rw[hb,a7y he aG]
  rfl
end
end Go.Proofs.YtmfbjecjccipfaaGreatDoor
section
namespace Go.VM
open Go Go.RowKit Go.ChangeShapes Go.WideShapes
mutual
def flat {H:Type}:DataW H->List D
 |.lit (.int k n)=>[.int k n]
 |.lit (.bool b)=>[.bool b]
 |.lit (.string s)=>[.str s]
 |.nil=>[.sl []]
 |.slice es _=>[.sl (a1h es)]
 |.agg ps=>zJ ps
 |_=>[]
def a1h {H:Type}:List (DataW H)->List (List D)
 |[]=>[]
 |d::r=>flat d::a1h r
def zJ {H:Type}:List (DataW H)->List D
 |[]=>[]
 |d::r=>flat d++zJ r
end
theorem b4P{H:Type}:∀l:List (DataW H),a1h l=l.map flat
 |[]=>by simp[a1h]
 |d::r=>by simp[a1h,b4P r]
theorem b7m{H:Type}:∀l:List (DataW H),zJ l=(l.map flat).flatten
 |[]=>by simp[zJ]
 |d::r=>by simp[zJ,b7m r]
inductive a3M (P:Program):TypeId->List D->Prop
 |bool {t:TypeId} {b:Bool}:P.underlying t=some .bool->a3M P t [.bool b]
 |int {t:TypeId} {k:IntKind} {n:Int}:P.underlying t=some (.int k)->(Lit.int k n).wf=true->a3M P t [.int k n]
 |str {t:TypeId} {s:List UInt8}:P.underlying t=some .string->s.length<=maxLen->a3M P t [.str s]
 |sl {t e:TypeId} {es:List (List D)}:P.underlying t=some (.slice e)->es.length<=maxLen->(∀x∈es,a3M P e x)->a3M P t [.sl es]
 |struct {t:TypeId} {fs:Array Field} {ds:List D}:P.underlying t=some (.struct fs)->ds.length=P.cellsOf t->(∀f∈fs.toList,a3M P f.type ((ds.drop f.offset).take (P.cellsOf f.type)))->a3M P t ds
 |array {t e:TypeId} {n:Nat} {ds:List D}:P.underlying t=some (.array n e)->ds.length=P.cellsOf t->(∀i,i<n->a3M P e ((ds.drop (i*P.cellsOf e)).take (P.cellsOf e)))->a3M P t ds
def a3N(P:Program)(L:List TypeId):Bool:=L.all λt=>decide (t<P.types.size)&&match P.underlying t with
 |some .bool|some (.int _)|some .string=>true
 |some (.slice e)=>L.contains e&&decide (0<P.cellsOf e)
 |some (.struct fs)=>fs.toList.all λf=>L.contains f.type
 |some (.array _ e)=>L.contains e
 |_=>false
variable{v:Value}{w:World}{a:Addr}
theorem c6z{m:Nat}(h:w.cell? (a.add m)=some v):w.cell? ⟨a.block,a.off+m,none⟩=some v:=by
 obtain⟨b,o,sp⟩:=a;by_cases hm:m=0
 .subst hm;simp only[Addr.add,if_true]at h;unfold World.cell? at h|-;simp only at h|-;cases hb:w.heap[b]? with
  |none=>rw[hb]at h;cases h
  |some o'=>
   rw[hb]at h;cases o' with
   |cells c _ _=>
    simp only at h|-;split at h
    .cases h
    .simpa using h
   |_=>cases h
 .simpa[Addr.add,hm]using h
theorem d3T(h:w.cell? a=some v):a.spot=none:=by
 unfold World.cell? at h;split at h
 .split at h
  .cases h
  .rename_i hs;simpa using hs
 .cases h
theorem d2j(h:w.cell? a=some v):a.block<w.heap.size:=by
 unfold World.cell? at h;split at h
 .rename_i hb;exact(g3z.1 hb).1
 .cases h
theorem vX{α β:Type}{f:α->Option β}:∀{l:List α}{r:List β},l.mapM f=some r->∀(i:Nat)(a:α),l[i]? =some a->∃b,r[i]? =some b/\f a=some b
 |[],_,_,i,a,ha=>by simp at ha
 |x::l,r,h,i,a,ha=>by
  rw[List.mapM_cons]at h;obtain⟨b,hb,h⟩:=g3E.1 h;obtain⟨bs,hbs,h⟩:=g3E.1 h;cases h;cases i with
  |zero=>simp at ha;subst ha;exact⟨b,rfl,hb⟩
  |succ i=>exact vX hbs i a (by simpa using ha)
theorem a7D{base:Nat}{n:Nat}{cs:List Value}(h:w.cells? base a n=some cs):cs.length=n/\∀j,j<n->w.cell? (a.add j)=some (cs.getD j undef):=by
 unfold World.cells? at h;split at h
 .have hl:=mapM_some_length h;refine⟨by simpa using hl,λj hj=>?_⟩;obtain⟨v,h1,h2⟩:=vX h j j (by simp[hj]);simpa[List.getD,h1]using h2
 .cases h
theorem b1S{α:Type}:∀(ls:List (List α))(j:Nat)(l:List α),ls[j]? =some l->(ls.flatten.drop ((ls.take j).map List.length).sum).take l.length=l
 |[],j,l,h=>by simp at h
 |x::r,0,l,h=>by simp at h;subst h;simp
 |x::r,j+1,l,h=>by simp only[List.getElem?_cons_succ]at h;have:=b1S r j l h;simp only[List.flatten_cons,List.take_succ_cons,List.map_cons,List.sum_cons];rw[<-List.drop_drop,List.drop_append_of_le_length (g3G _),List.drop_length,List.nil_append];exact this
theorem b7n{α:Type}:∀(ls:List (List α))(i:Nat)(x:α),ls.flatten[i]? =some x->∃j l k,ls[j]? =some l/\l[k]? =some x/\i=((ls.take j).map List.length).sum+k
 |[],i,x,h=>by simp at h
 |l::r,i,x,h=>by
  simp only[List.flatten_cons]at h;by_cases hi:i<l.length
  .rw[g3B hi]at h;exact⟨0,l,i,rfl,h,by simp⟩
  .rw[g3y (by omega)]at h;obtain⟨j,l',k,h1,h2,h3⟩:=b7n r _ x h;exact⟨j+1,l',k,h1,h2,by rw[List.take_succ_cons,List.map_cons,List.sum_cons];omega⟩
section
variable {P:Program} {H:Type} {enc:TypeId×Value->H} {w:World} {sp:Nat->Bool} {held:Bool} {L:List TypeId}
abbrev RW(w:World):Nat->Nat->Prop:=λb _=>b<w.heap.size
theorem b7o{parts:List (DataW H×List MemPlace)}{cs:List Value}{offs:List Nat}{szs:List Nat}(hl:offs.length=parts.length)(hl':szs.length=parts.length)(b5R:∀(j:Nat)(o:Nat),offs[j]? =some o->o=(szs.take j).sum)(sS:cs.length=szs.sum)(h:∀(j:Nat)(y:DataW H×List MemPlace)(o s:Nat),parts[j]? =some y->offs[j]? =some o->szs[j]? =some s->(flat y.1).length=((cs.drop o).take s).length/\∀i d,(flat y.1)[i]? =some d->d.one=true/\V (RW w) w (((cs.drop o).take s).getD i undef) d):
  (zJ (parts.map (·.1))).length=cs.length/\(∀(j:Nat)(y:DataW H×List MemPlace)(o s:Nat),parts[j]? =some y->offs[j]? =some o->szs[j]? =some s->((zJ (parts.map (·.1))).drop o).take s=flat y.1)/\
   ∀i d,(zJ (parts.map (·.1)))[i]? =some d->d.one=true/\V (RW w) w (cs.getD i undef) d:=by
 rw[b7m,List.map_map];have hlen:∀(j:Nat)(y:DataW H×List MemPlace)(o s:Nat),parts[j]? =some y->offs[j]? =some o->szs[j]? =some s->(flat y.1).length=s:=λj y o s h1 h2 h3=>by
  rw[(h j y o s h1 h2 h3).1,g4c,g4p];have:=b5R j o h2;have hle:(szs.take j).sum+s<=szs.sum:=by
   have hj:j<szs.length:=(g3r.1 h3).1;have hs:szs[j]=s:=by rw[g3u hj]at h3;exact Option.some.inj h3
   have e:szs.sum=(szs.take j).sum+(szs.drop j).sum:=by rw[<-List.sum_append,g4d]
   rw[e,g3D hj,List.sum_cons,hs];omega
  omega
 have f2F:parts.map (List.length∘flat∘(·.1))=szs:=by
  apply List.ext_getElem?;intro j;rw[g3A];by_cases hj:j<parts.length
  .have h1:parts[j]? =some parts[j]:=g3u hj;have h2:offs[j]? =some (offs[j]'(by omega)):=g3u _;have h3:szs[j]? =some (szs[j]'(by omega)):=g3u _;rw[h1,h3];simpa using hlen j _ _ _ h1 h2 h3
  .rw[g3X (by omega),g3X (by omega)]
   rfl
 have b0I:∀j,(((parts.map (flat∘(·.1))).take j).map List.length).sum=(szs.take j).sum:=λj=>by rw[<-f2F, <- List.map_take, <- List.map_take,List.map_map]
 refine⟨?_,λj y o s h1 h2 h3=>?_,λi d hi=>?_⟩
 .rw[List.length_flatten,List.map_map,f2F,sS]
 .have:=b1S (parts.map (flat∘(·.1))) j (flat y.1) (by rw[g3A,h1];rfl);rw[b0I, <- b5R j o h2,hlen j y o s h1 h2 h3]at this;exact this
 .obtain⟨j,l,k,h1,h2,h3⟩:=b7n _ i d hi;rw[b0I]at h3;rw[g3A]at h1;obtain⟨y,hy,rfl⟩:=g3p.1 h1;have hj:j<parts.length:=(g3r.1 hy).1;have e2:offs[j]? =some (offs[j]'(by omega)):=g3u _;have e3:szs[j]? =some (szs[j]'(by omega)):=g3u _;obtain⟨q1,q2⟩:=h j y _ _ hy e2 e3;obtain⟨q3,q4⟩:=q2 k d h2;refine⟨q3,?_⟩;have hk:k<(flat y.1).length:=(g3r.1 h2).1;rw[hlen j y _ _ hy e2 e3]at hk;have:((cs.drop (offs[j]'(by omega))).take (szs[j]'(by omega))).getD k undef=cs.getD i undef:=by simp only[List.getD,g3W,hk,if_true,g3J];rw[h3,b5R j _ e2]
  rwa[this]at q4
theorem b3H(qZ:laidOutB P=true)(hp:a3N P L=true):∀(n:Nat)(t:TypeId)(cs:List Value)(x:DataW H×List MemPlace),L.contains t=true->DataW.trod enc P w 0 sp held n t cs=some x->
  (flat x.1).length=cs.length/\a3M P t (flat x.1)/\∀i d,(flat x.1)[i]? =some d->d.one=true/\V (RW w) w (cs.getD i undef) d:=by
 intro n
 induction n with
 |zero=>intro t cs x _ h;simp[DataW.trod]at h
 |succ n ih=>
  intro t cs x hT h;have rI:=g3t.1 hp t (by simpa using hT);simp only[g3q,g4e]at rI;obtain⟨hts,rI⟩:=rI;rw[DataW.trod_step]at h;have one:∀(v:Value)(d:D),d.one=true->V (RW w) w v d->∀i d',([d]:List D)[i]? =some d'->d'.one=true/\V (RW w) w ([v].getD i undef) d':=λv d h1 h2 i d' hi=>by
   cases i with
   |zero=>simp at hi;subst hi;exact⟨h1,h2⟩
   |succ i=>simp at hi
  unfold DataW.trodStep at h;split at h
  case h_1 b hu=>simp at h;subst h;exact⟨rfl,.bool hu,one _ _ rfl (.bool b)⟩
  case h_2 k k' m hu=>
   split at h
   .rename_i hk;obtain⟨rfl,hk⟩:=hk;simp at h;subst h;exact⟨rfl,.int hu hk,one _ _ rfl (.int _ _)⟩
   .cases h
  case h_3 hu=>rw[hu]at rI;cases rI
  case h_4 s hu=>
   split at h
   .rename_i hs;simp at h;subst h;exact⟨rfl,.str hu (by simpa using hs),one _ _ rfl (.str s.data.toList)⟩
   .cases h
  case h_5 hu=>rw[hu]at rI;cases rI
  case h_6 hu=>rw[hu]at rI;cases rI
  case h_7 e hu=>simp at h;subst h;exact⟨rfl,.sl hu (by simp) (by simp),one _ _ rfl (.emp none 0)⟩
  case h_8 e a len cap hu=>
   rw[hu]at rI;simp only[g3q,g4e]at rI;obtain⟨heL,mQ⟩:=rI;simp only at h;split at h
   .rename_i hc;obtain⟨_,hlc,hcm⟩:=hc;simp only[g3p,g3E]at h;obtain⟨elems,he,rest,_,rfl⟩:=h;have hlen:elems.length=len:=by simpa using mapM_some_length he
    have each:∀(i:Nat)(y:DataW H×List MemPlace),elems[i]? =some y->∃xU,w.cells? 0 (a.add (i*P.cellsOf e)) (P.cellsOf e)=some xU/\DataW.trod enc P w 0 sp held n e xU=some y:=λi y hy=>by
     have hi:i<len:=by have:=(g3r.1 hy).1;omega
     obtain⟨v,h1,h2⟩:=vX he i i (by simp[hi]);rw[hy]at h1;cases h1;simpa only[g3E]using h2
    simp only[flat,b4P,List.map_map];refine⟨rfl,.sl hu (by simp[hlen];omega) (λz hz=>?_),?_⟩
    .obtain⟨y,hy,rfl⟩:=g3L.1 hz;obtain⟨i,hi⟩:=List.mem_iff_getElem?.1 hy;obtain⟨xU,h1,h2⟩:=each i y hi;exact(ih e xU y heL h2).2.1
    .refine one _ _ rfl ?_;by_cases h0:len=0
     .subst h0;have:elems=[]:=g4a hlen;subst this;exact .emp _ _
     .obtain⟨y0,hy0⟩:∃y,elems[0]? =some y:=⟨elems[0]'(by omega),g3u _⟩;obtain⟨cs0,hc0,_⟩:=each 0 y0 hy0;have h00:=(a7D hc0).2 0 mQ;have e6C:a.spot=none:=by simpa[Addr.add]using d3T h00
      obtain⟨b,o,sp0⟩:=a;simp only at e6C;subst e6C;have cell:∀(i j:Nat),i<len->j<P.cellsOf e->∃y xU,elems[i]? =some y/\DataW.trod enc P w 0 sp held n e xU=some y/\xU.length=P.cellsOf e/\w.cell? ⟨b,o+i*P.cellsOf e+j,none⟩=some (xU.getD j undef):=λi j hi hj=>by
       have hy:elems[i]? =some (elems[i]'(by omega)):=g3u _;obtain⟨xU,h1,h2⟩:=each i _ hy;obtain⟨h3,h4⟩:=a7D h1;refine⟨_,xU,hy,h2,h3,?_⟩;have h5:=c6z (h4 j hj);have e1:((⟨b,o,none⟩:Addr).add (i*P.cellsOf e)).block=b:=by unfold Addr.add;split<;>rfl
       have e2:((⟨b,o,none⟩:Addr).add (i*P.cellsOf e)).off=o+i*P.cellsOf e:=by
        unfold Addr.add;split
        .rename_i hz;simp[hz]
        .rfl
       rw[e1,e2]at h5;exact h5
      have kid:∀(i j:Nat)(e':List D)(d:D),(elems.map (flat∘(·.1)))[i]? =some e'->e'[j]? =some d->d.one=true/\V (RW w) w ((w.cell? ⟨b,o+i*P.cellsOf e+j,none⟩).getD undef) d:=λi j e' d h1 h2=>by
       rw[g3A]at h1;obtain⟨y,hy,rfl⟩:=g3p.1 h1;have hi:i<len:=by have:=(g3r.1 hy).1;omega
       obtain⟨xU,f2G,htr⟩:=each i y hy;obtain⟨q1,_,q3⟩:=ih e xU y heL htr;obtain⟨p1,p2⟩:=q3 j d h2;have hj:j<P.cellsOf e:=by have:=(g3r.1 h2).1;have h3:=(a7D f2G).1;simp only[Function.comp]at this;omega
       obtain⟨y',cs2,hy',g0l,hl2,rN⟩:=cell i j hi hj;rw[hy]at hy';cases hy';obtain⟨h3,h4⟩:=a7D f2G;have h5:=c6z (h4 j hj);have e1:((⟨b,o,none⟩:Addr).add (i*P.cellsOf e)).block=b:=by unfold Addr.add;split<;>rfl
       have e2:((⟨b,o,none⟩:Addr).add (i*P.cellsOf e)).off=o+i*P.cellsOf e:=by
        unfold Addr.add;split
        .rename_i hz;simp[hz]
        .rfl
       rw[e1,e2]at h5;rw[h5];exact⟨p1,p2⟩
      refine .sl b o len cap (P.cellsOf e) _ (λi j=>(w.cell? ⟨b,o+i*P.cellsOf e+j,none⟩).getD undef) (by simp[hlen]) hlc mQ (λx hx=>?_) (λi j hi hj=>?_) (λi j e' d h1 h2=>(kid i j e' d h1 h2).1) (λi j e' d h1 h2=>(kid i j e' d h1 h2).2)
      .obtain⟨y,hy,rfl⟩:=g3L.1 hx;obtain⟨i,hi⟩:=List.mem_iff_getElem?.1 hy;obtain⟨xU,h1,h2⟩:=each i y hi;simp only[Function.comp];rw[(ih e xU y heL h2).1,(a7D h1).1]
      .obtain⟨_,_,_,_,_,rN⟩:=cell i j hi hj;rw[rN];exact⟨d2j rN,rfl⟩
   .cases h
  case h_9 cs _ _ fs hu=>
   rw[hu]at rI;simp only at rI;split at h
   .rename_i hc;obtain⟨hk1,hk2,hk3⟩:=kid_struct qZ hts hu;simp only[g3p]at h;obtain⟨xs,hx,rfl⟩:=h;have hlen:xs.length=fs.toList.length:=mapM_some_length hx;obtain⟨q1,q2,q3⟩:=b7o (w:=w) (parts:=xs) (cs:=cs) (offs:=fs.toList.map (·.offset)) (szs:=fs.toList.map λf=>P.cellsOf f.type) (by simp[hlen]) (by simp[hlen])
     (λj o ho=>by rw[g3A]at ho;obtain⟨f,hf,rfl⟩:=g3p.1 ho;rw[hk3 j f hf,List.map_take]) (by rw[hc,hk2])
     (λj y o s h1 h2 h3=>by rw[g3A]at h2 h3;obtain⟨f,hf,rfl⟩:=g3p.1 h2;rw[hf]at h3;simp only[Option.map_some,g3w]at h3;subst h3;obtain⟨v,p1,p2⟩:=vX hx j f hf;rw[h1]at p1;cases p1;have:=ih f.type _ _ (g3t.1 rI f (g3v hf)) p2;exact⟨this.1,this.2.2⟩)
    simp only[flat];refine⟨q1,.struct hu (by rw[q1,hc]) (λf hf=>?_),q3⟩;obtain⟨j,hj⟩:=List.mem_iff_getElem?.1 hf;obtain⟨v,p1,p2⟩:=vX hx j f hj;rw[q2 j v f.offset (P.cellsOf f.type) p1 (by rw[g3A,hj];rfl) (by rw[g3A,hj];rfl)];exact(ih f.type _ _ (g3t.1 rI f hf) p2).2.1
   .cases h
  case h_10 cs _ _ m e hu=>
   rw[hu]at rI;simp only at rI;split at h
   .rename_i hc;obtain⟨_,hk2⟩:=kid_array qZ hts hu;simp only[g3p]at h;obtain⟨xs,hx,rfl⟩:=h;have hlen:xs.length=m:=by simpa using mapM_some_length hx
    have at':∀(j:Nat)(y:DataW H×List MemPlace),xs[j]? =some y->DataW.trod enc P w 0 sp held n e ((cs.drop (j*P.cellsOf e)).take (P.cellsOf e))=some y:=λj y hy=>by
     have hj:j<m:=by have:=(g3r.1 hy).1;omega
     obtain⟨v,p1,p2⟩:=vX hx j j (by simp[hj]);rw[hy]at p1;cases p1;exact p2
    have e3n:∀j,j<=m->(((List.replicate m (P.cellsOf e)).take j).sum)=j*P.cellsOf e:=λj hj=>by rw[List.take_replicate,Nat.min_eq_left hj,List.sum_replicate_nat]
    obtain⟨q1,q2,q3⟩:=b7o (w:=w) (parts:=xs) (cs:=cs) (offs:=(List.range m).map λi=>i*P.cellsOf e) (szs:=List.replicate m (P.cellsOf e)) (by simp[hlen]) (by simp[hlen])
     (λj o ho=>by
      rw[g3A]at ho;obtain⟨i,hi,rfl⟩:=g3p.1 ho;have hjm:j<m:=by have:=(g3r.1 hi).1;simpa using this
      have:i=j:=by rw[List.getElem?_range hjm]at hi;simpa using hi.symm
      rw[this,e3n j (by omega)]) (by rw[hc,hk2,List.sum_replicate_nat])
     (λj y o s h1 h2 h3=>by
      have hjm:j<m:=by have:=(g3r.1 h1).1;omega
      have ho:o=j*P.cellsOf e:=by rw[g3A,List.getElem?_range hjm]at h2;simpa using h2.symm
      have hs:s=P.cellsOf e:=by rw[g4i,if_pos hjm]at h3;simpa using h3.symm
      subst ho hs;have:=ih e _ _ rI (at' j y h1);exact⟨this.1,this.2.2⟩)
    simp only[flat];refine⟨q1,.array hu (by rw[q1,hc]) (λi hi=>?_),q3⟩;have hy:xs[i]? =some (xs[i]'(by omega)):=g3u _;rw[q2 i _ (i*P.cellsOf e) (P.cellsOf e) hy (by rw[g3A,List.getElem?_range hi];rfl) (by rw[g4i,if_pos hi])];exact(ih e _ _ rI (at' i _ hy)).2.1
   .cases h
  all_goals first|(rename_i hu;rw[hu]at rI;cases rI;done)|(cases h;done)
variable{t:TypeId}
theorem d7n{ds:List D}(hu:P.underlying t=some .string)(h:a3M P t ds):∃s,ds=[.str s]/\s.length<=maxLen:=by
 cases h with
 |str _ h=>exact⟨_,rfl,h⟩
 |_ h1=>rw[hu]at h1;cases h1
def a9L(P:Program)(t:TypeId)(d:D):Prop:=
 match P.underlying t with
 |some u=>if qX u then ∃cs,d=.agg cs/\a3M P t cs else a3M P t [d]
 |none=>False
def b1T(P:Program):List TypeId->List D->Prop
 |[],[]=>True
 |t::ts,d::ds=>a9L P t d/\b1T P ts ds
 |_,_=>False
variable{d:D}{u:TypeDesc}
theorem d3U(hu:P.underlying t=some u)(ha:qX u=false)(h:a9L P t d):a3M P t [d]:=by unfold a9L at h;rw[hu]at h;simp only[ha]at h;exact h
theorem d3V(hu:P.underlying t=some .string)(h:a9L P t d):∃s,d=.str s/\s.length<=maxLen:=by obtain⟨s,h1,h2⟩:=d7n hu (d3U hu rfl h);cases h1;exact⟨s,rfl,h2⟩
variable{b0:Nat}{r:Reach}{v:Value}
theorem b7p(hu:P.underlying t=some u)(ha:qX u=false)(hp:(match P.underlying t with|some .bool|some (.int _)|some .string|some (.slice _)=>true|_=>false)=true)(a3w:Value.okWide P w r b0 t v):v.cells=#[v]:=by
 unfold Value.okWide at a3w;rw[hu]at a3w hp;cases u<;>simp only[qX]at ha<;>(try cases ha)<;>simp only[]at hp<;>(try cases hp)
 all_goals
  simp only[Cell.okWide,hu]at a3w;cases v<;>first|rfl|(simp[Cell.ok,hu]at a3w)
theorem d7o(qZ:laidOutB P=true)(hp:a3N P L=true){d:DataW H}{ps:List MemPlace}(hT:L.contains t=true)(a3w:Value.okWide P w r b0 t v)(h:DataW.Trod enc P w 0 sp held t v d ps):
  ∃x,a9L P t x/\V (RW w) w v x:=by
 obtain⟨n,hn⟩:=h;obtain⟨h1,h2,h3⟩:=b3H qZ hp n t _ _ hT hn;have rI:=g3t.1 hp t (by simpa using hT);simp only[g3q,g4e]at rI;obtain⟨_,rI⟩:=rI;cases hu:P.underlying t with
 |none=>rw[hu]at rI;cases rI
 |some u=>
  cases ha:qX u with
  |true=>
   have hv:∃cs:Array Value,v=.agg cs:=by
    unfold Value.okWide at a3w;rw[hu]at a3w;cases u<;>simp only[qX]at ha<;>(try cases ha)
    .obtain⟨cs,hv,_⟩:=a3w;exact⟨cs,hv⟩
    .obtain⟨cs,hv,_⟩:=a3w;exact⟨cs,hv⟩
   obtain⟨cs,rfl⟩:=hv;refine⟨.agg (flat d),by simp only[a9L,hu,ha,if_true];exact⟨_,rfl,h2⟩,.agg _ _ (by simpa[Value.cells]using h1.symm) (λi x hx=>(h3 i x hx).1) (λi x hx=>?_)⟩;have:=(h3 i x hx).2;simpa[Value.cells,List.getD,g3s]using this
  |false=>
   have hc:v.cells=#[v]:=by refine b7p hu ha ?_ a3w;rw[hu]at rI|-;cases u<;>simp only[qX]at ha<;>(try cases ha)<;>first|rfl|(simp at rI)
   rw[hc]at h1 h3;simp at h1;obtain⟨x,hx⟩:∃x,flat d=[x]:=List.length_eq_one_iff.1 h1;simp only[hx]at h2 h3;refine⟨x,by simp only[a9L,hu,ha];exact h2,?_⟩;simpa using (h3 0 x rfl).2
theorem a4V{r:Reach}{b0:Nat}(qZ:laidOutB P=true)(hp:a3N P L=true):∀{ts:List TypeId}{vs:List Value}{ds:List (DataW H)}{ps:List MemPlace},(∀t∈ts,L.contains t=true)->(∀(j:Nat) t v,ts[j]? =some t->vs[j]? =some v->Value.okWide P w r b0 t v)->
  DataW.TrodAll enc P w 0 sp held ts vs ds ps->∃xs,b1T P ts xs/\vs.length=xs.length/\∀(i:Nat)(d:D),xs[i]? =some d->V (RW w) w (vs.getD i undef) d
 |[],_,_,_,_,_,h=>by obtain⟨rfl,rfl,rfl⟩:=trodAll_nil h;exact⟨[],trivial,rfl,by simp⟩
 |t::ts,_,_,_,hT,hv,h=>by
  obtain⟨v,vs1,d,ds1,a,b,rfl,rfl,rfl,h1,h2⟩:=trodAll_cons h;obtain⟨x,q1,q2⟩:=d7o qZ hp (hT t (.head _)) (hv 0 t v rfl rfl) h1;obtain⟨xs,q3,q4,q5⟩:=a4V qZ hp (λt ht=>hT t (.tail _ ht)) (λj t v a b=>hv (j+1) t v a b) h2;refine⟨x::xs,⟨q1,q3⟩,by simp[q4],λi d hi=>?_⟩;cases i with
  |zero=>simp at hi;subst hi;simpa using q2
  |succ i=>simp at hi;simpa using q5 i d hi
theorem a9M{w':World}{base:Nat}:∀{ts:List TypeId}{vs:List Value}{ds:List (DataW H)}{ps:List MemPlace},DataW.TrodAll enc P w base sp held ts vs ds ps->(∀p∈ps,w.sameAt w' p)->DataW.TrodAll enc P w' base sp held ts vs ds ps
 |[],[],[],_,h,_=>h
 |_::_,_::_,_::_,_,⟨p,q,⟨n,hn⟩,h2,e⟩,hs=>⟨p,q,⟨n,DataW.trod_carry n _ _ _ hn λx hx=>hs x (by rw[e];exact List.mem_append_left _ hx)⟩,a9M h2 λx hx=>hs x (by rw[e];exact List.mem_append_right _ hx),e⟩
theorem b4Q{base:Nat}:∀{ts:List TypeId}{vs:List Value}{ds:List (DataW H)}{ps:List MemPlace},DataW.TrodAll enc P w base sp held ts vs ds ps->ds.length=ts.length
 |[],[],[],_,_=>rfl
 |_::_,_::_,_::_,_,⟨_,_,_,h,_⟩=>by simp[b4Q h]
variable{W:World}
theorem d3W{f:Func}{s:ChangeSpec}{apart fresh handsOn again:Bool}{W':World}{args:Array Value}{ds gs:List (DataW H)}{before:List MemPlace}(hW:DataW.Whole enc P f.params.toList s.vars apart W args.toList ds gs before)(pP:Below W.heap.size W W')(mB:∀(b:Nat)(sp:Nat->Bool)(hd:Bool),DataW.TrodAll enc P W' b sp hd f.resultTypes.toList (v.resultList f.resultTypes.size) (s.fn H (ds++gs)).results [])(pJ:∀sp:Nat->Bool,(∀p∈before,sp p.block=true)->DataW.TrodAll enc P W' 0 sp true f.params.toList args.toList (s.fn H (ds++gs)).args before)(c6A:∀sp:Nat->Bool,(∀p∈before,sp p.block=true)->DataW.TrodVars enc P W' sp s.vars (s.fn H (ds++gs)).vars [])(pG:∀(j:Nat)(t:TypeId)(r:Value),f.resultTypes[j]? =some t->(v.resultList f.resultTypes.size)[j]? =some r->Value.okWide P W' .any 0 t r):
  s.post enc P f apart fresh handsOn again W args v W':=by
 have aG:=hW.lt;have hold:∀p∈before,(λb=>decide (b<W.heap.size)) p.block=true:=λp hp=>by simpa using aG p hp
 refine⟨ds,gs,before,[],before,[],hW,mB _ _ _,pJ _ hold,c6A _ hold,World.keptBut_mono (λp hp=>⟨hp,?_⟩) (pP.frame (· ∈before)),λ_=>?_⟩
 .exact Or.inr (by simpa using hp)
 .obtain⟨_,_,_,_,_,hz,hn⟩:=hW;refine⟨pG,_,_,([]++before)++[],⟨[]++before,[],trodAll_append (pJ _ (λ_ _=>rfl)) (mB _ _ _),c6A _ (λ_ _=>rfl),rfl,?_,?_⟩,?_⟩
  .intro b off hp;have hp':MemPlace.cell b off∈before:=by simpa using hp
   rw[pP.frozen (aG _ hp')];exact hz b off hp'
  .intro ha;simpa using hn ha
  .intro p hp _;simpa using hp
theorem b1U{W:World}:∀{laid:List (String×DataW Unit)}{ps:List MemPlace},DataW.LaidVars P W laid ps->∀(n:String)(d:DataW Unit),(n,d)∈laid->
  ∃g t cs fuel p,P.globalNamed n=some g/\(P.globals[g]?).map (·.type)=some t/\W.var? P n=some cs/\DataW.trod (λ_=>()) P W 0 (λ_=>true) false fuel t cs.toList=some (d,p)
 |[],_,_,n,d,hm=>by cases hm
 |(n',d')::r,_,⟨g,t,cs,fuel,p,q,h1,h2,h3,h4,h5,_⟩,n,d,hm=>by
  rcases g3N.1 hm with he|hm
  .cases he;exact⟨g,t,cs,fuel,p,h1,h2,h3,h4⟩
  .exact b1U h5 n d hm
variable{laid:List (String×DataW Unit)}
theorem laidMetH_plain(hh:(laid.filter λx=>x.2.handleName?.isSome).isEmpty=true)(h:laidMetH P laid W):laidMet P laid W:=by unfold laidMetH at h;rw[List.isEmpty_iff.1 hh]at h;exact h
theorem c6B(hh:(laid.filter λx=>x.2.handleName?.isSome).isEmpty=true)(h:laidMet P laid W):laidMetH P laid W:=by unfold laidMetH;rw[List.isEmpty_iff.1 hh];exact h
theorem c6C(qZ:laidOutB P=true)(hp:a3N P L=true)(hh:(laid.filter λx=>x.2.handleName?.isSome).isEmpty=true)(h:laidMetH P laid W){n:String}{d:DataW Unit}{g:Nat}(hm:(n,d)∈laid)(hg:P.globalNamed n=some g)(ht:(P.globals[g]?).map (·.type)=some t)(hL:L.contains t=true:=by decide):
  Run (RW W) W g 0 (flat d)/\g<W.heap.size/\∃arr T fr,W.heap[g]? =some (.cells arr T fr)/\arr.size=(flat d).length:=by
 obtain⟨ps,hl,_⟩:=laidMetH_plain hh h;obtain⟨g',t',cs,fuel,p,h1,h2,h3,h4⟩:=b1U hl n d hm;rw[hg]at h1;cases h1;rw[ht]at h2;cases h2;obtain⟨q1,_,q3⟩:=b3H qZ hp fuel t _ _ hL h4;simp only[Array.length_toList]at q1;have f6C:∃T fr,W.heap[g]? =some (.cells cs T fr):=by
  unfold World.var? at h3;rw[hg]at h3;simp only[Option.bind_some]at h3;split at h3
  .rename_i T fr hb;cases h3;exact⟨T,fr,hb⟩
  .cases h3
 obtain⟨T,fr,hb⟩:=f6C;refine⟨λj x hj=>?_,(g3z.1 hb).1,cs,T,fr,hb,q1.symm⟩;obtain⟨p1,p2⟩:=q3 j x hj;have hjl:j<cs.size:=by have:=(g3r.1 hj).1;rw[q1]at this;exact this
 have rN:W.cell? ⟨g,0+j,none⟩=some (cs[j]'hjl):=by unfold World.cell?;simp only[hb];simp[hjl]
 refine⟨p1,d2j rN,_,rN,?_⟩;have:cs.toList.getD j undef=cs[j]:=by simp[List.getD,hjl]
 rwa[this]at p2
end
end Go.VM
end
