/- Lemmas. No condition. -/
import Derived.Test.YtmfbjecjccipfaaGreatDoorOvb
import Derived.ReadAgain
import Derived.ChangeSame
import Derived.OpenShut
import Derived.RowKit3
import Derived.KernelRfl
import Derived.Test.YtmfbjecjccipfaaGreatDoorProg
set_option linter.unusedVariables false
set_option linter.unusedSimpArgs false
set_option linter.unusedSectionVars false
set_option maxRecDepth 100000
set_option maxHeartbeats 64000000
open Go.Proofs.Tryz
section
namespace Go.VM
open Go Go.RowKit
def WkT:List DV->List DV->Prop
 |[],[]=>True
 |d::ds,d'::ds'=>(d'=.undef\/d'=d\/(d=.d .aE/\d'=.d (.sl [])))/\WkT ds ds'
 |_,_=>False
def WkO:bH->bH->Prop
 |.cells cs,.cells xG=>WkT cs xG
 |o,o'=>o'=o
def WkH(H:List (Nat×bH)):List (Nat×bH)->Prop
 |[]=>True
 |(k,o')::r=>(∃o,getKey k H=some o/\WkO o o')/\WkH H r
def isNil(s:St):Loc->Bool
 |.t i=>match s.tmps[i]? with
  |some (.d .aE)=>true
  |_=>false
 |.c k off=>match getKey k s.H with
  |some (.cells cs)=>(match cs[off]? with
   |some (.d .aE)=>true
   |_=>false)
  |some (.bld _ u _)=> !u&&off==1
  |_=>false
def a1x(c:TypeId×List Loc):List (TypeId×List Loc)->Option (List (TypeId×List Loc))
 |[]=>none
 |c0::r=>if c0.1=c.1/\(c.2.all λl=>c0.2.contains l)=true then some r else(a1x c r).map (c0:: ·)
def b6t(s:St)(c:TypeId×List Loc):Bool:=
 match c.2 with
 |[]=>true
 |[l]=>isNil s l
 |_=>false
def b1w(s:St):List (TypeId×List Loc)->List (TypeId×List Loc)->Bool
 |_,[]=>true
 |own,c::r=>if b6t s c then b1w s own r else match a1x c own with
  |some own1=>b1w s own1 r
  |none=>false
def bM(H:List (Nat×bH))(own:List (TypeId×List Loc)):Bool:=own.all λc=>c.2.all λl=>match l with
 |.c k _=>(getKey k H).isSome
 |_=>true
structure yE (s s':St):Prop where
 tmps:WkT s.tmps s'.tmps
 H:WkH s.H s'.H
 own:b1w s s.own s'.own=true
 keys:bM s'.H s'.own=true
section
variable {P:Program} {G:GT} {st st':St}
variable {base:dU} {R:Nat->Nat->Prop} {μ:Nat->Nat} {a:Act} {w:World}
theorem a0N:∀{l l':List DV},WkT l l'->l'.length=l.length/\∀(i:Nat)(d':DV),l'[i]? =some d'->∃d,l[i]? =some d/\(d'=.undef\/d'=d\/(d=.d .aE/\d'=.d (.sl [])))
 |[],[],_=>by simp
 |[],_::_,h=>by simp[WkT]at h
 |_::_,[],h=>by simp[WkT]at h
 |d::l,d'::l',h=>by
  obtain⟨h1,h2⟩:=h;obtain⟨q1,q2⟩:=a0N h2;refine⟨by simp[q1],λi x hx=>?_⟩;cases i with
  |zero=>simp at hx;subst hx;exact⟨d,rfl,h1⟩
  |succ i=>simp at hx;simpa using q2 i x hx
theorem c5v{H:List (Nat×bH)}:∀{H':List (Nat×bH)},WkH H H'->∀(k:Nat)(o':bH),getKey k H'=some o'->∃o,getKey k H=some o/\WkO o o'
 |[],_,k,o',h=>by simp[getKey]at h
 |(k1,o1)::r,hw,k,o',h=>by
  obtain⟨⟨o,h1,h2⟩,h3⟩:=hw;unfold getKey at h;split at h
  .rename_i he;simp at h;subst he h;exact⟨o,h1,h2⟩
  .exact c5v h3 k o' h
theorem b5O{b:Nat}{o o':bH}(h:WkO o o')(hr:mV R μ w b o):mV R μ w b o':=by
 cases o with
 |cells cs=>
  cases o' with
  |cells xG=>
   obtain⟨q1,q2⟩:=a0N h;obtain⟨vs,T,h1,h2,h3,h4⟩:=hr;refine⟨vs,T,h1,by rw[h2,q1],λi d' hd'=>?_,λT' hm=>?_⟩
   .obtain⟨d,hd,hc⟩:=q2 i d' hd';obtain⟨p1,p2⟩:=h3 i d hd;rcases hc with rfl|rfl|⟨rfl,rfl⟩
    .exact⟨rfl,.undef _⟩
    .exact⟨p1,p2⟩
    .obtain⟨ao,he⟩:=p2.b1j.mN;rw[he];exact⟨rfl,.d _ _ (.emp _ _)⟩
   .obtain⟨i,hi⟩:=g3q hm;obtain⟨d,hd,hc⟩:=q2 i _ hi;rcases hc with hc|rfl|⟨_,hc⟩
    .cases hc
    .exact h4 T' (g3e hd)
    .cases hc
  |map es=>cases h
  |iter s p=>cases h
  |bld T u es=>cases h
 |map es=>cases o'<;>cases h;exact hr
 |iter s p=>cases o'<;>cases h;exact hr
 |bld T u es=>cases o'<;>cases h;exact hr
theorem a5k{c:TypeId×List Loc}:∀{own own1:List (TypeId×List Loc)},a1x c own=some own1->∃pre c0 post,own=pre++c0::post/\own1=pre++post/\c0.1=c.1/\∀l∈c.2,l∈c0.2
 |[],own1,h=>by simp[a1x]at h
 |c0::r,own1,h=>by
  simp only[a1x]at h;split at h
  .rename_i hc;simp at h;exact⟨[],c0,r,rfl,h.symm,hc.1,λl hl=>by have:=g3c.1 hc.2 l hl;simpa using this⟩
  .simp only[g2Y]at h;obtain⟨r',hr,rfl⟩:=h;obtain⟨pre,c',post,h1,h2,h3,h4⟩:=a5k hr;exact⟨c0::pre,c',post,by simp[h1],by simp[h2],h3,h4⟩
structure c9j (P:Program) (base:dU) (R:Nat->Nat->Prop) (μ:Nat->Nat) (st:St) (a:Act) (w:World) (own:List (TypeId×List Loc)) (vs:List Value):Prop where
 len:vs.length=own.length
 one:∀(i:Nat)(c:TypeId×List Loc)(v:Value),own[i]? =some c->vs[i]? =some v->a5c P base R μ st a w c v
 apart:vs.Pairwise a5Z
variable{v:Value}
theorem a5Z.symm{v':Value}(h:a5Z v v'):a5Z v' v:=λg hg hg'=>h g hg' hg
theorem c9j.take{own own1:List (TypeId×List Loc)}{vs:List Value}{c:TypeId×List Loc}(h:c9j P base R μ st a w own vs)(ht:a1x c own=some own1):
  ∃v vs1,a5c P base R μ st a w c v/\c9j P base R μ st a w own1 vs1/\(∀x∈vs1,x∈vs)/\v∈vs/\∀x∈vs1,a5Z v x:=by
 obtain⟨pre,c0,post,rfl,rfl,h3,h4⟩:=a5k ht;have hpl:pre.length<vs.length:=by rw[h.len];simp
 have c8X:vs=vs.take pre.length++vs[pre.length]::vs.drop (pre.length+1):=by rw[<-g3m hpl,g3M]
 have hc:=h.one pre.length c0 vs[pre.length] (by simp) (g3d hpl);have hap:=h.apart;rw[c8X,List.pairwise_append,List.pairwise_cons]at hap;refine⟨vs[pre.length],vs.take pre.length++vs.drop (pre.length+1),⟨λl hl=>hc.eR l (h4 l hl),by rw[<-h3];exact hc.own,hc.keys⟩,⟨?_,λi c' v zM hv=>?_,?_⟩,λx hx=>?_,g3y hpl,λx hx=>?_⟩
 .have:=h.len;simp at this|-;omega
 .by_cases hi:i<pre.length
  .refine h.one i c' v ?_ ?_
   .rw[g3k hi];simpa[g3k hi]using zM
   .rw[g3k (by simp;omega),g3F]at hv;rw[if_pos hi]at hv;exact hv
  .refine h.one (i+1) c' v ?_ ?_
   .rw[g3h (by omega),show i+1-pre.length=(i-pre.length)+1 by omega,List.getElem?_cons_succ];simpa[g3h (g3I hi)]using zM
   .have a5e:min pre.length vs.length=pre.length:=by omega
    rw[g3h (by simp;omega),g3s]at hv;simp only[g3L,a5e]at hv
    rwa[show pre.length+1+(i-pre.length)=i+1 by omega]at hv
 .rw[List.pairwise_append];exact⟨hap.1,hap.2.1.2,λx hx y hy=>hap.2.2 x hx y (.tail _ hy)⟩
 .simp only[g3z]at hx;rcases hx with hx|hx
  .exact g4a hx
  .exact List.mem_of_mem_drop hx
 .simp only[g3z]at hx;rcases hx with hx|hx
  .exact(hap.2.2 x hx vs[pre.length] (.head _)).symm
  .exact hap.2.1.1 x hx
theorem c0J(hr:Rel P G base R μ st a w){l:Loc}(h:isNil st l=true){u:Value}(hu:cX a w μ l=some u):∃ao,u=.slice ao 0 0:=by
 cases l with
 |t i=>
  simp only[isNil]at h;split at h
  .rename_i hd;exact(hr.tmps i u _ hu hd).b1j.mN
  .cases h
 |c k off=>
  simp only[isNil]at h;split at h
  .rename_i cs hk;split at h
   .rename_i hd;obtain⟨_,_,hob⟩:=hr.mE k _ hk;obtain⟨_,v,h1,h2⟩:=b3b.c2j hob off (.d .aE) hd;simp only[cX]at hu;rw[Nat.zero_add,hu]at h1;cases h1;exact h2.b1j.mN
   .cases h
  .rename_i T u es hk;simp only[g2Z,g3v,beq_iff_eq]at h;obtain⟨rfl,rfl⟩:=h;obtain⟨_,_,v0,v1,T',q1,q2,_⟩:=hr.mE k _ hk;simp only[cX]at hu;rw[cell_of_row w _ _ _ T' (0,0) q1]at hu;have:=(q2 rfl).2;subst this;simp at hu;exact⟨none,hu.symm⟩
  .cases h
theorem a6W(hr:Rel P G base R μ st a w):∀(gI own:List (TypeId×List Loc))(vs:List Value),c9j P base R μ st a w own vs->b1w st own gI=true->
  ∃vs',c9j P base R μ st a w gI vs'/\∀v∈vs',bQ v=none\/v∈vs
 |[],own,vs,_,_=>⟨[],⟨rfl,by simp,.nil⟩,by simp⟩
 |c::r,own,vs,h,hw=>by
  unfold b1w at hw;split at hw
  .rename_i hn;obtain⟨vs',h1,h2⟩:=a6W hr r own vs h hw;have hex:∃v,a5c P base R μ st a w c v/\bQ v=none:=by
    by_cases hx:∃l∈c.2,∃u,cX a w μ l=some u
    .obtain⟨l,hl,u,hu⟩:=hx;unfold b6t at hn;split at hn
     .rename_i he;rw[he]at hl;cases hl
     .rename_i l' he;rw[he]at hl;simp at hl;subst hl;obtain⟨ao,rfl⟩:=c0J hr hn hu;have hs:bQ (.slice ao 0 0)=none:=by cases ao<;>rfl
      exact⟨.slice ao 0 0,⟨λl2 hl2 u2 hu2=>by rw[he]at hl2;simp at hl2;subst hl2;rw[hu]at hu2;exact(Option.some.inj hu2).symm,.inl ⟨ao,rfl⟩,λk o _=>by rw[hs];simp⟩,hs⟩
     .cases hn
    .exact⟨.slice none 0 0,⟨λl hl u hu=>absurd ⟨l,hl,u,hu⟩ hx,.inl ⟨none,rfl⟩,λk o _=>by simp[bQ]⟩,rfl⟩
   obtain⟨v,hv1,hv2⟩:=hex;refine⟨v::vs',⟨by simp[h1.len],λi c' u hc hu=>?_,List.pairwise_cons.2 ⟨λx _ g hg=>(by rw[hv2]at hg;cases hg),h1.apart⟩⟩,λx hx=>?_⟩
   .cases i with
    |zero=>simp at hc hu;subst hc hu;exact hv1
    |succ i=>simp at hc hu;exact h1.one i c' u hc hu
   .simp at hx;rcases hx with rfl|hx
    .exact .inl hv2
    .exact h2 x hx
  .split at hw
   .rename_i own1 ht;obtain⟨v,vs1,q1,q2,q3,q4,q5⟩:=h.take ht;obtain⟨vs',h1,h2⟩:=a6W hr r own1 vs1 q2 hw;refine⟨v::vs',⟨by simp[h1.len],λi c' u hc hu=>?_,List.pairwise_cons.2 ⟨λx hx=>?_,h1.apart⟩⟩,λx hx=>?_⟩
    .cases i with
     |zero=>simp at hc hu;subst hc hu;exact q1
     |succ i=>simp at hc hu;exact h1.one i c' u hc hu
    .rcases h2 x hx with hs|hx'
     .exact λg _ hg'=>by rw[hs]at hg';cases hg'
     .exact q5 x hx'
    .simp at hx;rcases hx with rfl|hx
     .exact .inr q4
     .rcases h2 x hx with hs|hx'
      .exact .inl hs
      .exact .inr (q3 x hx')
   .cases hw
theorem Rel.a3N(hr:Rel P G base R μ st a w)(h:yE st st'):Rel P G base R μ st' a w:=by
 obtain⟨h1,h2⟩:=a0N h.tmps;have h3:=c5v h.H;refine⟨hr.defers,by rw[hr.size,h1],λi v d' hv hd'=>?_,λk o' hk=>?_,λk k' o o' hk hk' he=>?_,λc hc k off hl=>?_,?_,hr.wS,hr.rY,hr.base,hr.pass⟩
 .obtain⟨d,hd,hc⟩:=h2 i d' hd';have:=hr.tmps i v d hv hd;rcases hc with rfl|rfl|⟨rfl,rfl⟩
  .exact .undef _
  .exact this
  .obtain⟨ao,rfl⟩:=this.b1j.mN;exact .d _ _ (.emp _ _)
 .obtain⟨o,ho,hw⟩:=h3 k o' hk;obtain⟨q1,q2,q3⟩:=hr.mE k o ho;exact⟨q1,q2,b5O hw q3⟩
 .obtain⟨o1,ho1,_⟩:=h3 k o hk;obtain⟨o2,ho2,_⟩:=h3 k' o' hk';exact hr.inj k k' o1 o2 ho1 ho2 he
 .have:=g3c.1 h.keys c hc;have:=g3c.1 this _ hl;exact g3B.1 this
 .obtain⟨vs,sU⟩:=hr.own;obtain⟨vs',hv',_⟩:=a6W hr st'.own st.own vs ⟨sU.len,sU.one,sU.apart⟩ h.own;refine⟨vs',hv'.len,λi c v hc hv=>?_,hv'.apart⟩;have ho:=hv'.one i c v hc hv;exact⟨ho.eR,ho.own,λk o hk=>by obtain⟨o1,ho1,_⟩:=h3 k o hk;exact ho.keys k o1 ho1⟩
theorem SW.a3N{c:Code}{Q:Exit->St->Prop}(h:yE st st')(hw:SW P G c st' Q):SW P G c st Q:=λbase R μ a w hr=>hw base R μ a w (hr.a3N h)
theorem SW.loop{ι:Type}{c:Code}{Q:Exit->St->Prop}(I:ι->St)(m:ι->Nat)(x0:ι)(h0:yE st (I x0))(round:∀x,VW P G c (I x) λe s=>match e with
   |.normal=>∃y,yE s (I y)/\m y<m x
   |e=>Q e s):SW P G (.loop c) st Q:=by
 intro base R μ a w hr;refine wp_loop_ghost (λn a1 w1=>∃x R1 μ1,m x=n/\Rel P G base R1 μ1 (I x) a1 w1/\Step base R w R1 w1) (m x0) ⟨x0,R,μ,rfl,hr.a3N h0,.refl _ _ _⟩ ?_;rintro n a1 w1 ⟨x,R1,μ1,rfl,hr1,hs1⟩;refine wp_mono (a6g c (I x) _ (round x) base R1 μ1 a1 w1 hr1) λe a2 w2 ⟨s,R2,μ2,q,hr2,hs2⟩=>?_;cases e with
 |normal=>obtain⟨y,hy,aG⟩:=q;exact⟨m y,aG,y,R2,μ2,rfl,hr2.a3N hy,hs1.trans hs2⟩
 |_=>exact⟨s,R2,μ2,q,hr2,hs1.trans hs2⟩
inductive WkD:D->D->Prop
 |refl (d:D):WkD d d
 |aE:WkD .aE (.sl [])
 |agg (cs xG:List D):cs.length=xG.length->(∀(i:Nat)(d d':D),cs[i]? =some d->xG[i]? =some d'->WkD d d')->WkD (.agg cs) (.agg xG)
 |sl (es es':List (List D)):es.length=es'.length->(∀(i:Nat)(e e':List D),es[i]? =some e->es'[i]? =some e'->e.length=e'.length)->
   (∀(i j:Nat)(e e':List D)(d d':D),es[i]? =some e->es'[i]? =some e'->e[j]? =some d->e'[j]? =some d'->WkD d d')->WkD (.sl es) (.sl es')
def WkL(l l':List D):Prop:=l.length=l'.length/\∀(i:Nat)(d d':D),l[i]? =some d->l'[i]? =some d'->WkD d d'
def c2B(l l':List (List D)):Prop:=l.length=l'.length/\∀(i:Nat)(d d':List D),l[i]? =some d->l'[i]? =some d'->WkL d d'
theorem d5X(a b:D)(l l':List D):WkL (a::l) (b::l')=(WkD a b/\WkL l l'):=by
 apply propext;constructor
 .rintro⟨h1,h2⟩;exact⟨h2 0 a b rfl rfl,by simpa using h1,λi d d' q q'=>h2 (i+1) d d' q q'⟩
 .rintro⟨h0,h1,h2⟩;refine⟨by simp[h1],λi d d' q q'=>?_⟩;cases i with
  |zero=>simp at q q';subst q q';exact h0
  |succ i=>exact h2 i d d' q q'
theorem d3b(a b:List D)(l l':List (List D)):c2B (a::l) (b::l')=(WkL a b/\c2B l l'):=by
 apply propext;constructor
 .rintro⟨h1,h2⟩;exact⟨h2 0 a b rfl rfl,by simpa using h1,λi d d' q q'=>h2 (i+1) d d' q q'⟩
 .rintro⟨h0,h1,h2⟩;refine⟨by simp[h1],λi d d' q q'=>?_⟩;cases i with
  |zero=>simp at q q';subst q q';exact h0
  |succ i=>exact h2 i d d' q q'
theorem b6v(l:List D):WkL l l=True:=by simp only[WkL,eq_iff_iff,iff_true];exact⟨trivial,λi d d' h h'=>by rw[h]at h';cases h';exact .refl _⟩
theorem c0K(l:List (List D)):c2B l l=True:=by simp only[c2B,eq_iff_iff,iff_true];exact⟨trivial,λi d d' h h'=>by rw[h]at h';cases h';rw[b6v];trivial⟩
theorem d5Y(d:D):WkD d d=True:=by simp[WkD.refl]
theorem d5Z:WkD .aE (.sl [])=True:=by simp[WkD.aE]
theorem e1i(cs xG:List D):WkD (.agg cs) (.agg xG)=WkL cs xG:=by
 apply propext;constructor
 .intro h;cases h with
  |refl=>rw[b6v];trivial
  |agg _ _ h1 h2=>exact⟨h1,h2⟩
 .rintro⟨h1,h2⟩;exact .agg _ _ h1 h2
theorem e7n(cs xG:List (List D)):WkD (.sl cs) (.sl xG)=c2B cs xG:=by
 apply propext;constructor
 .intro h;cases h with
  |refl=>rw[c0K];trivial
  |sl _ _ h1 h2 h3=>exact⟨h1,λi e e' q q'=>⟨h2 i e e' q q',λj d d' p p'=>h3 i j e e' d d' q q' p p'⟩⟩
 .rintro⟨h1,h2⟩;exact .sl _ _ h1 (λi e e' q q'=>(h2 i e e' q q').1) (λi j e e' d d' q q' p p'=>(h2 i e e' q q').2 j d d' p p')
theorem e1j(k k':IntKind)(n n':Int):WkD (.int k n) (.int k' n')=(k=k'/\n=n'):=by
 apply propext;constructor
 .intro h;cases h;exact⟨rfl,rfl⟩
 .rintro⟨rfl,rfl⟩;exact .refl _
theorem d6a(a b:Bool):WkD (.bool a) (.bool b)=(a=b):=by
 apply propext;constructor
 .intro h;cases h;rfl
 .rintro rfl;exact .refl _
theorem WkD.one{d d':D}(h:WkD d d'):d'.one=d.one:=by cases h<;>rfl
theorem V.wk{R:Nat->Nat->Prop}{w:World}{d:D}(h:V R w v d):∀{d':D},WkD d d'->V R w v d':=by
 induction h with
 |int k n=>intro d' hd;cases hd;exact .int k n
 |bool b=>intro d' hd;cases hd;exact .bool b
 |str s=>intro d' hd;cases hd;exact .str s
 |aE ao=>
  intro d' hd;cases hd with
  |refl=>exact .aE ao
  |aE=>exact .emp ao 0
 |emp ao cap=>
  intro d' hd;cases hd with
  |refl=>exact .emp ao cap
  |sl _ es' h1 _ _=>have:es'=[]:=g3J (by simpa using h1.symm);subst this;exact .emp ao cap
 |sl b o n cap size es f h1 h2 h3 h4 h5 h6 h7 ih=>
  intro d' hd;cases hd with
  |refl=>exact .sl b o n cap size es f h1 h2 h3 h4 h5 h6 h7
  |sl _ es' q1 q2 q3=>
   have pre:∀(i:Nat)(e':List D),es'[i]? =some e'->∃e,es[i]? =some e:=λi e' he'=>by have hi:i<es'.length:=(g3a.1 he').1;exact⟨es[i]'(by omega),g3d (by omega)⟩
   have f2d:∀(i j:Nat)(e':List D)(d':D),es'[i]? =some e'->e'[j]? =some d'->∃e d,es[i]? =some e/\e[j]? =some d/\WkD d d':=λi j e' d' he' hd'=>by obtain⟨e,he⟩:=pre i e' he';have hl:=q2 i e e' he he';have hj:j<e'.length:=(g3a.1 hd').1;have hjd:e[j]? =some (e[j]'(by omega)):=g3d (by omega);exact⟨e,_,he,hjd,q3 i j e e' _ d' he he' hjd hd'⟩
   refine .sl b o n cap size es' f (by omega) h2 h3 (λe' he'=>?_) h5 (λi j e' d' he' hd'=>?_) (λi j e' d' he' hd'=>?_)
   .obtain⟨i,hi⟩:=g3q he';obtain⟨e,he⟩:=pre i e' hi;rw[<-q2 i e e' he hi];exact h4 e (g3e he)
   .obtain⟨e,d,he,hd,hw⟩:=f2d i j e' d' he' hd';rw[hw.one];exact h6 i j e d he hd
   .obtain⟨e,d,he,hd,hw⟩:=f2d i j e' d' he' hd';exact ih i j e d he hd hw
 |agg cs ds h1 h2 h3 ih=>
  intro d' hd;cases hd with
  |refl=>exact .agg cs ds h1 h2 h3
  |agg _ ds' q1 q2=>
   have pre:∀(i:Nat)(d':D),ds'[i]? =some d'->∃d,ds[i]? =some d/\WkD d d':=λi d' he'=>by have hi:i<ds'.length:=(g3a.1 he').1;have h:=g3d (l:=ds) (i:=i) (by omega);exact⟨_,h,q2 i _ d' h he'⟩
   refine .agg cs ds' (by omega) (λi d' hd'=>?_) (λi d' hd'=>?_)
   .obtain⟨d,hd,hw⟩:=pre i d' hd';rw[hw.one];exact h2 i d hd
   .obtain⟨d,hd,hw⟩:=pre i d' hd';exact ih i d hd hw
def b0j:DV->DV->Prop
 |.d x,.d y=>WkD x y
 |.cY l,.cY l'=>WkL l l'
 |a,b=>a=b
theorem TV.wk{R:Nat->Nat->Prop}{μ:Nat->Nat}{w:World}{v:Value}{r r':DV}(h:TV R μ w v r)(hw:b0j r r'):TV R μ w v r':=by
 cases r<;>cases r'<;>simp only[b0j]at hw<;>try (cases hw;done)
 case d.d x y=>cases h with|d _ _ hv=>exact .d _ _ (hv.wk hw)
 case cY.cY l l'=>
  cases h with
  |cY vs _ h1 h2=>refine .cY vs l' (by rw[h1,hw.1]) λi d' hd'=>?_;have hi:i<l'.length:=(g3a.1 hd').1;have hg:=g3d (l:=l) (i:=i) (by rw[hw.1];exact hi);exact(h2 i _ hg).wk (hw.2 i _ d' hg hd')
 all_goals (cases hw;exact h)
theorem CS.args{f:FuncId}{ds ds':List D}{r:DV}{own:Option TypeId}(h:CS P G f ds' r own)(hd:WkL ds ds'):CS P G f ds r own:=λw R args hg hR hl hv=>h w R args hg hR (by rw[hl,hd.1]) λi d' hd'=>by have hi:i<ds'.length:=(g3a.1 hd').1;have hgt:=g3d (l:=ds) (i:=i) (by rw[hd.1];exact hi);exact(hv i _ hgt).wk (hd.2 i _ d' hgt hd')
variable{own:Option TypeId}{ds:List D}{f:FuncId}{r:DV}
theorem CS.res{r':DV}(h:CS P G f ds r' own)(hd:b0j r' r):CS P G f ds r own:=λw R args hg hR hl hv=>(h w R args hg hR hl hv).mono λ_ _ ⟨v,R',h1,h2,h3⟩=>⟨v,R',h1,λμ=>(h2 μ).wk hd,h3⟩
def a2l(ds:List D)(n:Nat):St:=⟨ds.map .d++List.replicate (n-ds.length) (.cY []),[],[]⟩
def d6b(P:Program)(s:St):ResultVar->Option D
 |.tmp i=>isD (s.tmps.getD i (.cY []))
 |.cell p ty=>match s.tmps.getD p (.cY [])with
  |.ptr k off=>(match getKey k s.H with
   |some (.cells cs)=>(b3U P ty (cs.drop off)).bind isD
   |_=>none)
  |_=>none
def a6Y(P:Program)(s:St):List ResultVar->Option (List D)
 |[]=>some []
 |r::l=>match d6b P s r,a6Y P s l with
  |some x,some ds=>some (x::ds)
  |_,_=>none
def d3c(P:Program)(s:St)(rs:List ResultVar):Option DV:=
 match a6Y P s rs with
 |some [x]=>some (.d x)
 |some ds=>some (.cY ds)
 |none=>none
def e1k(s:St)(rs:List ResultVar):Option TypeId:=
 match rs with
 |[.tmp i]=>(match s.tmps.getD i (.cY [])with
  |.d (.sl _)=>(jV (.t i) s.own).map (·.1)
  |_=>none)
 |_=>none
def b3i(tmps:Array Value):ResultVar->Sem Value
 |.tmp t=>pure (tmps.getD t undef)
 |.cell p t=>do loadVar t (<-asAddr (tmps.getD p undef))
theorem b0k(fn:Func)(tmps:Array Value):results fn tmps=(do let vs <- fn.results.mapM (b3i tmps);pure (if h:vs.size=1 then vs[0] else .tuple vs)):=by unfold results;congr 1
theorem e1l(hr:Rel P G base R μ st a w){r:ResultVar}{x:D}(h:d6b P st r=some x):∃v,(b3i a.tmps r).run P w=.ok v w/\V R w v x:=by
 cases r with
 |tmp i=>simp only[d6b]at h;have he:=hr.eval (.tmp i);simp only[St.eval,Act.eval]at he;unfold isD at h;split at h<;>simp at h;rename_i y hy;subst h;rw[hy]at he;exact⟨_,rfl,he.b1j⟩
 |cell p ty=>
  simp only[d6b]at h;have he:=hr.eval (.tmp p);simp only[St.eval,Act.eval]at he;split at h
  .rename_i k off hp;split at h
   .rename_i cs hk;rw[hp]at he;obtain⟨_,_,hob⟩:=hr.mE k _ hk;have dD:=(b3b.c2j hob).drop off;rw[Nat.zero_add]at dD;obtain⟨y,hy,hx⟩:=g3n.1 h;obtain⟨v,h1,h2,_⟩:=zZ (P:=P) dD hy;have hyd:y=.d x:=by
     unfold isD at hx;split at hx
     .cases hx;rfl
     .cases hx
    subst hyd;refine⟨v,?_,h2.b1j⟩;unfold b3i;simp only;rw[he.c2k];simp only[asAddr,g3O,Sem.run_pure,g3Q,h1]
   .cases h
  .cases h
theorem b6w(hr:Rel P G base R μ st a w):∀{l:List ResultVar}{ds:List D},a6Y P st l=some ds->
  ∃vs,(l.mapM (b3i a.tmps)).run P w=.ok vs w/\vs.length=ds.length/\∀(i:Nat)(d:D),ds[i]? =some d->V R w (vs.getD i undef) d
 |[],ds,h=>by simp[a6Y]at h;subst h;exact⟨[],by simp,rfl,by simp⟩
 |r::l,ds,h=>by
  simp only[a6Y]at h;split at h<;>simp at h;rename_i x ds' hx hds;subst h;obtain⟨v,h1,h2⟩:=e1l hr hx;obtain⟨vs,q1,q2,q3⟩:=b6w hr hds;refine⟨v::vs,?_,by simp[q2],λi d hi=>?_⟩
  .simp only[List.mapM_cons,g3O,h1,g3Q,q1,Sem.run_pure]
  .cases i with
   |zero=>simp at hi;subst hi;exact h2
   |succ i=>simp at hi;simpa using q3 i d hi
variable{fn:Func}
theorem d1w(hr:Rel P G base R μ st a w)(h:d3c P st fn.results.toList=some r):∃v,(results fn a.tmps).run P w=.ok v w/\(∀μ',TV R μ' w v r):=by
 unfold d3c at h;cases hds:a6Y P st fn.results.toList with
 |none=>simp[hds]at h
 |some ds=>
  obtain⟨vs,h1,h2,h3⟩:=b6w hr hds;have dD:(results fn a.tmps).run P w=.ok (if h:vs.toArray.size=1 then vs.toArray[0] else .tuple vs.toArray) w:=by rw[b0k,Array.mapM_eq_mapM_toList];simp only[g3O,Sem.run_map,h1,g3Q,Sem.run_pure]
  refine⟨_,dD,λμ'=>?_⟩;have cY:∀(ds:List D),vs.length=ds.length->(∀(i:Nat)(d:D),ds[i]? =some d->V R w (vs.getD i undef) d)->TV R μ' w (.tuple vs.toArray) (.cY ds):=λds hl hv=>.cY _ _ (by simpa using hl) (λi d hi=>by have:=hv i d hi;simpa[g3b,List.getD]using this)
  rw[hds]at h
  match ds,h2,h3,h with
  |[],h2,h3,h=>simp at h;subst h;rw[dif_neg (by simp at h2;simp[h2])];exact cY [] h2 h3
  |[x],h2,h3,h=>
   simp at h;subst h
   match vs,h2,h3 with
   |[v],_,h3=>exact .d _ _ (by simpa using h3 0 x rfl)
  |x::y::l,h2,h3,h=>simp at h;subst h;rw[dif_neg (by simp at h2;simp[h2])];exact cY _ h2 h3
variable{e:TypeId}
theorem e1m(hr:Rel P G base R μ st a w)(h:e1k st fn.results.toList=some e)(hv:(results fn a.tmps).run P w=.ok v w):rX P base R w e v:=by
 unfold e1k at h;split at h
 .rename_i i hrs;split at h
  .rename_i es hd;simp only[g2Y]at h;obtain⟨⟨e',gI⟩,ht,rfl⟩:=h;obtain⟨_,v0,_,hv0,oG,_⟩:=hr.jV ht;have hs:i<a.tmps.size:=by
    rw[hr.size];by_cases aG:i<st.tmps.length
    .exact aG
    .simp[List.getD,g3G (g3I aG)]at hd
   have hv1:v=a.tmps.getD i undef:=by
    have d6c:fn.results=#[.tmp i]:=by apply Array.ext';simpa using hrs
    rw[results_tmp d6c a.tmps P w]at hv;exact(by cases hv;rfl)
   rw[hv1,hv0 (a.tmps.getD i undef) (by simp[cX,hs])];exact oG
  .cases h
 .cases h
def c5w(x:Option DV)(r:DV):Prop:=match x with
 |some r0=>b0j r0 r
 |none=>False
theorem b6x{x:Option DV}(h:c5w x r):∃r0,x=some r0/\b0j r0 r:=by
 cases x with
 |none=>cases h
 |some r0=>exact⟨r0,rfl,h⟩
def c5x(s:St)(rs:List ResultVar):Option TypeId->Prop
 |none=>True
 |some e=>e1k s rs=some e\/(match rs with
  |[.tmp i]=>(match s.tmps.getD i (.cY [])with
   |.d .aE=>True
   |_=>False)
  |_=>False)
theorem c5y(hr:Rel P G base R μ st a w)(h:c5x st fn.results.toList (some e))(hv:(results fn a.tmps).run P w=.ok v w):rX P base R w e v:=by
 rcases h with h|h
 .exact e1m hr h hv
 .split at h
  .rename_i i hrs;split at h
   .rename_i hd;have d6c:fn.results=#[.tmp i]:=by apply Array.ext';simpa using hrs
    rw[results_tmp d6c a.tmps P w]at hv;cases hv;have he:=hr.eval (.tmp i);simp only[St.eval,Act.eval,hd]at he;obtain⟨ao,h0⟩:=he.b1j.mN;exact .inl ⟨ao,h0⟩
   .cases h
  .cases h
theorem Rel.init(fn:Func){w:World}{R:Nat->Nat->Prop}{args:Array Value}(hg:a8U G (a0X w.heap.size) R w)(hR:∀b o,R b o->b<w.heap.size)(hl:args.size=ds.length)(hv:∀(i:Nat)(d:D),ds[i]? =some d->V R w (args.getD i undef) d):
  Rel P G (a0X w.heap.size) R (λ_=>0) (a2l ds fn.ntmps) {tmps:=args++Array.replicate (fn.ntmps-args.size) undef,defers:=[]} w:=by
 refine⟨rfl,by simp[a2l,hl],λi v d hiv hid=>?_,λk o hk=>by simp[a2l,getKey]at hk,λk k' o o' hk=>by simp[a2l,getKey]at hk,λc hc=>by simp[a2l]at hc,⟨[],rfl,λi c v hc=>by simp[a2l]at hc,.nil⟩,hg,hR,λ_ h=>h,λ_ _=>rfl⟩;simp only[a2l]at hid;by_cases hi:i<ds.length
 .rw[g3k (by simpa using hi),g3j,g3d hi]at hid;simp at hid;subst hid;have:=hv i ds[i] (g3d hi);rw[g3H (by omega)]at hiv;have hg:args.getD i undef=v:=by simp[g3b,hiv]
  rw[hg]at this;exact .d _ _ this
 .rw[g3h (by simp;omega),g3R]at hid;split at hid<;>simp at hid;subst hid;rw[g3W (by omega),Array.getElem?_replicate]at hiv;split at hiv<;>simp at hiv;subst hiv;exact .cY #[] [] rfl (by simp)
theorem CS.f2e{c:Code}{n:Nat}(hf:P.funcs[f]? =some fn)(hb:fn.body=some c)(hn:fn.ntmps=n)(h:VW P G c (a2l ds n) λe s=>(e=.normal\/e=.ret)/\c5w (d3c P s fn.results.toList) r/\c5x s fn.results.toList own):CS P G f ds r own:=by
 intro w R args hg hR hl hv;refine calls_of_wp hf hb ?_;have hrel:=Rel.init (P:=P) (G:=G) fn hg hR hl hv;rw[<-hn]at h;refine wp_mono (a6g c _ _ h (a0X w.heap.size) R _ _ w hrel) λe a' w' ⟨s,R',μ',⟨he,kX,oG⟩,jD,hs⟩=>?_;obtain⟨r0,kX,hwk⟩:=b6x kX;obtain⟨v,hv1,hv2⟩:=d1w jD kX;have a6Z:a'.defers=[]/\∃v,(results fn a'.tmps).run P w'=.ok v w'/\∃v' R',Ending.returned v=.returned v'/\(∀μ,TV R' μ w' v' r)/\Step (a0X w.heap.size) R w R' w'/\(∀b o,R' b o->b<w'.heap.size)/\(∀e,own=some e->rX P (a0X w.heap.size) R' w' e v'):=
  ⟨jD.defers,v,hv1,v,R',rfl,λμ=>(hv2 μ).wk hwk,hs,jD.rY,λe he'=>by subst he';exact c5y jD oG hv1⟩
 rcases he with rfl|rfl
 .exact a6Z
 .exact a6Z
theorem Enters.mk(hf:P.funcs[f]? =some fn)(h:(fn.body.isNone==false&&(fn.name== "runtime.NumGoroutine")==false)=true):Enters P f:=by
 simp only[g2Z,beq_iff_eq]at h;exact⟨fn,hf,h.1,h.2⟩
end
inductive KI where
 |code (c:Code)
 |blk (id:Nat)
 |ops (q:Bool) (all:Array Oper) (rest:List Oper)
 |scp
def VK(P:Program)(G:GT):List KI->Exit->St->(Exit->St->Prop)->Prop
 |[],e,st,Q=>Q e st
 |.code c::k,.normal,st,Q=>VW P G c st λe s=>VK P G k e s Q
 |.code _::k,e,st,Q=>VK P G k e st Q
 |.blk id::k,.exit id',st,Q=>if id'=id then VK P G k .normal st Q else VK P G k (.exit id') st Q
 |.blk _::k,e,st,Q=>VK P G k e st Q
 |.ops q all rest::k,.normal,st,Q=>wN P G q all rest st λs=>VK P G k .normal s Q
 |.ops _ _ _::k,e,st,Q=>VK P G k e st Q
 |.scp::_,.goto _,_,_=>False
 |.scp::k,e,st,Q=>VK P G k e st Q
def c5z(P:Program)(G:GT)(v:DV)(x y:Code)(k:List KI)(st:St)(Q:Exit->St->Prop):Prop:=
 match v with
 |.d (.bool t)=>if t then VK P G (.code x::k) .normal st Q else VK P G (.code y::k) .normal st Q
 |.rQ=>VK P G (.code x::k) .normal st Q/\VK P G (.code y::k) .normal st Q
 |_=>False
section
variable {P:Program} {G:GT} {k:List KI} {st:St} {Q:Exit->St->Prop}
theorem e7o(e:Exit):VK P G [] e st Q=Q e st:=rfl
theorem e1o:VK P G (.code .skip::k) .normal st Q=VK P G k .normal st Q:=rfl
theorem e7p(x y:Code):VK P G (.code (.seq x y)::k) .normal st Q=VK P G (.code x::.code y::k) .normal st Q:=by simp only[VK,VW];congr 1;funext e s;cases e<;>rfl
theorem e1p(c:Operand)(x y:Code):VK P G (.code (.cond c x y)::k) .normal st Q=c5z P G (st.eval G c) x y k st Q:=rfl
theorem d6d(id:Nat)(c:Code):VK P G (.code (.block id c)::k) .normal st Q=VK P G (.code c::.blk id::k) .normal st Q:=by simp only[VK,VW];congr 1;funext e s;cases e<;>rfl
theorem d6e(l:Nat):VK P G (.code (.label l)::k) .normal st Q=VK P G k .normal st Q:=rfl
theorem b9y:VK P G (.scp::k) .normal st Q=VK P G k .normal st Q:=rfl
theorem c9k:VK P G (.scp::k) .ret st Q=VK P G k .ret st Q:=rfl
theorem c5A(id:Nat):VK P G (.scp::k) (.exit id) st Q=VK P G k (.exit id) st Q:=rfl
theorem d3d(id:Nat)(ops:Array Oper):VK P G (.code (.region id ops false)::k) .normal st Q=VK P G (.ops false ops ops.toList::k) .normal st Q:=by simp only[VK,VW];simp
def a7a(P:Program)(ops:Array Oper):Prop:=P.follows .mixedOrders=true/\d5O ops=true
theorem a7a.mk{ops:Array Oper}(h:(P.follows .mixedOrders&&d5O ops)=true:=by kernel_rfl):a7a P ops:=by simpa[a7a]using h
theorem d6f(id:Nat)(ops:Array Oper):VK P G (.code (.region id ops true)::k) .normal st Q=(a7a P ops/\b3g ops st=true/\VK P G (.ops true ops ops.toList::k) .normal st Q):=by simp only[VK,VW,a7a];simp[and_assoc]
theorem e1q(id:Nat):VK P G (.code (.exit id)::k) .normal st Q=VK P G k (.exit id) st Q:=rfl
theorem e7q:VK P G (.code .ret::k) .normal st Q=VK P G k .ret st Q:=rfl
theorem e1r(c:Code):VK P G (.code (.loop c)::k) .normal st Q=SW P G (.loop c) st (λe s=>VK P G k e s Q):=rfl
theorem c5B(c:Code):VK P G (.code c::k) .ret st Q=VK P G k .ret st Q:=rfl
theorem c2C(c:Code)(id:Nat):VK P G (.code c::k) (.exit id) st Q=VK P G k (.exit id) st Q:=rfl
theorem b9z(id:Nat):VK P G (.blk id::k) .normal st Q=VK P G k .normal st Q:=rfl
theorem c9l(id:Nat):VK P G (.blk id::k) .ret st Q=VK P G k .ret st Q:=rfl
theorem c5C(id id':Nat):VK P G (.blk id::k) (.exit id') st Q=if id'=id then VK P G k .normal st Q else VK P G k (.exit id') st Q:=rfl
theorem c9m(q:Bool)(all:Array Oper):VK P G (.ops q all []::k) .normal st Q=VK P G k .normal st Q:=rfl
def aC(P:Program)(G:GT)(q ro qn:Bool)(f:FuncId)(ds:List D)(ls:List (Option Loc))(dst:Option Tmp)(all:Array Oper)(rest:List Oper)(k:List KI)(st:St)(Q:Exit->St->Prop):Prop:=
 (∃r own,(Enters P f/\CS P G f ds r own)/\(q=true->qK r=true)/\VK P G (.ops q all rest::k) .normal (finish st dst r (if qn then .no else a6Q own)) Q)\/
 (ro=false/\∃s',(Enters P f/\oR P G f (ds.map .d) ls st dst s')/\VK P G (.ops q all rest::k) .normal s' Q)
variable{q qn ro:Bool}{ds:List D}{r:DV}{f:FuncId}{all:Array Oper}{own:Option TypeId}{rest:List Oper}{dst:Option Tmp}{ls:List (Option Loc)}
theorem aC.mk(he:Enters P f)(hc:CS P G f ds r own)(h:VK P G (.ops q all rest::k) .normal (finish st dst r (if qn then .no else a6Q own)) Q)(hkl:qK r=true:=by rfl):aC P G q ro qn f ds ls dst all rest k st Q:=.inl ⟨r,own,⟨he,hc⟩,λ_=>hkl,h⟩
def b4k(P:Program)(G:GT)(q:Bool)(x:Option Out)(dst:Option Tmp)(all:Array Oper)(rest:List Oper)(k:List KI)(Q:Exit->St->Prop):Prop:=
 match x with
 |some out=>VK P G (.ops q all rest::k) .normal (finish out.st dst out.v out.act) Q
 |none=>False
theorem c9n{st':St}{v:DV}{act:OA}:b4k P G q (some ⟨v,act,st'⟩) dst all rest k Q=VK P G (.ops q all rest::k) .normal (finish st' dst v act) Q:=rfl
theorem c9o(x y:Code):c5z P G (.d (.bool true)) x y k st Q=VK P G (.code x::k) .normal st Q:=rfl
theorem d3e(x y:Code):c5z P G .rQ x y k st Q=(VK P G (.code x::k) .normal st Q/\VK P G (.code y::k) .normal st Q):=rfl
theorem c5D(x y:Code):c5z P G (.d (.bool false)) x y k st Q=VK P G (.code y::k) .normal st Q:=rfl
def jE(P:Program)(G:GT)(q ro:Bool)(f:FuncId)(g2X:List DV)(ls:List (Option Loc))(dst:Option Tmp)(all:Array Oper)(rest:List Oper)(k:List KI)(st:St)(Q:Exit->St->Prop):Prop:=
 a3d P G ro f g2X ls dst st λs=>VK P G (.ops q all rest::k) .normal s Q
def b4l(P:Program)(G:GT)(q:Bool)(o:Oper)(all:Array Oper)(rest:List Oper)(k:List KI)(st:St)(Q:Exit->St->Prop):Prop:=
 match kT G o st with
 |some (f,ds)=>aC P G q (uD q all o) (q&& !wG all o) f ds (oF o) o.dst all rest k st Q
 |none=>
  match dY G o st with
  |some (f,g2X)=>jE P G q (uD q all o) f g2X (oF o) o.dst all rest k st Q
  |none=>b4k P G q ((pB P G o st).map λout=>⟨out.v,b1q q all o out.v out.act,out.st⟩) o.dst all rest k Q
def a5l(P:Program)(G:GT)(q:Bool)(y:DV)(want:Bool)(o:Oper)(all:Array Oper)(rest:List Oper)(k:List KI)(st:St)(Q:Exit->St->Prop):Prop:=
 match y with
 |.undef=>False
 |.rQ=>False
 |.d (.bool b)=>if b=want then b4l P G q o all rest k st Q else VK P G (.ops q all rest::k) .normal (finish st o.dst (.cY []) .no) Q
 |_=>VK P G (.ops q all rest::k) .normal (finish st o.dst (.cY []) .no) Q
theorem a3f(q:Bool)(b want:Bool)(o:Oper)(all:Array Oper)(rest:List Oper):a5l P G q (.d (.bool b)) want o all rest k st Q=if b=want then b4l P G q o all rest k st Q else VK P G (.ops q all rest::k) .normal (finish st o.dst (.cY []) .no) Q:=rfl
theorem c9p(q:Bool)(ds:List D)(want:Bool)(o:Oper)(all:Array Oper)(rest:List Oper):a5l P G q (.cY ds) want o all rest k st Q=VK P G (.ops q all rest::k) .normal (finish st o.dst (.cY []) .no) Q:=rfl
theorem b4m(q:Bool)(all:Array Oper)(o:Oper)(rest:List Oper):VK P G (.ops q all (o::rest)::k) .normal st Q=match gB o all st.tmps with
  |some true=>b4l P G q o all rest k st Q
  |some false=>VK P G (.ops q all rest::k) .normal (finish st o.dst (.cY []) .no) Q
  |none=>False:=by
 simp only[VK,wN,qN,b4l,aC,jE,b4k];split<;>rename_i hw<;>(try simp only[hw]);split<;>rename_i hc<;>(try simp only[hc]);generalize dY G o st=x;cases x with
 |some p=>rfl
 |none=>cases pB P G o st<;>rfl
theorem c5E(q:Bool)(all:Array Oper)(dst:Option Tmp)(op:Op)(ty:TypeId)(pos:String)(after:Array Edge)(rest:List Oper):
  VK P G (.ops q all (⟨dst,op,ty,pos,after,none⟩::rest)::k) .normal st Q=b4l P G q ⟨dst,op,ty,pos,after,none⟩ all rest k st Q:=by
 rw[b4m]
 rfl
theorem c2D(q:Bool)(all:Array Oper)(dst:Option Tmp)(op:Op)(ty:TypeId)(pos:String)(after:Array Edge)(j:Nat)(want:Bool)(rest:List Oper):
  VK P G (.ops q all (⟨dst,op,ty,pos,after,some (j,want)⟩::rest)::k) .normal st Q=a5l P G q (wR all st.tmps j) want ⟨dst,op,ty,pos,after,some (j,want)⟩ all rest k st Q:=by
 rw[b4m];simp only[gB,a5l];generalize wR all st.tmps j=y;cases y with
 |d x=>
  cases x with
  |bool b=>cases b<;>cases want<;>rfl
  |_=>rfl
 |_=>rfl
variable{c:Code}
theorem CS.aW{fn:Func}{n:Nat}(hf:P.funcs[f]? =some fn)(hb:fn.body=some c)(hn:fn.ntmps=n){rs:List ResultVar}(hrs:fn.results.toList=rs)(h:VK P G [.code c] .normal (a2l ds n) λe s=>(e=.normal\/e=.ret)/\c5w (d3c P s rs) r/\c5x s rs own):CS P G f ds r own:=by subst hrs;exact CS.f2e hf hb hn h
variable{g2X:List DV}
theorem jE.mk'(h:∃s',(Enters P f/\oR P G f g2X ls st dst s')/\VK P G (.ops q all rest::k) .normal s' Q)(hro:ro=false):jE P G q ro f g2X ls dst all rest k st Q:=by subst hro;exact h
theorem aC.gI(h:∃s',(Enters P f/\oR P G f (ds.map .d) ls st dst s')/\VK P G (.ops q all rest::k) .normal s' Q)(hro:ro=false):aC P G q ro qn f ds ls dst all rest k st Q:=.inr ⟨hro,h⟩
theorem jE.ro'{d:DV}{ks:List Nat}(he:Enters P f)(hr:RO P G f g2X ks st.H d)(hn:oM ks st.own=true)(hks:(ks.all λk=>(getKey k st.H).isSome)=true)(hkl:qK d=true)(h:VK P G (.ops q all rest::k) .normal (finish st dst d .no) Q):jE P G q ro f g2X ls dst all rest k st Q:=by
 cases ro
 .exact⟨_,⟨he,hr st (λ_ _=>rfl) hn dst ls⟩,h⟩
 .exact⟨d,ks,⟨he,hr,hn,hks,hkl⟩,h⟩
theorem c5F(h:VK P G [.code c] .normal st Q):VW P G c st Q:=h
theorem SW.f2f{ι:Type}(I:ι->St)(m:ι->Nat)(x0:ι)(h0:yE st (I x0))(round:∀x,VK P G [.code c] .normal (I x) λe s=>match e with
   |.normal=>∃y,yE s (I y)/\m y<m x
   |e=>Q e s):SW P G (.loop c) st Q:=SW.loop I m x0 h0 round
end
attribute [irreducible] VK aC jE b4k c5z a5l
end Go.VM
namespace Go.VM
open Go Go.RowKit
attribute [simp] c0r takeA d6e b9y c9k c5A e7o e1o e7p e1p d6d d3d d6f b1q a8W wG a3c b5L dW e1q e7q e1r c5B c2C b9z c9l c5C c9m c5E c2D b4l c9n c9o c5D d3e c9p wR kT dY a8k xD DV.cell b3U c0q b5X cellOf a2W c2e c2h mentions pP a2V b3g gW gP dG vU Loc.a0G qK oF a6E a8l a0W b1h pB d2E d2F a4p b5Z b2Z e0P a9V uR b3V tY xR c8K b6a c2f a2a vUn b6b e0Q a2b a9W a9X uS uT a9Y c2g d1g d2D a5a uU St.eval ofConst a0F zU finish gH jQ getKey cE a1Z oQ oL dF dropKey addAlias Loc.a0G uQ xE takeD qU d5p e0O c8J b5Y a1q a8j a0H a1r overwrite c0p isD zW a3J idx bound jR findKeyD jV e0R d1f d2C zX D.one D.cells a6Q a2l d6b a6Y d3c e1k
def c2E:Code->List Nat
 |.region _ ops _=>ops.toList.filterMap (·.dst)
 |.seq a b=>c2E a++c2E b
 |.cond _ a b=>c2E a++c2E b
 |.block _ c=>c2E c
 |.scope c=>c2E c
 |.loop c=>c2E c
 |_=>[]
def b6y:List Nat->List DV->List DV
 |[],l=>l
 |i::r,l=>b6y r (l.set i .undef)
def c9q:List (Nat×DV)->List DV->List DV
 |[],l=>l
 |(i,v)::r,l=>c9q r (l.set i v)
def mJ(c:Code)(st:St)(ws:List (Nat×DV))(H:List (Nat×bH))(own:List (TypeId×List Loc)):St:=⟨c9q ws (b6y (c2E c) st.tmps),H,own⟩
theorem d6g(s s':St):yE s s'↔WkT s.tmps s'.tmps/\WkH s.H s'.H/\b1w s s.own s'.own=true/\bM s'.H s'.own=true:=⟨λh=>⟨h.tmps,h.H,h.own,h.keys⟩,λh=>⟨h.1,h.2.1,h.2.2.1,h.2.2.2⟩⟩
def bD{ι:Type}(F:ι->St)(m:ι->Nat)(x:ι)(s:St):Prop:=∃y,yE s (F y)/\m y<m x
theorem bD.mk{ι:Type}{F:ι->St}{m:ι->Nat}{x:ι}{s:St}(y:ι)(h:yE s (F y))(hm:m y<m x):bD F m x s:=⟨y,h,hm⟩
variable{P:Program}{st:St}{Q:Exit->St->Prop}{G:GT}
theorem SW.gA{c:Code}{ι:Type}(ws:ι->List (Nat×DV))(H:ι->List (Nat×bH))(own:ι->List (TypeId×List Loc))(m:ι->Nat)(x0:ι)(h0:yE st (mJ c st (ws x0) (H x0) (own x0)))(round:∀x,VK P G [.code c] .normal (mJ c st (ws x) (H x) (own x)) λe s=>match e with
   |.normal=>bD (λy=>mJ c st (ws y) (H y) (own y)) m x s
   |e=>Q e s):SW P G (.loop c) st Q:=SW.f2f (λx=>mJ c st (ws x) (H x) (own x)) m x0 h0 round
attribute [irreducible] bD
attribute [simp] c2E b6y c9q mJ d6g WkT WkO WkH b1w b6t isNil a1x bM
variable{q:Bool}{k:List KI}
theorem d3f(o:Oper)(all:Array Oper)(rest:List Oper):a5l P G q (.d (.bool true)) true o all rest k st Q=b4l P G q o all rest k st Q:=by rw[a3f,if_pos rfl]
theorem d3g(o:Oper)(all:Array Oper)(rest:List Oper):a5l P G q (.d (.bool false)) false o all rest k st Q=b4l P G q o all rest k st Q:=by rw[a3f,if_pos rfl]
theorem d3h(o:Oper)(all:Array Oper)(rest:List Oper):a5l P G q (.d (.bool true)) false o all rest k st Q=VK P G (.ops q all rest::k) .normal (finish st o.dst (.cY []) .no) Q:=by rw[a3f,if_neg (by decide)]
theorem d3i(o:Oper)(all:Array Oper)(rest:List Oper):a5l P G q (.d (.bool false)) true o all rest k st Q=VK P G (.ops q all rest::k) .normal (finish st o.dst (.cY []) .no) Q:=by rw[a3f,if_neg (by decide)]
attribute [simp] d3f d3g d3h d3i
attribute [simp] d5X d3b b6v c0K d5Y d5Z e1i e7n e1j d6a b0j c5w c5x
theorem e1s(a b:Int):(a==b)=decide (a=b):=rfl
theorem e1t(a b:Int):(a !=b)= !decide (a=b):=rfl
theorem e7s(a b:List UInt8):(a==b)=decide (a=b):=by by_cases h:a=b<;>simp[h]
attribute [simp] e1s e1t e7s
theorem c5G(n m:Nat):((no_index (OfNat.ofNat n):Int)<=(m:Int))=((OfNat.ofNat n:Nat)<=m):=propext Int.ofNat_le
theorem c5H(n m:Nat):((m:Int)<=(no_index (OfNat.ofNat n):Int))=(m<=(OfNat.ofNat n:Nat)):=propext Int.ofNat_le
theorem c5I(n m:Nat):((no_index (OfNat.ofNat n):Int)<(m:Int))=((OfNat.ofNat n:Nat)<m):=propext Int.ofNat_lt
theorem c5J(n m:Nat):((m:Int)<(no_index (OfNat.ofNat n):Int))=(m<(OfNat.ofNat n:Nat)):=propext Int.ofNat_lt
theorem c5K(n m:Nat):((m:Int)=(no_index (OfNat.ofNat n):Int))=(m=(OfNat.ofNat n:Nat)):=propext Int.ofNat_inj
theorem c2F(n m:Nat):(((n:Int)+1)<=(m:Int))=(n+1<=m):=by apply propext;omega
theorem c2G(n m:Nat):(((n:Int)+1)<(m:Int))=(n+1<m):=by apply propext;omega
theorem c5L(n:Nat):(0<=(n:Int)+1)=True:=by apply propext;simp;omega
attribute [simp] c2F c2G c5L
attribute [simp] c5G c5H c5I c5J c5K
end Go.VM
end
namespace Go.Proofs.YtmfbjecjccipfaaGreatDoor
section
open Go Go.VM
@[simp] theorem f0J:prog.cellsOf 3=1/\mF prog 3=some [.int .i64 0]/\prog.cellsOf 4=1/\prog.cellsOf 9=1/\prog.bytesOf 9=16/\prog.cellsOf 23=1/\jH prog 23=some 69/\prog.cellsOf 24=1/\jH prog 24=some 95/\prog.cellsOf 25=1/\jH prog 25=some 98/\prog.cellsOf 26=1/\jH prog 26=some 73/\prog.cellsOf 27=1/\jH prog 27=some 102/\prog.cellsOf 28=1/\jH prog 28=some 58/\prog.cellsOf 30=6/\mF prog 30=some [.aE,.aE,.aE,.aE,.aE,.aE]/\dV prog 30=true/\aO prog 30 0=some (0,23)/\aO prog 30 1=some (1,24)/\aO prog 30 2=some (2,25)/\aO prog 30 3=some (3,26)/\aO prog 30 4=some (4,27)/\aO prog 30 5=some (5,28)/\prog.cellsOf 31=1/\mF prog 31=some [.int .i64 0]/\prog.cellsOf 36=1/\mF prog 36=some [.aE]:=by and_intros<;>kernel_rfl
@[simp] theorem f0U:jH prog 36=some 9/\prog.cellsOf 37=1/\prog.cellsOf 38=1/\mF prog 38=some [.aE]/\jH prog 38=some 43/\prog.cellsOf 39=1/\jH prog 39=some 176/\prog.cellsOf 40=1/\jH prog 40=some 143/\prog.cellsOf 41=1/\mF prog 41=some [.aE]/\jH prog 41=some 54/\prog.cellsOf 43=7/\prog.bytesOf 43=128/\mF prog 43=some [.int .i64 0,.str [],.int .i64 0,.aE,.aE,.aE,.aE]/\dV prog 43=true/\aO prog 43 0=some (0,37)/\aO prog 43 1=some (1,9)/\aO prog 43 2=some (2,3)/\aO prog 43 3=some (3,38)/\aO prog 43 4=some (4,39)/\aO prog 43 5=some (5,40)/\aO prog 43 6=some (6,41)/\prog.cellsOf 44=1/\prog.cellsOf 45=1/\mF prog 45=some [.aE]/\jH prog 45=some 168/\prog.cellsOf 46=1/\jH prog 46=some 146/\prog.cellsOf 47=1:=by and_intros<;>kernel_rfl
@[simp] theorem f1b:jH prog 47=some 148/\prog.cellsOf 48=1/\prog.cellsOf 49=1/\prog.cellsOf 50=1/\jH prog 50=some 52/\prog.cellsOf 52=4/\prog.bytesOf 52=56/\mF prog 52=some [.int .i64 0,.str [],.int .i64 0,.aE]/\dV prog 52=true/\aO prog 52 0=some (0,49)/\aO prog 52 1=some (1,9)/\aO prog 52 2=some (2,3)/\aO prog 52 3=some (3,50)/\prog.cellsOf 54=9/\prog.bytesOf 54=152/\mF prog 54=some [.int .i64 0,.str [],.aE,.aE,.int .i64 0,.str [],.int .i64 0,.aE,.aE]/\dV prog 54=true/\aO prog 54 0=some (0,48)/\aO prog 54 1=some (1,9)/\aO prog 54 2=some (2,41)/\aO prog 54 3=some (3,36)/\aO prog 54 4=some (4,52)/\aO prog 54 5=some (8,50)/\prog.cellsOf 56=14/\mF prog 56=some [.aE,.aE,.aE,.aE,.int .i64 0,.str [],.aE,.aE,.int .i64 0,.str [],.int .i64 0,.aE,.aE,.aE]/\dV prog 56=true/\aO prog 56 0=some (0,36)/\aO prog 56 1=some (1,45)/\aO prog 56 2=some (2,46)/\aO prog 56 3=some (3,47):=by and_intros<;>kernel_rfl
@[simp] theorem e1W:aO prog 56 4=some (4,54)/\aO prog 56 5=some (13,50)/\prog.cellsOf 58=25/\prog.bytesOf 58=456/\mF prog 58=some [.str [],.aE,.int .i64 0,.str [],.int .i64 0,.aE,.aE,.aE,.aE,.int .i64 0,.bool false,.aE,.aE,.aE,.aE,.int .i64 0,.str [],.aE,.aE,.int .i64 0,.str [],.int .i64 0,.aE,.aE,.aE]/\dV prog 58=true/\aO prog 58 0=some (0,9)/\aO prog 58 1=some (1,36)/\aO prog 58 2=some (2,43)/\aO prog 58 3=some (9,44)/\aO prog 58 4=some (10,4)/\aO prog 58 5=some (11,56)/\prog.cellsOf 66=1/\mF prog 66=some [.aE]/\jH prog 66=some 166/\prog.cellsOf 67=1/\jH prog 67=some 128/\prog.cellsOf 69=4/\prog.bytesOf 69=88/\mF prog 69=some [.str [],.aE,.aE,.aE]/\dV prog 69=true/\aO prog 69 0=some (0,9)/\aO prog 69 1=some (1,36)/\aO prog 69 2=some (2,66)/\aO prog 69 3=some (3,67)/\prog.cellsOf 70=1/\prog.cellsOf 71=1/\jH prog 71=some 136/\prog.cellsOf 73=8/\prog.bytesOf 73=128:=by and_intros<;>kernel_rfl
@[simp] theorem e8s:mF prog 73=some [.str [],.str [],.str [],.aE,.int .i64 0,.str [],.int .i64 0,.aE]/\dV prog 73=true/\aO prog 73 0=some (0,9)/\aO prog 73 1=some (1,9)/\aO prog 73 2=some (2,70)/\aO prog 73 3=some (3,71)/\aO prog 73 4=some (4,52)/\prog.cellsOf 77=1/\prog.cellsOf 79=4/\prog.bytesOf 79=40/\mF prog 79=some [.int .i64 0,.str [],.int .i64 0,.int .i64 0]/\dV prog 79=true/\aO prog 79 0=some (0,77)/\aO prog 79 1=some (1,9)/\aO prog 79 2=some (2,3)/\aO prog 79 3=some (3,3)/\prog.cellsOf 87=1/\jH prog 87=some 79/\mF prog 89=some [.aE,.int .i64 0,.int .i64 0,.int .i64 0]/\dV prog 89=true/\aO prog 89 0=some (0,87)/\aO prog 89 1=some (1,3)/\aO prog 89 2=some (2,31)/\aO prog 89 3=some (3,3)/\prog.cellsOf 93=1/\jH prog 93=some 131/\prog.cellsOf 95=3/\prog.bytesOf 95=56/\mF prog 95=some [.str [],.str [],.aE]/\dV prog 95=true:=by and_intros<;>kernel_rfl
@[simp] theorem e2v:aO prog 95 0=some (0,9)/\aO prog 95 1=some (1,9)/\aO prog 95 2=some (2,93)/\prog.cellsOf 98=12/\prog.bytesOf 98=216/\mF prog 98=some [.str [],.int .i64 0,.str [],.aE,.aE,.int .i64 0,.str [],.int .i64 0,.aE,.aE,.aE,.aE]/\dV prog 98=true/\aO prog 98 0=some (0,9)/\aO prog 98 1=some (1,54)/\aO prog 98 2=some (10,45)/\aO prog 98 3=some (11,28)/\prog.cellsOf 102=6/\prog.bytesOf 102=96/\mF prog 102=some [.str [],.aE,.int .i64 0,.str [],.int .i64 0,.aE]/\dV prog 102=true/\aO prog 102 0=some (0,9)/\aO prog 102 1=some (1,66)/\aO prog 102 2=some (2,52)/\prog.cellsOf 115=2/\mF prog 115=some [.int .i64 0,.int .i64 0]/\dV prog 115=true/\aO prog 115 0=some (0,3)/\aO prog 115 1=some (1,31)/\mF prog 118=some [.aE,.int .i64 0]/\dV prog 118=true/\aO prog 118 0=some (0,87)/\aO prog 118 1=some (1,3)/\prog.cellsOf 128=3/\prog.bytesOf 128=64/\mF prog 128=some [.str [],.aE,.aE]:=by and_intros<;>kernel_rfl
@[simp] theorem d6k:dV prog 128=true/\aO prog 128 0=some (0,9)/\aO prog 128 1=some (1,36)/\aO prog 128 2=some (2,41)/\prog.cellsOf 131=10/\mF prog 131=some [.str [],.int .i64 0,.str [],.aE,.aE,.int .i64 0,.str [],.int .i64 0,.aE,.aE]/\dV prog 131=true/\aO prog 131 0=some (0,9)/\aO prog 131 1=some (1,54)/\prog.cellsOf 136=6/\prog.bytesOf 136=96/\mF prog 136=some [.str [],.aE,.int .i64 0,.str [],.int .i64 0,.aE]/\dV prog 136=true/\aO prog 136 0=some (0,9)/\aO prog 136 1=some (1,36)/\aO prog 136 2=some (2,52)/\prog.cellsOf 143=9/\prog.bytesOf 143=168/\mF prog 143=some [.str [],.aE,.int .i64 0,.str [],.int .i64 0,.aE,.aE,.aE,.aE]/\dV prog 143=true/\aO prog 143 0=some (0,9)/\aO prog 143 1=some (1,36)/\aO prog 143 2=some (2,43)/\prog.cellsOf 146=2/\prog.bytesOf 146=32/\mF prog 146=some [.str [],.str []]/\dV prog 146=true/\aO prog 146 0=some (0,9)/\aO prog 146 1=some (1,70)/\a4o prog 146=some [.string,.string]:=by and_intros<;>kernel_rfl
@[simp] theorem e5t:prog.cellsOf 148=10/\prog.bytesOf 148=152/\mF prog 148=some [.str [],.aE,.int .i64 0,.str [],.int .i64 0,.aE,.int .i64 0,.str [],.int .i64 0,.aE]/\dV prog 148=true/\aO prog 148 0=some (0,9)/\aO prog 148 1=some (1,66)/\aO prog 148 2=some (2,52)/\aO prog 148 3=some (6,52)/\prog.cellsOf 166=2/\prog.bytesOf 166=32/\mF prog 166=some [.str [],.str []]/\dV prog 166=true/\aO prog 166 0=some (0,9)/\aO prog 166 1=some (1,70)/\a4o prog 166=some [.string,.string]/\prog.cellsOf 168=2/\prog.bytesOf 168=32/\mF prog 168=some [.str [],.str []]/\dV prog 168=true/\aO prog 168 0=some (0,9)/\aO prog 168 1=some (1,9)/\a4o prog 168=some [.string,.string]/\prog.cellsOf 176=10/\mF prog 176=some [.str [],.int .i64 0,.str [],.aE,.aE,.int .i64 0,.str [],.int .i64 0,.aE,.aE]/\dV prog 176=true/\aO prog 176 0=some (0,9)/\aO prog 176 1=some (1,54)/\prog.cellsOf 194=42/\prog.cellsOf 198=1/\mF prog 198=some [.aE]:=by and_intros<;>kernel_rfl
@[simp] theorem d6t:dV prog 198=true/\aO prog 198 0=some (0,87)/\jH prog 230=some 49/\prog.cellsOf 233=4/\mF prog 233=some [.int .i64 0,.int .i64 0,.int .i64 0,.str []]/\dV prog 233=true/\aO prog 233 0=some (0,3)/\aO prog 233 1=some (1,3)/\aO prog 233 2=some (2,3)/\aO prog 233 3=some (3,9)/\kD prog 9=true/\kD prog 43=true/\kD prog 49=true/\kD prog 52=true/\kD prog 54=true/\kD prog 58=true/\kD prog 69=true/\kD prog 73=true/\kD prog 79=true/\kD prog 95=true/\kD prog 98=true/\kD prog 102=true/\kD prog 128=true/\kD prog 131=true/\kD prog 136=true/\kD prog 143=true/\kD prog 146=true/\kD prog 148=true/\kD prog 166=true/\kD prog 168=true:=by and_intros<;>kernel_rfl
@[simp] theorem e2L:kD prog 176=true:=by kernel_rfl
end
section
open Go Go.VM
variable {G:GT}
theorem wrap64{n:Int}(h: -9223372036854775808<=n/\n<=9223372036854775807):IntKind.i64.wrap n=n:=by unfold IntKind.wrap;simp[IntKind.bits,IntKind.signed];omega
variable{i:Nat}
theorem bC(h:i<9223372036854775807):IntKind.i64.wrap ((i:Int)+1)=((i+1:Nat):Int):=by rw[wrap64 (by omega)];simp
def qR(c:Int):Bool:=decide (97<=c)&&decide (c<=122)
def b6z(c:Int):Bool:=decide (65<=c)&&decide (c<=90)
def b3j(c:Int):Bool:=decide (48<=c)&&decide (c<=57)
def anB(c:Int):Bool:=qR c||b6z c||b3j c
def wdB(c:Int):Bool:=qR c||b3j c||c==95
def sizedB(s:List UInt8):Bool:=decide (1<=s.length)&&decide (s.length<=24)
def rS(p:Int->Bool)(s:List UInt8):Bool:=s.all λc=>p c.toNat
theorem d6v(p:Int->Bool):rS p []=true:=rfl
variable{p:Int->Bool}{b:Bool}{s:List UInt8}
theorem mX(he:b=rS p (s.drop i))(aG:i<s.length)(hp:p s[i].toNat=true):b=rS p (s.drop (i+1)):=by unfold rS at he;rw[he,g3m aG];simp only[List.all_cons,hp,Bool.true_and,rS]
theorem a1T(he:b=rS p (s.drop i))(aG:i<s.length)(hp:p s[i].toNat=false):b=false:=by unfold rS at he;rw[he,g3m aG];simp only[List.all_cons,hp,Bool.false_and]
theorem a7b(he:b=rS p (s.drop i))(aG:¬i<s.length):b=true:=by
 rw[he,List.drop_of_length_le (by omega)]
 rfl
theorem d6w{α:Type}{f:α->Bool}{l:List α}(he:b=(l.drop i).any f)(aG:i<l.length)(hp:f l[i]=false:=by simp[hk]):b=(l.drop (i+1)).any f:=by rw[he,g3m aG];simp only[List.any_cons,hp,Bool.false_or]
theorem d6x{α:Type}{f:α->Bool}{l:List α}(he:b=(l.drop i).any f)(aG:i<l.length)(hp:f l[i]=true:=by simp[hk]):b=true:=by rw[he,g3m aG];simp only[List.any_cons,hp,Bool.true_or]
theorem e2M{α:Type}{f:α->Bool}{l:List α}(he:b=(l.drop i).any f)(aG:¬i<l.length):b=false:=by
 rw[he,List.drop_of_length_le (by omega)]
 rfl
theorem d6y{α:Type}{f:α->Bool}{l:List α}(he:b=(l.drop i).all f)(aG:i<l.length)(hp:f l[i]=true):b=(l.drop (i+1)).all f:=by rw[he,g3m aG];simp only[List.all_cons,hp,Bool.true_and]
theorem d6z{α:Type}{f:α->Bool}{l:List α}(he:b=(l.drop i).all f)(aG:i<l.length)(hp:f l[i]=false):b=false:=by rw[he,g3m aG];simp only[List.all_cons,hp,Bool.false_and]
theorem e2N{α:Type}{f:α->Bool}{l:List α}(he:b=(l.drop i).all f)(aG:¬i<l.length):b=true:=by
 rw[he,List.drop_of_length_le (by omega)]
 rfl
theorem a3g:VM.Enters prog 251:=.mk func251 rfl
theorem sY:VM.Enters prog 270:=.mk func270 rfl
theorem yP:VM.Enters prog 271:=.mk func271 rfl
variable{c:Int}
theorem a5m:CS prog G 251 [.int .u8 c] (.d (.bool (qR c))) none:=by refine CS.aW func251 rfl ntmps251 rfl ?_;by_cases h:97<=c<;>simp[qR,h]
theorem b0l:CS prog G 252 [.int .u8 c] (.d (.bool (b3j c))) none:=by refine CS.aW func252 rfl ntmps252 rfl ?_;by_cases h:48<=c<;>simp[b3j,h]
theorem b1y:CS prog G 253 [.int .u8 c] (.d (.bool (b6z c))) none:=by refine CS.aW func253 rfl ntmps253 rfl ?_;by_cases h:65<=c<;>simp[b6z,h]
theorem uZ:CS prog G 270 [.int .u8 c] (.d (.bool (qR c))) none:=by refine CS.aW func270 rfl ntmps270 rfl ?_;by_cases h:97<=c<;>simp[qR,h]
theorem a0O:CS prog G 271 [.int .u8 c] (.d (.bool (b3j c))) none:=by refine CS.aW func271 rfl ntmps271 rfl ?_;by_cases h:48<=c<;>simp[b3j,h]
theorem a3O:CS prog G 272 [.int .u8 c] (.d (.bool (b6z c))) none:=by refine CS.aW func272 rfl ntmps272 rfl ?_;by_cases h:65<=c<;>simp[b6z,h]
theorem b0m:CS prog G 237 [.str s] (.d (.bool (sizedB s))) none:=by refine CS.aW func237 rfl ntmps237 rfl ?_;by_cases h:1<=s.length<;>simp[sizedB,h]
theorem a3h(hs:s.length<=1000000:=by omega):CS prog G 238 [.str s] (.d (.bool (rS anB s))) none:=by
 refine CS.aW func238 rfl ntmps238 rfl ?_;simp;refine SW.gA (ι:={i:Nat//i<=s.length/\rS anB s=rS anB (s.drop i)}) (λi=>[(3,.d (.int .i64 i.1))]) (λ_=>[]) (λ_=>[]) (λi=>s.length-i.1) ⟨0,by simp⟩ (by simp) ?_;rintro⟨i,hi,he⟩;by_cases aG:i<s.length
 .simp[aG];refine aC.mk a3g (a5m) ?_;have hw:=bC (show i<9223372036854775807 by omega);cases h1:qR s[i].toNat
  .simp[aG];refine aC.mk (.mk func253 rfl) (b1y) ?_;cases h2:b6z s[i].toNat
   .simp[aG];refine aC.mk (.mk func252 rfl) (b0l) ?_;cases h3:b3j s[i].toNat
    .simp[aG];exact a1T he aG (by simp[anB,h1,h2,h3])
    .simp[aG];exact bD.mk ⟨i+1,aG,mX he aG (by simp[anB,h3])⟩ (by simp[hw]) (by simp;omega)
   .simp[aG];exact bD.mk ⟨i+1,aG,mX he aG (by simp[anB,h2])⟩ (by simp[hw]) (by simp;omega)
  .simp[aG];exact bD.mk ⟨i+1,aG,mX he aG (by simp[anB,h1])⟩ (by simp[hw]) (by simp;omega)
 .simp[aG];exact a7b he aG
def a7e(s:List UInt8):Bool:=rS wdB s&&(match s with|[]=>true|c::_=>qR c.toNat)
theorem d3j(hs:s.length<=1000000:=by omega):CS prog G 239 [.str s] (.d (.bool (a7e s))) none:=by
 refine CS.aW func239 rfl ntmps239 rfl ?_;simp;refine SW.gA (ι:={i:Nat//i<=s.length/\(0<i->rS wdB s=rS wdB (s.drop i)/\a7e s=rS wdB s)}) (λi=>[(3,.d (.int .i64 i.1))]) (λ_=>[]) (λ_=>[]) (λi=>s.length-i.1) ⟨0,by simp⟩ (by simp) ?_;rintro⟨i,hi,he⟩;by_cases aG:i<s.length
 .have hnx:wdB s[i].toNat=true->(i=0->qR s[i].toNat=true)->(0<i+1->rS wdB s=rS wdB (s.drop (i+1))/\a7e s=rS wdB s):=λhp h0 _=>by
    rcases Nat.eq_zero_or_pos i with hz|hz
    .subst hz;refine⟨mX (i:=0) rfl aG hp,?_⟩;cases s with
     |nil=>rfl
     |cons c s=>have:=h0 rfl;simp at this;simp[a7e,this]
    .exact⟨mX (he hz).1 aG hp,(he hz).2⟩
  have hw:=bC (show i<9223372036854775807 by omega);have pZ:wdB s[i].toNat=false->a7e s=false:=λhp=>by
   rcases Nat.eq_zero_or_pos i with hz|hz
   .subst hz;have:=a1T (b:=rS wdB s) (i:=0) rfl aG hp;simp[a7e,this]
   .rw[(he hz).2];exact a1T (he hz).1 aG hp
  simp[aG];refine aC.mk a3g (a5m) ?_;cases h1:qR s[i].toNat
  .rcases Nat.eq_zero_or_pos i with hz|hz
   .subst hz;simp[aG];cases s with
    |nil=>simp at aG
    |cons c s=>simp at h1;simp[a7e,h1]
   .have hz':¬i=0:=by omega
    simp[aG,hz'];refine aC.mk (.mk func252 rfl) (b0l) ?_;cases h3:b3j s[i].toNat
    .by_cases h4:s[i].toNat=95
     .simp[aG,h4];exact bD.mk ⟨i+1,aG,hnx (by simp[wdB,h4]) (λh=>absurd h hz')⟩ (by simp[hw]) (by simp;omega)
     .have h5:¬((s[i].toNat:Int)=95):=by omega
      simp[aG,h4,h5];exact pZ (by simp[wdB,h1,h3,h5])
    .simp[aG];exact bD.mk ⟨i+1,aG,hnx (by simp[wdB,h3]) (λh=>absurd h hz')⟩ (by simp[hw]) (by simp;omega)
  .simp[aG];exact bD.mk ⟨i+1,aG,hnx (by simp[wdB,h1]) (λ_=>h1)⟩ (by simp[hw]) (by simp;omega)
 .simp[aG];rcases Nat.eq_zero_or_pos i with hz|hz
  .subst hz;have:s=[]:=by simpa using aG
   subst this
   rfl
  .rw[(he hz).2];exact a7b (he hz).1 aG
open Go Go.VM
variable {G:GT}
def kwL:List (List UInt8):=[[97,110,100],[97,115,115,117,109,101],[98,111,111,108],[98,111,117,110,100],[99,97,115,101],[99,101,108,108],[99,108,97,115,115],[100,97,116,97],[100,101,102],[100,105,118],[101,108,115,101],[101,110,100],[102,97,108,115,101],[102,111,114,97,108,108],[102,117,110],[103,101,116],[105,102],[105,110],[105,110,115,116],[105,110,116],[105,110,118,97,114,105,97,110,116],[108,101,116],[109,97,116,99,104],[109,101,97,115,117,114,101],[109,101,116,114,105,99],[109,111,100],[109,117],[110,101,119],[110,111,116],[111,102],[111,114],[113,117,97,108],[114,101,102,108,101,99,116],[115,101,116],[116,104,101,110],[116,114,117,101],[117,115,101],[118],[118,97,108],[116,97,103],[119,104,101,114,101],[119,105,116,104]]
def aL(s:List UInt8):Bool:=kwL.any λk=>decide (k=s)
def gC:List D:=kwL.map D.str
theorem a0w:VM.Enters prog 144:=.mk func144 rfl
theorem a1y(hG:G 1=some gC)(s:List UInt8):CS prog G 144 [.str s] (.d (.bool (aL s))) none:=by
 refine CS.aW func144 rfl ntmps144 rfl ?_;have hlen:gC.length=42:=rfl;have f2j:List.take 42 gC=gC:=by rw[<-hlen,g3S]
 simp[hG,hlen,f2j];refine SW.gA (ι:={i:Nat//i<=42/\aL s=(kwL.drop i).any λk=>decide (k=s)}) (λi=>[(6,.d (.int .i64 i.1))]) (λ_=>[]) (λ_=>[]) (λi=>42-i.1) ⟨0,by simp[aL]⟩ (by simp) ?_;rintro⟨i,hi,he⟩;by_cases aG:i<42
 .have hl:i<kwL.length:=aG;have a6s:gC[i]? =some (.str kwL[i]):=by simp[gC,hl]
  have e5T:gC[i]'(by rw[hlen];exact aG)=.str kwL[i]:=by simp[gC]
  by_cases hk:kwL[i]=s
  .simp[aG,hlen,a6s,e5T,hk];exact d6x he hl
  .simp[aG,hlen,a6s,e5T,hk];exact bD.mk ⟨i+1,aG,d6w he hl⟩ (by simp[bC (show i<9223372036854775807 by omega)]) (by simp;omega)
 .simp[aG];exact e2M he aG
def d6B(p:Int->Bool)(s:List UInt8):Bool:=match s with
 |[]=>false
 |c::_=>p c.toNat
theorem xU(h:0<s.length):d6B p s=p s[0].toNat:=by
 cases s with
 |nil=>simp at h
 |cons c s=>rfl
def wH(s:List UInt8):Bool:=sizedB s&&d6B qR s&& !aL s&&rS wdB s
theorem d3k(hG:G 1=some gC):CS prog G 235 [.str s] (.d (.bool (wH s))) none:=by
 refine CS.aW func235 rfl ntmps235 rfl ?_;simp;refine aC.mk (.mk func237 rfl) (b0m) ?_;cases hz:sizedB s
 .simp[wH,hz]
 .have hl:1<=s.length/\s.length<=24:=by simpa[sizedB]using hz
  have h0:0<s.length:=by omega
  simp[h0];refine aC.mk a3g (a5m) ?_;cases h1:qR s[0].toNat
  .simp[wH,xU h0,h1]
  .simp;refine aC.mk a0w (a1y hG _) ?_;cases h2:aL s
   .simp;have hb:wH s=rS wdB s:=by simp[wH,hz,xU h0,h1,h2]
    refine SW.gA (ι:={i:Nat//1<=i/\i<=s.length/\rS wdB s=rS wdB (s.drop i)}) (λi=>[(3,.d (.int .i64 i.1))]) (λ_=>[]) (λ_=>[]) (λi=>s.length-i.1) ⟨1,g3p _,hl.1,mX (i:=0) rfl h0 (by simp[wdB,h1])⟩ (by simp) ?_;rintro⟨i,hi1,hi,he⟩;by_cases aG:i<s.length
    .have hw:=bC (show i<9223372036854775807 by omega);simp[aG];refine aC.mk a3g (a5m) ?_;cases h1:qR s[i].toNat
     .simp[aG];refine aC.mk (.mk func252 rfl) (b0l) ?_;cases h3:b3j s[i].toNat
      .by_cases h4:s[i].toNat=95
       .simp[aG,h4];exact bD.mk ⟨i+1,by omega,aG,mX he aG (by simp[wdB,h4])⟩ (by simp[hw]) (by simp;omega)
       .simp[aG,h4];rw[hb];exact a1T he aG (by simp[wdB,h1,h3];omega)
      .simp[aG];exact bD.mk ⟨i+1,by omega,aG,mX he aG (by simp[wdB,h3])⟩ (by simp[hw]) (by simp;omega)
     .simp[aG];exact bD.mk ⟨i+1,by omega,aG,mX he aG (by simp[wdB,h1])⟩ (by simp[hw]) (by simp;omega)
    .simp[aG];rw[hb];exact a7b he aG
   .simp[wH,h2]
def mY(s:List UInt8):Bool:=sizedB s&&d6B b6z s&&rS anB s&& !decide (s=[73,110,116])&& !decide (s=[66,111,111,108])&& !decide (s=[67,101,108,108])&& !decide (s=[70,117,110])
theorem c9t:CS prog G 236 [.str s] (.d (.bool (mY s))) none:=by
 refine CS.aW func236 rfl ntmps236 rfl ?_;simp;refine aC.mk (.mk func237 rfl) (b0m) ?_;cases hz:sizedB s
 .simp[mY,hz]
 .have hl:1<=s.length/\s.length<=24:=by simpa[sizedB]using hz
  have h0:0<s.length:=by omega
  simp[h0];refine aC.mk (.mk func253 rfl) (b1y) ?_;cases h1:b6z s[0].toNat
  .simp[mY,xU h0,h1]
  .simp;refine aC.mk (.mk func238 rfl) (a3h) ?_;cases h2:rS anB s
   .simp[mY,h2]
   .by_cases e1:s=[73,110,116]
    .simp[mY,e1]
    by_cases e2:s=[66,111,111,108]
    .simp[mY,e2]
    by_cases e3:s=[67,101,108,108]
    .simp[mY,e3]
    simp[mY,hz,xU h0,h1,h2,e1,e2,e3]
def gZ:List UInt8->List UInt8×List UInt8×Bool
 |[]=>([],[],false)
 |c::r=>if c.toNat=46 then([],r,true) else(c::(gZ r).1,(gZ r).2)
theorem d1y:∀(s:List UInt8)(i:Nat),(∀j (h:j<s.length),j<i->s[j].toNat≠46)->i<=s.length->gZ s=(s.take i++(gZ (s.drop i)).1,(gZ (s.drop i)).2)
 |s,0,_,_=>by simp
 |[],i+1,_,h=>by simp at h
 |c::r,i+1,hj,h=>by have h0:=hj 0 (by simp) (by omega);simp at h0 h;have ih:=d1y r i (λj h hji=>by have:=hj (j+1) (by simp;omega) (by omega);simpa using this) h;simp[gZ,h0,ih]
theorem c5N(hs:s.length<=1000000:=by omega):CS prog G 234 [.str s] (.cY [.str (gZ s).1,.str (gZ s).2.1,.bool (gZ s).2.2]) none:=by
 refine CS.aW func234 rfl ntmps234 rfl ?_;simp;refine SW.gA (ι:={i:Nat//i<=s.length/\∀j (h:j<s.length),j<i->s[j].toNat≠46}) (λi=>[(5,.d (.int .i64 i.1))]) (λ_=>[]) (λ_=>[]) (λi=>s.length-i.1) ⟨0,by simp⟩ (by simp) ?_;rintro⟨i,hi,he⟩;have d3l:=d1y s i he hi;by_cases aG:i<s.length
 .by_cases h4:s[i].toNat=46
  .have hw:IntKind.i64.wrap ((i:Int)+1)=((i+1:Nat):Int):=bC (by omega);rw[g3m aG]at d3l;simp only[gZ,h4,if_true]at d3l;have h1:i+1<=s.length:=aG;simp[aG,h4,d3l,hw,hi,h1];exact a7a.mk
  .simp[aG,h4];refine bD.mk ⟨i+1,aG,λj h hj=>?_⟩ (by simp[bC (show i<9223372036854775807 by omega)]) (by simp;omega);by_cases hji:j=i
   .subst hji;exact h4
   .exact he j h (by omega)
 .have:i=s.length:=by omega
  subst this;rw[List.drop_length]at d3l;simp[gZ]at d3l;simp[aG,d3l]
open Go Go.VM
variable {G:GT}
def kF:List UInt8->List (List UInt8)
 |[]=>[[]]
 |c::r=>if c.toNat=46 then []::kF r else match kF r with
  |p::ps=>(c::p)::ps
  |[]=>[[c]]
theorem a5n:∀s,kF s=(gZ s).1::(if (gZ s).2.2=true then kF (gZ s).2.1 else [])
 |[]=>rfl
 |c::r=>by
  by_cases hc:c.toNat=46
  .simp[kF,gZ,hc]
  .simp only[kF,gZ,hc,if_false];rw[a5n r]
theorem d1z:∀s,(gZ s).2.2=true->(gZ s).2.1.length<s.length
 |[],h=>by simp[gZ]at h
 |c::r,h=>by
  unfold gZ at h|-;split
  .simp
  .rename_i hc;simp[hc]at h;have:=d1z r h;simp;omega
theorem c5O:∀s,(gZ s).1.length<=s.length
 |[]=>by simp[gZ]
 |c::r=>by
  unfold gZ;split
  .simp
  .simp;exact c5O r
theorem b3k:∀s,(gZ s).2.1.length<=s.length
 |[]=>by simp[gZ]
 |c::r=>by
  unfold gZ;split
  .simp
  .simp;have:=b3k r;omega
def wI(p:List UInt8):Bool:=sizedB p&&(rS anB p||a7e p)
def sO(s:List UInt8):Bool:=decide (s.length<=120)&&(match kF s with
 |[]=>false
 |p::ps=>(wH p||mY p||(decide (p=[118])&& !ps.isEmpty))&&ps.all wI)
def gR(b:Bool):Int:=if b then 0 else 3
theorem d3m(s:List UInt8):sO s=(decide (s.length<=120)&&((wH (gZ s).1||mY (gZ s).1||(decide ((gZ s).1=[118])&&(gZ s).2.2))&&(if (gZ s).2.2=true then(kF (gZ s).2.1).all wI else true))):=by
 unfold sO;rw[a5n s];cases hm:(gZ s).2.2
 .simp
 .have:(kF (gZ s).2.1).isEmpty=false:=by rw[a5n];rfl
  simp[this]
theorem d3n(hG:G 1=some gC)(s:List UInt8):CS prog G 225 [.str s] (.d (.int .i64 (gR (sO s)))) none:=by
 refine CS.aW func225 rfl ntmps225 rfl ?_;by_cases hl:120<s.length
 .have:¬s.length<=120:=by omega
  simp[hl,sO,this,gR]
 .have hl':s.length<=120:=by omega
  simp[hl];refine aC.mk (.mk func234 rfl) (c5N) ?_;simp;refine aC.mk (.mk func235 rfl) (d3k hG) ?_;have c0M:=d3m s;simp only[hl',decide_true,Bool.true_and]at c0M;have b6A:(wH (gZ s).1||mY (gZ s).1||(decide ((gZ s).1=[118])&&(gZ s).2.2))=false->sO s=false:=λh=>by rw[c0M,h];rfl
  have hgo:(wH (gZ s).1||mY (gZ s).1||(decide ((gZ s).1=[118])&&(gZ s).2.2))=true->sO s=if (gZ s).2.2=true then(kF (gZ s).2.1).all wI else true:=λh=>by rw[c0M,h];rfl
  cases h1:wH (gZ s).1;rotate_left;simp
  replace hgo:=hgo (by simp[h1])
  rotate_left;simp;refine aC.mk (.mk func236 rfl) (c9t) ?_;cases h2:mY (gZ s).1;rotate_left;simp
  replace hgo:=hgo (by simp[h1,h2])
  rotate_left 2;by_cases h3:(gZ s).1=[118];rotate_left
  .simp[h3];rw[b6A (by rw[h1,h2];simp[h3])]
   rfl
  rotate_left 2;cases h4:(gZ s).2.2
  .simp[h3,h4];rw[b6A (by rw[h1,h2];simp[h3,h4])]
   rfl
  simp[h3,h4]
  replace hgo:=hgo (by rw[h1,h2];simp[h3,h4])
  all_goals
   refine SW.gA (ι:={x:List UInt8×Bool//x.1.length<=120/\sO s=if x.2=true then(kF x.1).all wI else true}) (λx=>[(4,.d (.str x.1.1)),(5,.d (.bool x.1.2))]) (λ_=>[]) (λ_=>[]) (λx=>if x.1.2=true then x.1.1.length+1 else 0) ⟨((gZ s).2.1,(gZ s).2.2),by have:=b3k s;simp;omega,hgo⟩ (by simp[*]) ?_;rintro⟨⟨r,m⟩,hr,he⟩;cases m
   .simp;rw[he]
    rfl
   .simp at hr he;simp;refine aC.mk (.mk func234 rfl) (c5N) ?_;have hlen:=c5O r;simp;refine aC.mk (.mk func237 rfl) (b0m) ?_;have eS:sO s=(wI (gZ r).1&&(if (gZ r).2.2=true then(kF (gZ r).2.1).all wI else true)):=by rw[he,a5n r];cases (gZ r).2.2<;>simp
    have hnx:wI (gZ r).1=true->sO s=(if (gZ r).2.2=true then(kF (gZ r).2.1).all wI else true):=λhp=>by rw[eS,hp];rfl
    have hm:(if (gZ r).2.2=true then(gZ r).2.1.length+1 else 0)<r.length+1:=by
     cases hm:(gZ r).2.2
     .simp
     .have:=d1z r hm;simp;exact this
    have jD:(gZ r).2.1.length<=120:=by have:=b3k r;omega
    have uV:wI (gZ r).1=false->sO s=false:=λhp=>by rw[eS,hp];rfl
    cases g1:sizedB (gZ r).1
    .simp;rw[uV (by simp[wI,g1])]
     rfl
    .simp;refine aC.mk (.mk func238 rfl) (a3h) ?_;cases g2:rS anB (gZ r).1
     .simp;refine aC.mk (.mk func239 rfl) (d3j) ?_;cases g3:a7e (gZ r).1
      .simp;rw[uV (by simp[wI,g1,g2,g3])]
       rfl
      .simp;exact bD.mk ⟨((gZ r).2.1,(gZ r).2.2),jD,hnx (by simp[wI,g1,g3])⟩ (by simp) (by simpa using hm)
     .simp;exact bD.mk ⟨((gZ r).2.1,(gZ r).2.2),jD,hnx (by simp[wI,g1,g2])⟩ (by simp) (by simpa using hm)
open Go Go.VM
variable {G:GT}
def strs(l:List (List UInt8)):List (List D):=l.map λs=>[.str s]
theorem a7f(l:List (List UInt8)):(strs l).length=l.length:=by simp[strs]
variable{l:List (List UInt8)}
theorem d3o(h:i<(strs l).length):(strs l)[i]=[.str (l[i]'(by rw[<-a7f l];exact h))]:=by simp[strs]
theorem d6C(l:List (List UInt8)):(∀x,x∈strs l->x.length=1)=True:=by simp[strs]
theorem d6D(l:List (List UInt8))(s:List UInt8):strs (l++[s])=strs l++[[.str s]]:=by simp[strs]
attribute [simp] a7f d3o d6C d6D
theorem b6B(h:i<l.length):(strs l)[i]? =some [.str l[i]]:=by simp[strs,h]
def b1z(s:List UInt8):List (List UInt8)->Nat->Int
 |[],_=> -1
 |k::r,i=>if k=s then i else b1z s r (i+1)
theorem c9v{j:Nat}(h:i<l.length):b1z s (l.drop i) j=if l[i]=s then(j:Int) else b1z s (l.drop (i+1)) (j+1):=by
 rw[g3m h]
 rfl
theorem c0N(s:List UInt8):∀(l:List (List UInt8))(i:Nat),decide (0<=b1z s l i)=l.any λk=>decide (k=s)
 |[],i=>by simp[b1z]
 |k::r,i=>by
  unfold b1z;by_cases h:k=s
  .simp[h]
  .simp[h,c0N s r]
theorem c9w(l:List (List UInt8))(s:List UInt8)(hl:l.length<=1000000:=by decide):CS prog G 173 [.sl (strs l),.str s] (.d (.int .i64 (b1z s l 0))) none:=by
 refine CS.aW func173 rfl ntmps173 rfl ?_;simp[a7f];refine SW.gA (ι:={i:Nat//i<=l.length/\b1z s l 0=b1z s (l.drop i) i}) (λi=>[(8,.d (.int .i64 i.1))]) (λ_=>[]) (λ_=>[]) (λi=>l.length-i.1) ⟨0,by simp⟩ (by simp) ?_;rintro⟨i,hi,he⟩;by_cases aG:i<l.length
 .have hg:=b6B aG;rw[c9v aG]at he;by_cases hk:l[i]=s
  .simp[aG,a7f,hg,hk];rw[if_pos hk]at he;rw[he]
  .simp[aG,a7f,hg,hk];rw[if_neg hk]at he;exact bD.mk ⟨i+1,aG,he⟩ (by simp[bC (show i<9223372036854775807 by omega)]) (by simp;omega)
 .simp[aG];rw[he,List.drop_of_length_le (by omega)]
  rfl
theorem b6C:CS prog G 174 [] (.d (.sl (strs kwL))) none:=by refine CS.aW func174 rfl ntmps174 rfl ?_;simp[show List.range 42=[0,1,2,3,4,5,6,7,8,9,10,11,12,13,14,15,16,17,18,19,20,21,22,23,24,25,26,27,28,29,30,31,32,33,34,35,36,37,38,39,40,41] from rfl];simp[strs,kwL]
theorem a3P(s:List UInt8):CS prog G 154 [.str s] (.d (.bool (aL s))) none:=by refine CS.aW func154 rfl ntmps154 rfl ?_;simp;refine aC.mk (.mk func174 rfl) b6C ?_;simp;refine aC.mk (.mk func173 rfl) (c9w kwL s) ?_;have:=c0N s kwL 0;simp;simp[aL, <- this]
theorem c5Q:CS prog G 261 [.str s] (.d (.int .i64 (gR (wH s)))) none:=by
 refine CS.aW func261 rfl ntmps261 rfl ?_;by_cases hl1:s.length<1
 .have:sizedB s=false:=by simp[sizedB];omega
  simp[hl1,wH,this,gR]
 by_cases hl2:24<s.length
 .have:sizedB s=false:=by simp[sizedB];omega
  simp[hl1,hl2,wH,this,gR]
 have hz:sizedB s=true:=by simp[sizedB];omega
 have h0:0<s.length:=by omega
 simp[hl1,hl2,h0];refine aC.mk sY (uZ) ?_;cases h1:qR s[0].toNat
 .simp[wH,xU h0,h1,gR]
 simp;refine aC.mk (.mk func154 rfl) (a3P _) ?_;cases h2:aL s
 .simp;have hb:wH s=rS wdB s:=by simp[wH,hz,xU h0,h1,h2]
  refine SW.gA (ι:={i:Nat//i<=s.length/\rS wdB s=rS wdB (s.drop i)}) (λi=>[(24,.d (.int .i64 i.1))]) (λ_=>[]) (λ_=>[]) (λi=>s.length-i.1) ⟨0,by simp⟩ (by simp) ?_;rintro⟨i,hi,he⟩;by_cases aG:i<s.length
  .have hw:=bC (show i<9223372036854775807 by omega);simp[aG];refine aC.mk sY (uZ) ?_;cases h1:qR s[i].toNat
   .simp[aG];refine aC.mk yP (a0O) ?_;cases h3:b3j s[i].toNat
    .by_cases h4:s[i].toNat=95
     .simp[aG,h4];exact bD.mk ⟨i+1,aG,mX he aG (by simp[wdB,h4])⟩ (by simp[hw]) (by simp;omega)
     .simp[aG,h4];rw[hb,a1T he aG (by simp[wdB,h1,h3];omega)]
      rfl
    .simp[aG];exact bD.mk ⟨i+1,aG,mX he aG (by simp[wdB,h3])⟩ (by simp[hw]) (by simp;omega)
   .simp[aG];exact bD.mk ⟨i+1,aG,mX he aG (by simp[wdB,h1])⟩ (by simp[hw]) (by simp;omega)
  .simp[aG];rw[hb,a7b he aG]
   rfl
 .simp[wH,h2,gR]
theorem c5R:CS prog G 262 [.str s] (.d (.int .i64 (gR (mY s)))) none:=by
 refine CS.aW func262 rfl ntmps262 rfl ?_;by_cases hl1:s.length<1
 .have:sizedB s=false:=by simp[sizedB];omega
  simp[hl1,mY,this,gR]
 by_cases hl2:24<s.length
 .have:sizedB s=false:=by simp[sizedB];omega
  simp[hl1,hl2,mY,this,gR]
 have hz:sizedB s=true:=by simp[sizedB];omega
 have h0:0<s.length:=by omega
 simp[hl1,hl2,h0];refine aC.mk (.mk func272 rfl) (a3O) ?_;cases h1:b6z s[0].toNat
 .simp[mY,xU h0,h1,gR]
 by_cases e1:s=[73,110,116]
 .simp[mY,e1,gR]
 by_cases e2:s=[66,111,111,108]
 .simp[mY,e2,gR]
 by_cases e3:s=[67,101,108,108]
 .simp[mY,e3,gR]
 by_cases e4:s=[70,117,110]
 .simp[mY,e4,gR]
 simp[e1,e2,e3,e4];have hb:mY s=rS anB s:=by simp[mY,hz,xU h0,h1,e1,e2,e3,e4]
 refine SW.gA (ι:={i:Nat//i<=s.length/\rS anB s=rS anB (s.drop i)}) (λi=>[(36,.d (.int .i64 i.1))]) (λ_=>[]) (λ_=>[]) (λi=>s.length-i.1) ⟨0,by simp⟩ (by simp) ?_;rintro⟨i,hi,he⟩;by_cases aG:i<s.length
 .have hw:=bC (show i<9223372036854775807 by omega);simp[aG];refine aC.mk sY (uZ) ?_;cases h1:qR s[i].toNat
  .simp[aG];refine aC.mk (.mk func272 rfl) (a3O) ?_;cases h2:b6z s[i].toNat
   .simp[aG];refine aC.mk yP (a0O) ?_;cases h3:b3j s[i].toNat
    .simp[aG];rw[hb,a1T he aG (by simp[anB,h1,h2,h3])]
     rfl
    .simp[aG];exact bD.mk ⟨i+1,aG,mX he aG (by simp[anB,h3])⟩ (by simp[hw]) (by simp;omega)
   .simp[aG];exact bD.mk ⟨i+1,aG,mX he aG (by simp[anB,h2])⟩ (by simp[hw]) (by simp;omega)
  .simp[aG];exact bD.mk ⟨i+1,aG,mX he aG (by simp[anB,h1])⟩ (by simp[hw]) (by simp;omega)
 .simp[aG];rw[hb,a7b he aG]
  rfl
end
end Go.Proofs.YtmfbjecjccipfaaGreatDoor
section
namespace Go.VM
open Go Go.RowKit Go.ChangeShapes Go.WideShapes
mutual
def flat {H:Type}:DataW H->List D
 |.lit (.int k n)=>[.int k n]
 |.lit (.bool b)=>[.bool b]
 |.lit (.string s)=>[.str s]
 |.nil=>[.sl []]
 |.slice es _=>[.sl (a0P es)]
 |.agg ps=>yQ ps
 |_=>[]
def a0P {H:Type}:List (DataW H)->List (List D)
 |[]=>[]
 |d::r=>flat d::a0P r
def yQ {H:Type}:List (DataW H)->List D
 |[]=>[]
 |d::r=>flat d++yQ r
end
theorem b4n{H:Type}:∀l:List (DataW H),a0P l=l.map flat
 |[]=>by simp[a0P]
 |d::r=>by simp[a0P,b4n r]
theorem b6D{H:Type}:∀l:List (DataW H),yQ l=(l.map flat).flatten
 |[]=>by simp[yQ]
 |d::r=>by simp[yQ,b6D r]
inductive a3i (P:Program):TypeId->List D->Prop
 |bool {t:TypeId} {b:Bool}:P.underlying t=some .bool->a3i P t [.bool b]
 |int {t:TypeId} {k:IntKind} {n:Int}:P.underlying t=some (.int k)->(Lit.int k n).wf=true->a3i P t [.int k n]
 |str {t:TypeId} {s:List UInt8}:P.underlying t=some .string->s.length<=maxLen->a3i P t [.str s]
 |sl {t e:TypeId} {es:List (List D)}:P.underlying t=some (.slice e)->es.length<=maxLen->(∀x∈es,a3i P e x)->a3i P t [.sl es]
 |struct {t:TypeId} {fs:Array Field} {ds:List D}:P.underlying t=some (.struct fs)->ds.length=P.cellsOf t->(∀f∈fs.toList,a3i P f.type ((ds.drop f.offset).take (P.cellsOf f.type)))->a3i P t ds
 |array {t e:TypeId} {n:Nat} {ds:List D}:P.underlying t=some (.array n e)->ds.length=P.cellsOf t->(∀i,i<n->a3i P e ((ds.drop (i*P.cellsOf e)).take (P.cellsOf e)))->a3i P t ds
def a3j(P:Program)(L:List TypeId):Bool:=L.all λt=>decide (t<P.types.size)&&match P.underlying t with
 |some .bool|some (.int _)|some .string=>true
 |some (.slice e)=>L.contains e&&decide (0<P.cellsOf e)
 |some (.struct fs)=>fs.toList.all λf=>L.contains f.type
 |some (.array _ e)=>L.contains e
 |_=>false
variable{v:Value}{w:World}{a:Addr}
theorem c5S{m:Nat}(h:w.cell? (a.add m)=some v):w.cell? ⟨a.block,a.off+m,none⟩=some v:=by
 obtain⟨b,o,sp⟩:=a;by_cases hm:m=0
 .subst hm;simp only[Addr.add,if_true]at h;unfold World.cell? at h|-;simp only at h|-;cases hb:w.heap[b]? with
  |none=>rw[hb]at h;cases h
  |some o'=>
   rw[hb]at h;cases o' with
   |cells c _ _=>
    simp only at h|-;split at h
    .cases h
    .simpa using h
   |_=>cases h
 .simpa[Addr.add,hm]using h
theorem d3p(h:w.cell? a=some v):a.spot=none:=by
 unfold World.cell? at h;split at h
 .split at h
  .cases h
  .rename_i hs;simpa using hs
 .cases h
theorem d1A(h:w.cell? a=some v):a.block<w.heap.size:=by
 unfold World.cell? at h;split at h
 .rename_i hb;exact(g3i.1 hb).1
 .cases h
theorem vW{α β:Type}{f:α->Option β}:∀{l:List α}{r:List β},l.mapM f=some r->∀(i:Nat)(a:α),l[i]? =some a->∃b,r[i]? =some b/\f a=some b
 |[],_,_,i,a,ha=>by simp at ha
 |x::l,r,h,i,a,ha=>by
  rw[List.mapM_cons]at h;obtain⟨b,hb,h⟩:=g3n.1 h;obtain⟨bs,hbs,h⟩:=g3n.1 h;cases h;cases i with
  |zero=>simp at ha;subst ha;exact⟨b,rfl,hb⟩
  |succ i=>exact vW hbs i a (by simpa using ha)
theorem a7g{base:Nat}{n:Nat}{cs:List Value}(h:w.cells? base a n=some cs):cs.length=n/\∀j,j<n->w.cell? (a.add j)=some (cs.getD j undef):=by
 unfold World.cells? at h;split at h
 .have hl:=mapM_some_length h;refine⟨by simpa using hl,λj hj=>?_⟩;obtain⟨v,h1,h2⟩:=vW h j j (by simp[hj]);simpa[List.getD,h1]using h2
 .cases h
theorem b1A{α:Type}:∀(ls:List (List α))(j:Nat)(l:List α),ls[j]? =some l->(ls.flatten.drop ((ls.take j).map List.length).sum).take l.length=l
 |[],j,l,h=>by simp at h
 |x::r,0,l,h=>by simp at h;subst h;simp
 |x::r,j+1,l,h=>by simp only[List.getElem?_cons_succ]at h;have:=b1A r j l h;simp only[List.flatten_cons,List.take_succ_cons,List.map_cons,List.sum_cons];rw[<-List.drop_drop,List.drop_append_of_le_length (g3p _),List.drop_length,List.nil_append];exact this
theorem b6E{α:Type}:∀(ls:List (List α))(i:Nat)(x:α),ls.flatten[i]? =some x->∃j l k,ls[j]? =some l/\l[k]? =some x/\i=((ls.take j).map List.length).sum+k
 |[],i,x,h=>by simp at h
 |l::r,i,x,h=>by
  simp only[List.flatten_cons]at h;by_cases hi:i<l.length
  .rw[g3k hi]at h;exact⟨0,l,i,rfl,h,by simp⟩
  .rw[g3h (by omega)]at h;obtain⟨j,l',k,h1,h2,h3⟩:=b6E r _ x h;exact⟨j+1,l',k,h1,h2,by rw[List.take_succ_cons,List.map_cons,List.sum_cons];omega⟩
section
variable {P:Program} {H:Type} {enc:TypeId×Value->H} {w:World} {sp:Nat->Bool} {held:Bool} {L:List TypeId}
abbrev RW(w:World):Nat->Nat->Prop:=λb _=>b<w.heap.size
theorem b6F{parts:List (DataW H×List MemPlace)}{cs:List Value}{offs:List Nat}{szs:List Nat}(hl:offs.length=parts.length)(hl':szs.length=parts.length)(b5n:∀(j:Nat)(o:Nat),offs[j]? =some o->o=(szs.take j).sum)(sN:cs.length=szs.sum)(h:∀(j:Nat)(y:DataW H×List MemPlace)(o s:Nat),parts[j]? =some y->offs[j]? =some o->szs[j]? =some s->(flat y.1).length=((cs.drop o).take s).length/\∀i d,(flat y.1)[i]? =some d->d.one=true/\V (RW w) w (((cs.drop o).take s).getD i undef) d):
  (yQ (parts.map (·.1))).length=cs.length/\(∀(j:Nat)(y:DataW H×List MemPlace)(o s:Nat),parts[j]? =some y->offs[j]? =some o->szs[j]? =some s->((yQ (parts.map (·.1))).drop o).take s=flat y.1)/\
   ∀i d,(yQ (parts.map (·.1)))[i]? =some d->d.one=true/\V (RW w) w (cs.getD i undef) d:=by
 rw[b6D,List.map_map];have hlen:∀(j:Nat)(y:DataW H×List MemPlace)(o s:Nat),parts[j]? =some y->offs[j]? =some o->szs[j]? =some s->(flat y.1).length=s:=λj y o s h1 h2 h3=>by
  rw[(h j y o s h1 h2 h3).1,g3L,g3Y];have:=b5n j o h2;have hle:(szs.take j).sum+s<=szs.sum:=by
   have hj:j<szs.length:=(g3a.1 h3).1;have hs:szs[j]=s:=by rw[g3d hj]at h3;exact Option.some.inj h3
   have e:szs.sum=(szs.take j).sum+(szs.drop j).sum:=by rw[<-List.sum_append,g3M]
   rw[e,g3m hj,List.sum_cons,hs];omega
  omega
 have f2k:parts.map (List.length∘flat∘(·.1))=szs:=by
  apply List.ext_getElem?;intro j;rw[g3j];by_cases hj:j<parts.length
  .have h1:parts[j]? =some parts[j]:=g3d hj;have h2:offs[j]? =some (offs[j]'(by omega)):=g3d _;have h3:szs[j]? =some (szs[j]'(by omega)):=g3d _;rw[h1,h3];simpa using hlen j _ _ _ h1 h2 h3
  .rw[g3G (by omega),g3G (by omega)]
   rfl
 have b0n:∀j,(((parts.map (flat∘(·.1))).take j).map List.length).sum=(szs.take j).sum:=λj=>by rw[<-f2k, <- List.map_take, <- List.map_take,List.map_map]
 refine⟨?_,λj y o s h1 h2 h3=>?_,λi d hi=>?_⟩
 .rw[List.length_flatten,List.map_map,f2k,sN]
 .have:=b1A (parts.map (flat∘(·.1))) j (flat y.1) (by rw[g3j,h1];rfl);rw[b0n, <- b5n j o h2,hlen j y o s h1 h2 h3]at this;exact this
 .obtain⟨j,l,k,h1,h2,h3⟩:=b6E _ i d hi;rw[b0n]at h3;rw[g3j]at h1;obtain⟨y,hy,rfl⟩:=g2Y.1 h1;have hj:j<parts.length:=(g3a.1 hy).1;have e2:offs[j]? =some (offs[j]'(by omega)):=g3d _;have e3:szs[j]? =some (szs[j]'(by omega)):=g3d _;obtain⟨q1,q2⟩:=h j y _ _ hy e2 e3;obtain⟨q3,q4⟩:=q2 k d h2;refine⟨q3,?_⟩;have hk:k<(flat y.1).length:=(g3a.1 h2).1;rw[hlen j y _ _ hy e2 e3]at hk;have:((cs.drop (offs[j]'(by omega))).take (szs[j]'(by omega))).getD k undef=cs.getD i undef:=by simp only[List.getD,g3F,hk,if_true,g3s];rw[h3,b5n j _ e2]
  rwa[this]at q4
theorem b3l(rZ:laidOutB P=true)(hp:a3j P L=true):∀(n:Nat)(t:TypeId)(cs:List Value)(x:DataW H×List MemPlace),L.contains t=true->DataW.trod enc P w 0 sp held n t cs=some x->
  (flat x.1).length=cs.length/\a3i P t (flat x.1)/\∀i d,(flat x.1)[i]? =some d->d.one=true/\V (RW w) w (cs.getD i undef) d:=by
 intro n
 induction n with
 |zero=>intro t cs x _ h;simp[DataW.trod]at h
 |succ n ih=>
  intro t cs x hT h;have rI:=g3c.1 hp t (by simpa using hT);simp only[g2Z,g3N]at rI;obtain⟨hts,rI⟩:=rI;rw[DataW.trod_step]at h;have one:∀(v:Value)(d:D),d.one=true->V (RW w) w v d->∀i d',([d]:List D)[i]? =some d'->d'.one=true/\V (RW w) w ([v].getD i undef) d':=λv d h1 h2 i d' hi=>by
   cases i with
   |zero=>simp at hi;subst hi;exact⟨h1,h2⟩
   |succ i=>simp at hi
  unfold DataW.trodStep at h;split at h
  case h_1 b hu=>simp at h;subst h;exact⟨rfl,.bool hu,one _ _ rfl (.bool b)⟩
  case h_2 k k' m hu=>
   split at h
   .rename_i hk;obtain⟨rfl,hk⟩:=hk;simp at h;subst h;exact⟨rfl,.int hu hk,one _ _ rfl (.int _ _)⟩
   .cases h
  case h_3 hu=>rw[hu]at rI;cases rI
  case h_4 s hu=>
   split at h
   .rename_i hs;simp at h;subst h;exact⟨rfl,.str hu (by simpa using hs),one _ _ rfl (.str s.data.toList)⟩
   .cases h
  case h_5 hu=>rw[hu]at rI;cases rI
  case h_6 hu=>rw[hu]at rI;cases rI
  case h_7 e hu=>simp at h;subst h;exact⟨rfl,.sl hu (by simp) (by simp),one _ _ rfl (.emp none 0)⟩
  case h_8 e a len cap hu=>
   rw[hu]at rI;simp only[g2Z,g3N]at rI;obtain⟨heL,mI⟩:=rI;simp only at h;split at h
   .rename_i hc;obtain⟨_,hlc,hcm⟩:=hc;simp only[g2Y,g3n]at h;obtain⟨elems,he,rest,_,rfl⟩:=h;have hlen:elems.length=len:=by simpa using mapM_some_length he
    have each:∀(i:Nat)(y:DataW H×List MemPlace),elems[i]? =some y->∃xG,w.cells? 0 (a.add (i*P.cellsOf e)) (P.cellsOf e)=some xG/\DataW.trod enc P w 0 sp held n e xG=some y:=λi y hy=>by
     have hi:i<len:=by have:=(g3a.1 hy).1;omega
     obtain⟨v,h1,h2⟩:=vW he i i (by simp[hi]);rw[hy]at h1;cases h1;simpa only[g3n]using h2
    simp only[flat,b4n,List.map_map];refine⟨rfl,.sl hu (by simp[hlen];omega) (λz hz=>?_),?_⟩
    .obtain⟨y,hy,rfl⟩:=g3u.1 hz;obtain⟨i,hi⟩:=List.mem_iff_getElem?.1 hy;obtain⟨xG,h1,h2⟩:=each i y hi;exact(ih e xG y heL h2).2.1
    .refine one _ _ rfl ?_;by_cases h0:len=0
     .subst h0;have:elems=[]:=g3J hlen;subst this;exact .emp _ _
     .obtain⟨y0,hy0⟩:∃y,elems[0]? =some y:=⟨elems[0]'(by omega),g3d _⟩;obtain⟨cs0,zO,_⟩:=each 0 y0 hy0;have h00:=(a7g zO).2 0 mI;have e5V:a.spot=none:=by simpa[Addr.add]using d3p h00
      obtain⟨b,o,sp0⟩:=a;simp only at e5V;subst e5V;have cell:∀(i j:Nat),i<len->j<P.cellsOf e->∃y xG,elems[i]? =some y/\DataW.trod enc P w 0 sp held n e xG=some y/\xG.length=P.cellsOf e/\w.cell? ⟨b,o+i*P.cellsOf e+j,none⟩=some (xG.getD j undef):=λi j hi hj=>by
       have hy:elems[i]? =some (elems[i]'(by omega)):=g3d _;obtain⟨xG,h1,h2⟩:=each i _ hy;obtain⟨h3,h4⟩:=a7g h1;refine⟨_,xG,hy,h2,h3,?_⟩;have h5:=c5S (h4 j hj);have e1:((⟨b,o,none⟩:Addr).add (i*P.cellsOf e)).block=b:=by unfold Addr.add;split<;>rfl
       have e2:((⟨b,o,none⟩:Addr).add (i*P.cellsOf e)).off=o+i*P.cellsOf e:=by
        unfold Addr.add;split
        .rename_i hz;simp[hz]
        .rfl
       rw[e1,e2]at h5;exact h5
      have kid:∀(i j:Nat)(e':List D)(d:D),(elems.map (flat∘(·.1)))[i]? =some e'->e'[j]? =some d->d.one=true/\V (RW w) w ((w.cell? ⟨b,o+i*P.cellsOf e+j,none⟩).getD undef) d:=λi j e' d h1 h2=>by
       rw[g3j]at h1;obtain⟨y,hy,rfl⟩:=g2Y.1 h1;have hi:i<len:=by have:=(g3a.1 hy).1;omega
       obtain⟨xG,f2l,htr⟩:=each i y hy;obtain⟨q1,_,q3⟩:=ih e xG y heL htr;obtain⟨p1,p2⟩:=q3 j d h2;have hj:j<P.cellsOf e:=by have:=(g3a.1 h2).1;have h3:=(a7g f2l).1;simp only[Function.comp]at this;omega
       obtain⟨y',cs2,hy',f9Y,hl2,rL⟩:=cell i j hi hj;rw[hy]at hy';cases hy';obtain⟨h3,h4⟩:=a7g f2l;have h5:=c5S (h4 j hj);have e1:((⟨b,o,none⟩:Addr).add (i*P.cellsOf e)).block=b:=by unfold Addr.add;split<;>rfl
       have e2:((⟨b,o,none⟩:Addr).add (i*P.cellsOf e)).off=o+i*P.cellsOf e:=by
        unfold Addr.add;split
        .rename_i hz;simp[hz]
        .rfl
       rw[e1,e2]at h5;rw[h5];exact⟨p1,p2⟩
      refine .sl b o len cap (P.cellsOf e) _ (λi j=>(w.cell? ⟨b,o+i*P.cellsOf e+j,none⟩).getD undef) (by simp[hlen]) hlc mI (λx hx=>?_) (λi j hi hj=>?_) (λi j e' d h1 h2=>(kid i j e' d h1 h2).1) (λi j e' d h1 h2=>(kid i j e' d h1 h2).2)
      .obtain⟨y,hy,rfl⟩:=g3u.1 hx;obtain⟨i,hi⟩:=List.mem_iff_getElem?.1 hy;obtain⟨xG,h1,h2⟩:=each i y hi;simp only[Function.comp];rw[(ih e xG y heL h2).1,(a7g h1).1]
      .obtain⟨_,_,_,_,_,rL⟩:=cell i j hi hj;rw[rL];exact⟨d1A rL,rfl⟩
   .cases h
  case h_9 cs _ _ fs hu=>
   rw[hu]at rI;simp only at rI;split at h
   .rename_i hc;obtain⟨hk1,hk2,hk3⟩:=kid_struct rZ hts hu;simp only[g2Y]at h;obtain⟨xs,hx,rfl⟩:=h;have hlen:xs.length=fs.toList.length:=mapM_some_length hx;obtain⟨q1,q2,q3⟩:=b6F (w:=w) (parts:=xs) (cs:=cs) (offs:=fs.toList.map (·.offset)) (szs:=fs.toList.map λf=>P.cellsOf f.type) (by simp[hlen]) (by simp[hlen])
     (λj o ho=>by rw[g3j]at ho;obtain⟨f,hf,rfl⟩:=g2Y.1 ho;rw[hk3 j f hf,List.map_take]) (by rw[hc,hk2])
     (λj y o s h1 h2 h3=>by rw[g3j]at h2 h3;obtain⟨f,hf,rfl⟩:=g2Y.1 h2;rw[hf]at h3;simp only[Option.map_some,g3f]at h3;subst h3;obtain⟨v,p1,p2⟩:=vW hx j f hf;rw[h1]at p1;cases p1;have:=ih f.type _ _ (g3c.1 rI f (g3e hf)) p2;exact⟨this.1,this.2.2⟩)
    simp only[flat];refine⟨q1,.struct hu (by rw[q1,hc]) (λf hf=>?_),q3⟩;obtain⟨j,hj⟩:=List.mem_iff_getElem?.1 hf;obtain⟨v,p1,p2⟩:=vW hx j f hj;rw[q2 j v f.offset (P.cellsOf f.type) p1 (by rw[g3j,hj];rfl) (by rw[g3j,hj];rfl)];exact(ih f.type _ _ (g3c.1 rI f hf) p2).2.1
   .cases h
  case h_10 cs _ _ m e hu=>
   rw[hu]at rI;simp only at rI;split at h
   .rename_i hc;obtain⟨_,hk2⟩:=kid_array rZ hts hu;simp only[g2Y]at h;obtain⟨xs,hx,rfl⟩:=h;have hlen:xs.length=m:=by simpa using mapM_some_length hx
    have at':∀(j:Nat)(y:DataW H×List MemPlace),xs[j]? =some y->DataW.trod enc P w 0 sp held n e ((cs.drop (j*P.cellsOf e)).take (P.cellsOf e))=some y:=λj y hy=>by
     have hj:j<m:=by have:=(g3a.1 hy).1;omega
     obtain⟨v,p1,p2⟩:=vW hx j j (by simp[hj]);rw[hy]at p1;cases p1;exact p2
    have e2P:∀j,j<=m->(((List.replicate m (P.cellsOf e)).take j).sum)=j*P.cellsOf e:=λj hj=>by rw[List.take_replicate,Nat.min_eq_left hj,List.sum_replicate_nat]
    obtain⟨q1,q2,q3⟩:=b6F (w:=w) (parts:=xs) (cs:=cs) (offs:=(List.range m).map λi=>i*P.cellsOf e) (szs:=List.replicate m (P.cellsOf e)) (by simp[hlen]) (by simp[hlen])
     (λj o ho=>by
      rw[g3j]at ho;obtain⟨i,hi,rfl⟩:=g2Y.1 ho;have hjm:j<m:=by have:=(g3a.1 hi).1;simpa using this
      have:i=j:=by rw[List.getElem?_range hjm]at hi;simpa using hi.symm
      rw[this,e2P j (by omega)]) (by rw[hc,hk2,List.sum_replicate_nat])
     (λj y o s h1 h2 h3=>by
      have hjm:j<m:=by have:=(g3a.1 h1).1;omega
      have ho:o=j*P.cellsOf e:=by rw[g3j,List.getElem?_range hjm]at h2;simpa using h2.symm
      have hs:s=P.cellsOf e:=by rw[g3R,if_pos hjm]at h3;simpa using h3.symm
      subst ho hs;have:=ih e _ _ rI (at' j y h1);exact⟨this.1,this.2.2⟩)
    simp only[flat];refine⟨q1,.array hu (by rw[q1,hc]) (λi hi=>?_),q3⟩;have hy:xs[i]? =some (xs[i]'(by omega)):=g3d _;rw[q2 i _ (i*P.cellsOf e) (P.cellsOf e) hy (by rw[g3j,List.getElem?_range hi];rfl) (by rw[g3R,if_pos hi])];exact(ih e _ _ rI (at' i _ hy)).2.1
   .cases h
  all_goals first|(rename_i hu;rw[hu]at rI;cases rI;done)|(cases h;done)
variable{t:TypeId}
theorem d6E{ds:List D}(hu:P.underlying t=some .string)(h:a3i P t ds):∃s,ds=[.str s]/\s.length<=maxLen:=by
 cases h with
 |str _ h=>exact⟨_,rfl,h⟩
 |_ h1=>rw[hu]at h1;cases h1
def a9q(P:Program)(t:TypeId)(d:D):Prop:=
 match P.underlying t with
 |some u=>if qU u then ∃cs,d=.agg cs/\a3i P t cs else a3i P t [d]
 |none=>False
def b1B(P:Program):List TypeId->List D->Prop
 |[],[]=>True
 |t::ts,d::ds=>a9q P t d/\b1B P ts ds
 |_,_=>False
variable{d:D}{u:TypeDesc}
theorem d3q(hu:P.underlying t=some u)(ha:qU u=false)(h:a9q P t d):a3i P t [d]:=by unfold a9q at h;rw[hu]at h;simp only[ha]at h;exact h
theorem d3r(hu:P.underlying t=some .string)(h:a9q P t d):∃s,d=.str s/\s.length<=maxLen:=by obtain⟨s,h1,h2⟩:=d6E hu (d3q hu rfl h);cases h1;exact⟨s,rfl,h2⟩
variable{r:Reach}{v:Value}{b0:Nat}
theorem b6G(hu:P.underlying t=some u)(ha:qU u=false)(hp:(match P.underlying t with|some .bool|some (.int _)|some .string|some (.slice _)=>true|_=>false)=true)(a2Q:Value.okWide P w r b0 t v):v.cells=#[v]:=by
 unfold Value.okWide at a2Q;rw[hu]at a2Q hp;cases u<;>simp only[qU]at ha<;>(try cases ha)<;>simp only[]at hp<;>(try cases hp)
 all_goals
  simp only[Cell.okWide,hu]at a2Q;cases v<;>first|rfl|(simp[Cell.ok,hu]at a2Q)
theorem d6F(rZ:laidOutB P=true)(hp:a3j P L=true){d:DataW H}{ps:List MemPlace}(hT:L.contains t=true)(a2Q:Value.okWide P w r b0 t v)(h:DataW.Trod enc P w 0 sp held t v d ps):
  ∃x,a9q P t x/\V (RW w) w v x:=by
 obtain⟨n,hn⟩:=h;obtain⟨h1,h2,h3⟩:=b3l rZ hp n t _ _ hT hn;have rI:=g3c.1 hp t (by simpa using hT);simp only[g2Z,g3N]at rI;obtain⟨_,rI⟩:=rI;cases hu:P.underlying t with
 |none=>rw[hu]at rI;cases rI
 |some u=>
  cases ha:qU u with
  |true=>
   have hv:∃cs:Array Value,v=.agg cs:=by
    unfold Value.okWide at a2Q;rw[hu]at a2Q;cases u<;>simp only[qU]at ha<;>(try cases ha)
    .obtain⟨cs,hv,_⟩:=a2Q;exact⟨cs,hv⟩
    .obtain⟨cs,hv,_⟩:=a2Q;exact⟨cs,hv⟩
   obtain⟨cs,rfl⟩:=hv;refine⟨.agg (flat d),by simp only[a9q,hu,ha,if_true];exact⟨_,rfl,h2⟩,.agg _ _ (by simpa[Value.cells]using h1.symm) (λi x hx=>(h3 i x hx).1) (λi x hx=>?_)⟩;have:=(h3 i x hx).2;simpa[Value.cells,List.getD,g3b]using this
  |false=>
   have hc:v.cells=#[v]:=by refine b6G hu ha ?_ a2Q;rw[hu]at rI|-;cases u<;>simp only[qU]at ha<;>(try cases ha)<;>first|rfl|(simp at rI)
   rw[hc]at h1 h3;simp at h1;obtain⟨x,hx⟩:∃x,flat d=[x]:=List.length_eq_one_iff.1 h1;simp only[hx]at h2 h3;refine⟨x,by simp only[a9q,hu,ha];exact h2,?_⟩;simpa using (h3 0 x rfl).2
theorem a4w{r:Reach}{b0:Nat}(rZ:laidOutB P=true)(hp:a3j P L=true):∀{ts:List TypeId}{vs:List Value}{ds:List (DataW H)}{ps:List MemPlace},(∀t∈ts,L.contains t=true)->(∀(j:Nat) t v,ts[j]? =some t->vs[j]? =some v->Value.okWide P w r b0 t v)->
  DataW.TrodAll enc P w 0 sp held ts vs ds ps->∃xs,b1B P ts xs/\vs.length=xs.length/\∀(i:Nat)(d:D),xs[i]? =some d->V (RW w) w (vs.getD i undef) d
 |[],_,_,_,_,_,h=>by obtain⟨rfl,rfl,rfl⟩:=trodAll_nil h;exact⟨[],trivial,rfl,by simp⟩
 |t::ts,_,_,_,hT,hv,h=>by
  obtain⟨v,vs1,d,ds1,a,b,rfl,rfl,rfl,h1,h2⟩:=trodAll_cons h;obtain⟨x,q1,q2⟩:=d6F rZ hp (hT t (.head _)) (hv 0 t v rfl rfl) h1;obtain⟨xs,q3,q4,q5⟩:=a4w rZ hp (λt ht=>hT t (.tail _ ht)) (λj t v a b=>hv (j+1) t v a b) h2;refine⟨x::xs,⟨q1,q3⟩,by simp[q4],λi d hi=>?_⟩;cases i with
  |zero=>simp at hi;subst hi;simpa using q2
  |succ i=>simp at hi;simpa using q5 i d hi
theorem a9r{w':World}{base:Nat}:∀{ts:List TypeId}{vs:List Value}{ds:List (DataW H)}{ps:List MemPlace},DataW.TrodAll enc P w base sp held ts vs ds ps->(∀p∈ps,w.sameAt w' p)->DataW.TrodAll enc P w' base sp held ts vs ds ps
 |[],[],[],_,h,_=>h
 |_::_,_::_,_::_,_,⟨p,q,⟨n,hn⟩,h2,e⟩,hs=>⟨p,q,⟨n,DataW.trod_carry n _ _ _ hn λx hx=>hs x (by rw[e];exact List.mem_append_left _ hx)⟩,a9r h2 λx hx=>hs x (by rw[e];exact List.mem_append_right _ hx),e⟩
theorem b4o{base:Nat}:∀{ts:List TypeId}{vs:List Value}{ds:List (DataW H)}{ps:List MemPlace},DataW.TrodAll enc P w base sp held ts vs ds ps->ds.length=ts.length
 |[],[],[],_,_=>rfl
 |_::_,_::_,_::_,_,⟨_,_,_,h,_⟩=>by simp[b4o h]
variable{W:World}
theorem d3s{f:Func}{s:ChangeSpec}{apart fresh handsOn again:Bool}{W':World}{args:Array Value}{ds gs:List (DataW H)}{before:List MemPlace}(hW:DataW.Whole enc P f.params.toList s.vars apart W args.toList ds gs before)(pZ:Below W.heap.size W W')(kX:∀(b:Nat)(sp:Nat->Bool)(hd:Bool),DataW.TrodAll enc P W' b sp hd f.resultTypes.toList (v.resultList f.resultTypes.size) (s.fn H (ds++gs)).results [])(pD:∀sp:Nat->Bool,(∀p∈before,sp p.block=true)->DataW.TrodAll enc P W' 0 sp true f.params.toList args.toList (s.fn H (ds++gs)).args before)(c5T:∀sp:Nat->Bool,(∀p∈before,sp p.block=true)->DataW.TrodVars enc P W' sp s.vars (s.fn H (ds++gs)).vars [])(oB:∀(j:Nat)(t:TypeId)(r:Value),f.resultTypes[j]? =some t->(v.resultList f.resultTypes.size)[j]? =some r->Value.okWide P W' .any 0 t r):
  s.post enc P f apart fresh handsOn again W args v W':=by
 have aG:=hW.lt;have hold:∀p∈before,(λb=>decide (b<W.heap.size)) p.block=true:=λp hp=>by simpa using aG p hp
 refine⟨ds,gs,before,[],before,[],hW,kX _ _ _,pD _ hold,c5T _ hold,World.keptBut_mono (λp hp=>⟨hp,?_⟩) (pZ.frame (· ∈before)),λ_=>?_⟩
 .exact Or.inr (by simpa using hp)
 .obtain⟨_,_,_,_,_,hz,hn⟩:=hW;refine⟨oB,_,_,([]++before)++[],⟨[]++before,[],trodAll_append (pD _ (λ_ _=>rfl)) (kX _ _ _),c5T _ (λ_ _=>rfl),rfl,?_,?_⟩,?_⟩
  .intro b off hp;have hp':MemPlace.cell b off∈before:=by simpa using hp
   rw[pZ.frozen (aG _ hp')];exact hz b off hp'
  .intro ha;simpa using hn ha
  .intro p hp _;simpa using hp
theorem b1C{W:World}:∀{laid:List (String×DataW Unit)}{ps:List MemPlace},DataW.LaidVars P W laid ps->∀(n:String)(d:DataW Unit),(n,d)∈laid->
  ∃g t cs fuel p,P.globalNamed n=some g/\(P.globals[g]?).map (·.type)=some t/\W.var? P n=some cs/\DataW.trod (λ_=>()) P W 0 (λ_=>true) false fuel t cs.toList=some (d,p)
 |[],_,_,n,d,hm=>by cases hm
 |(n',d')::r,_,⟨g,t,cs,fuel,p,q,h1,h2,h3,h4,h5,_⟩,n,d,hm=>by
  rcases g3w.1 hm with he|hm
  .cases he;exact⟨g,t,cs,fuel,p,h1,h2,h3,h4⟩
  .exact b1C h5 n d hm
variable{laid:List (String×DataW Unit)}
theorem laidMetH_plain(hh:(laid.filter λx=>x.2.handleName?.isSome).isEmpty=true)(h:laidMetH P laid W):laidMet P laid W:=by unfold laidMetH at h;rw[List.isEmpty_iff.1 hh]at h;exact h
theorem c5U(hh:(laid.filter λx=>x.2.handleName?.isSome).isEmpty=true)(h:laidMet P laid W):laidMetH P laid W:=by unfold laidMetH;rw[List.isEmpty_iff.1 hh];exact h
theorem c5V(rZ:laidOutB P=true)(hp:a3j P L=true)(hh:(laid.filter λx=>x.2.handleName?.isSome).isEmpty=true)(h:laidMetH P laid W){n:String}{d:DataW Unit}{g:Nat}(hm:(n,d)∈laid)(hg:P.globalNamed n=some g)(ht:(P.globals[g]?).map (·.type)=some t)(hL:L.contains t=true:=by decide):
  Run (RW W) W g 0 (flat d)/\g<W.heap.size/\∃arr T fr,W.heap[g]? =some (.cells arr T fr)/\arr.size=(flat d).length:=by
 obtain⟨ps,hl,_⟩:=laidMetH_plain hh h;obtain⟨g',t',cs,fuel,p,h1,h2,h3,h4⟩:=b1C hl n d hm;rw[hg]at h1;cases h1;rw[ht]at h2;cases h2;obtain⟨q1,_,q3⟩:=b3l rZ hp fuel t _ _ hL h4;simp only[Array.length_toList]at q1;have f6j:∃T fr,W.heap[g]? =some (.cells cs T fr):=by
  unfold World.var? at h3;rw[hg]at h3;simp only[Option.bind_some]at h3;split at h3
  .rename_i T fr hb;cases h3;exact⟨T,fr,hb⟩
  .cases h3
 obtain⟨T,fr,hb⟩:=f6j;refine⟨λj x hj=>?_,(g3i.1 hb).1,cs,T,fr,hb,q1.symm⟩;obtain⟨p1,p2⟩:=q3 j x hj;have hjl:j<cs.size:=by have:=(g3a.1 hj).1;rw[q1]at this;exact this
 have rL:W.cell? ⟨g,0+j,none⟩=some (cs[j]'hjl):=by unfold World.cell?;simp only[hb];simp[hjl]
 refine⟨p1,d1A rL,_,rL,?_⟩;have:cs.toList.getD j undef=cs[j]:=by simp[List.getD,hjl]
 rwa[this]at p2
end
end Go.VM
end
