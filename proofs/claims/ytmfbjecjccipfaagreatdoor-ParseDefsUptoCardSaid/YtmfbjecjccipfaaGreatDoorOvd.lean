/- Lemmas. No condition. -/
import Derived.Test.YtmfbjecjccipfaaGreatDoorOvc
import Derived.Test.YtmfbjecjccipfaaGreatDoorRows
import Derived.Lib.ItoaNum
import Derived.Lib.LaidTab
import Derived.WalkSmall
import Derived.Deep.Draws
import Derived.Lib.Join
import Derived.Sort.Grow
import Derived.Lib.MapLaws
import Derived.Shelf.Strings.Builder1
import Derived.Shelf.Strings.Builder2
import Derived.Shelf.Strings.OnBuilder
import Derived.Shelf.Strings.Trim
import Derived.Shelf.Small.Utf8
import Derived.Shelf.Small.Strs
import Derived.Shelf.Strings.BuilderF
import Derived.Shelf.Strings.BuilderK
import Derived.Shelf.Strings.Search1
import Derived.Shelf.Strings.Prefix
import Derived.Shelf.Strings.Runes
import Derived.Shelf.Strings.AsciiSet
import Derived.Shelf.Unicode.DecodeSlow
import Derived.Test.YtmfbjecjccipfaaGreatDoorProg
import Derived.Lib.ItoaLen
set_option linter.unusedVariables false
set_option linter.unusedSimpArgs false
set_option linter.unusedSectionVars false
set_option maxRecDepth 100000
set_option maxHeartbeats 64000000
open Go.Proofs.Tryz
section
section
namespace Go.VM
open Go Go.RowKit Go.Sort
section
variable {P:Program} {G:GT}
variable{f:FuncId}
theorem CS.d1B{ds:List D}{r:D}(h:∀(w:World)(R:Nat->Nat->Prop)(args:Array Value),a8U G (a0X w.heap.size) R w->(∀b o,R b o->b<w.heap.size)->args.size=ds.length->(∀(i:Nat)(d:D),ds[i]? =some d->V R w (args.getD i undef) d)->
  Calls P f args w λe w'=>∃v,e=.returned v/\V R w' v r/\Below w.heap.size w w'):CS P G f ds (.d r) none:=λw R args hg hR hl hv=>
 (h w R args hg hR hl hv).mono λe w' ⟨v,he,hr,hb⟩=>⟨v,R,he,λ_=>.d _ _ hr,⟨.d5r hb,λ_ _ h=>h,λ_ _ h h'=>absurd h h',λb o hbo=>hb.cell (hR b o hbo)⟩,λb o hbo=>Nat.lt_of_lt_of_le (hR b o hbo) hb.size,λ_ he=>by cases he⟩
theorem e2Q{xs:List (List UInt8)}{sep:List UInt8}(h0:∀(a:Option Addr)(c:Nat)(sep:ByteArray)(w:World),Calls P f #[.slice a 0 c,.string sep] w λe w'=>e=.returned (.string ⟨#[]⟩)/\w'=w)(h1:∀(bk o c:Nat)(xs:List ByteArray)(sep:ByteArray)(w:World),(∀(j:Nat) x,xs[j]? =some x->w.cell? ⟨bk,o+j,none⟩=some (.string x))->bk<w.heap.size->xs.length<=140737488355328->xs.length<=c->(Lib.join (xs.map (·.data.toList)) sep.data.toList).length<=140737488355328->
   Calls P f #[.slice (some ⟨bk,o,none⟩) xs.length c,.string sep] w λe w'=>e=.returned (.string ⟨(Lib.join (xs.map (·.data.toList)) sep.data.toList).toArray⟩)/\Below w.heap.size w w')(hl:xs.length<=140737488355328)(hj:(Lib.join xs sep).length<=140737488355328):CS P G f [.sl (xs.map λs=>[.str s]),.str sep] (.d (.str (Lib.join xs sep))) none:=by
 refine CS.d1B λw R args hg hR hs hv=>?_;have ha:args=#[args.getD 0 undef,args.getD 1 undef]:=by
  obtain⟨l⟩:=args
  match l,hs with
  |[a,b],_=>rfl
 have e1:=(hv 1 _ rfl).vR;have e0:=hv 0 _ rfl;have nix:∀a c,xs=[]->args=#[.slice a 0 c,.string ⟨sep.toArray⟩]->Calls P f args w λe w'=>∃v,e=.returned v/\V R w' v (.str (Lib.join xs sep))/\Below w.heap.size w w':=λa c hx ha'=>by rw[ha',hx,Lib.join_nil];exact(h0 a c _ w).mono λe w' ⟨he,hw⟩=>⟨_,he,.str [],hw▸Below.refl _ _⟩
 generalize args.getD 0 undef=v0 at *;rw[e1]at ha;generalize hes:(xs.map λs=>[D.str s])=es0 at e0;cases e0 with
 |emp ao cap=>exact nix ao cap (by simpa using hes) ha
 |sl b o n cap size es g q1 q2 q3 q4 q5 q6 q7=>
  subst hes;by_cases hx:xs=[]
  .have:n=0:=by rw[q1,hx];rfl
   subst this;exact nix _ cap hx ha
  .have hn:n=xs.length:=by rw[q1];simp
   have mI:size=1:=by
    cases xs with
    |nil=>exact absurd rfl hx
    |cons x r=>exact(q4 [.str x] (by simp)).symm
   subst mI;have hc:∀(j:Nat)(x:List UInt8),xs[j]? =some x->R b (o+j)/\w.cell? ⟨b,o+j,none⟩=some (.string ⟨x.toArray⟩):=λj x hj=>by
    have hjl:j<n:=by rw[hn];exact(g3a.1 hj).1
    obtain⟨r1,r2⟩:=q5 j 0 hjl (by omega);have:=q7 j 0 [.str x] (.str x) (by rw[g3j,hj];rfl) rfl;simp only[Nat.mul_one,Nat.add_zero]at r1 r2;rw[this.vR]at r2;exact⟨r1,r2⟩
   have hb:b<w.heap.size:=by
    cases xs with
    |nil=>exact absurd rfl hx
    |cons x r=>exact hR b _ (hc 0 x rfl).1
   have key:=h1 b o cap (xs.map λs=>⟨s.toArray⟩) ⟨sep.toArray⟩ w (λj x hj=>by rw[g3j]at hj;obtain⟨y,hy,rfl⟩:=g2Y.1 hj;exact(hc j y hy).2) hb (by simpa using hl) (by simp;omega) (by simpa[List.map_map,Function.comp_def]using hj)
   simp only[List.length_map,List.map_map,Function.comp_def]at key;rw[ha,hn];have hid:List.map (λx:List UInt8=>x) xs=xs:=by simp
   simp only[hid]at key;exact key.mono λe w' ⟨he,hw⟩=>⟨_,he,.str _,hw⟩
end
end Go.VM
end
section
namespace Go.VM
open Go Go.RowKit
section
variable {P:Program} {G:GT} {st:St} {base:dU} {R:Nat->Nat->Prop} {μ:Nat->Nat} {a:Act} {w:World}
def d6G(P:Program)(s:St):ResultVar->Option DV
 |.tmp i=>some (s.tmps.getD i (.cY []))
 |.cell p ty=>match s.tmps.getD p (.cY [])with
  |.ptr k off=>(match getKey k s.H with
   |some (.cells cs)=>b3U P ty (cs.drop off)
   |_=>none)
  |_=>none
def a3k(P:Program)(s:St)(rs:List ResultVar):Option DV:=match rs with
 |[r]=>d6G P s r
 |rs=>(a6Y P s rs).map .cY
theorem e2R(hr:Rel P G base R μ st a w){r:ResultVar}{x:DV}(h:d6G P st r=some x):∃v,(b3i a.tmps r).run P w=.ok v w/\TV R μ w v x:=by
 cases r with
 |tmp i=>simp only[d6G,g3f]at h;subst h;have he:=hr.eval (.tmp i);simp only[St.eval,Act.eval]at he;exact⟨_,rfl,he⟩
 |cell p ty=>
  simp only[d6G]at h;have he:=hr.eval (.tmp p);simp only[St.eval,Act.eval]at he;split at h
  .rename_i k off hp;split at h
   .rename_i cs hk;rw[hp]at he;obtain⟨_,_,hob⟩:=hr.mE k _ hk;have dD:=(b3b.c2j hob).drop off;rw[Nat.zero_add]at dD;obtain⟨v,h1,h2,_⟩:=zZ (P:=P) dD h;refine⟨v,?_,h2⟩;unfold b3i;simp only;rw[he.c2k];simp only[asAddr,g3O,Sem.run_pure,g3Q,h1]
   .cases h
  .cases h
variable{r:DV}{fn:Func}
theorem a2p(hr:Rel P G base R μ st a w)(h:a3k P st fn.results.toList=some r):∃v,(results fn a.tmps).run P w=.ok v w/\TV R μ w v r:=by
 unfold a3k at h;split at h
 .rename_i r0 hrs;obtain⟨v,h1,h2⟩:=e2R hr h;refine⟨v,?_,h2⟩;rw[b0k,Array.mapM_eq_mapM_toList,hrs];simp[h1]
 .rename_i gK;obtain⟨ds,hds,rfl⟩:=g2Y.1 h;obtain⟨vs,h1,h2,h3⟩:=b6w hr hds;have hl:vs.length≠1:=λe=>by
   have:ds.length=1:=by omega
   have hrl:fn.results.toList.length=1:=by rw[<-c0P hds];exact this
   match hq:fn.results.toList,hrl with
   |[x],_=>exact gK x hq
  refine⟨.tuple vs.toArray,?_,.cY _ _ (by simpa using h2) (λi d hi=>by have:=h3 i d hi;simpa[g3b,List.getD]using this)⟩;rw[b0k,Array.mapM_eq_mapM_toList];simp only[g3O,Sem.run_map,h1,g3Q,Sem.run_pure];rw[dif_neg (by simpa using hl)]
where c0P {P:Program} {s:St}:∀{l:List ResultVar}{ds:List D},a6Y P s l=some ds->ds.length=l.length
 |[],ds,h=>by simp[a6Y]at h;subst h;rfl
 |r::l,ds,h=>by
  simp only[a6Y]at h;split at h
  .rename_i x ds' _ h';simp at h;subst h;simp[c0P h']
  .cases h
def b3m(n:Nat)(rs:List ResultVar):Loc->Option Loc
 |.t j=>match rs with
  |[.tmp i]=>if i=j/\j<n then some (.t 0) else none
  |_=>none
 |.c k off=>some (.c k off)
def b4p(s:St)(rs:List ResultVar)(r:DV):St:=⟨[r],s.H,s.own.map λc=>(c.1,c.2.filterMap (b3m s.tmps.length rs))⟩
def d1C(P:Program)(s:St)(rs:List ResultVar)(s1:St):Prop:=match a3k P s rs with
 |some r=>yE (b4p s rs r) s1
 |none=>False
theorem Rel.ret(hr:Rel P G base R μ st a w){v:Value}(hv:(results fn a.tmps).run P w=.ok v w)(ht:TV R μ w v r):Rel P G base R μ (b4p st fn.results.toList r) {tmps:=#[v],defers:=[]} w:=by
 refine⟨rfl,rfl,λi u d hu hd=>?_,hr.mE,hr.inj,λc hc k off hl=>?_,?_,hr.wS,hr.rY,hr.base,hr.pass⟩
 .simp only[b4p]at hd;cases i with
  |zero=>simp at hu hd;subst hu hd;exact ht
  |succ i=>simp at hd
 .simp only[b4p,g3u]at hc;obtain⟨c0,zO,rfl⟩:=hc;simp only[g3E]at hl;obtain⟨l0,hl0,he⟩:=hl;cases l0 with
  |t j=>
   simp only[b3m]at he;split at he
   .split at he<;>cases he
   .cases he
  |c k' a6K=>simp only[b3m,g3f]at he;cases he;exact hr.eR c0 zO k off hl0
 .obtain⟨vs,hl,h1,hap⟩:=hr.own;refine⟨vs,by simpa[b4p]using hl,λi c u hc hu=>?_,hap⟩;simp only[b4p,g3j]at hc;obtain⟨c0,zO,rfl⟩:=g2Y.1 hc;have ho:=h1 i c0 u zO hu;refine⟨λl hl u' hu'=>?_,ho.own,ho.keys⟩;simp only[g3E]at hl;obtain⟨l0,hl0,he⟩:=hl;cases l0 with
  |t j=>
   simp only[b3m]at he;split at he
   .rename_i i' hrs;split at he
    .rename_i hij;cases he;obtain⟨rfl,aG⟩:=hij;simp[cX]at hu';subst hu';have d6c:fn.results=#[.tmp i']:=by apply Array.ext';simpa using hrs
     rw[results_tmp d6c a.tmps P w]at hv;cases hv;have c2J:i'<a.tmps.size:=by rw[hr.size];exact aG
     exact ho.eR _ hl0 _ (by simp[cX,c2J])
    .cases he
   .cases he
  |c k' a6K=>simp only[b3m,g3f]at he;subst he;exact ho.eR _ hl0 u' hu'
variable{n:Nat}{f:FuncId}{c:Code}{s0 s1:St}{rs:List ResultVar}
theorem CH.xV(hf:P.funcs[f]? =some fn)(hb:fn.body=some c)(hn:fn.ntmps=n)(hrs:fn.results.toList=rs)(hT:(s0.own.all λc=>c.2.all λl=>match l with|.t i=>decide (i<s0.tmps.length)|_=>true)=true)(h:SW P G c ⟨s0.tmps++List.replicate (n-s0.tmps.length) (.cY []),s0.H,s0.own⟩ λe s=>(e=.normal\/e=.ret)/\d1C P s rs s1):CH P G f s0 s1:=by
 subst hrs;intro base R μ args w hr;refine calls_of_wp hf hb ?_;have mI:args.size=s0.tmps.length:=hr.size;have hrel:Rel P G base R μ ⟨s0.tmps++List.replicate (n-s0.tmps.length) (.cY []),s0.H,s0.own⟩ {tmps:=args++Array.replicate (fn.ntmps-args.size) undef,defers:=[]} w:=by
  refine⟨rfl,by simp[mI,hn],λi v d hiv hid=>?_,hr.mE,hr.inj,hr.eR,?_,hr.wS,hr.rY,hr.base,hr.pass⟩
  .simp only at hid;by_cases hi:i<s0.tmps.length
   .rw[g3k hi]at hid;rw[g3H (by omega)]at hiv;exact hr.tmps i v d hiv hid
   .rw[g3h (by omega),g3R]at hid;split at hid<;>simp at hid;subst hid;rw[g3W (by omega),Array.getElem?_replicate]at hiv;split at hiv<;>simp at hiv;subst hiv;exact .cY #[] [] rfl (by simp)
  .obtain⟨vs,hl,h1,hap⟩:=hr.own;refine⟨vs,hl,λi c v hc hv=>?_,hap⟩;have ho:=h1 i c v hc hv;refine⟨λl hl u hu=>?_,ho.own,ho.keys⟩;cases l with
   |t j=>have hj:=g3c.1 (g3c.1 hT c (g3e hc)) _ hl;simp only[g3N]at hj;simp only[cX]at hu;rw[g3H (by omega)]at hu;exact ho.eR _ hl u hu
   |c k off=>exact ho.eR _ hl u hu
 refine wp_mono (h base R μ _ w hrel) λe a' w' ⟨s,R',μ',⟨he,a2R⟩,jD,hs⟩=>?_;unfold d1C at a2R;split at a2R
 .rename_i r kX;obtain⟨v,hv1,hv2⟩:=a2p jD kX;have a6Z:a'.defers=[]/\∃v,(results fn a'.tmps).run P w'=.ok v w'/\∃v' R' μ',Ending.returned v=.returned v'/\Rel P G base R' μ' s1 {tmps:=#[v'],defers:=[]} w'/\Step base R w R' w':=
   ⟨jD.defers,v,hv1,v,R',μ',rfl,(jD.ret hv1 hv2).a3N a2R,hs⟩
  rcases he with rfl|rfl
  .exact a6Z
  .exact a6Z
 .exact a2R.elim
theorem CH.aW(hf:P.funcs[f]? =some fn)(hb:fn.body=some c)(hn:fn.ntmps=n)(hrs:fn.results.toList=rs)(hT:(s0.own.all λc=>c.2.all λl=>match l with|.t i=>decide (i<s0.tmps.length)|_=>true)=true)(h:VK P G [.code c] .normal ⟨s0.tmps++List.replicate (n-s0.tmps.length) (.cY []),s0.H,s0.own⟩ λe s=>(e=.normal\/e=.ret)/\d1C P s rs s1):CH P G f s0 s1:=CH.xV hf hb hn hrs hT (a6g c _ _ (c5F h))
end
end Go.VM
end
section
namespace Go.VM
open Go Go.RowKit
def xW(s:St):List (TypeId×List Loc)->List (TypeId×List Loc)->Option (List (TypeId×List Loc))
 |own,[]=>some own
 |own,c::r=>if b6t s c then xW s own r else match a1x c own with
  |some own1=>xW s own1 r
  |none=>none
def jF(K:List (Nat×Nat))(dst:Option Tmp):Loc->Option Loc
 |.t i=>if i=0 then dst.map Loc.t else none
 |.c k off=>some (.c (rk K k) off)
def kU(K:List (Nat×Nat))(dst:Option Tmp)(c:TypeId×List Loc):TypeId×List Loc:=(c.1,c.2.filterMap (jF K dst))
def b6H(K:List (Nat×Nat))(ls:List (Option Loc)):Loc->Option Loc
 |.t i=>(ls[i]?).join
 |.c k off=>some (.c (rk K k) off)
def sB(K:List (Nat×Nat))(ls:List (Option Loc))(c:TypeId×List Loc):TypeId×List Loc:=(c.1,c.2.filterMap (b6H K ls))
def a1d(n:Nat)(ls:List (Option Loc))(own:List (TypeId×List Loc)):Bool:=own.all λc=>c.2.all λl=>match l with
 |.t i=>(match ls[i]? with
  |some (some (.t t))=>decide (t<n)
  |_=>false)
 |.c _ _=>true
def eN:List (Nat×Nat)->List (TypeId×List Loc)->List (TypeId×List Loc)
 |[],own=>own
 |p::r,own=>eN r (dropKey p.2 own)
def bW(K:List (Nat×Nat)):List (Nat×bH)->List (Nat×bH)->List (Nat×bH)
 |[],H=>H
 |p::r,H=>bW K r (cE (rk K p.1) (dM K p.2) H)
def dE(K:List (Nat×Nat))(H:List (Nat×bH)):List (Nat×bH):=H.map λp=>(rk K p.1,dM K p.2)
def kG(dst:Option Tmp)(d:DV)(l:List DV):List DV:=match dst with
 |some i=>l.set i d
 |none=>l
def hZ(dst:Option Tmp)(own:List (TypeId×List Loc)):List (TypeId×List Loc):=match dst with
 |some d=>dF (.t d) own
 |none=>own
def bJ(K:List (Nat×Nat))(dst:Option Tmp)(st:St)(rest:List (TypeId×List Loc))(r:DV)(H1:List (Nat×bH))(own1:List (TypeId×List Loc)):St:=
 {tmps:=kG dst (bI K r) st.tmps,H:=bW K H1 st.H,own:=own1.map (kU K dst)++hZ dst (eN K rest)}
def aR(K:List (Nat×Nat))(s0:St)(r:DV)(H1:List (Nat×bH)):Bool:=
 decide ((K.map (·.1)).Nodup)&&decide ((K.map (·.2)).Nodup)&&(K.all λp=>decide (100000<=p.1))&&(s0.tmps.all (aY K))&&
 (s0.H.all λp=>(K.any λq=>q.1==p.1)&&bB K p.2&&(getKey p.1 H1).isSome)&&bM s0.H s0.own&&
 aY K r&&decide ((H1.map (·.1)).Nodup)&&(H1.all λp=>bB K p.2&&(getKey p.1 s0.H).isSome)
theorem kH{k:Nat}{o:bH}:∀{H:List (Nat×bH)},getKey k H=some o->(k,o)∈H
 |[],h=>by simp[getKey]at h
 |(k',o')::r,h=>by
  unfold getKey at h;split at h
  .rename_i he;cases h;subst he;exact .head _
  .exact .tail _ (kH h)
theorem getKey_of_mem{k:Nat}{o:bH}:∀{H:List (Nat×bH)},(H.map (·.1)).Nodup->(k,o)∈H->getKey k H=some o
 |(k',o')::r,hn,h=>by
  simp only[List.map_cons,List.nodup_cons]at hn;unfold getKey;rcases g3w.1 h with he|h
  .cases he;simp
  .have:k'≠k:=λe=>hn.1 (by rw[e];exact g3u.2 ⟨(k,o),h,rfl⟩);rw[if_neg this];exact getKey_of_mem hn.2 h
theorem a0x{K:List (Nat×Nat)}{k:Nat}{o:bH}:∀{l H:List (Nat×bH)},getKey k (bW K l H)=some o->(∃p∈l,k=rk K p.1/\o=dM K p.2)\/((∀p∈l,k≠rk K p.1)/\getKey k H=some o)
 |[],H,h=>.inr ⟨by simp,h⟩
 |p::r,H,h=>by
  rcases a0x (l:=r) h with⟨q,h1,h2⟩|⟨h1,h2⟩
  .exact .inl ⟨q,.tail _ h1,h2⟩
  .rw[jS]at h2;split at h2
   .rename_i he;cases h2;exact .inl ⟨p,.head _,he.symm,rfl⟩
   .rename_i gK;exact .inr ⟨λq hq=>by rcases g3w.1 hq with rfl|hq;exact λe=>gK e.symm;exact h1 q hq,h2⟩
theorem a7h{K:List (Nat×Nat)}{k:Nat}:∀{l H:List (Nat×bH)},(∃o,getKey k H=some o)->∃o,getKey k (bW K l H)=some o
 |[],H,h=>h
 |p::r,H,⟨o,h⟩=>a7h (l:=r) (by
   rw[jS];split
   .exact⟨_,rfl⟩
   .exact⟨o,h⟩)
theorem b6I{K:List (Nat×Nat)}:∀{own:List (TypeId×List Loc)}{i:Nat}{c:TypeId×List Loc},(eN K own)[i]? =some c->∃c',own[i]? =some c'/\c.1=c'.1/\∀x,x∈c.2->x∈c'.2/\∀p∈K,x.a0G p.2=false:=by
 induction K with
 |nil=>intro own i c h;exact⟨c,h,rfl,λx hx=>⟨hx,by simp⟩⟩
 |cons p r ih=>intro own i c h;obtain⟨c1,h1,h2,h3⟩:=ih h;obtain⟨c0,g1,g2,g3⟩:=a0I h1;refine⟨c0,g1,h2.trans g2,λx hx=>?_⟩;obtain⟨q1,q2⟩:=h3 x hx;have q3:=(g3 x).1 q1;exact⟨q3.1,λy hy=>by rcases g3w.1 hy with rfl|hy;exact q3.2;exact q2 y hy⟩
theorem b4q{dst:Option Tmp}{own:List (TypeId×List Loc)}{i:Nat}{c:TypeId×List Loc}(h:(hZ dst own)[i]? =some c):∃c',own[i]? =some c'/\c.1=c'.1/\∀x,x∈c.2->x∈c'.2/\∀d,dst=some d->x≠ .t d:=by
 cases dst with
 |none=>exact⟨c,h,rfl,λx hx=>⟨hx,by simp⟩⟩
 |some d=>obtain⟨c',h1,h2,h3⟩:=sM h;exact⟨c',h1,h2,λx hx=>⟨((h3 x).1 hx).1,λd' hd=>by cases hd;exact((h3 x).1 hx).2⟩⟩
theorem c9x(K:List (Nat×Nat)):∀own,(eN K own).length=own.length:=by
 induction K with
 |nil=>intro own;rfl
 |cons p r ih=>intro own;simp[eN,ih,dropKey]
theorem c5W(dst:Option Tmp)(own:List (TypeId×List Loc)):(hZ dst own).length=own.length:=by cases dst<;>simp[hZ,dF]
section
variable {P:Program} {G:GT} {st:St} {base:dU} {R:Nat->Nat->Prop} {μ:Nat->Nat} {a:Act} {w:World}
theorem a7i(hr:Rel P G base R μ st a w):∀(cs own own1:List (TypeId×List Loc))(vs:List Value),c9j P base R μ st a w own vs->xW st own cs=some own1->
  ∃vsT vs1:List Value,vsT.length=cs.length/\(∀(i:Nat)(c:TypeId×List Loc)(v:Value),cs[i]? =some c->vsT[i]? =some v->a5c P base R μ st a w c v)/\vsT.Pairwise a5Z/\c9j P base R μ st a w own1 vs1/\
   (∀v∈vsT,∀u∈vs1,a5Z v u)/\(∀x∈vs1,x∈vs)/\∀x∈vsT,bQ x=none\/x∈vs
 |[],own,own1,vs,h,ht=>by simp only[xW,g3f]at ht;subst ht;exact⟨[],vs,rfl,by simp,.nil,h,by simp,λ_ h=>h,by simp⟩
 |c::r,own,own1,vs,h,ht=>by
  unfold xW at ht;split at ht
  .rename_i hn;obtain⟨vsT,vs1,q1,q2,q3,q4,q5,q6,q7⟩:=a7i hr r own own1 vs h ht;have hex:∃v,a5c P base R μ st a w c v/\bQ v=none:=by
    by_cases hx:∃l∈c.2,∃u,cX a w μ l=some u
    .obtain⟨l,hl,u,hu⟩:=hx;unfold b6t at hn;split at hn
     .rename_i he;rw[he]at hl;cases hl
     .rename_i l' he;rw[he]at hl;simp at hl;subst hl;obtain⟨ao,rfl⟩:=c0J hr hn hu;have hs:bQ (.slice ao 0 0)=none:=by cases ao<;>rfl
      exact⟨.slice ao 0 0,⟨λl2 hl2 u2 hu2=>by rw[he]at hl2;simp at hl2;subst hl2;rw[hu]at hu2;exact(Option.some.inj hu2).symm,.inl ⟨ao,rfl⟩,λk o _=>by rw[hs];simp⟩,hs⟩
     .cases hn
    .exact⟨.slice none 0 0,⟨λl hl u hu=>absurd ⟨l,hl,u,hu⟩ hx,.inl ⟨none,rfl⟩,λk o _=>by simp[bQ]⟩,rfl⟩
   obtain⟨v,hv1,hv2⟩:=hex;refine⟨v::vsT,vs1,by simp[q1],λi c' u hc hu=>?_,List.pairwise_cons.2 ⟨λx _ g hg=>(by rw[hv2]at hg;cases hg),q3⟩,q4,λx hx u hu=>?_,q6,λx hx=>?_⟩
   .cases i with
    |zero=>simp at hc hu;subst hc hu;exact hv1
    |succ i=>simp at hc hu;exact q2 i c' u hc hu
   .rcases g3w.1 hx with rfl|hx
    .exact λg hg=>by rw[hv2]at hg;cases hg
    .exact q5 x hx u hu
   .rcases g3w.1 hx with rfl|hx
    .exact .inl hv2
    .exact q7 x hx
  .split at ht
   .rename_i f2m htk;obtain⟨v,vs2,p1,p2,p3,p4,p5⟩:=h.take htk;obtain⟨vsT,vs1,q1,q2,q3,q4,q5,q6,q7⟩:=a7i hr r f2m own1 vs2 p2 ht;refine⟨v::vsT,vs1,by simp[q1],λi c' u hc hu=>?_,List.pairwise_cons.2 ⟨λx hx=>?_,q3⟩,q4,λx hx u hu=>?_,λx hx=>p3 x (q6 x hx),λx hx=>?_⟩
    .cases i with
     |zero=>simp at hc hu;subst hc hu;exact p1
     |succ i=>simp at hc hu;exact q2 i c' u hc hu
    .rcases q7 x hx with hs|hx'
     .exact λg _ hg=>by rw[hs]at hg;cases hg
     .exact p5 x hx'
    .rcases g3w.1 hx with rfl|hx
     .exact p5 u (q6 u hu)
     .exact q5 x hx u hu
    .rcases g3w.1 hx with rfl|hx
     .exact .inr p4
     .rcases q7 x hx with hs|hx'
      .exact .inl hs
      .exact .inr (p3 x hx')
   .cases ht
end
end Go.VM
end
section
namespace Go.VM
open Go Go.RowKit
section
variable {P:Program} {G:GT} {st:St}
theorem rX.mono{b b':dU}{R:Nat->Nat->Prop}{w:World}{e:TypeId}{v:Value}(h:rX P b R w e v)(hb:∀k,b k->b' k):rX P b' R w e v:=by
 rcases h with h|⟨g,n,cap,cur,h0,h1,h2⟩
 .exact .inl h
 .exact .inr ⟨g,n,cap,cur,h0,hb g h1,h2⟩
variable{r:DV}{f:FuncId}{ls:List (Option Loc)}{H1:List (Nat×bH)}{own1 rest:List (TypeId×List Loc)}{dst:Option Tmp}{s0:St}{g2X:List DV}
theorem oR.b4r(zN:CH P G f s0 ⟨[r],H1,own1⟩)(K:List (Nat×Nat))(mO:aR K s0 r H1=true)(pD:WkT g2X (aZ K s0.tmps))(hH:WkH st.H (dE K s0.H))(oG:xW st st.own (s0.own.map (sB K ls))=some rest)(kn:a1d st.tmps.length ls s0.own=true):
  oR P G f g2X ls st dst (bJ K dst st rest r H1 own1):=by
 simp only[aR,g2Z,g3N,g3c]at mO;obtain⟨⟨⟨⟨⟨⟨⟨⟨kf,ks⟩,kp⟩,kt⟩,kh⟩,kl⟩,kr⟩,kd⟩,k1⟩:=mO;intro base R μ a w args hr hl hv a8V;obtain⟨vs,sU⟩:=hr.own;obtain⟨vsT,vsR,t1,t2,t3,t4,t5,t6,t7⟩:=a7i hr _ _ _ vs ⟨sU.len,sU.one,sU.apart⟩ oG;have inK:∀k o,getKey k s0.H=some o->(K.any λp=>p.1==k)=true/\bB K o=true/\(getKey k H1).isSome=true:=λk o hk=>by
  have:=kh _ (kH hk)
  try simp only[g2Z]at this
  exact⟨this.1.1,this.1.2,this.2⟩
 have inst:∀k o,getKey k s0.H=some o->∃o',getKey (rk K k) st.H=some o'/\WkO o' (dM K o):=λk o hk=>by
  have hm:=kH hk;have:∀{l:List (Nat×bH)},WkH st.H (dE K l)->(k,o)∈l->∃o',getKey (rk K k) st.H=some o'/\WkO o' (dM K o):=by
   intro l
   induction l with
   |nil=>intro _ h;cases h
   |cons p l ih=>
    intro hw hp;obtain⟨h1,h2⟩:=hw;rcases g3w.1 hp with rfl|hp
    .exact h1
    .exact ih h2 hp
  exact this hH hm
 have big:∀k,(K.any λp=>p.1==k)=true->100000<=k:=λk hk=>by obtain⟨p,h1,h2,_⟩:=a2j hk;rw[<-h2];exact kp p h1
 have d6H:∀k k',(K.any λp=>p.1==k)=true->(K.any λp=>p.1==k')=true->rk K k=rk K k'->k=k':=λk k' h h' he=>by
  obtain⟨p,p1,p2,p3⟩:=a2j h;obtain⟨q,q1,q2,q3⟩:=a2j h';have hpq:p.2=q.2:=by rw[<-p3, <- q3,he]
  have:p=q:=a8n ks p1 q1 hpq;rw[<-p2, <- q2,this]
 have one:∀k,(getKey k H1).isSome=true->∃o,getKey k s0.H=some o:=λk hk=>by
  obtain⟨o,ho⟩:=g3B.1 hk;have:=k1 _ (kH ho)
  try simp only[g2Z]at this
  exact g3B.1 this.2
 let mM:dU:=⟨λb=>w.heap.size<=b\/(∃k o,getKey k s0.H=some o/\b=μ (rk K k))\/(∃v∈vsT,bQ v=some b),λk=>μ (rk K k)⟩
 have sub:∀b,mM b->base b:=λb hb=>by
  rcases hb with hb|⟨k,o,hk,rfl⟩|⟨v,hv,hs⟩
  .exact hr.base b hb
  .obtain⟨o',xF,_⟩:=inst k o hk;exact(hr.mE _ o' xF).1
  .obtain⟨i,hi⟩:=g3q hv;have yJ:i<(s0.own.map (sB K ls)).length:=by rw[<-t1];exact(g3a.1 hi).1
   exact(t2 i _ v (g3d yJ) hi).own.a2X hs
 have a2q:Rel P G mM R (λk=>μ (rk K k)) s0 {tmps:=args,defers:=[]} w:=by
  obtain⟨g1,g2⟩:=a0N pD;rw[tH]at g1 g2;refine⟨rfl,by show args.size=s0.tmps.length;rw[List.length_map]at g1;omega,λi v d hiv hid=>?_,λk o hk=>?_,λk k' o o' hk hk' he=>?_,λc hc k off hl'=>?_,⟨vsT,by simpa using t1,λi c v hc hv'=>?_,t3⟩,hr.wS.up sub,hr.rY,λb hb=>.inl hb,λk hk=>rfl⟩
  .obtain⟨d0,hd0,b6J⟩:=g2 i (bI K d) (by rw[g3j,hid];rfl);have hva:=hv i d0 hd0;have hav:args.getD i undef=v:=by simp only at hiv;simp[g3b,hiv]
   rw[hav]at hva;have d6I:TV R μ w v (bI K d):=by
    rcases b6J with hc|hc|⟨hc1,hc2⟩
    .rw[hc];exact .undef _
    .rw[hc];exact hva
    .rw[hc2];rw[hc1]at hva;obtain⟨ao,rfl⟩:=hva.b1j.mN;exact .d _ _ (.emp _ _)
   exact d6I.ren (μ:=μ) (λ_ _=>rfl) (kt d (g3e hid))
  .obtain⟨q1,q2,_⟩:=inK k o hk;obtain⟨o',xF,hw⟩:=inst k o hk;obtain⟨p1,p2,p3⟩:=hr.mE _ o' xF;exact⟨.inr (.inl ⟨k,o,hk,rfl⟩),p2,(b5O hw p3).ren (λ_ _=>rfl) q2⟩
  .obtain⟨o1,h1,_⟩:=inst k o hk;obtain⟨o2,h2,_⟩:=inst k' o' hk';exact d6H k k' (inK k o hk).1 (inK k' o' hk').1 (hr.inj _ _ o1 o2 h1 h2 he)
  .have:=g3c.1 (g3c.1 kl c hc) _ hl';exact g3B.1 this
  .have ho:=t2 i (sB K ls c) v (by rw[g3j,hc];rfl) hv';refine⟨λl hl' u hu=>?_,?_,λk o hk=>?_⟩
   .have hn:=g3c.1 (g3c.1 kn c (g3e hc)) l hl';cases l with
    |t j=>
     simp only at hn;split at hn
     .rename_i t hj;simp only[g3N]at hn;have ht:t<a.tmps.size:=by rw[hr.size];exact hn
      have hlv:cX a w μ (.t t)=some a.tmps[t]:=by simp[cX,ht]
      have h1:=a8V j _ hj _ hlv;have h2:=ho.eR (.t t) (g3E.2 ⟨.t j,hl',by simp[b6H,hj]⟩) _ hlv;simp only[cX]at hu;have h3:args.getD j undef=u:=by simp[g3b,hu]
      rw[<-h3, <- h1,h2]
     .cases hn
    |c k off=>exact ho.eR (.c (rk K k) off) (g3E.2 ⟨.c k off,hl',rfl⟩) u hu
   .rcases ho.own with h|⟨g,n,cap,cur,h0,h1,h2,h3,h4⟩
    .exact .inl h
    .by_cases zO:cap=0
     .subst zO;have:n=0:=by omega
      subst this;exact .inl ⟨_,h0⟩
     .exact .inr ⟨g,n,cap,cur,h0,.inr (.inr ⟨v,g3e hv',by rw[h0];simp[bQ,zO]⟩),h2,h3,h4⟩
   .obtain⟨o',xF,_⟩:=inst k o hk;exact ho.keys _ o' xF
 refine(zN mM R (λk=>μ (rk K k)) args w a2q).mono λe w' ⟨v,R',ν,he,b6K,hs⟩=>⟨v,R',μ,he,?_,⟨hs.below.mono sub,hs.mono,λb o h1 h2=>sub b (hs.new b o h1 h2),hs.cells⟩⟩;have hsb:Step base R w R' w':=⟨hs.below.mono sub,hs.mono,λb o h1 h2=>sub b (hs.new b o h1 h2),hs.cells⟩;have hν:∀k,(K.any λp=>p.1==k)=true->ν k=μ (rk K k):=λk hk=>b6K.pass k (big k hk);have k1':∀p∈H1,bB K p.2=true/\(∃o,getKey p.1 s0.H=some o)/\getKey p.1 H1=some p.2:=λp hp=>by
  have:=k1 p hp
  try simp only[g2Z]at this
  exact⟨this.1,g3B.1 this.2,getKey_of_mem kd hp⟩
 have kept:∀b, ¬mM b->w'.heap[b]? =w.heap[b]? /\∀off,R' b off->R b off:=λb hb=>⟨hs.below.block b hb,λoff h=>by
  by_cases hx:R b off
  .exact hx
  .exact absurd (hs.new b off h hx) hb⟩
 have c9y:∀k o,(∀p∈H1,k≠rk K p.1)->getKey k st.H=some o-> ¬mM (μ k):=λk o hk ho hb=>by
  rcases hb with hb|⟨k0,o0,h0,he'⟩|⟨u,hu,hsp⟩
  .have:=(hr.mE k o ho).2.2.lt;omega
  .obtain⟨o',xF,_⟩:=inst k0 o0 h0;have:=hr.inj k (rk K k0) o o' ho xF he';obtain⟨o1,ho1⟩:=g3B.1 (inK k0 o0 h0).2.2;exact hk (k0,o1) (kH ho1) this
  .obtain⟨i,hi⟩:=g3q hu;have yJ:i<(s0.own.map (sB K ls)).length:=by rw[<-t1];exact(g3a.1 hi).1
   exact(t2 i _ u (g3d yJ) hi).keys k o ho hsp
 have known:∀k o,getKey k (bW K H1 st.H)=some o->∃o',getKey k st.H=some o':=λk o hk=>by
  rcases a0x hk with⟨p,hp,rfl,_⟩|⟨_,h⟩
  .obtain⟨_,⟨o0,h0⟩,_⟩:=k1' p hp;obtain⟨o',xF,_⟩:=inst _ _ h0;exact⟨o',xF⟩
  .exact⟨o,h⟩
 obtain⟨vs1,hv1⟩:=b6K.own;have hd0:∀u,(#[v]:Array Value)[0]? =some u->u=v:=λu hu=>by simp at hu;exact hu.symm
 refine⟨by cases dst<;>exact hr.defers,?_,λi u d hu hd=>?_,λk o hk=>?_,λk k' o o' hk hk' he'=>?_,λc hc k off hl'=>?_,⟨vs1++vsR,?_,λi c u hc hu=>?_,?_⟩,hr.wS.cA hsb,b6K.rY,λb hb=>hr.base b (Nat.le_trans hs.below.size hb),hr.pass⟩
 .cases dst with
  |none=>exact hr.size
  |some t=>simp[bJ,kG,Act.put,hr.size]
 ·
  have kX:TV R' μ w' v (bI K r):=(b6K.tmps 0 v r rfl rfl).c0z hν kr;cases dst with
  |none=>exact(hr.tmps i u d hu hd).cA hsb
  |some t=>
   simp only[bJ,kG,Act.put]at hu hd;by_cases hti:t=i
   .subst hti;have h1:t<st.tmps.length:=by
     by_cases aG:t<st.tmps.length
     .exact aG
     .have uV:(st.tmps.set t (bI K r))[t]? =none:=g3G (by rw[List.length_set];exact g3I aG);rw[uV]at hd;cases hd
    have h2:t<a.tmps.size:=by rw[hr.size];exact h1
    simp[h1]at hd;simp[h2]at hu;subst hu hd;exact kX
   .rw[g3Z hti]at hu;rw[List.getElem?_set_ne hti]at hd;exact(hr.tmps i u d hu hd).cA hsb
 ·
  simp only[bJ]at hk;rcases a0x hk with⟨p,hp,rfl,rfl⟩|⟨hk1,hk2⟩
  .obtain⟨q1,⟨o0,h0⟩,q3⟩:=k1' p hp;obtain⟨p1,p2,p3⟩:=b6K.mE p.1 p.2 q3;have hk0:=(inK _ _ h0).1;rw[hν _ hk0]at p1 p2 p3;exact⟨sub _ p1,p2,p3.c0z hν q1⟩
  .obtain⟨p1,p2,p3⟩:=hr.mE k o hk2;obtain⟨e1,e2⟩:=kept _ (c9y k o hk1 hk2);exact⟨p1,λoff h=>p2 off (e2 off h),p3.cA hsb e1⟩
 .obtain⟨o1,h1⟩:=known k o hk;obtain⟨o2,h2⟩:=known k' o' hk';exact hr.inj k k' o1 o2 h1 h2 he'
 ·
  simp only[bJ,g3z]at hc;rcases hc with hc|hc
  .obtain⟨c0,zO,rfl⟩:=g3u.1 hc;obtain⟨l0,hl0,he0⟩:=g3E.1 hl';cases l0 with
   |t j=>
    simp only[jF]at he0;split at he0
    .cases dst<;>simp at he0
    .cases he0
   |c k0 yR=>simp only[jF,g3f]at he0;cases he0;obtain⟨o,ho⟩:=b6K.eR c0 zO k0 off hl0;have hm:=kH ho;obtain⟨_,⟨o0,h0⟩,_⟩:=k1' _ hm;obtain⟨o',xF,_⟩:=inst _ _ h0;exact a7h ⟨o',xF⟩
  .obtain⟨i,hi⟩:=g3q hc;obtain⟨c1,g1,_,g3⟩:=b4q hi;obtain⟨c2,f1,_,f3⟩:=b6I g1;have hx:=(f3 _ (g3 _ hl').1).1;have f6m:=g3e f1;obtain⟨o,ho⟩:=hr.eR c2 (a8o oG c2 f6m) k off hx;exact a7h ⟨o,ho⟩
 .have:=hv1.len;have:=t4.len;simp only[bJ,g3K,List.length_map,c5W,c9x];simp at *;omega
 ·
  simp only[bJ]at hc;have h1l:vs1.length=own1.length:=hv1.len;by_cases hi:i<own1.length
  .rw[g3k (by simpa using hi),g3j]at hc;rw[g3k (by omega)]at hu;obtain⟨c0,zO,rfl⟩:=g2Y.1 hc;have ho:=hv1.one i c0 u zO hu;refine⟨λl hl' u' hu'=>?_,ho.own.mono sub,λk o hk=>?_⟩
   .obtain⟨l0,hl0,he0⟩:=g3E.1 hl';cases l0 with
    |t j=>
     simp only[jF]at he0;split at he0
     .rename_i hj;subst hj;cases dst with
      |none=>simp at he0
      |some t=>
       simp at he0;subst he0;simp only[cX,Act.put]at hu';by_cases aG:t<a.tmps.size
       .simp[aG]at hu';subst hu';exact ho.eR (.t 0) hl0 _ (by simp[cX])
       .simp[aG]at hu'
     .cases he0
    |c k0 yR=>simp only[jF,g3f]at he0;subst he0;obtain⟨o,hoo⟩:=b6K.eR c0 (g3e zO) k0 yR hl0;obtain⟨_,⟨o0,h0⟩,_⟩:=k1' _ (kH hoo);have hk0:=(inK _ _ h0).1;refine ho.eR (.c k0 yR) hl0 u' ?_;simp only[cX]at hu' |-;rw[hν _ hk0];cases dst<;>exact hu'
   .simp only[bJ]at hk;rcases a0x hk with⟨p,hp,rfl,_⟩|⟨hk1,hk2⟩
    .obtain⟨_,⟨o0,h0⟩,q3⟩:=k1' p hp;have:=ho.keys p.1 p.2 q3;rw[hν _ (inK _ _ h0).1]at this;exact this
    .intro hsp;exact c9y k o hk1 hk2 (ho.own.a2X hsp)
  .rw[g3h (by simp;omega)]at hc;rw[g3h (by omega)]at hu;simp only[List.length_map]at hc;rw[h1l]at hu;obtain⟨c1,g1,g2,g3⟩:=b4q hc;obtain⟨c2,f1,f2,f3⟩:=b6I g1;have ho:=t4.one _ c2 u f1 hu;have hum:=g3e hu;have out:∀g,bQ u=some g-> ¬mM g:=λg hg hb=>by
    rcases hb with hb|⟨k0,o0,h0,he'⟩|⟨x,hx,hsp⟩
    .have:=ho.own.lt hg;omega
    .obtain⟨o',xF,_⟩:=inst k0 o0 h0;exact ho.keys _ o' xF (by rw[hg,he'])
    .exact t5 x hx u hum g hsp hg
   refine⟨λl hl' u' hu'=>?_,?_,λk o hk=>?_⟩
   .obtain⟨q1,q2⟩:=g3 l hl';obtain⟨q3,q4⟩:=f3 l q1;refine ho.eR l q3 u' ?_;rw[a9i q2]at hu';cases l with
    |t j=>exact hu'
    |c k off=>
     obtain⟨o,hoo⟩:=hr.eR c2 (a8o oG c2 (g3e f1)) k off q3;have uV:∀p∈H1,k≠rk K p.1:=λp hp e=>by obtain⟨_,⟨o0,h0⟩,_⟩:=k1' p hp;obtain⟨q,hq1,hq2,hq3⟩:=a2j (inK _ _ h0).1;have:=q4 q hq1;simp[Loc.a0G,e,hq3]at this
     rw[<-hu'];exact(g3V (kept _ (c9y k o uV hoo)).1).symm
   .have:rX P base R' w' c2.1 u:=ho.own.d1h (λg hg=>(kept g (out g hg)).1) (λg off hg h=>(kept g (out g hg)).2 off h);rw[g2,f2];exact this
   .obtain⟨o',xF⟩:=known k o hk;exact ho.keys k o' xF
 .refine List.pairwise_append.2 ⟨hv1.apart,t4.apart,λx hx y hy g hg hg'=>?_⟩;obtain⟨i,hi⟩:=g3q hx;have yJ:i<own1.length:=by rw[<-hv1.len];exact(g3a.1 hi).1
  have hb:=(hv1.one i _ x (g3d yJ) hi).own.a2X hg;obtain⟨j,hj⟩:=g3q hy;have hjl:j<rest.length:=by rw[<-t4.len];exact(g3a.1 hj).1
  have ho:=t4.one j _ y (g3d hjl) hj;rcases hb with hb|⟨k0,o0,h0,he'⟩|⟨z,hz,hsp⟩
  .have:=ho.own.lt hg';omega
  .obtain⟨o',xF,_⟩:=inst k0 o0 h0;exact ho.keys _ o' xF (by rw[hg',he'])
  .exact t5 z hz y hy g hsp hg'
where
 a8n {α β:Type} {f:α->β}:∀{l:List α},(l.map f).Nodup->∀{x y:α},x∈l->y∈l->f x=f y->x=y
  |z::l,hn,x,y,hx,hy,he=>by
   simp only[List.map_cons,List.nodup_cons,g3u,not_exists,not_and]at hn;rcases g3w.1 hx with h1|h1
   .rcases g3w.1 hy with h2|h2
    .rw[h1,h2]
    .exact absurd (by rw[<-he,h1]) (hn.1 y h2)
   .rcases g3w.1 hy with h2|h2
    .exact absurd (by rw[he,h2]) (hn.1 x h1)
    .exact a8n hn.2 h1 h2 he
 c5X {c:TypeId×List Loc} {own own1:List (TypeId×List Loc)} (h:a1x c own=some own1):∀x∈own1,x∈own:=λx hx=>by obtain⟨pre,c0,post,rfl,rfl,_,_⟩:=a5k h;simp at hx|-;rcases hx with hx|hx<;>simp[hx]
 a8o {s:St}:∀{cs own own1:List (TypeId×List Loc)},xW s own cs=some own1->∀x∈own1,x∈own
  |[],own,own1,h,x,hx=>by simp only[xW,g3f]at h;subst h;exact hx
  |c::r,own,own1,h,x,hx=>by
   unfold xW at h;split at h
   .exact a8o h x hx
   .split at h
    .rename_i f2m ht;exact c5X ht x (a8o h x hx)
    .cases h
theorem jE.mk{q ro:Bool}{all:Array Oper}{ops:List Oper}{k:List KI}{Q:Exit->St->Prop}(he:Enters P f)(zN:CH P G f s0 ⟨[r],H1,own1⟩)(K:List (Nat×Nat))(mO:aR K s0 r H1=true)(pD:WkT g2X (aZ K s0.tmps))(hH:WkH st.H (dE K s0.H))(oG:xW st st.own (s0.own.map (sB K ls))=some rest)(b9A:a1d st.tmps.length ls s0.own=true)(h:VK P G (.ops q all ops::k) .normal (bJ K dst st rest r H1 own1) Q)(hro:ro=false:=by kernel_rfl):jE P G q ro f g2X ls dst all ops k st Q:=jE.mk' ⟨_,⟨he,oR.b4r zN K mO pD hH oG b9A⟩,h⟩ hro
theorem aC.own{q ro qn:Bool}{ls:List (Option Loc)}{f:FuncId}{s0:St}{r:DV}{own1:List (TypeId×List Loc)}{ds:List D}{dst:Option Tmp}{all:Array Oper}{ops:List Oper}{k:List KI}{Q:Exit->St->Prop}{rest:List (TypeId×List Loc)}(he:Enters P f)(zN:CH P G f s0 ⟨[r],[],own1⟩)(mO:aR [] s0 r []=true)(pD:WkT (ds.map .d) (aZ [] s0.tmps))(hH:WkH st.H (dE [] s0.H))(oG:xW st st.own (s0.own.map (sB [] ls))=some rest)(b9A:a1d st.tmps.length ls s0.own=true)(h:VK P G (.ops q all ops::k) .normal (bJ [] dst st rest r [] own1) Q)(hro:ro=false:=by kernel_rfl):aC P G q ro qn f ds ls dst all ops k st Q:=aC.gI ⟨_,⟨he,oR.b4r zN [] mO pD hH oG b9A⟩,h⟩ hro
theorem b4s{k:Nat}{o:bH}:∀{H:List (Nat×bH)},getKey k H=some o->a1Z k o H=H
 |[],h=>by simp[getKey]at h
 |(k',o')::r,h=>by
  unfold getKey at h;unfold a1Z;split at h
  .rename_i he;cases h;subst he;simp
  .rename_i he;rw[if_neg he,b4s h]
variable{k:Nat}
theorem c5Y{o:bH}{H:List (Nat×bH)}(h:getKey k H=some o):cE k o H=H:=by unfold cE;rw[h];exact b4s h
theorem b1D{K:List (Nat×Nat)}:∀{l H:List (Nat×bH)},(∀p∈l,getKey (rk K p.1) H=some (dM K p.2))->bW K l H=H
 |[],H,_=>rfl
 |p::r,H,h=>by unfold bW;rw[c5Y (h p (.head _))];exact b1D λq hq=>h q (.tail _ hq)
theorem c2L{ks:List Nat}{own:List (TypeId×List Loc)}(hk:k∈ks)(h:oM ks own=true):dropKey k own=own:=by
 unfold dropKey
 conv=>rhs;rw[<-List.map_id own]
 refine List.map_congr_left λc hc=>?_;have h1:=g3c.1 h c hc;have:c.2.filter (λx=> !x.a0G k)=c.2:=List.filter_eq_self.2 λl hl=>by
  have h2:=g3c.1 h1 l hl;cases l with
  |t i=>rfl
  |c k' off=>simp only[d5N,g3v,List.contains_eq_mem,decide_eq_false_iff_not]at h2;simp only[Loc.a0G,g3v,beq_eq_false_iff_ne,ne_eq];exact λe=>h2 (e▸hk)
 rw[this];rfl
theorem b4t:∀{K:List (Nat×Nat)}{ks:List Nat}{own:List (TypeId×List Loc)},(∀p∈K,p.2∈ks)->oM ks own=true->eN K own=own
 |[],_,_,_,_=>rfl
 |p::r,ks,own,h,hn=>by unfold eN;rw[c2L (h p (.head _)) hn];exact b4t (λq hq=>h q (.tail _ hq)) hn
def a9s(H:List (Nat×bH)):List (Nat×bH)->Prop
 |[]=>True
 |p::r=>getKey p.1 H=some p.2/\a9s H r
theorem c5Z:∀l:List DV,WkT l l
 |[]=>trivial
 |d::r=>⟨.inr (.inl rfl),c5Z r⟩
theorem c0Q{H:List (Nat×bH)}:∀{l:List (Nat×bH)},a9s H l->WkH H l
 |[],_=>trivial
 |p::r,h=>⟨⟨p.2,h.1,by cases p.2<;>simp[WkO,c5Z]⟩,c0Q h.2⟩
theorem b6L{H:List (Nat×bH)}{K:List (Nat×Nat)}:∀{l:List (Nat×bH)},a9s H (dE K l)->∀p∈l,getKey (rk K p.1) H=some (dM K p.2)
 |q::r,h,p,hp=>by
  rcases g3w.1 hp with rfl|hp
  .exact h.1
  .exact b6L h.2 p hp
theorem b4u{H H':List (Nat×bH)}{K:List (Nat×Nat)}{ks:List Nat}(ha:∀k∈ks,getKey k H'=getKey k H):∀{l:List (Nat×bH)},(∀p∈l,rk K p.1∈ks)->a9s H (dE K l)->a9s H' (dE K l)
 |[],_,_=>trivial
 |p::r,hi,h=>⟨(ha _ (hi p (.head _))).trans h.1,b4u ha (λq hq=>hi q (.tail _ hq)) h.2⟩
theorem RO.b4r{f:FuncId}{tmps:List DV}{H0:List (Nat×bH)}{r:DV}{g2X:List DV}{H:List (Nat×bH)}(zN:CH P G f ⟨tmps,H0,[]⟩ ⟨[r],H0,[]⟩)(K:List (Nat×Nat))(mO:aR K ⟨tmps,H0,[]⟩ r H0=true)(pD:WkT g2X (aZ K tmps))(hH:a9s H (dE K H0)):RO P G f g2X (K.map (·.2)) H (bI K r):=by
 intro st pZ uV dst ls;have wJ:∀p∈H0,rk K p.1∈K.map (·.2):=λp hp=>by simp only[aR,g2Z,g3c]at mO;obtain⟨⟨⟨⟨⟨_,hh⟩,_⟩,_⟩,_⟩,_⟩:=mO;obtain⟨q,q1,q2,q3⟩:=a2j (hh p hp).1.1;rw[q3];exact List.mem_map_of_mem q1
 have hH:a9s st.H (dE K H0):=b4u pZ wJ hH;have h:=oR.b4r (st:=st) (dst:=dst) (ls:=ls) zN K mO pD (c0Q hH) (rest:=st.own) rfl rfl;have he:bJ K dst st st.own r H0 []=finish st dst (bI K r) .no:=by unfold bJ;rw[b1D (b6L hH),b4t (ks:=K.map (·.2)) (λp hp=>List.mem_map_of_mem hp) uV];cases dst<;>rfl
 rw[<-he];exact h
theorem jE.ro{q ro:Bool}{ls:List (Option Loc)}{f:FuncId}{tmps:List DV}{H0:List (Nat×bH)}{r:DV}{g2X:List DV}{dst:Option Tmp}{all:Array Oper}{ops:List Oper}{k:List KI}{Q:Exit->St->Prop}(he:Enters P f)(zN:CH P G f ⟨tmps,H0,[]⟩ ⟨[r],H0,[]⟩)(K:List (Nat×Nat))(mO:aR K ⟨tmps,H0,[]⟩ r H0=true)(pD:WkT g2X (aZ K tmps))(hH:a9s st.H (dE K H0))(uV:oM (K.map (·.2)) st.own=true)(hks:((K.map (·.2)).all λk=>(getKey k st.H).isSome)=true)(h:VK P G (.ops q all ops::k) .normal (finish st dst (bI K r) .no) Q)(hkl:qK (bI K r)=true:=by rfl):jE P G q ro f g2X ls dst all ops k st Q:=jE.ro' he (RO.b4r zN K mO pD hH) uV hks hkl h
end
attribute [simp] b6H sB a1d a9s oM d5N bJ bI aZ rk dM dE jF kU eN bW kG hZ xW aR aY bA bB b4p b3m d1C a3k d6G
end Go.VM
end
section
namespace Go.Proofs.YtmfbjecjccipfaaGreatDoor
open Go Go.VM
variable {G:GT}
def inB(n:Int):Bool:=decide (-1000000000000<=n)&&decide (n<=1000000000000)
theorem d1E(n:Int):CS prog G 213 [.int .i64 n] (.d (.bool (inB n))) none:=by refine CS.aW func213 rfl ntmps213 rfl ?_;by_cases h: -1000000000000<=n<;>simp[inB,h]
theorem c6b(n:Int):CS prog G 243 [.int .i64 n] (.d (.bool (inB n))) none:=by refine CS.aW func243 rfl ntmps243 rfl ?_;by_cases h: -1000000000000<=n<;>simp[inB,h]
def chk(n:Int)(ok:Bool):Int×Bool:=if ok&&inB n then(n,true) else(0,false)
theorem a5o{n:Int}{ok:Bool}:CS prog G 186 [.int .i64 n,.bool ok] (.cY [.int .i64 (chk n ok).1,.bool (chk n ok).2]) none:=by
 refine CS.aW func186 rfl ntmps186 rfl ?_;cases ok
 .simp[chk]
 .simp;refine aC.mk (.mk func213 rfl) (d1E _) ?_;cases h:inB n<;>simp[chk,h]
end Go.Proofs.YtmfbjecjccipfaaGreatDoor
end
section
namespace Go.Proofs.YtmfbjecjccipfaaGreatDoor
open Go Go.VM
def yS(c:UInt8):Bool:=decide (48<=c.toNat)&&decide (c.toNat<=57)
def b9B(a:Nat)(l:List UInt8):Nat:=l.foldl (λa c=>10*a+(c.toNat-48)) a
def jW(l:List UInt8):Nat:=b9B 0 l
theorem c0S(l:List UInt8)(c:UInt8):jW (l++[c])=10*jW l+(c.toNat-48):=by simp[jW,b9B]
theorem a4x:jW []=0:=rfl
theorem a0c{l:List UInt8}{i:Nat}(h:i<l.length):jW (l.take (i+1))=10*jW (l.take i)+(l[i].toNat-48):=by rw[g3o h,c0S]
theorem wU{c:UInt8}:yS c=true↔48<=c.toNat/\c.toNat<=57:=by simp[yS]
def b3n(s:List UInt8):Bool:=decide (s.head? =some 45)
def sP(s:List UInt8):List UInt8:=if b3n s then s.tail else s
def sgn(b:Bool)(v:Nat):Int:=if b then -(v:Int) else v
def tJ(s:List UInt8):Bool:=decide (1<=(sP s).length)&&decide ((sP s).length<=13)&& !(decide ((sP s).head? =some 48)&&(b3n s||decide (1<(sP s).length)))
def sZ(s:List UInt8):Int×Bool:=if tJ s&&(sP s).all yS then chk (sgn (b3n s) (jW (sP s))) true else(0,false)
theorem a1U{s:List UInt8}(h:(sP s).all yS=false):sZ s=(0,false):=by simp[sZ,h]
end Go.Proofs.YtmfbjecjccipfaaGreatDoor
end
section
namespace Go.Proofs
open Go.Shelf
def b4v:Go.Shelf.Ren:=⟨λ|156=>250|165=>257|166=>258|169=>259|240=>268|241=>269|276=>274|277=>275|n=>n,λ|31=>36|9=>9|3=>3|4=>4|0=>0|20=>20|72=>264|76=>268|70=>261|37=>262|75=>267|127=>272|164=>273|5=>5|80=>139|n=>n,λ|n=>n⟩
theorem d1F:Go.Proofs.Lays.n156 prog b4v:={
 mixed:=by kernel_rfl
 f156:=func250.trans (congrArg some (by kernel_rfl))
 f165:=func257.trans (congrArg some (by kernel_rfl))
 f166:=func258.trans (congrArg some (by kernel_rfl))
 f169:=func259.trans (congrArg some (by kernel_rfl))
 f240:=func268.trans (congrArg some (by kernel_rfl))
 f241:=func269.trans (congrArg some (by kernel_rfl))
 f276:=func274.trans (congrArg some (by kernel_rfl))
 f277:=func275.trans (congrArg some (by kernel_rfl))
 t0:=underlying0
 a0:=isAgg0
 z0:=sizeOf0
 v0:=zeroValue0
 t3:=underlying3
 a3:=isAgg3
 z3:=sizeOf3
 v3:=zeroValue3
 t4:=underlying4
 a4:=isAgg4
 z4:=sizeOf4
 v4:=zeroValue4
 t9:=underlying9
 a9:=isAgg9
 z9:=sizeOf9
 v9:=zeroValue9
 t20:=underlying20
 a20:=isAgg20
 z20:=sizeOf20
 v20:=zeroValue20
 t31:=underlying36
 a31:=isAgg36
 z31:=sizeOf36
 v31:=zeroValue36
 t37:=underlying262
 a37:=isAgg262
 z37:=sizeOf262
 v37:=zeroValue262
 t70:=underlying261
 a70:=isAgg261
 z70:=sizeOf261
 v70:=zeroValue261
 t72:=underlying264
 a72:=isAgg264
 z72:=sizeOf264
 v72:=zeroValue264
 t75:=underlying267
 a75:=isAgg267
 z75:=sizeOf267
 v75:=zeroValue267
 t76:=underlying268
 a76:=isAgg268
 z76:=sizeOf268
 v76:=zeroValue268
 t127:=underlying272
 a127:=isAgg272
 z127:=sizeOf272
 v127:=zeroValue272
 t164:=underlying273
 a164:=isAgg273
 z164:=sizeOf273
 v164:=zeroValue273}
theorem a3l:Builder.Extra prog b4v:={
 sizeBuilder:=by kernel_rfl
 liesBuilder:=by kernel_rfl
 t5:=underlying5
 a5:=isAgg5
 z5:=sizeOf5
 v5:=zeroValue5
 infoByte:=by kernel_rfl
 cellsByte:=by kernel_rfl
 sizeByte:=by kernel_rfl
 neB5:=by decide}
open Go.RowKit in
theorem strings_Join_none(a:Option Addr)(c:Nat)(sep:ByteArray)(w:World):
  Calls prog 250 #[.slice a 0 c,.string sep] w λe w'=>e=.returned (.string ⟨#[]⟩)/\w'=w:=Any.strings_Join_none d1F a3l a c sep w
open Go.RowKit in
theorem strings_Join(bk o c:Nat)(xs:List ByteArray)(sep:ByteArray)(w:World)(e8N:∀(j:Nat) x,xs[j]? =some x->w.cell? ⟨bk,o+j,none⟩=some (.string x))(hbk:bk<w.heap.size)(hN:xs.length<=140737488355328)(b6f:xs.length<=c)(hlen:(Lib.join (xs.map (·.data.toList)) sep.data.toList).length<=140737488355328):
  Calls prog 250 #[.slice (some ⟨bk,o,none⟩) xs.length c,.string sep] w λe w'=>e=.returned (.string ⟨(Lib.join (xs.map (·.data.toList)) sep.data.toList).toArray⟩)/\Below w.heap.size w w':=Any.strings_Join d1F a3l bk o c xs sep w e8N hbk hN b6f hlen
def c6c:Go.Shelf.Ren:=⟨λ|161=>169|231=>182|227=>183|233=>184|235=>185|228=>210|197=>211|151=>212|260=>231|152=>232|137=>246|119=>247|224=>248|225=>249|217=>256|266=>267|n=>n,λ|9=>9|4=>4|3=>3|5=>5|117=>206|116=>205|0=>0|124=>209|105=>223|21=>21|119=>252|46=>253|139=>256|138=>255|n=>n,λ|3=>2|4=>3|n=>n⟩
theorem e2T:Go.Proofs.Lays.n161 prog c6c:={
 mixed:=by kernel_rfl
 f119:=func247.trans (congrArg some (by kernel_rfl))
 f137:=func246.trans (congrArg some (by kernel_rfl))
 f151:=func212.trans (congrArg some (by kernel_rfl))
 f152:=func232.trans (congrArg some (by kernel_rfl))
 f161:=func169.trans (congrArg some (by kernel_rfl))
 f197:=func211.trans (congrArg some (by kernel_rfl))
 f217:=func256.trans (congrArg some (by kernel_rfl))
 f224:=func248.trans (congrArg some (by kernel_rfl))
 f225:=func249.trans (congrArg some (by kernel_rfl))
 f227:=func183.trans (congrArg some (by kernel_rfl))
 f228:=func210.trans (congrArg some (by kernel_rfl))
 f231:=func182.trans (congrArg some (by kernel_rfl))
 f233:=func184.trans (congrArg some (by kernel_rfl))
 f235:=func185.trans (congrArg some (by kernel_rfl))
 f260:=func231.trans (congrArg some (by kernel_rfl))
 f266:=func267.trans (congrArg some (by kernel_rfl))
 t0:=underlying0
 a0:=isAgg0
 z0:=sizeOf0
 v0:=zeroValue0
 t3:=underlying3
 a3:=isAgg3
 z3:=sizeOf3
 v3:=zeroValue3
 t4:=underlying4
 a4:=isAgg4
 z4:=sizeOf4
 v4:=zeroValue4
 t5:=underlying5
 a5:=isAgg5
 z5:=sizeOf5
 v5:=zeroValue5
 t9:=underlying9
 a9:=isAgg9
 z9:=sizeOf9
 v9:=zeroValue9
 t21:=underlying21
 a21:=isAgg21
 z21:=sizeOf21
 v21:=zeroValue21
 t46:=underlying253
 a46:=isAgg253
 z46:=sizeOf253
 v46:=zeroValue253
 t105:=underlying223
 a105:=isAgg223
 z105:=sizeOf223
 v105:=zeroValue223
 t116:=underlying205
 a116:=isAgg205
 z116:=sizeOf205
 t117:=underlying206
 a117:=isAgg206
 z117:=sizeOf206
 v117:=zeroValue206
 t119:=underlying252
 a119:=isAgg252
 z119:=sizeOf252
 t124:=underlying209
 a124:=isAgg209
 z124:=sizeOf209
 v124:=zeroValue209
 t138:=underlying255
 a138:=isAgg255
 z138:=sizeOf255
 v138:=zeroValue255
 t139:=underlying256
 a139:=isAgg256
 z139:=sizeOf256
 v139:=zeroValue256
 g3:=by kernel_rfl
 g4:=by kernel_rfl}
open Go.RowKit in
theorem strings_TrimLeft_one(s:ByteArray)(c:UInt8)(hc:c.toNat<128)(w:World):
  Calls prog 169 #[.string s,.string ⟨#[c]⟩] w λe w'=>e=.returned (.string ⟨(Lib.trimLeftB s.data.toList c).toArray⟩)/\w'=w:=Any.strings_TrimLeft_one e2T s c hc w
def c9z:Go.Shelf.Ren:=⟨λ|99=>143|206=>171|n=>n,λ|9=>9|4=>4|3=>3|n=>n,λ|n=>n⟩
theorem e8O:Go.Proofs.Lays.n99 prog c9z:={
 mixed:=by kernel_rfl
 f99:=func143.trans (congrArg some (by kernel_rfl))
 f206:=func171.trans (congrArg some (by kernel_rfl))
 t3:=underlying3
 a3:=isAgg3
 z3:=sizeOf3
 v3:=zeroValue3
 t4:=underlying4
 a4:=isAgg4
 z4:=sizeOf4
 v4:=zeroValue4
 t9:=underlying9
 a9:=isAgg9
 z9:=sizeOf9
 v9:=zeroValue9}
open Go.RowKit Go.Lib in
theorem strings_HasPrefix(s p:ByteArray)(w:World):
  Calls prog 143 #[.string s,.string p] w λe w'=>e=.returned (.bool (Lib.hasPrefix s.data.toList p.data.toList))/\w'=w:=Any.strings_HasPrefix e8O s p w
end Go.Proofs
end
section
namespace Go.Proofs.YtmfbjecjccipfaaGreatDoor
open Go Go.VM
variable {G:GT}
theorem d1G{c:UInt8}(h:yS c=true):IntKind.i64.wrap (IntKind.u8.wrap ((c.toNat:Int)-48))=((c.toNat-48:Nat):Int):=by
 have:=wU.1 h;have e:IntKind.u8.wrap ((c.toNat:Int)-48)=((c.toNat-48:Nat):Int):=by unfold IntKind.wrap;simp[IntKind.bits,IntKind.signed];omega
 rw[e];exact wrap64 (by omega)
theorem a5p:∀(n:Nat)(l:List UInt8),l.length=n->(∀c∈l,yS c=true)->jW l<10 ^ n:=by
 intro n
 induction n with
 |zero=>intro l hl _;rw[List.length_eq_zero_iff.1 hl];simp[a4x]
 |succ n ih=>
  intro l hl h;have gK:l≠[]:=λe=>by rw[e]at hl;simp at hl
  have hs:=List.dropLast_concat_getLast gK;have hc:=wU.1 (h _ (List.getLast_mem gK));have:=ih l.dropLast (by simp;omega) λc hc=>h c (List.dropLast_subset _ hc);rw[<-hs,c0S,Nat.pow_succ];omega
variable{s:List UInt8}
theorem d6J(h:0<s.length):b3n s=decide (s[0].toNat=45):=by
 cases s with
 |nil=>simp at h
 |cons c r=>simp only[b3n,List.head?_cons,g3f,List.getElem_cons_zero];have:c=45↔c.toNat=45:=⟨λe=>by rw[e];rfl,λe=>UInt8.toNat.inj (by simpa using e)⟩;simp[this]
theorem d1H(h:0<s.length):(s.head? =some 48)↔s[0].toNat=48:=by
 cases s with
 |nil=>simp at h
 |cons c r=>simp only[List.head?_cons,g3f,List.getElem_cons_zero];exact⟨λe=>by rw[e];rfl,λe=>UInt8.toNat.inj (by simpa using e)⟩
theorem c9A(s:List UInt8):CS prog G 170 [.str s] (.cY [.int .i64 (sZ s).1,.bool (sZ s).2]) none:=by
 refine CS.aW func170 rfl ntmps170 rfl ?_;by_cases h0:0<s.length;rotate_left
 .have:s=[]:=List.length_eq_zero_iff.1 (by omega);subst this;simp[sZ,tJ,sP,b3n]
 by_cases hc:s[0].toNat=45
 .obtain⟨ds,hds⟩:∃ds,s.tail=ds:=⟨_,rfl⟩;have a2r:b3n s=true:=by rw[d6J h0];simp[hc]
  have rM:sP s=ds:=by unfold sP;rw[a2r, <- hds];simp
  have hle:1<=s.length:=h0;simp[h0,hc,hds,hle];by_cases e0:ds.length=0
  .first
   |(exfalso;omega;done)
   |(have hf:tJ s=false:=by unfold tJ;rw[rM];simp[e0]
     have e1:ds=[]:=List.length_eq_zero_iff.1 e0;simp[rM,e1,sZ,hf])
  have e1:0<ds.length:=by omega
  have e2:¬ds=[]:=λe=>e0 (by rw[e];rfl);by_cases hl:13<ds.length
  .have hf:tJ s=false:=by unfold tJ;rw[rM];simp;omega
   simp[rM,e0,e2,hl,sZ,hf]
  have hh:=d1H e1;by_cases hd:ds[0].toNat=48
  .have hf:tJ s=false:=by simp[tJ,rM,a2r,hh.2 hd]
   simp[e0,e1,e2,hl,hd,sZ,hf]
  have hd':¬ds.head? =some 48:=λe=>hd (hh.1 e);have a3m:tJ s=true:=by simp[tJ,rM,a2r,hd'];omega
  simp[e0,e1,e2,hl,hd];have hlen:ds.length<=13:=by have:=a3m;simp only[tJ,g2Z,g3N,rM]at this;exact this.1.2
  refine SW.gA (ι:={i:Nat//i<=ds.length/\∀c∈ds.take i,yS c=true}) (λi=>[(6,.d (.int .i64 (jW (ds.take i.1):Nat))),(43,.d (.int .i64 i.1))]) (λ_=>[]) (λ_=>[]) (λi=>ds.length-i.1) ⟨0,by simp⟩ (by simp[a4x]) ?_;rintro⟨i,hi,ht⟩;by_cases aG:i<ds.length
  .have hw:=bC (show i<9223372036854775807 by omega);by_cases hd:yS ds[i]=true
   .have hv:=a5p _ (ds.take (i+1)) rfl λc hc=>by
     rw[g3o aG]at hc;rcases g3z.1 hc with hc|hc
     .exact ht c hc
     .rw[g3g]at hc;rw[hc];exact hd
    have hp:10 ^ (ds.take (i+1)).length<=10 ^ 13:=Nat.pow_le_pow_right (by omega) (by simp;omega);rw[a0c aG]at hv;have hdd:=wU.1 hd;have h48:¬ds[i].toNat<48:=by omega
    have h57:¬57<ds[i].toNat:=by omega
    have w1:IntKind.i64.wrap (10*((jW (ds.take i):Nat):Int))=10*((jW (ds.take i):Nat):Int):=wrap64 (by omega);have w2:=d1G hd;have w3:IntKind.i64.wrap (10*((jW (ds.take i):Nat):Int)+((ds[i].toNat-48:Nat):Int))=((jW (ds.take (i+1)):Nat):Int):=by rw[a0c aG,wrap64 (by omega)];simp
    simp[aG,h48,h57,w1,w2,w3];exact bD.mk ⟨i+1,aG,λc hc=>by
     rw[g3o aG]at hc;rcases g3z.1 hc with hc|hc
     .exact ht c hc
     .rw[g3g]at hc;rw[hc];exact hd⟩ (by simp[hw]) (by simp;omega)
   .have a4y:(sP s).all yS=false:=by
     cases h:(sP s).all yS
     .rfl
     .rw[rM,g3c]at h;exact absurd (h _ (g3y aG)) hd
    by_cases h48:ds[i].toNat<48
    .simp[aG,h48,a1U a4y]
    .have h57:57<ds[i].toNat:=by rw[wU]at hd;omega
     simp[aG,h48,h57,a1U a4y]
  .have hi':i=ds.length:=by omega
   subst hi';rw[g3S]at ht;have eS:(sP s).all yS=true:=by rw[rM,g3c];exact ht
   have hv:=a5p _ ds rfl ht;have hp:10 ^ ds.length<=10 ^ 13:=Nat.pow_le_pow_right (by omega) hlen;have kX:sZ s=chk (sgn (b3n s) (jW (sP s))) true:=by simp[sZ,a3m,eS]
   rw[a2r,rM]at kX;simp[sgn]at kX;have w1:IntKind.i64.wrap (-((jW ds:Nat):Int))= -((jW ds:Nat):Int):=wrap64 (by omega);simp[w1];refine aC.mk (.mk func186 rfl) (a5o) ?_;simp[kX]
 .have a2r:b3n s=false:=by rw[d6J h0];simp[hc]
  have rM:sP s=s:=by unfold sP;rw[a2r];rfl
  simp[h0,hc];by_cases e0:s.length=0
  .first
   |(exfalso;omega;done)
   |(have hf:tJ s=false:=by unfold tJ;rw[rM];simp[e0]
     have e1:s=[]:=List.length_eq_zero_iff.1 e0;simp[rM,e1,sZ,hf])
  have e1:0<s.length:=by omega
  have e2:¬s=[]:=λe=>e0 (by rw[e];rfl);by_cases hl:13<s.length
  .have hf:tJ s=false:=by unfold tJ;rw[rM];simp;omega
   simp[rM,e0,e2,hl,sZ,hf]
  have hh:=d1H e1;by_cases hd:s[0].toNat=48
  .by_cases h1:1<s.length
   .have hf:tJ s=false:=by simp[tJ,rM,hh.2 hd,h1]
    simp[e0,e1,e2,hl,hd,h1,sZ,hf]
   .have a3m:tJ s=true:=by simp[tJ,rM,a2r,h1];omega
    simp[e0,e1,e2,hl,hd,h1];have hlen:s.length<=13:=by have:=a3m;simp only[tJ,g2Z,g3N,rM]at this;exact this.1.2
    refine SW.gA (ι:={i:Nat//i<=s.length/\∀c∈s.take i,yS c=true}) (λi=>[(6,.d (.int .i64 (jW (s.take i.1):Nat))),(43,.d (.int .i64 i.1))]) (λ_=>[]) (λ_=>[]) (λi=>s.length-i.1) ⟨0,by simp⟩ (by simp[a4x]) ?_;rintro⟨i,hi,ht⟩;by_cases aG:i<s.length
    .have hw:=bC (show i<9223372036854775807 by omega);by_cases hd:yS s[i]=true
     .have hv:=a5p _ (s.take (i+1)) rfl λc hc=>by
       rw[g3o aG]at hc;rcases g3z.1 hc with hc|hc
       .exact ht c hc
       .rw[g3g]at hc;rw[hc];exact hd
      have hp:10 ^ (s.take (i+1)).length<=10 ^ 13:=Nat.pow_le_pow_right (by omega) (by simp;omega);rw[a0c aG]at hv;have hdd:=wU.1 hd;have h48:¬s[i].toNat<48:=by omega
      have h57:¬57<s[i].toNat:=by omega
      have w1:IntKind.i64.wrap (10*((jW (s.take i):Nat):Int))=10*((jW (s.take i):Nat):Int):=wrap64 (by omega);have w2:=d1G hd;have w3:IntKind.i64.wrap (10*((jW (s.take i):Nat):Int)+((s[i].toNat-48:Nat):Int))=((jW (s.take (i+1)):Nat):Int):=by rw[a0c aG,wrap64 (by omega)];simp
      simp[aG,h48,h57,w1,w2,w3];exact bD.mk ⟨i+1,aG,λc hc=>by
       rw[g3o aG]at hc;rcases g3z.1 hc with hc|hc
       .exact ht c hc
       .rw[g3g]at hc;rw[hc];exact hd⟩ (by simp[hw]) (by simp;omega)
     .have a4y:(sP s).all yS=false:=by
       cases h:(sP s).all yS
       .rfl
       .rw[rM,g3c]at h;exact absurd (h _ (g3y aG)) hd
      by_cases h48:s[i].toNat<48
      .simp[aG,h48,a1U a4y]
      .have h57:57<s[i].toNat:=by rw[wU]at hd;omega
       simp[aG,h48,h57,a1U a4y]
    .have hi':i=s.length:=by omega
     subst hi';rw[g3S]at ht;have eS:(sP s).all yS=true:=by rw[rM,g3c];exact ht
     have hv:=a5p _ s rfl ht;have hp:10 ^ s.length<=10 ^ 13:=Nat.pow_le_pow_right (by omega) hlen;have kX:sZ s=chk (sgn (b3n s) (jW (sP s))) true:=by simp[sZ,a3m,eS]
     rw[a2r,rM]at kX;simp[sgn]at kX;have w1:IntKind.i64.wrap (-((jW s:Nat):Int))= -((jW s:Nat):Int):=wrap64 (by omega);simp[w1];refine aC.mk (.mk func186 rfl) (a5o) ?_;simp[kX]
  .have hd':¬s.head? =some 48:=λe=>hd (hh.1 e);have a3m:tJ s=true:=by simp[tJ,rM,hd'];omega
   simp[e0,e1,e2,hl,hd];have hlen:s.length<=13:=by have:=a3m;simp only[tJ,g2Z,g3N,rM]at this;exact this.1.2
   refine SW.gA (ι:={i:Nat//i<=s.length/\∀c∈s.take i,yS c=true}) (λi=>[(6,.d (.int .i64 (jW (s.take i.1):Nat))),(43,.d (.int .i64 i.1))]) (λ_=>[]) (λ_=>[]) (λi=>s.length-i.1) ⟨0,by simp⟩ (by simp[a4x]) ?_;rintro⟨i,hi,ht⟩;by_cases aG:i<s.length
   .have hw:=bC (show i<9223372036854775807 by omega);by_cases hd:yS s[i]=true
    .have hv:=a5p _ (s.take (i+1)) rfl λc hc=>by
      rw[g3o aG]at hc;rcases g3z.1 hc with hc|hc
      .exact ht c hc
      .rw[g3g]at hc;rw[hc];exact hd
     have hp:10 ^ (s.take (i+1)).length<=10 ^ 13:=Nat.pow_le_pow_right (by omega) (by simp;omega);rw[a0c aG]at hv;have hdd:=wU.1 hd;have h48:¬s[i].toNat<48:=by omega
     have h57:¬57<s[i].toNat:=by omega
     have w1:IntKind.i64.wrap (10*((jW (s.take i):Nat):Int))=10*((jW (s.take i):Nat):Int):=wrap64 (by omega);have w2:=d1G hd;have w3:IntKind.i64.wrap (10*((jW (s.take i):Nat):Int)+((s[i].toNat-48:Nat):Int))=((jW (s.take (i+1)):Nat):Int):=by rw[a0c aG,wrap64 (by omega)];simp
     simp[aG,h48,h57,w1,w2,w3];exact bD.mk ⟨i+1,aG,λc hc=>by
      rw[g3o aG]at hc;rcases g3z.1 hc with hc|hc
      .exact ht c hc
      .rw[g3g]at hc;rw[hc];exact hd⟩ (by simp[hw]) (by simp;omega)
    .have a4y:(sP s).all yS=false:=by
      cases h:(sP s).all yS
      .rfl
      .rw[rM,g3c]at h;exact absurd (h _ (g3y aG)) hd
     by_cases h48:s[i].toNat<48
     .simp[aG,h48,a1U a4y]
     .have h57:57<s[i].toNat:=by rw[wU]at hd;omega
      simp[aG,h48,h57,a1U a4y]
   .have hi':i=s.length:=by omega
    subst hi';rw[g3S]at ht;have eS:(sP s).all yS=true:=by rw[rM,g3c];exact ht
    have hv:=a5p _ s rfl ht;have hp:10 ^ s.length<=10 ^ 13:=Nat.pow_le_pow_right (by omega) hlen;have kX:sZ s=chk (sgn (b3n s) (jW (sP s))) true:=by simp[sZ,a3m,eS]
    rw[a2r,rM]at kX;simp[sgn]at kX;have w1:IntKind.i64.wrap (-((jW s:Nat):Int))= -((jW s:Nat):Int):=wrap64 (by omega);simp[w1];refine aC.mk (.mk func186 rfl) (a5o) ?_;simp[kX]
end Go.Proofs.YtmfbjecjccipfaaGreatDoor
end
section
namespace Go.Proofs.YtmfbjecjccipfaaGreatDoor
structure Tok where
 kind:Int
 text:List UInt8
 n:Int
 line:Int
 deriving DecidableEq
def smU(b:UInt8):Bool:=decide (97<=b.toNat/\b.toNat<=122)
def caU(b:UInt8):Bool:=decide (65<=b.toNat/\b.toNat<=90)
def dgU(b:UInt8):Bool:=decide (48<=b.toNat/\b.toNat<=57)
def inU(b:UInt8):Bool:=smU b||caU b||dgU b||decide (b.toNat=95)
def dA:List (List UInt8):=[[60,61,62],[45,62],[61,62],[60,61],[62,61],[33,61],[61,61],[38,38],[124,124],[43],[45],[42],[47],[37],[40],[41],[123],[125],[91],[93],[60],[62],[61],[124],[44],[58],[59],[46],[33],[63],[39]]
def sQ(s:List UInt8):List UInt8:=(dA.find? λt=>t.isPrefixOf s).getD []
def c6e(b:UInt8):Bool:=decide (b=10)||decide (b=32)||decide (b=9)
section
variable (num:List UInt8->Int×Bool)
def firstT(s:List UInt8):Int×List UInt8×Int×Bool:=
 match s with
 |[]=>(0,[],0,false)
 |c::r=>
  if smU c then(1,(c::r).takeWhile inU,0,true)
  else if caU c then(2,(c::r).takeWhile inU,0,true)
  else if dgU c then(3,(c::r).takeWhile dgU,(num ((c::r).takeWhile dgU)).1,(num ((c::r).takeWhile dgU)).2)
  else if sQ (c::r)=[] then(0,[],0,false)
  else(4,sQ (c::r),0,true)
def jX:List UInt8->Nat->Int->Bool->Except Int (List Tok)
 |[],_,ln,_=>.ok [⟨0,[],0,ln⟩]
 |_::r,k+1,ln,cm=>jX r k ln cm
 |c::r,0,ln,cm=>
  if c=10 then jX r 0 (ln+1) false
  else if cm=true\/c=32\/c=9 then jX r 0 ln cm
  else if c=35 then jX r 0 ln true
  else if (firstT num (c::r)).2.2.2 then
   match jX r ((firstT num (c::r)).2.1.length-1) ln false with
   |.ok l=>.ok (⟨(firstT num (c::r)).1,(firstT num (c::r)).2.1,(firstT num (c::r)).2.2.1,ln⟩::l)
   |.error e=>.error e
  else .error ln
variable {num}
variable{b:UInt8}
theorem d6L(h:c6e b=true):inU b=false:=by simp only[c6e,g3l,g3N]at h;rcases h with(rfl|rfl)|rfl<;>decide
theorem e5Y(h:smU b=true):inU b=true:=by simp[inU,h]
theorem e5Z(h:caU b=true):inU b=true:=by simp[inU,h]
theorem f2o(h:dgU b=true):inU b=true:=by simp[inU,h]
theorem e8P(h:c6e b=true):dgU b=false:=by
 cases hd:dgU b with
 |false=>rfl
 |true=>have:=f2o hd;rw[d6L h]at this;cases this
theorem a3R{p:UInt8->Bool}{rest:List UInt8}(h:∀b,rest.head? =some b->p b=false):∀s:List UInt8,(s++rest).takeWhile p=s.takeWhile p
 |[]=>by
  cases rest with
  |nil=>rfl
  |cons b r=>simp[List.takeWhile,h b rfl]
 |c::s=>by simp only[List.cons_append,List.takeWhile_cons,a3R h s]
theorem c9B:∀t∈dA,∀b∈t,c6e b=false:=by decide
theorem b6M:∀(t s rest:List UInt8),(∀b,rest.head? =some b->c6e b=true)->(∀b∈t,c6e b=false)->t.isPrefixOf (s++rest)=t.isPrefixOf s
 |[],s,rest,_,_=>by simp[List.isPrefixOf]
 |x::t,[],rest,h,ht=>by
  cases rest with
  |nil=>rfl
  |cons b r=>
   have h1:=h b rfl;have h2:=ht x (.head _);have:(x==b)=false:=by rw[beq_eq_false_iff_ne];rintro rfl;rw[h1]at h2;cases h2
   simp[List.isPrefixOf,this]
 |x::t,c::s,rest,h,ht=>by simp only[List.cons_append,List.isPrefixOf,b6M t s rest h λb hb=>ht b (.tail _ hb)]
theorem find_congr{α:Type}{p q:α->Bool}:∀{l:List α},(∀x∈l,p x=q x)->l.find? p=l.find? q
 |[],_=>rfl
 |x::l,h=>by simp only[List.find?_cons,h x (.head _),find_congr λy hy=>h y (.tail _ hy)]
variable{rest s:List UInt8}
theorem d6M(h:∀b,rest.head? =some b->c6e b=true):sQ (s++rest)=sQ s:=by unfold sQ;rw[find_congr λt ht=>b6M t s rest h (c9B t ht)]
theorem d3t(hs:s≠[])(h:∀b,rest.head? =some b->c6e b=true):firstT num (s++rest)=firstT num s:=by
 cases s with
 |nil=>exact absurd rfl hs
 |cons c r=>have h1:=a3R (p:=inU) (rest:=rest) (λb hb=>d6L (h b hb)) (c::r);have h2:=a3R (p:=dgU) (rest:=rest) (λb hb=>e8P (h b hb)) (c::r);have h3:=d6M (s:=c::r) h;rw[List.cons_append]at h1 h2 h3|-;simp only[firstT,h1,h2,h3]
theorem d6N(h:sQ s≠[]):sQ s∈dA/\sQ s <+:s:=by
 unfold sQ at h|-;cases hf:dA.find? λt=>t.isPrefixOf s with
 |none=>rw[hf]at h;simp at h
 |some t=>exact⟨List.mem_of_find?_eq_some hf,List.isPrefixOf_iff_prefix.1 (by simpa using List.find?_some hf)⟩
theorem d3u:∀t∈dA,sQ t=t:=by decide
theorem a3S(p:UInt8->Bool):∀s:List UInt8,s.takeWhile p <+:s:=λs=>List.takeWhile_prefix p
theorem yT(p:UInt8->Bool):∀s:List UInt8,(s.takeWhile p).takeWhile p=s.takeWhile p
 |[]=>rfl
 |c::s=>by
  rw[List.takeWhile_cons];split
  .rename_i hc;rw[List.takeWhile_cons,if_pos hc,yT p s]
  .rfl
theorem a2s{p:UInt8->Bool}{c:UInt8}{r:List UInt8}(h:p c=true):(c::r).takeWhile p=c::r.takeWhile p:=by rw[List.takeWhile_cons,if_pos h]
theorem a4z{s:List UInt8}(h:(firstT num s).2.2.2=true):(firstT num s).2.1≠[]/\(firstT num s).2.1 <+:s/\firstT num (firstT num s).2.1=firstT num s:=by
 cases s with
 |nil=>simp[firstT]at h
 |cons c r=>
  by_cases h1:smU c=true
  .have hw:=a2s (r:=r) (e5Y h1);have hs:=yT inU (c::r);have hp:=a3S inU (c::r);simp only[firstT,h1,if_true]at h|-;rw[hw]at hs hp|-;refine⟨by simp,hp,?_⟩;simp only[firstT,h1,if_true,hs]
  .have h1:smU c=false:=by simpa using h1
   by_cases h2:caU c=true
   .have hw:=a2s (r:=r) (e5Z h2);have hs:=yT inU (c::r);have hp:=a3S inU (c::r);simp only[firstT,h1,h2,if_true,g3t,if_false]at h|-;rw[hw]at hs hp|-;refine⟨by simp,hp,?_⟩;simp only[firstT,h1,h2,if_true,g3t,if_false,hs]
   .have h2:caU c=false:=by simpa using h2
    by_cases h3:dgU c=true
    .have hw:=a2s (r:=r) h3;have hs:=yT dgU (c::r);have hp:=a3S dgU (c::r);simp only[firstT,h1,h2,h3,if_true,g3t,if_false]at h|-;rw[hw]at hs hp|-;refine⟨by simp,hp,?_⟩;simp only[firstT,h1,h2,h3,if_true,g3t,if_false,hs]
    .have h3:dgU c=false:=by simpa using h3
     by_cases h4:sQ (c::r)=[]
     .simp[firstT,h1,h2,h3,h4]at h
     .obtain⟨hm,hp⟩:=d6N h4;have e6a:=d3u _ hm;simp only[firstT,h1,h2,h3,h4,g3t,if_false]at h|-;refine⟨h4,hp,?_⟩;obtain⟨t,ht⟩:∃t,sQ (c::r)=t:=⟨_,rfl⟩;rw[ht]at h4 hp e6a|-;cases t with
      |nil=>exact absurd rfl h4
      |cons d t'=>
       have hd:d=c:=by obtain⟨u,hu⟩:=hp;simp only[List.cons_append,List.cons.injEq]at hu;exact hu.1
       subst hd;simp only[firstT,h1,h2,h3,g3t,if_false,e6a];simp
theorem c0T:∀(s:List UInt8)(k:Nat)(ln:Int)(cm:Bool),k<=s.length->jX num s k ln cm=jX num (s.drop k) 0 ln cm
 |[],k,ln,cm,h=>by
  have:k=0:=by simpa using h
  subst this
  rfl
 |c::r,0,ln,cm,_=>by rfl
 |c::r,k+1,ln,cm,h=>by
  rw[List.drop_succ_cons];simp only[List.length_cons]at h;rw[<-c0T r k ln cm (by omega)]
  rfl
end
end Go.Proofs.YtmfbjecjccipfaaGreatDoor
end
section
namespace Go.Proofs.YtmfbjecjccipfaaGreatDoor
section
variable {num:List UInt8->Int×Bool}
theorem b6N{c:UInt8}{r:List UInt8}(ln:Int)(h1:c≠10)(h2:c≠32)(h3:c≠9)(h4:c≠35):jX num (c::r) 0 ln false=if (firstT num (c::r)).2.2.2 then
   (match jX num ((c::r).drop (firstT num (c::r)).2.1.length) 0 ln false with
   |.ok l=>.ok (⟨(firstT num (c::r)).1,(firstT num (c::r)).2.1,(firstT num (c::r)).2.2.1,ln⟩::l)
   |.error e=>.error e)
  else .error ln:=by
 conv=>lhs;rw[jX]
 rw[if_neg h1,if_neg (by simp[h2,h3]),if_neg h4];split
 .rename_i oB;obtain⟨q1,q2,_⟩:=a4z oB;obtain⟨tx,htx⟩:∃tx,(firstT num (c::r)).2.1=tx:=⟨_,rfl⟩;rw[htx]at q1 q2|-;have hl:0<tx.length:=g3D.2 q1;have hle:=q2.length_le;simp only[List.length_cons]at hle;rw[c0T r (tx.length-1) ln false (by omega)];have:(c::r).drop tx.length=r.drop (tx.length-1):=by
   conv=>lhs;rw[show tx.length=(tx.length-1)+1 by omega]
   rfl
  rw[this]
  try rfl
 .rfl
inductive OkT (num:List UInt8->Int×Bool):List Tok->Int->Prop
 |fin (ln l:Int):ln<=l->OkT num [⟨0,[],0,l⟩] ln
 |cons (t:Tok) (r:List Tok) (ln:Int):ln<=t.line->firstT num t.text=(t.kind,t.text,t.n,true)->OkT num r t.line->OkT num (t::r) ln
theorem OkT.mono{l:List Tok}{ln ln':Int}(h:OkT num l ln)(hl:ln'<=ln):OkT num l ln':=by
 cases h with
 |fin _ l hle=>exact .fin _ _ (by omega)
 |cons t r _ h1 h2 h3=>exact .cons t r _ (by omega) h2 h3
theorem c9C{s:List UInt8}(h:(firstT num s).2.2.2=true):1<=(firstT num s).1/\(firstT num s).1<=4:=by
 cases s with
 |nil=>simp[firstT]at h
 |cons c r=>
  simp only[firstT]at h|-;split at h
  .rename_i h1;simp[h1]
  .rename_i h1;split at h
   .rename_i h2;simp[h1,h2]
   .rename_i h2;split at h
    .rename_i h3;simp[h1,h2,h3]
    .rename_i h3;split at h
     .cases h
     .rename_i h4;simp[h1,h2,h3,h4]
theorem a1z:∀(s:List UInt8)(k:Nat)(ln:Int)(cm:Bool)(l:List Tok),jX num s k ln cm=.ok l->OkT num l ln
 |[],k,ln,cm,l,h=>by simp only[jX,Except.ok.injEq]at h;subst h;exact .fin _ _ (Int.le_refl _)
 |c::r,k+1,ln,cm,l,h=>by rw[jX]at h;exact a1z r k ln cm l h
 |c::r,0,ln,cm,l,h=>by
  rw[jX]at h;split at h
  .exact(a1z r 0 _ _ l h).mono (by omega)
  .split at h
   .exact a1z r 0 _ _ l h
   .split at h
    .exact a1z r 0 _ _ l h
    .split at h
     .rename_i oB;split at h
      .rename_i l' hl;simp only[Except.ok.injEq]at h;subst h;obtain⟨q1,q2,q3⟩:=a4z oB;refine .cons _ _ _ (Int.le_refl _) ?_ (a1z r _ _ _ l' hl);simp only;rw[q3, <- oB]
      .cases h
     .cases h
end
end Go.Proofs.YtmfbjecjccipfaaGreatDoor
end
section
namespace Go.Proofs.YtmfbjecjccipfaaGreatDoor
open Go
variable{i:Nat}{s:List UInt8}
theorem c2M(h:i<s.length):((⟨s.toArray⟩:ByteArray).get! i)=s[i]:=by
 show(s.toArray)[i]! =s[i]
 simp[h]
theorem e2U(s:List UInt8):(⟨s.toArray⟩:ByteArray).size=s.length:=by
 show s.toArray.size=s.length
 simp
theorem d6P(h:i<s.length)(hb:s[i].toNat<128):Utf8.decode ⟨s.toArray⟩ i=(s[i].toNat,1):=by rw[Lib.decode_at,c2M h];unfold Lib.decodeN;rw[if_pos hb]
theorem d6Q(h:i<s.length)(hb:128<=s[i].toNat:=by omega):128<=(Utf8.decode ⟨s.toArray⟩ i).1/\1<=(Utf8.decode ⟨s.toArray⟩ i).2/\i+(Utf8.decode ⟨s.toArray⟩ i).2<=s.length/\
  ∀j,i<=j->j<i+(Utf8.decode ⟨s.toArray⟩ i).2->∃h:j<s.length,128<=s[j].toNat:=by
 rw[Lib.decode_at,c2M h,e2U];have at1:∀k,i+k<s.length->((⟨s.toArray⟩:ByteArray).get! (i+k))=s[i+k]! :=λk hk=>by rw[c2M hk];simp[hk]
 have two:∀(j:Nat)(hj:j<s.length),s[j].toNat/64=2->128<=s[j].toNat:=λj hj h=>by omega
 have key:∀k,i+k<s.length->((⟨s.toArray⟩:ByteArray).get! (i+k)).toNat/64=2->∃h:i+k<s.length,128<=s[i+k].toNat:=λk hk h=>by rw[c2M hk]at h;exact⟨hk,two _ hk h⟩
 rcases Lib.decodeN_shape (s.length-i) s[i].toNat ((⟨s.toArray⟩:ByteArray).get! (i+1)).toNat ((⟨s.toArray⟩:ByteArray).get! (i+2)).toNat ((⟨s.toArray⟩:ByteArray).get! (i+3)).toNat with h1|h1|h1|h1|h1
 .omega
 .obtain⟨a,b,c,d,e⟩:=h1;rw[e];refine⟨by simp only;omega,by simp,by simp only;omega,λj hj vB=>?_⟩;simp only at vB;rcases(show j=i\/j=i+1 by omega)with rfl|rfl
  .exact⟨h,hb⟩
  .exact key 1 (by omega) c
 .obtain⟨a,b,c,d,f,g,e⟩:=h1;rw[e];refine⟨by simp only;omega,by simp,by simp only;omega,λj hj vB=>?_⟩;simp only at vB;rcases(show j=i\/j=i+1\/j=i+2 by omega)with rfl|rfl|rfl
  .exact⟨h,hb⟩
  .exact key 1 (by omega) c
  .exact key 2 (by omega) d
 .obtain⟨a,b,c,d,f,g,k,e⟩:=h1;rw[e];refine⟨by simp only;omega,by simp,by simp only;omega,λj hj vB=>?_⟩;simp only at vB;rcases(show j=i\/j=i+1\/j=i+2\/j=i+3 by omega)with rfl|rfl|rfl|rfl
  .exact⟨h,hb⟩
  .exact key 1 (by omega) c
  .exact key 2 (by omega) d
  .exact key 3 (by omega) f
 .rw[h1];refine⟨by simp,by simp,by simp only;omega,λj hj vB=>?_⟩;simp only at vB;rcases(show j=i by omega)with rfl;exact⟨h,hb⟩
end Go.Proofs.YtmfbjecjccipfaaGreatDoor
end
namespace Go.VM
open Go Go.RowKit Go.ChangeShapes Go.WideShapes Go.Proofs.YtmfbjecjccipfaaGreatDoor
mutual
def szD:D->Nat
 |.str s=>s.length+1
 |.sl es=>d3v es+1
 |.agg ds=>szL ds
 |.int _ _=>1
 |.bool _=>1
 |.aE=>1
def szL:List D->Nat
 |[]=>0
 |d::r=>szD d+szL r
def d3v:List (List D)->Nat
 |[]=>0
 |l::r=>szL l+d3v r
end
theorem b6O:∀a b:List D,szL (a++b)=szL a+szL b
 |[],b=>by simp[szL]
 |d::a,b=>by have:=b6O a b;simp only[List.cons_append,szL,this];omega
mutual
theorem c2N {H:Type}:∀d:DataW H,szL (flat d)<=Rows.uptoBulk d
 |.lit (.int k n)=>by simp[flat,szL,szD,Rows.uptoBulk]
 |.lit (.bool b)=>by simp[flat,szL,szD,Rows.uptoBulk]
 |.lit (.string s)=>by simp[flat,szL,szD,Rows.uptoBulk]
 |.nil=>by simp[flat,szL,szD,d3v,Rows.uptoBulk]
 |.slice es sp=>by have:=c0U es;simp only[flat,szL,szD,Rows.uptoBulk];omega
 |.agg ps=>by have:=c6f ps;simp only[flat,Rows.uptoBulk];omega
 |.lit (.float .f32 _)=>by simp[flat,szL]
 |.lit (.float .f64 _)=>by simp[flat,szL]
 |.lit .nil=>by simp[flat,szL]
 |.ptr d=>by simp[flat,szL]
 |.iface _ d=>by simp[flat,szL]
 |.map es=>by simp[flat,szL]
 |.held _=>by simp[flat,szL]
theorem c0U {H:Type}:∀l:List (DataW H),d3v (a0P l)<=Rows.uptoBulkAll l
 |[]=>by simp[a0P,d3v]
 |d::r=>by have h1:=c2N d;have h2:=c0U r;simp only[a0P,d3v,Rows.uptoBulkAll];omega
theorem c6f {H:Type}:∀l:List (DataW H),szL (yQ l)<=Rows.uptoBulkAll l
 |[]=>by simp[yQ,szL]
 |d::r=>by have h1:=c2N d;have h2:=c6f r;simp only[yQ,b6O,Rows.uptoBulkAll];omega
end
section
variable {P:Program} {H:Type} {enc:TypeId×Value->H} {w:World} {sp:Nat->Bool} {held:Bool} {L:List TypeId}
variable{r:Reach}{b0:Nat}
theorem c6g(rZ:laidOutB P=true)(hp:a3j P L=true){t:TypeId}{v:Value}{d:DataW H}{ps:List MemPlace}(hT:L.contains t=true)(a2Q:Value.okWide P w r b0 t v)(h:DataW.Trod enc P w 0 sp held t v d ps):
  ∃x,a9q P t x/\V (RW w) w v x/\szD x=szL (flat d):=by
 obtain⟨n,hn⟩:=h;obtain⟨h1,h2,h3⟩:=b3l rZ hp n t _ _ hT hn;have rI:=g3c.1 hp t (by simpa using hT);simp only[g2Z,g3N]at rI;obtain⟨_,rI⟩:=rI;cases hu:P.underlying t with
 |none=>rw[hu]at rI;cases rI
 |some u=>
  cases ha:qU u with
  |true=>
   have hv:∃cs:Array Value,v=.agg cs:=by
    unfold Value.okWide at a2Q;rw[hu]at a2Q;cases u<;>simp only[qU]at ha<;>(try cases ha)
    .obtain⟨cs,hv,_⟩:=a2Q;exact⟨cs,hv⟩
    .obtain⟨cs,hv,_⟩:=a2Q;exact⟨cs,hv⟩
   obtain⟨cs,rfl⟩:=hv;refine⟨.agg (flat d),by simp only[a9q,hu,ha,if_true];exact⟨_,rfl,h2⟩,.agg _ _ (by simpa[Value.cells]using h1.symm) (λi x hx=>(h3 i x hx).1) (λi x hx=>?_),by simp[szD]⟩;have:=(h3 i x hx).2;simpa[Value.cells,List.getD,g3b]using this
  |false=>
   have hc:v.cells=#[v]:=by refine b6G hu ha ?_ a2Q;rw[hu]at rI|-;cases u<;>simp only[qU]at ha<;>(try cases ha)<;>first|rfl|(simp at rI)
   rw[hc]at h1 h3;simp at h1;obtain⟨x,hx⟩:∃x,flat d=[x]:=List.length_eq_one_iff.1 h1;simp only[hx]at h2 h3;refine⟨x,by simp only[a9q,hu,ha];exact h2,by simpa using (h3 0 x rfl).2,by simp[hx,szL]⟩
theorem b4x{r:Reach}{b0:Nat}(rZ:laidOutB P=true)(hp:a3j P L=true):∀{ts:List TypeId}{vs:List Value}{ds:List (DataW H)}{ps:List MemPlace},(∀t∈ts,L.contains t=true)->(∀(j:Nat) t v,ts[j]? =some t->vs[j]? =some v->Value.okWide P w r b0 t v)->
  DataW.TrodAll enc P w 0 sp held ts vs ds ps->∃xs,b1B P ts xs/\vs.length=xs.length/\(∀(i:Nat)(d:D),xs[i]? =some d->V (RW w) w (vs.getD i undef) d)/\szL xs<=Rows.uptoBulkAll ds
 |[],_,_,_,_,_,h=>by obtain⟨rfl,rfl,rfl⟩:=trodAll_nil h;exact⟨[],trivial,rfl,by simp,by simp[szL]⟩
 |t::ts,_,_,_,hT,hv,h=>by
  obtain⟨v,vs1,d,ds1,a,b,rfl,rfl,rfl,h1,h2⟩:=trodAll_cons h;obtain⟨x,q1,q2,q7⟩:=c6g rZ hp (hT t (.head _)) (hv 0 t v rfl rfl) h1;obtain⟨xs,q3,q4,q5,q6⟩:=b4x rZ hp (λt ht=>hT t (.tail _ ht)) (λj t v a b=>hv (j+1) t v a b) h2;refine⟨x::xs,⟨q1,q3⟩,by simp[q4],λi d hi=>?_,by have:=c2N d;simp only[szL,Rows.uptoBulkAll];omega⟩
  cases i with
  |zero=>simp at hi;subst hi;simpa using q2
  |succ i=>simp at hi;simpa using q5 i d hi
theorem b6P{G:GT}{f:FuncId}{fn:Func}{s:ChangeSpec}{apart fresh handsOn again:Bool}{tb:TypeId}(rZ:laidOutB P=true)(hmr:mapsRowed P=true)(hsf:((List.range P.types.size).all λt=>match P.underlying t with|some (.slice e)=>decide (0<P.cellsOf e)|_=>true)=true)(hp:a3j P L=true){ts:List TypeId}(hts:fn.params.toList=ts)(hT:(ts.all λt=>L.contains t)=true)(c5T:s.vars=[])(kX:fn.resultTypes=#[tb])(htb:P.underlying tb=some .bool)(hs:∀ds:List (DataW H),ds.length=ts.length->s.fn H ds={results:=[.lit (.bool true)],args:=ds})(sN:∀xs,b1B P ts xs->szL xs<=1048576->CS P G f xs (.d (.bool true)) none){W:World}{args:Array Value}{ds gs:List (DataW H)}{before:List MemPlace}(a2Q:∀(j:Nat) t v,fn.params[j]? =some t->args[j]? =some v->Value.okWide P W r b0 t v)(hW:DataW.Whole enc P fn.params.toList s.vars apart W args.toList ds gs before)(hG:a8U G (a0X W.heap.size) (RW W) W)(hk:Rows.uptoSmall H (ds++gs)=true):
  Calls P f args W λe W'=>∃v,e=.returned v/\s.post enc P fn apart fresh handsOn again W args v W':=by
 have hW':=hW;obtain⟨p,q,hA,hV,rfl,hfz,hnd⟩:=hW;rw[c5T]at hV;obtain⟨rfl,rfl⟩:=trodVars_none hV;rw[hts]at hA;have hTm:∀t∈ts,L.contains t=true:=g3c.1 hT;obtain⟨xs,q1,q2,q3,q6⟩:=b4x rZ hp hTm (λj t v a b=>a2Q j t v (by rw[<-Array.getElem?_toList,hts];exact a) (by rw[<-Array.getElem?_toList];exact b)) hA;have mI:szL xs<=1048576:=by have h1:Rows.uptoBulkAll (ds++[])<=1048576:=of_decide_eq_true hk;rw[List.append_nil]at h1;omega
 refine(sN xs q1 mI W (RW W) args hG (λ_ _ h=>h) (by simpa using q2) (λi d hi=>by simpa[List.getD,g3b]using q3 i d hi)).mono λe W' ⟨v,R',he,htv,pZ,_,_⟩=>?_;have hv:v=.bool true:=by
  have:=htv (λ_=>0);cases this with
  |d _ _ h=>cases h;rfl
 subst he hv;have hlen:=b4o hA;have aG:∀x∈p++[],x.block<W.heap.size:=hW'.lt;refine⟨_,rfl,d3s hW' pZ.below.below (λ_ _ _=>?_) (λsp' hsp=>?_) (λ_ _=>?_) ?_⟩
 .rw[List.append_nil,hs ds hlen,kX];exact trodAll_cons_mk (shut_bool htb _) trodAll_mk0
 .rw[List.append_nil,List.append_nil,hs ds hlen,hts];have h1:=a9r (w':=W') hA λx hx=>pZ.below.below.same (aG x (by simpa using hx));refine h1.respare (kids_rows rZ hmr) (λt e ht hu=>slices_full_of P hsf t e ht hu) (λt ht=>?_) (λx hx=>hsp x (by simpa using hx));have rI:=g3c.1 hp t (by simpa using hTm t ht);simp only[g2Z,g3N]at rI;exact rI.1
 .rw[List.append_nil,hs ds hlen,c5T]
  rfl
 .exact ok_one kX rfl (okWide_bool_mk htb _)
end
end Go.VM
section
namespace Go.Proofs.YtmfbjecjccipfaaGreatDoor
open Go Go.VM
abbrev Nm:=List UInt8
theorem d6R:strs []=[]:=rfl
attribute [simp] d6R
structure Pr where
 op:Int
 name:Nm
 n:Int
 kids:List Pr
structure Ty where
 op:Int
 name:Nm
 args:List Ty
 names:List Nm
 pred:Pr
 b1E:List Pr
theorem Pr.ind{M:Pr->Prop}(h:∀p:Pr,(∀k∈p.kids,M k)->M p):∀p,M p
 |⟨op,nm,n,ks⟩=>h _ λk hk=>Pr.ind h k
theorem Ty.ind{M:Ty->Prop}(h:∀t:Ty,(∀k∈t.args,M k)->M t):∀t,M t
 |⟨op,nm,l,ns,p,ps⟩=>h _ λk hk=>Ty.ind h k
def qO:Pr->List D
 |⟨op,nm,n,ks⟩=>[.int .i64 op,.str nm,.int .i64 n,.sl (ks.map qO)]
abbrev prD(p:Pr):List D:=[.int .i64 p.op,.str p.name,.int .i64 p.n,.sl (p.kids.map qO)]
theorem dH(p:Pr):qO p=[.int .i64 p.op,.str p.name,.int .i64 p.n,.sl (p.kids.map qO)]:=by cases p;rw[qO]
def tyC:Ty->List D
 |⟨op,nm,l,ns,p,ps⟩=>[.int .i64 op,.str nm,.sl (l.map tyC),.sl (strs ns),.int .i64 p.op,.str p.name,.int .i64 p.n,.sl (p.kids.map qO),.sl (ps.map qO)]
abbrev tyD(t:Ty):List D:=[.int .i64 t.op,.str t.name,.sl (t.args.map tyC),.sl (strs t.names),.int .i64 t.pred.op,.str t.pred.name,.int .i64 t.pred.n,.sl (t.pred.kids.map qO),.sl (t.b1E.map qO)]
theorem cB(t:Ty):tyC t=[.int .i64 t.op,.str t.name,.sl (t.args.map tyC),.sl (strs t.names),.int .i64 t.pred.op,.str t.pred.name,.int .i64 t.pred.n,.sl (t.pred.kids.map qO),.sl (t.b1E.map qO)]:=by cases t;rw[tyC]
attribute [simp] dH cB
variable{i:Nat}
theorem xB{l:List Pr}(h:i<l.length):(l.map qO)[i]? =some (prD l[i]):=by simp[h,dH]
theorem e2W{l:List Ty}(h:i<l.length):(l.map tyC)[i]? =some (tyD l[i]):=by simp[h,cB]
end Go.Proofs.YtmfbjecjccipfaaGreatDoor
end
section
namespace Go.Proofs.YtmfbjecjccipfaaGreatDoor
open Go Go.VM
variable {G:GT}
mutual
def bO:Pr->Nat
 |⟨_,_,_,l⟩=>1+eK l
def eK:List Pr->Nat
 |[]=>0
 |t::r=>bO t+eK r
end
theorem b3o:∀a b:List Pr,eK (a++b)=eK a+eK b
 |[],b=>by simp[eK]
 |t::a,b=>by simp only[List.cons_append,eK,b3o a b];omega
theorem qT(p:Pr):bO p=1+eK p.kids:=by cases p;rfl
theorem tA{l:List Pr}{i:Nat}(h:i<l.length):eK (l.take (i+1))=eK (l.take i)+bO l[i]:=by rw[g3o h,b3o];simp[eK]
theorem kW:∀(l:List Pr)(i:Nat),eK (l.take i)<=eK l
 |[],i=>by simp
 |t::r,0=>by simp[eK]
 |t::r,i+1=>by have:=kW r i;simp only[List.take_succ_cons,eK];omega
theorem d6S(p:Pr):1<=bO p:=by rw[qT];omega
theorem jY:∀l:List Pr,l.length<=eK l
 |[]=>by simp
 |t::r=>by have h1:=d6S t;have h2:=jY r;simp only[eK,List.length_cons];omega
theorem c6h(p:Pr):bO p<=900000000->CS prog G 203 [.agg (prD p)] (.d (.int .i64 (bO p))) none:=by
 revert p
 refine Pr.ind λp ih=>?_;obtain⟨op,nm,n,l⟩:=p;intro hN;simp only at ih;have hn:=qT ⟨op,nm,n,l⟩;simp only at hn;have hl:=jY l;refine CS.aW func203 rfl ntmps203 rfl ?_;simp;refine SW.gA (ι:={i:Nat//i<=l.length}) (λi=>[(3,.d (.int .i64 (1+eK (l.take i.1):Nat))),(9,.d (.int .i64 i.1))]) (λ_=>[(1,.cells [.d (.int .i64 op),.d (.str nm),.d (.int .i64 n),.d (.sl (l.map qO))])]) (λ_=>[]) (λi=>l.length-i.1) ⟨0,by simp⟩ (by simp[eK]) ?_;rintro⟨i,hi⟩;by_cases aG:i<l.length
 .have hg:=xB aG;have hw:=bC (show i<9223372036854775807 by omega);have hb2:=tA aG;have hb3:=kW l (i+1);have hw2:IntKind.i64.wrap (((1+eK (l.take i):Nat):Int)+(bO l[i]:Int))=((1+eK (l.take (i+1)):Nat):Int):=by rw[wrap64 (by omega),hb2];omega
  simp[aG,hg];refine aC.mk (.mk func203 rfl) (ih l[i] (g3y aG) (by omega)) ?_;simp;exact bD.mk ⟨i+1,aG⟩ (by simp at hw2;simp[hw,hw2]) (by simp;omega)
 .have:i=l.length:=by omega
  subst this;simp[hn]
end Go.Proofs.YtmfbjecjccipfaaGreatDoor
end
section
namespace Go.Proofs.YtmfbjecjccipfaaGreatDoor
open Go Go.VM
variable {G:GT}
theorem cJ{P:Program}{q:Bool}{x:Out}{c:Prop}[Decidable c]{dst:Option Tmp}{all:Array Oper}{rest:List Oper}{k:List KI}{Q:Exit->St->Prop}(hc:c)(h:b4k P G q (some x) dst all rest k Q):b4k P G q (if c then some x else none) dst all rest k Q:=by rw[if_pos hc];exact h
theorem d6T{α β:Type}(f:α->β){l:List α}{i:Nat}(h:i<l.length):(l.take (i+1)).map f=(l.take i).map f++[f l[i]]:=by
 rw[g3o h,List.map_append]
 rfl
end Go.Proofs.YtmfbjecjccipfaaGreatDoor
end
end
