/- Lemmas that the law of this claim needs (Z6 Z7 ZL Up Z8). No condition. -/
import Derived.Test.YtjpodcmhcenjjaaGreatDoorOsa
import Derived.Test.YtjpodcmhcenjjaaGreatDoorOsc
import Derived.Test.YtjpodcmhcenjjaaGreatDoorRows
import Derived.Lib.ItoaNum
import Derived.Lib.LaidTab
import Derived.WalkSmall
import Derived.Deep.Draws
import Derived.Lib.Join
import Derived.Sort.Grow
import Derived.Lib.MapLaws
import Derived.Shelf.Strings.Builder1
import Derived.Shelf.Strings.Builder2
import Derived.Shelf.Strings.OnBuilder
import Derived.Shelf.Strings.Trim
import Derived.Shelf.Small.Utf8
import Derived.Shelf.Small.Strs
import Derived.Shelf.Strings.BuilderF
import Derived.Shelf.Strings.BuilderK
import Derived.Shelf.Strings.Search1
import Derived.Shelf.Strings.Prefix
import Derived.Shelf.Strings.Runes
import Derived.Shelf.Strings.AsciiSet
import Derived.Shelf.Unicode.DecodeSlow
import Derived.Test.YtjpodcmhcenjjaaGreatDoorProg
import Derived.Lib.ItoaLen
set_option linter.unusedVariables false
set_option linter.unusedSimpArgs false
set_option linter.unusedSectionVars false
set_option maxRecDepth 100000
set_option maxHeartbeats 64000000
open Go.Proofs.Tryz
section
section
namespace Go.VM
open Go Go.RowKit Go.Sort
section
variable {P:Program} {G:GT}
theorem CS.c7W{f:FuncId}{ds:List D}{r:D}(h:∀(w:World) (R:Nat->Nat->Prop) (args:Array Value),a6I G (yY w.heap.size) R w->(∀b o,R b o->b<w.heap.size)->args.size=ds.length->(∀(i:Nat) (d:D),ds[i]? =some d->V R w (args.getD i undef) d)->
  Calls P f args w λe w'=>∃v,e=.returned v/\V R w' v r/\Below w.heap.size w w'):CS P G f ds (.d r) none:=λw R args hg hR hl hv=>
 (h w R args hg hR hl hv).mono λe w' ⟨v,he,hr,hb⟩=>⟨v,R,he,λ_=>.d _ _ hr,⟨.d1A hb,λ_ _ h=>h,λ_ _ h h'=>absurd h h',λb o hbo=>hb.cell (hR b o hbo)⟩,λb o hbo=>Nat.lt_of_lt_of_le (hR b o hbo) hb.size,λ_ he=>by cases he⟩
theorem d8O{f:FuncId}{xs:List (List UInt8)}{sep:List UInt8}(h0:∀(a:Option Addr) (c:Nat) (sep:ByteArray) (w:World),Calls P f #[.slice a 0 c,.string sep] w λe w'=>e=.returned (.string ⟨#[]⟩)/\w'=w)(h1:∀(bk o c:Nat) (xs:List ByteArray) (sep:ByteArray) (w:World),(∀(j:Nat) x,xs[j]? =some x->w.cell? ⟨bk,o+j,none⟩=some (.string x))->bk<w.heap.size->xs.length<=140737488355328->xs.length<=c->(Lib.join (xs.map (·.data.toList)) sep.data.toList).length<=140737488355328->
   Calls P f #[.slice (some ⟨bk,o,none⟩) xs.length c,.string sep] w λe w'=>e=.returned (.string ⟨(Lib.join (xs.map (·.data.toList)) sep.data.toList).toArray⟩)/\Below w.heap.size w w')(hl:xs.length<=140737488355328)(hj:(Lib.join xs sep).length<=140737488355328):CS P G f [.sl (xs.map λs=>[.str s]),.str sep] (.d (.str (Lib.join xs sep))) none:=by
 refine CS.c7W λw R args hg hR hs hv=>?_;have ha:args=#[args.getD 0 undef,args.getD 1 undef]:=by
  obtain⟨l⟩:=args
  match l,hs with
  |[a,b],_=>rfl
 have e1:=(hv 1 _ rfl).oP;have e0:=hv 0 _ rfl;have nix:∀a c,xs=[]->args=#[.slice a 0 c,.string ⟨sep.toArray⟩]->Calls P f args w λe w'=>∃v,e=.returned v/\V R w' v (.str (Lib.join xs sep))/\Below w.heap.size w w':=λa c hx ha'=>by rw[ha',hx,Lib.join_nil];exact(h0 a c _ w).mono λe w' ⟨he,hw⟩=>⟨_,he,.str [],hw▸Below.refl _ _⟩
 generalize args.getD 0 undef=v0 at *;rw[e1]at ha;generalize hes:(xs.map λs=>[D.str s])=es0 at e0;cases e0 with
 |emp ao cap=>exact nix ao cap (by simpa using hes) ha
 |sl b o n cap size es g q1 q2 q3 q4 q5 q6 q7=>
  subst hes;by_cases hx:xs=[]
  .have:n=0:=by rw[q1,hx];rfl
   subst this;exact nix _ cap hx ha
  .have hn:n=xs.length:=by rw[q1];simp
   have jG:size=1:=by
    cases xs with
    |nil=>exact absurd rfl hx
    |cons x r=>exact(q4 [.str x] (by simp)).symm
   subst jG;have hc:∀(j:Nat) (x:List UInt8),xs[j]? =some x->R b (o+j)/\w.cell? ⟨b,o+j,none⟩=some (.string ⟨x.toArray⟩):=λj x hj=>by
    have hjl:j<n:=by rw[hn];exact(f7I.1 hj).1
    obtain⟨r1,r2⟩:=q5 j 0 hjl (by omega);have:=q7 j 0 [.str x] (.str x) (by rw[f7R,hj];rfl) rfl;simp only[Nat.mul_one,Nat.add_zero]at r1 r2;rw[this.oP]at r2;exact⟨r1,r2⟩
   have hb:b<w.heap.size:=by
    cases xs with
    |nil=>exact absurd rfl hx
    |cons x r=>exact hR b _ (hc 0 x rfl).1
   have key:=h1 b o cap (xs.map λs=>⟨s.toArray⟩) ⟨sep.toArray⟩ w (λj x hj=>by rw[f7R]at hj;obtain⟨y,hy,rfl⟩:=f7G.1 hj;exact(hc j y hy).2) hb (by simpa using hl) (by simp;omega) (by simpa[List.map_map,Function.comp_def]using hj)
   simp only[List.length_map,List.map_map,Function.comp_def]at key;rw[ha,hn];have hid:List.map (λx:List UInt8=>x) xs=xs:=by simp
   simp only[hid]at key;exact key.mono λe w' ⟨he,hw⟩=>⟨_,he,.str _,hw⟩
end
end Go.VM
end
section
namespace Go.VM
open Go Go.RowKit
section
variable {P:Program} {G:GT} {st:St} {base:cT} {R:Nat->Nat->Prop} {μ:Nat->Nat} {a:Act} {w:World}
def d2S(P:Program)(s:St):ResultVar->Option DV
 | .tmp i=>some (s.tmps.getD i (.bY []))
 | .cell p ty=>match s.tmps.getD p (.bY [])with
  | .ptr k off=>(match getKey k s.H with
   |some (.cells cs)=>b1o P ty (cs.drop off)
   |_=>none)
  |_=>none
def a1H(P:Program)(s:St)(rs:List ResultVar):Option DV:=match rs with
 |[r]=>d2S P s r
 |rs=>(a4Z P s rs).map .bY
theorem d8P(hr:Rel P G base R μ st a w){r:ResultVar}{x:DV}(h:d2S P st r=some x):∃v,(b0F a.tmps r).run P w=.ok v w/\TV R μ w v x:=by
 cases r with
 |tmp i=>simp only[d2S,f7N]at h;subst h;have he:=hr.eval (.tmp i);simp only[St.eval,Act.eval]at he;exact⟨_,rfl,he⟩
 |cell p ty=>
  simp only[d2S]at h;have he:=hr.eval (.tmp p);simp only[St.eval,Act.eval]at he;split at h
  .rename_i k off hp;split at h
   .rename_i cs hk;rw[hp]at he;obtain⟨_,_,hob⟩:=hr.gY k _ hk;have cZ:=(b0x.a4K hob).drop off;rw[Nat.zero_add]at cZ;obtain⟨v,h1,h2,_⟩:=wW (P:=P) cZ h;refine⟨v,?_,h2⟩;unfold b0F;simp only;rw[he.b9u];simp only[asAddr,Sem.run_bind,Sem.run_pure,Result.andThen_ok,h1]
   .cases h
  .cases h
theorem a0M(hr:Rel P G base R μ st a w){fn:Func}{r:DV}(h:a1H P st fn.results.toList=some r):∃v,(results fn a.tmps).run P w=.ok v w/\TV R μ w v r:=by
 unfold a1H at h;split at h
 .rename_i r0 hrs;obtain⟨v,h1,h2⟩:=d8P hr h;refine⟨v,?_,h2⟩;rw[a7O,Array.mapM_eq_mapM_toList,hrs];simp[h1]
 .rename_i eF;obtain⟨ds,hds,rfl⟩:=f7G.1 h;obtain⟨vs,h1,h2,h3⟩:=b3U hr hds;have hl:vs.length≠1:=λe=>by
   have:ds.length=1:=by omega
   have hrl:fn.results.toList.length=1:=by rw[<-b8g hds];exact this
   match hq:fn.results.toList,hrl with
   |[x],_=>exact eF x hq
  refine⟨.tuple vs.toArray,?_,.bY _ _ (by simpa using h2) (λi d hi=>by have:=h3 i d hi;simpa[f7J,List.getD]using this)⟩;rw[a7O,Array.mapM_eq_mapM_toList];simp only[Sem.run_bind,Sem.run_map,h1,Result.andThen_ok,Sem.run_pure];rw[dif_neg (by simpa using hl)]
where b8g {P:Program} {s:St}:∀ {l:List ResultVar} {ds:List D},a4Z P s l=some ds->ds.length=l.length
 |[],ds,h=>by simp[a4Z]at h;subst h;rfl
 |r::l,ds,h=>by
  simp only[a4Z]at h;split at h
  .rename_i x ds' _ h';simp at h;subst h;simp[b8g h']
  .cases h
def b0J(n:Nat)(rs:List ResultVar):Loc->Option Loc
 | .t j=>match rs with
  |[.tmp i]=>if i=j/\j<n then some (.t 0) else none
  |_=>none
 | .c k off=>some (.c k off)
def b1H(s:St)(rs:List ResultVar)(r:DV):St:=⟨[r],s.H,s.own.map λc=>(c.1,c.2.filterMap (b0J s.tmps.length rs))⟩
def c7X(P:Program)(s:St)(rs:List ResultVar)(s1:St):Prop:=match a1H P s rs with
 |some r=>uN (b1H s rs r) s1
 |none=>False
theorem Rel.ret(hr:Rel P G base R μ st a w){fn:Func}{r:DV}{v:Value}(hv:(results fn a.tmps).run P w=.ok v w)(ht:TV R μ w v r):Rel P G base R μ (b1H st fn.results.toList r) {tmps:=#[v],defers:=[]} w:=by
 refine⟨rfl,rfl,λi u d hu hd=>?_,hr.gY,hr.inj,λc hc k off hl=>?_,?_,hr.tQ,hr.pH,hr.base,hr.pass⟩
 .simp only[b1H]at hd;cases i with
  |zero=>simp at hu hd;subst hu hd;exact ht
  |succ i=>simp at hd
 .simp only[b1H,List.mem_map]at hc;obtain⟨c0,wL,rfl⟩:=hc;simp only[List.mem_filterMap]at hl;obtain⟨l0,hl0,he⟩:=hl;cases l0 with
  |t j=>
   simp only[b0J]at he;split at he
   .split at he<;>cases he
   .cases he
  |c k' a4M=>simp only[b0J,f7N]at he;cases he;exact hr.dI c0 wL k off hl0
 .obtain⟨vs,hl,h1,yV⟩:=hr.own;refine⟨vs,by simpa[b1H]using hl,λi c u hc hu=>?_,yV⟩;simp only[b1H,f7R]at hc;obtain⟨c0,wL,rfl⟩:=f7G.1 hc;have ho:=h1 i c0 u wL hu;refine⟨λl hl u' hu'=>?_,ho.own,ho.keys⟩;simp only[List.mem_filterMap]at hl;obtain⟨l0,hl0,he⟩:=hl;cases l0 with
  |t j=>
   simp only[b0J]at he;split at he
   .rename_i i' hrs;split at he
    .rename_i hij;cases he;obtain⟨rfl,aE⟩:=hij;simp[cB]at hu';subst hu';have d2m:fn.results=#[.tmp i']:=by apply Array.ext';simpa using hrs
     rw[results_tmp d2m a.tmps P w]at hv;cases hv;have b9P:i'<a.tmps.size:=by rw[hr.size];exact aE
     exact ho.dI _ hl0 _ (by simp[cB,b9P])
    .cases he
   .cases he
  |c k' a4M=>simp only[b0J,f7N]at he;subst he;exact ho.dI _ hl0 u' hu'
theorem CH.a1I{f:FuncId}{fn:Func}{c:Code}{n:Nat}{s0 s1:St}(hf:P.funcs[f]? =some fn)(hb:fn.body=some c)(hn:fn.ntmps=n){rs:List ResultVar}(hrs:fn.results.toList=rs)(hT:(s0.own.all λc=>c.2.all λl=>match l with| .t i=>decide (i<s0.tmps.length)|_=>true)=true)(h:SW P G c ⟨s0.tmps++List.replicate (n-s0.tmps.length) (.bY []),s0.H,s0.own⟩ λe s=>(e=.normal\/e=.ret)/\c7X P s rs s1):CH P G f s0 s1:=by
 subst hrs;intro base R μ args w hr;refine calls_of_wp hf hb ?_;have jG:args.size=s0.tmps.length:=hr.size;have kU:Rel P G base R μ ⟨s0.tmps++List.replicate (n-s0.tmps.length) (.bY []),s0.H,s0.own⟩ {tmps:=args++Array.replicate (fn.ntmps-args.size) undef,defers:=[]} w:=by
  refine⟨rfl,by simp[jG,hn],λi v d hiv hid=>?_,hr.gY,hr.inj,hr.dI,?_,hr.tQ,hr.pH,hr.base,hr.pass⟩
  .simp only at hid;by_cases hi:i<s0.tmps.length
   .rw[f7S hi]at hid;rw[Array.getElem?_append_left (by omega)]at hiv;exact hr.tmps i v d hiv hid
   .rw[f7P (by omega),List.getElem?_replicate]at hid;split at hid<;>simp at hid;subst hid;rw[Array.getElem?_append_right (by omega),Array.getElem?_replicate]at hiv;split at hiv<;>simp at hiv;subst hiv;exact .bY #[] [] rfl (by simp)
  .obtain⟨vs,hl,h1,yV⟩:=hr.own;refine⟨vs,hl,λi c v hc hv=>?_,yV⟩;have ho:=h1 i c v hc hv;refine⟨λl hl u hu=>?_,ho.own,ho.keys⟩;cases l with
   |t j=>have hj:=f7K.1 (f7K.1 hT c (f7M hc)) _ hl;simp only[decide_eq_true_eq]at hj;simp only[cB]at hu;rw[Array.getElem?_append_left (by omega)]at hu;exact ho.dI _ hl u hu
   |c k off=>exact ho.dI _ hl u hu
 refine wp_mono (h base R μ _ w kU) λe a' w' ⟨s,R',μ',⟨he,a1p⟩,eM,hs⟩=>?_;unfold c7X at a1p;split at a1p
 .rename_i r hZ;obtain⟨v,hv1,hv2⟩:=a0M eM hZ;have a5a:a'.defers=[]/\∃v,(results fn a'.tmps).run P w'=.ok v w'/\∃v' R' μ',Ending.returned v=.returned v'/\Rel P G base R' μ' s1 {tmps:=#[v'],defers:=[]} w'/\Step base R w R' w':=
   ⟨eM.defers,v,hv1,v,R',μ',rfl,(eM.ret hv1 hv2).a0H a1p,hs⟩
  rcases he with rfl|rfl
  .exact a5a
  .exact a5a
 .exact a1p.elim
theorem CH.aR{f:FuncId}{fn:Func}{c:Code}{n:Nat}{s0 s1:St}(hf:P.funcs[f]? =some fn)(hb:fn.body=some c)(hn:fn.ntmps=n){rs:List ResultVar}(hrs:fn.results.toList=rs)(hT:(s0.own.all λc=>c.2.all λl=>match l with| .t i=>decide (i<s0.tmps.length)|_=>true)=true)(h:VK P G [.code c] .normal ⟨s0.tmps++List.replicate (n-s0.tmps.length) (.bY []),s0.H,s0.own⟩ λe s=>(e=.normal\/e=.ret)/\c7X P s rs s1):CH P G f s0 s1:=CH.a1I hf hb hn hrs hT (a4f c _ _ (c2D h))
end
end Go.VM
end
section
namespace Go.VM
open Go Go.RowKit
def uW(s:St):List (TypeId×List Loc)->List (TypeId×List Loc)->Option (List (TypeId×List Loc))
 |own,[]=>some own
 |own,c::r=>if b3R s c then uW s own r else match zW c own with
  |some dM=>uW s dM r
  |none=>none
def eZ(K:List (Nat×Nat))(dst:Option Tmp):Loc->Option Loc
 | .t i=>if i=0 then dst.map Loc.t else none
 | .c k off=>some (.c (rk K k) off)
def jA(K:List (Nat×Nat))(dst:Option Tmp)(c:TypeId×List Loc):TypeId×List Loc:=(c.1,c.2.filterMap (eZ K dst))
def b4f(K:List (Nat×Nat))(ls:List (Option Loc)):Loc->Option Loc
 | .t i=>(ls[i]?).join
 | .c k off=>some (.c (rk K k) off)
def pK(K:List (Nat×Nat))(ls:List (Option Loc))(c:TypeId×List Loc):TypeId×List Loc:=(c.1,c.2.filterMap (b4f K ls))
def zD(n:Nat)(ls:List (Option Loc))(own:List (TypeId×List Loc)):Bool:=own.all λc=>c.2.all λl=>match l with
 | .t i=>(match ls[i]? with
  |some (some (.t t))=>decide (t<n)
  |_=>false)
 | .c _ _=>true
def dJ:List (Nat×Nat)->List (TypeId×List Loc)->List (TypeId×List Loc)
 |[],own=>own
 |p::r,own=>dJ r (dropKey p.2 own)
def bM(K:List (Nat×Nat)):List (Nat×aW)->List (Nat×aW)->List (Nat×aW)
 |[],H=>H
 |p::r,H=>bM K r (bP (rk K p.1) (cP K p.2) H)
def cH(K:List (Nat×Nat))(H:List (Nat×aW)):List (Nat×aW):=H.map λp=>(rk K p.1,cP K p.2)
def gV(dst:Option Tmp)(d:DV)(l:List DV):List DV:=match dst with
 |some i=>l.set i d
 |none=>l
def eT(dst:Option Tmp)(own:List (TypeId×List Loc)):List (TypeId×List Loc):=match dst with
 |some d=>cG (.t d) own
 |none=>own
def bD(K:List (Nat×Nat))(dst:Option Tmp)(st:St)(rest:List (TypeId×List Loc))(r:DV)(H1:List (Nat×aW))(dM:List (TypeId×List Loc)):St:=
 {tmps:=gV dst (bA K r) st.tmps,H:=bM K H1 st.H,own:=dM.map (jA K dst)++eT dst (dJ K rest)}
def aJ(K:List (Nat×Nat))(s0:St)(r:DV)(H1:List (Nat×aW)):Bool:=
 decide ((K.map (·.1)).Nodup)&&decide ((K.map (·.2)).Nodup)&&(K.all λp=>decide (100000<=p.1))&&(s0.tmps.all (aT K))&&
 (s0.H.all λp=>(K.any λq=>q.1==p.1)&&aN K p.2&&(getKey p.1 H1).isSome)&&bC s0.H s0.own&&
 aT K r&&decide ((H1.map (·.1)).Nodup)&&(H1.all λp=>aN K p.2&&(getKey p.1 s0.H).isSome)
theorem gN{k:Nat}{o:aW}:∀ {H:List (Nat×aW)},getKey k H=some o->(k,o)∈H
 |[],h=>by simp[getKey]at h
 |(k',o')::r,h=>by
  unfold getKey at h;split at h
  .rename_i he;cases h;subst he;exact .head _
  .exact .tail _ (gN h)
theorem getKey_of_mem{k:Nat}{o:aW}:∀ {H:List (Nat×aW)},(H.map (·.1)).Nodup->(k,o)∈H->getKey k H=some o
 |(k',o')::r,hn,h=>by
  simp only[List.map_cons,List.nodup_cons]at hn;unfold getKey;rcases List.mem_cons.1 h with he|h
  .cases he;simp
  .have:k'≠k:=λe=>hn.1 (by rw[e];exact List.mem_map.2 ⟨(k,o),h,rfl⟩);rw[if_neg this];exact getKey_of_mem hn.2 h
theorem xV{K:List (Nat×Nat)}{k:Nat}{o:aW}:∀ {l H:List (Nat×aW)},getKey k (bM K l H)=some o->(∃p∈l,k=rk K p.1/\o=cP K p.2)\/((∀p∈l,k≠rk K p.1)/\getKey k H=some o)
 |[],H,h=>.inr ⟨by simp,h⟩
 |p::r,H,h=>by
  rcases xV (l:=r) h with⟨q,h1,h2⟩|⟨h1,h2⟩
  .exact .inl ⟨q,.tail _ h1,h2⟩
  .rw[eX]at h2;split at h2
   .rename_i he;cases h2;exact .inl ⟨p,.head _,he.symm,rfl⟩
   .rename_i eF;exact .inr ⟨λq hq=>by rcases List.mem_cons.1 hq with rfl|hq;exact λe=>eF e.symm;exact h1 q hq,h2⟩
theorem a5i{K:List (Nat×Nat)}{k:Nat}:∀ {l H:List (Nat×aW)},(∃o,getKey k H=some o)->∃o,getKey k (bM K l H)=some o
 |[],H,h=>h
 |p::r,H,⟨o,h⟩=>a5i (l:=r) (by
   rw[eX];split
   .exact⟨_,rfl⟩
   .exact⟨o,h⟩)
theorem b4g{K:List (Nat×Nat)}:∀ {own:List (TypeId×List Loc)} {i:Nat} {c:TypeId×List Loc},(dJ K own)[i]? =some c->∃c',own[i]? =some c'/\c.1=c'.1/\∀x,x∈c.2->x∈c'.2/\∀p∈K,x.yE p.2=false:=by
 induction K with
 |nil=>intro own i c h;exact⟨c,h,rfl,λx hx=>⟨hx,by simp⟩⟩
 |cons p r ih=>intro own i c h;obtain⟨c1,h1,h2,h3⟩:=ih h;obtain⟨c0,g1,g2,g3⟩:=yG h1;refine⟨c0,g1,h2.trans g2,λx hx=>?_⟩;obtain⟨q1,q2⟩:=h3 x hx;have q3:=(g3 x).1 q1;exact⟨q3.1,λy hy=>by rcases List.mem_cons.1 hy with rfl|hy;exact q3.2;exact q2 y hy⟩
theorem b1I{dst:Option Tmp}{own:List (TypeId×List Loc)}{i:Nat}{c:TypeId×List Loc}(h:(eT dst own)[i]? =some c):∃c',own[i]? =some c'/\c.1=c'.1/\∀x,x∈c.2->x∈c'.2/\∀d,dst=some d->x≠ .t d:=by
 cases dst with
 |none=>exact⟨c,h,rfl,λx hx=>⟨hx,by simp⟩⟩
 |some d=>obtain⟨c',h1,h2,h3⟩:=pV h;exact⟨c',h1,h2,λx hx=>⟨((h3 x).1 hx).1,λd' hd=>by cases hd;exact((h3 x).1 hx).2⟩⟩
theorem c6i(K:List (Nat×Nat)):∀own,(dJ K own).length=own.length:=by
 induction K with
 |nil=>intro own;rfl
 |cons p r ih=>intro own;simp[dJ,ih,dropKey]
theorem c2U(dst:Option Tmp)(own:List (TypeId×List Loc)):(eT dst own).length=own.length:=by cases dst<;>simp[eT,cG]
section
variable {P:Program} {G:GT} {st:St} {base:cT} {R:Nat->Nat->Prop} {μ:Nat->Nat} {a:Act} {w:World}
theorem a5j(hr:Rel P G base R μ st a w):∀(cs own dM:List (TypeId×List Loc)) (vs:List Value),c5U P base R μ st a w own vs->uW st own cs=some dM->
  ∃vsT vs1:List Value,vsT.length=cs.length/\(∀(i:Nat) (c:TypeId×List Loc) (v:Value),cs[i]? =some c->vsT[i]? =some v->a3b P base R μ st a w c v)/\vsT.Pairwise a3X/\c5U P base R μ st a w dM vs1/\
   (∀v∈vsT,∀u∈vs1,a3X v u)/\(∀x∈vs1,x∈vs)/\∀x∈vsT,bF x=none\/x∈vs
 |[],own,dM,vs,h,ht=>by simp only[uW,f7N]at ht;subst ht;exact⟨[],vs,rfl,by simp,.nil,h,by simp,λ_ h=>h,by simp⟩
 |c::r,own,dM,vs,h,ht=>by
  unfold uW at ht;split at ht
  .rename_i hn;obtain⟨vsT,vs1,q1,q2,q3,q4,q5,q6,q7⟩:=a5j hr r own dM vs h ht;have hex:∃v,a3b P base R μ st a w c v/\bF v=none:=by
    by_cases hx:∃l∈c.2,∃u,cB a w μ l=some u
    .obtain⟨l,hl,u,hu⟩:=hx;unfold b3R at hn;split at hn
     .rename_i he;rw[he]at hl;cases hl
     .rename_i l' he;rw[he]at hl;simp at hl;subst hl;obtain⟨ao,rfl⟩:=b7Y hr hn hu;have hs:bF (.slice ao 0 0)=none:=by cases ao<;>rfl
      exact⟨.slice ao 0 0,⟨λl2 hl2 u2 hu2=>by rw[he]at hl2;simp at hl2;subst hl2;rw[hu]at hu2;exact(Option.some.inj hu2).symm,.inl ⟨ao,rfl⟩,λk o _=>by rw[hs];simp⟩,hs⟩
     .cases hn
    .exact⟨.slice none 0 0,⟨λl hl u hu=>absurd ⟨l,hl,u,hu⟩ hx,.inl ⟨none,rfl⟩,λk o _=>by simp[bF]⟩,rfl⟩
   obtain⟨v,hv1,hv2⟩:=hex;refine⟨v::vsT,vs1,by simp[q1],λi c' u hc hu=>?_,List.pairwise_cons.2 ⟨λx _ g hg=>(by rw[hv2]at hg;cases hg),q3⟩,q4,λx hx u hu=>?_,q6,λx hx=>?_⟩
   .cases i with
    |zero=>simp at hc hu;subst hc hu;exact hv1
    |succ i=>simp at hc hu;exact q2 i c' u hc hu
   .rcases List.mem_cons.1 hx with rfl|hx
    .exact λg hg=>by rw[hv2]at hg;cases hg
    .exact q5 x hx u hu
   .rcases List.mem_cons.1 hx with rfl|hx
    .exact .inl hv2
    .exact q7 x hx
  .split at ht
   .rename_i e7z htk;obtain⟨v,vs2,p1,p2,p3,p4,p5⟩:=h.take htk;obtain⟨vsT,vs1,q1,q2,q3,q4,q5,q6,q7⟩:=a5j hr r e7z dM vs2 p2 ht;refine⟨v::vsT,vs1,by simp[q1],λi c' u hc hu=>?_,List.pairwise_cons.2 ⟨λx hx=>?_,q3⟩,q4,λx hx u hu=>?_,λx hx=>p3 x (q6 x hx),λx hx=>?_⟩
    .cases i with
     |zero=>simp at hc hu;subst hc hu;exact p1
     |succ i=>simp at hc hu;exact q2 i c' u hc hu
    .rcases q7 x hx with hs|hx'
     .exact λg _ hg=>by rw[hs]at hg;cases hg
     .exact p5 x hx'
    .rcases List.mem_cons.1 hx with rfl|hx
     .exact p5 u (q6 u hu)
     .exact q5 x hx u hu
    .rcases List.mem_cons.1 hx with rfl|hx
     .exact .inr p4
     .rcases q7 x hx with hs|hx'
      .exact .inl hs
      .exact .inr (p3 x hx')
   .cases ht
end
end Go.VM
end
section
namespace Go.VM
open Go Go.RowKit
section
variable {P:Program} {G:GT} {st:St}
theorem pG.mono{b b':cT}{R:Nat->Nat->Prop}{w:World}{e:TypeId}{v:Value}(h:pG P b R w e v)(hb:∀k,b k->b' k):pG P b' R w e v:=by
 rcases h with h|⟨g,n,cap,cur,h0,h1,h2⟩
 .exact .inl h
 .exact .inr ⟨g,n,cap,cur,h0,hb g h1,h2⟩
theorem mA.b1J{f:FuncId}{s0:St}{r:DV}{H1:List (Nat×aW)}{dM:List (TypeId×List Loc)}(yW:CH P G f s0 ⟨[r],H1,dM⟩)(K:List (Nat×Nat)){f7F:List DV}{ls:List (Option Loc)}{dst:Option Tmp}{rest:List (TypeId×List Loc)}(jR:aJ K s0 r H1=true)(jI:WkT f7F (aQ K s0.tmps))(hH:WkH st.H (cH K s0.H))(kJ:uW st st.own (s0.own.map (pK K ls))=some rest)(kn:zD st.tmps.length ls s0.own=true):
  mA P G f f7F ls st dst (bD K dst st rest r H1 dM):=by
 simp only[aJ,f7H,decide_eq_true_eq,f7K]at jR;obtain⟨⟨⟨⟨⟨⟨⟨⟨kf,ks⟩,kp⟩,kt⟩,kh⟩,kl⟩,kr⟩,kd⟩,k1⟩:=jR;intro base R μ a w args hr hl hv a6J;obtain⟨vs,rK⟩:=hr.own;obtain⟨vsT,vsR,t1,t2,t3,t4,t5,t6,t7⟩:=a5j hr _ _ _ vs ⟨rK.len,rK.one,rK.apart⟩ kJ;have inK:∀k o,getKey k s0.H=some o->(K.any λp=>p.1==k)=true/\aN K o=true/\(getKey k H1).isSome=true:=λk o hk=>by
  have:=kh _ (gN hk)
  try simp only[f7H]at this
  exact⟨this.1.1,this.1.2,this.2⟩
 have inst:∀k o,getKey k s0.H=some o->∃o',getKey (rk K k) st.H=some o'/\WkO o' (cP K o):=λk o hk=>by
  have hm:=gN hk;have:∀ {l:List (Nat×aW)},WkH st.H (cH K l)->(k,o)∈l->∃o',getKey (rk K k) st.H=some o'/\WkO o' (cP K o):=by
   intro l
   induction l with
   |nil=>intro _ h;cases h
   |cons p l ih=>
    intro hw hp;obtain⟨h1,h2⟩:=hw;rcases List.mem_cons.1 hp with rfl|hp
    .exact h1
    .exact ih h2 hp
  exact this hH hm
 have big:∀k,(K.any λp=>p.1==k)=true->100000<=k:=λk hk=>by obtain⟨p,h1,h2,_⟩:=a0F hk;rw[<-h2];exact kp p h1
 have d2T:∀k k',(K.any λp=>p.1==k)=true->(K.any λp=>p.1==k')=true->rk K k=rk K k'->k=k':=λk k' h h' he=>by
  obtain⟨p,p1,p2,p3⟩:=a0F h;obtain⟨q,q1,q2,q3⟩:=a0F h';have hpq:p.2=q.2:=by rw[<-p3, <- q3,he]
  have:p=q:=a6k ks p1 q1 hpq;rw[<-p2, <- q2,this]
 have one:∀k,(getKey k H1).isSome=true->∃o,getKey k s0.H=some o:=λk hk=>by
  obtain⟨o,ho⟩:=Option.isSome_iff_exists.1 hk;have:=k1 _ (gN ho)
  try simp only[f7H]at this
  exact Option.isSome_iff_exists.1 this.2
 let jP:cT:=⟨λb=>w.heap.size<=b\/(∃k o,getKey k s0.H=some o/\b=μ (rk K k))\/(∃v∈vsT,bF v=some b),λk=>μ (rk K k)⟩
 have sub:∀b,jP b->base b:=λb hb=>by
  rcases hb with hb|⟨k,o,hk,rfl⟩|⟨v,hv,hs⟩
  .exact hr.base b hb
  .obtain⟨o',uI,_⟩:=inst k o hk;exact(hr.gY _ o' uI).1
  .obtain⟨i,hi⟩:=f7Y hv;have tY:i<(s0.own.map (pK K ls)).length:=by rw[<-t1];exact(f7I.1 hi).1
   exact(t2 i _ v (f7L tY) hi).own.a1v hs
 have a0N:Rel P G jP R (λk=>μ (rk K k)) s0 {tmps:=args,defers:=[]} w:=by
  obtain⟨g1,g2⟩:=yL jI;rw[qQ]at g1 g2;refine⟨rfl,by show args.size=s0.tmps.length;rw[List.length_map]at g1;omega,λi v d hiv hid=>?_,λk o hk=>?_,λk k' o o' hk hk' he=>?_,λc hc k off hl'=>?_,⟨vsT,by simpa using t1,λi c v hc zS=>?_,t3⟩,hr.tQ.up sub,hr.pH,λb hb=>.inl hb,λk hk=>rfl⟩
  .obtain⟨d0,hd0,b4h⟩:=g2 i (bA K d) (by rw[f7R,hid];rfl);have hva:=hv i d0 hd0;have hav:args.getD i undef=v:=by simp only at hiv;simp[f7J,hiv]
   rw[hav]at hva;have d2U:TV R μ w v (bA K d):=by
    rcases b4h with hc|hc|⟨hc1,hc2⟩
    .rw[hc];exact .undef _
    .rw[hc];exact hva
    .rw[hc2];rw[hc1]at hva;obtain⟨ao,rfl⟩:=hva.a7B.jQ;exact .d _ _ (.emp _ _)
   exact d2U.ren (μ:=μ) (λ_ _=>rfl) (kt d (f7M hid))
  .obtain⟨q1,q2,_⟩:=inK k o hk;obtain⟨o',uI,hw⟩:=inst k o hk;obtain⟨p1,p2,p3⟩:=hr.gY _ o' uI;exact⟨.inr (.inl ⟨k,o,hk,rfl⟩),p2,(b3h hw p3).ren (λ_ _=>rfl) q2⟩
  .obtain⟨o1,h1,_⟩:=inst k o hk;obtain⟨o2,h2,_⟩:=inst k' o' hk';exact d2T k k' (inK k o hk).1 (inK k' o' hk').1 (hr.inj _ _ o1 o2 h1 h2 he)
  .have:=f7K.1 (f7K.1 kl c hc) _ hl';exact Option.isSome_iff_exists.1 this
  .have ho:=t2 i (pK K ls c) v (by rw[f7R,hc];rfl) zS;refine⟨λl hl' u hu=>?_,?_,λk o hk=>?_⟩
   .have hn:=f7K.1 (f7K.1 kn c (f7M hc)) l hl';cases l with
    |t j=>
     simp only at hn;split at hn
     .rename_i t hj;simp only[decide_eq_true_eq]at hn;have ht:t<a.tmps.size:=by rw[hr.size];exact hn
      have hlv:cB a w μ (.t t)=some a.tmps[t]:=by simp[cB,ht]
      have h1:=a6J j _ hj _ hlv;have h2:=ho.dI (.t t) (List.mem_filterMap.2 ⟨.t j,hl',by simp[b4f,hj]⟩) _ hlv;simp only[cB]at hu;have h3:args.getD j undef=u:=by simp[f7J,hu]
      rw[<-h3, <- h1,h2]
     .cases hn
    |c k off=>exact ho.dI (.c (rk K k) off) (List.mem_filterMap.2 ⟨.c k off,hl',rfl⟩) u hu
   .rcases ho.own with h|⟨g,n,cap,cur,h0,h1,h2,h3,h4⟩
    .exact .inl h
    .by_cases wL:cap=0
     .subst wL;have:n=0:=by omega
      subst this;exact .inl ⟨_,h0⟩
     .exact .inr ⟨g,n,cap,cur,h0,.inr (.inr ⟨v,f7M zS,by rw[h0];simp[bF,wL]⟩),h2,h3,h4⟩
   .obtain⟨o',uI,_⟩:=inst k o hk;exact ho.keys _ o' uI
 refine(yW jP R (λk=>μ (rk K k)) args w a0N).mono λe w' ⟨v,R',ν,he,b4i,hs⟩=>⟨v,R',μ,he,?_,⟨hs.below.mono sub,hs.mono,λb o h1 h2=>sub b (hs.new b o h1 h2),hs.cells⟩⟩;have hsb:Step base R w R' w':=⟨hs.below.mono sub,hs.mono,λb o h1 h2=>sub b (hs.new b o h1 h2),hs.cells⟩;have hν:∀k,(K.any λp=>p.1==k)=true->ν k=μ (rk K k):=λk hk=>b4i.pass k (big k hk);have k1':∀p∈H1,aN K p.2=true/\(∃o,getKey p.1 s0.H=some o)/\getKey p.1 H1=some p.2:=λp hp=>by
  have:=k1 p hp
  try simp only[f7H]at this
  exact⟨this.1,Option.isSome_iff_exists.1 this.2,getKey_of_mem kd hp⟩
 have kept:∀b, ¬jP b->w'.heap[b]? =w.heap[b]? /\∀off,R' b off->R b off:=λb hb=>⟨hs.below.block b hb,λoff h=>by
  by_cases hx:R b off
  .exact hx
  .exact absurd (hs.new b off h hx) hb⟩
 have c6j:∀k o,(∀p∈H1,k≠rk K p.1)->getKey k st.H=some o-> ¬jP (μ k):=λk o hk ho hb=>by
  rcases hb with hb|⟨k0,o0,h0,he'⟩|⟨u,hu,hsp⟩
  .have:=(hr.gY k o ho).2.2.lt;omega
  .obtain⟨o',uI,_⟩:=inst k0 o0 h0;have:=hr.inj k (rk K k0) o o' ho uI he';obtain⟨o1,ho1⟩:=Option.isSome_iff_exists.1 (inK k0 o0 h0).2.2;exact hk (k0,o1) (gN ho1) this
  .obtain⟨i,hi⟩:=f7Y hu;have tY:i<(s0.own.map (pK K ls)).length:=by rw[<-t1];exact(f7I.1 hi).1
   exact(t2 i _ u (f7L tY) hi).keys k o ho hsp
 have known:∀k o,getKey k (bM K H1 st.H)=some o->∃o',getKey k st.H=some o':=λk o hk=>by
  rcases xV hk with⟨p,hp,rfl,_⟩|⟨_,h⟩
  .obtain⟨_,⟨o0,h0⟩,_⟩:=k1' p hp;obtain⟨o',uI,_⟩:=inst _ _ h0;exact⟨o',uI⟩
  .exact⟨o,h⟩
 obtain⟨vs1,hv1⟩:=b4i.own;have hd0:∀u,(#[v]:Array Value)[0]? =some u->u=v:=λu hu=>by simp at hu;exact hu.symm
 refine⟨by cases dst<;>exact hr.defers,?_,λi u d hu hd=>?_,λk o hk=>?_,λk k' o o' hk hk' he'=>?_,λc hc k off hl'=>?_,⟨vs1++vsR,?_,λi c u hc hu=>?_,?_⟩,hr.tQ.bI hsb,b4i.pH,λb hb=>hr.base b (Nat.le_trans hs.below.size hb),hr.pass⟩
 .cases dst with
  |none=>exact hr.size
  |some t=>simp[bD,gV,Act.put,hr.size]
 ·
  have hZ:TV R' μ w' v (bA K r):=(b4i.tmps 0 v r rfl rfl).b7O hν kr;cases dst with
  |none=>exact(hr.tmps i u d hu hd).bI hsb
  |some t=>
   simp only[bD,gV,Act.put]at hu hd;by_cases hti:t=i
   .subst hti;have h1:t<st.tmps.length:=by
     by_cases aE:t<st.tmps.length
     .exact aE
     .have sG:(st.tmps.set t (bA K r))[t]? =none:=List.getElem?_eq_none (by rw[List.length_set];exact Nat.le_of_not_lt aE);rw[sG]at hd;cases hd
    have h2:t<a.tmps.size:=by rw[hr.size];exact h1
    simp[h1]at hd;simp[h2]at hu;subst hu hd;exact hZ
   .rw[Array.getElem?_setIfInBounds_ne hti]at hu;rw[List.getElem?_set_ne hti]at hd;exact(hr.tmps i u d hu hd).bI hsb
 ·
  simp only[bD]at hk;rcases xV hk with⟨p,hp,rfl,rfl⟩|⟨hk1,hk2⟩
  .obtain⟨q1,⟨o0,h0⟩,q3⟩:=k1' p hp;obtain⟨p1,p2,p3⟩:=b4i.gY p.1 p.2 q3;have hk0:=(inK _ _ h0).1;rw[hν _ hk0]at p1 p2 p3;exact⟨sub _ p1,p2,p3.b7O hν q1⟩
  .obtain⟨p1,p2,p3⟩:=hr.gY k o hk2;obtain⟨e1,e2⟩:=kept _ (c6j k o hk1 hk2);exact⟨p1,λoff h=>p2 off (e2 off h),p3.bI hsb e1⟩
 .obtain⟨o1,h1⟩:=known k o hk;obtain⟨o2,h2⟩:=known k' o' hk';exact hr.inj k k' o1 o2 h1 h2 he'
 ·
  simp only[bD,List.mem_append]at hc;rcases hc with hc|hc
  .obtain⟨c0,wL,rfl⟩:=List.mem_map.1 hc;obtain⟨l0,hl0,he0⟩:=List.mem_filterMap.1 hl';cases l0 with
   |t j=>
    simp only[eZ]at he0;split at he0
    .cases dst<;>simp at he0
    .cases he0
   |c k0 vR=>simp only[eZ,f7N]at he0;cases he0;obtain⟨o,ho⟩:=b4i.dI c0 wL k0 off hl0;have hm:=gN ho;obtain⟨_,⟨o0,h0⟩,_⟩:=k1' _ hm;obtain⟨o',uI,_⟩:=inst _ _ h0;exact a5i ⟨o',uI⟩
  .obtain⟨i,hi⟩:=f7Y hc;obtain⟨c1,g1,_,g3⟩:=b1I hi;obtain⟨c2,f1,_,f3⟩:=b4g g1;have hx:=(f3 _ (g3 _ hl').1).1;have f1d:=f7M f1;obtain⟨o,ho⟩:=hr.dI c2 (a6l kJ c2 f1d) k off hx;exact a5i ⟨o,ho⟩
 .have:=hv1.len;have:=t4.len;simp only[bD,List.length_append,List.length_map,c2U,c6i];simp at *;omega
 ·
  simp only[bD]at hc;have h1l:vs1.length=dM.length:=hv1.len;by_cases hi:i<dM.length
  .rw[f7S (by simpa using hi),f7R]at hc;rw[f7S (by omega)]at hu;obtain⟨c0,wL,rfl⟩:=f7G.1 hc;have ho:=hv1.one i c0 u wL hu;refine⟨λl hl' u' hu'=>?_,ho.own.mono sub,λk o hk=>?_⟩
   .obtain⟨l0,hl0,he0⟩:=List.mem_filterMap.1 hl';cases l0 with
    |t j=>
     simp only[eZ]at he0;split at he0
     .rename_i hj;subst hj;cases dst with
      |none=>simp at he0
      |some t=>
       simp at he0;subst he0;simp only[cB,Act.put]at hu';by_cases aE:t<a.tmps.size
       .simp[aE]at hu';subst hu';exact ho.dI (.t 0) hl0 _ (by simp[cB])
       .simp[aE]at hu'
     .cases he0
    |c k0 vR=>simp only[eZ,f7N]at he0;subst he0;obtain⟨o,hoo⟩:=b4i.dI c0 (f7M wL) k0 vR hl0;obtain⟨_,⟨o0,h0⟩,_⟩:=k1' _ (gN hoo);have hk0:=(inK _ _ h0).1;refine ho.dI (.c k0 vR) hl0 u' ?_;simp only[cB]at hu' |-;rw[hν _ hk0];cases dst<;>exact hu'
   .simp only[bD]at hk;rcases xV hk with⟨p,hp,rfl,_⟩|⟨hk1,hk2⟩
    .obtain⟨_,⟨o0,h0⟩,q3⟩:=k1' p hp;have:=ho.keys p.1 p.2 q3;rw[hν _ (inK _ _ h0).1]at this;exact this
    .intro hsp;exact c6j k o hk1 hk2 (ho.own.a1v hsp)
  .rw[f7P (by simp;omega)]at hc;rw[f7P (by omega)]at hu;simp only[List.length_map]at hc;rw[h1l]at hu;obtain⟨c1,g1,g2,g3⟩:=b1I hc;obtain⟨c2,f1,f2,f3⟩:=b4g g1;have ho:=t4.one _ c2 u f1 hu;have hum:=f7M hu;have out:∀g,bF u=some g-> ¬jP g:=λg hg hb=>by
    rcases hb with hb|⟨k0,o0,h0,he'⟩|⟨x,hx,hsp⟩
    .have:=ho.own.lt hg;omega
    .obtain⟨o',uI,_⟩:=inst k0 o0 h0;exact ho.keys _ o' uI (by rw[hg,he'])
    .exact t5 x hx u hum g hsp hg
   refine⟨λl hl' u' hu'=>?_,?_,λk o hk=>?_⟩
   .obtain⟨q1,q2⟩:=g3 l hl';obtain⟨q3,q4⟩:=f3 l q1;refine ho.dI l q3 u' ?_;rw[a6R q2]at hu';cases l with
    |t j=>exact hu'
    |c k off=>
     obtain⟨o,hoo⟩:=hr.dI c2 (a6l kJ c2 (f7M f1)) k off q3;have sG:∀p∈H1,k≠rk K p.1:=λp hp e=>by obtain⟨_,⟨o0,h0⟩,_⟩:=k1' p hp;obtain⟨q,hq1,hq2,hq3⟩:=a0F (inK _ _ h0).1;have:=q4 q hq1;simp[Loc.yE,e,hq3]at this
     rw[<-hu'];exact(World.cell?_of_block (kept _ (c6j k o sG hoo)).1).symm
   .have:pG P base R' w' c2.1 u:=ho.own.c7D (λg hg=>(kept g (out g hg)).1) (λg off hg h=>(kept g (out g hg)).2 off h);rw[g2,f2];exact this
   .obtain⟨o',uI⟩:=known k o hk;exact ho.keys k o' uI
 .refine List.pairwise_append.2 ⟨hv1.apart,t4.apart,λx hx y hy g hg hg'=>?_⟩;obtain⟨i,hi⟩:=f7Y hx;have tY:i<dM.length:=by rw[<-hv1.len];exact(f7I.1 hi).1
  have hb:=(hv1.one i _ x (f7L tY) hi).own.a1v hg;obtain⟨j,hj⟩:=f7Y hy;have hjl:j<rest.length:=by rw[<-t4.len];exact(f7I.1 hj).1
  have ho:=t4.one j _ y (f7L hjl) hj;rcases hb with hb|⟨k0,o0,h0,he'⟩|⟨z,hz,hsp⟩
  .have:=ho.own.lt hg';omega
  .obtain⟨o',uI,_⟩:=inst k0 o0 h0;exact ho.keys _ o' uI (by rw[hg',he'])
  .exact t5 z hz y hy g hsp hg'
where
 a6k {α β:Type} {f:α->β}:∀ {l:List α},(l.map f).Nodup->∀ {x y:α},x∈l->y∈l->f x=f y->x=y
  |z::l,hn,x,y,hx,hy,he=>by
   simp only[List.map_cons,List.nodup_cons,List.mem_map,not_exists,not_and]at hn;rcases List.mem_cons.1 hx with h1|h1
   .rcases List.mem_cons.1 hy with h2|h2
    .rw[h1,h2]
    .exact absurd (by rw[<-he,h1]) (hn.1 y h2)
   .rcases List.mem_cons.1 hy with h2|h2
    .exact absurd (by rw[he,h2]) (hn.1 x h1)
    .exact a6k hn.2 h1 h2 he
 c2V {c:TypeId×List Loc} {own dM:List (TypeId×List Loc)} (h:zW c own=some dM):∀x∈dM,x∈own:=λx hx=>by obtain⟨pre,c0,post,rfl,rfl,_,_⟩:=a3j h;simp at hx|-;rcases hx with hx|hx<;>simp[hx]
 a6l {s:St}:∀ {cs own dM:List (TypeId×List Loc)},uW s own cs=some dM->∀x∈dM,x∈own
  |[],own,dM,h,x,hx=>by simp only[uW,f7N]at h;subst h;exact hx
  |c::r,own,dM,h,x,hx=>by
   unfold uW at h;split at h
   .exact a6l h x hx
   .split at h
    .rename_i e7z ht;exact c2V ht x (a6l h x hx)
    .cases h
theorem eY.mk{q ro:Bool}{ls:List (Option Loc)}{f:FuncId}{s0:St}{r:DV}{H1:List (Nat×aW)}{dM:List (TypeId×List Loc)}{f7F:List DV}{dst:Option Tmp}{all:Array Oper}{ops:List Oper}{k:List KI}{Q:Exit->St->Prop}{rest:List (TypeId×List Loc)}(he:Enters P f)(yW:CH P G f s0 ⟨[r],H1,dM⟩)(K:List (Nat×Nat))(jR:aJ K s0 r H1=true)(jI:WkT f7F (aQ K s0.tmps))(hH:WkH st.H (cH K s0.H))(kJ:uW st st.own (s0.own.map (pK K ls))=some rest)(b6S:zD st.tmps.length ls s0.own=true)(h:VK P G (.ops q all ops::k) .normal (bD K dst st rest r H1 dM) Q)(hro:ro=false:=by kernel_rfl):eY P G q ro f f7F ls dst all ops k st Q:=eY.mk' ⟨_,⟨he,mA.b1J yW K jR jI hH kJ b6S⟩,h⟩ hro
theorem aD.own{q ro qn:Bool}{ls:List (Option Loc)}{f:FuncId}{s0:St}{r:DV}{dM:List (TypeId×List Loc)}{ds:List D}{dst:Option Tmp}{all:Array Oper}{ops:List Oper}{k:List KI}{Q:Exit->St->Prop}{rest:List (TypeId×List Loc)}(he:Enters P f)(yW:CH P G f s0 ⟨[r],[],dM⟩)(jR:aJ [] s0 r []=true)(jI:WkT (ds.map .d) (aQ [] s0.tmps))(hH:WkH st.H (cH [] s0.H))(kJ:uW st st.own (s0.own.map (pK [] ls))=some rest)(b6S:zD st.tmps.length ls s0.own=true)(h:VK P G (.ops q all ops::k) .normal (bD [] dst st rest r [] dM) Q)(hro:ro=false:=by kernel_rfl):aD P G q ro qn f ds ls dst all ops k st Q:=aD.dV ⟨_,⟨he,mA.b1J yW [] jR jI hH kJ b6S⟩,h⟩ hro
theorem b1K{k:Nat}{o:aW}:∀ {H:List (Nat×aW)},getKey k H=some o->a0q k o H=H
 |[],h=>by simp[getKey]at h
 |(k',o')::r,h=>by
  unfold getKey at h;unfold a0q;split at h
  .rename_i he;cases h;subst he;simp
  .rename_i he;rw[if_neg he,b1K h]
theorem c2W{k:Nat}{o:aW}{H:List (Nat×aW)}(h:getKey k H=some o):bP k o H=H:=by unfold bP;rw[h];exact b1K h
theorem a9g{K:List (Nat×Nat)}:∀ {l H:List (Nat×aW)},(∀p∈l,getKey (rk K p.1) H=some (cP K p.2))->bM K l H=H
 |[],H,_=>rfl
 |p::r,H,h=>by unfold bM;rw[c2W (h p (.head _))];exact a9g λq hq=>h q (.tail _ hq)
theorem b9R{k:Nat}{ks:List Nat}{own:List (TypeId×List Loc)}(hk:k∈ks)(h:kW ks own=true):dropKey k own=own:=by
 unfold dropKey
 conv=>rhs;rw[<-List.map_id own]
 refine List.map_congr_left λc hc=>?_;have h1:=f7K.1 h c hc;have:c.2.filter (λx=> !x.yE k)=c.2:=List.filter_eq_self.2 λl hl=>by
  have h2:=f7K.1 h1 l hl;cases l with
  |t i=>rfl
  |c k' off=>simp only[d1Z,Bool.not_eq_true',List.contains_eq_mem,decide_eq_false_iff_not]at h2;simp only[Loc.yE,Bool.not_eq_true',beq_eq_false_iff_ne,ne_eq];exact λe=>h2 (e▸hk)
 rw[this];rfl
theorem b1L:∀ {K:List (Nat×Nat)} {ks:List Nat} {own:List (TypeId×List Loc)},(∀p∈K,p.2∈ks)->kW ks own=true->dJ K own=own
 |[],_,_,_,_=>rfl
 |p::r,ks,own,h,hn=>by unfold dJ;rw[b9R (h p (.head _)) hn];exact b1L (λq hq=>h q (.tail _ hq)) hn
def a7a(H:List (Nat×aW)):List (Nat×aW)->Prop
 |[]=>True
 |p::r=>getKey p.1 H=some p.2/\a7a H r
theorem c2X:∀l:List DV,WkT l l
 |[]=>trivial
 |d::r=>⟨.inr (.inl rfl),c2X r⟩
theorem b8h{H:List (Nat×aW)}:∀ {l:List (Nat×aW)},a7a H l->WkH H l
 |[],_=>trivial
 |p::r,h=>⟨⟨p.2,h.1,by cases p.2<;>simp[WkO,c2X]⟩,b8h h.2⟩
theorem b4j{H:List (Nat×aW)}{K:List (Nat×Nat)}:∀ {l:List (Nat×aW)},a7a H (cH K l)->∀p∈l,getKey (rk K p.1) H=some (cP K p.2)
 |q::r,h,p,hp=>by
  rcases List.mem_cons.1 hp with rfl|hp
  .exact h.1
  .exact b4j h.2 p hp
theorem b1M{H H':List (Nat×aW)}{K:List (Nat×Nat)}{ks:List Nat}(ha:∀k∈ks,getKey k H'=getKey k H):∀ {l:List (Nat×aW)},(∀p∈l,rk K p.1∈ks)->a7a H (cH K l)->a7a H' (cH K l)
 |[],_,_=>trivial
 |p::r,hi,h=>⟨(ha _ (hi p (.head _))).trans h.1,b1M ha (λq hq=>hi q (.tail _ hq)) h.2⟩
theorem RO.b1J{f:FuncId}{tmps:List DV}{H0:List (Nat×aW)}{r:DV}{f7F:List DV}{H:List (Nat×aW)}(yW:CH P G f ⟨tmps,H0,[]⟩ ⟨[r],H0,[]⟩)(K:List (Nat×Nat))(jR:aJ K ⟨tmps,H0,[]⟩ r H0=true)(jI:WkT f7F (aQ K tmps))(hH:a7a H (cH K H0)):RO P G f f7F (K.map (·.2)) H (bA K r):=by
 intro st mD sG dst ls;have vI:∀p∈H0,rk K p.1∈K.map (·.2):=λp hp=>by simp only[aJ,f7H,f7K]at jR;obtain⟨⟨⟨⟨⟨_,hh⟩,_⟩,_⟩,_⟩,_⟩:=jR;obtain⟨q,q1,q2,q3⟩:=a0F (hh p hp).1.1;rw[q3];exact List.mem_map_of_mem q1
 have hH:a7a st.H (cH K H0):=b1M mD vI hH;have h:=mA.b1J (st:=st) (dst:=dst) (ls:=ls) yW K jR jI (b8h hH) (rest:=st.own) rfl rfl;have he:bD K dst st st.own r H0 []=finish st dst (bA K r) .no:=by unfold bD;rw[a9g (b4j hH),b1L (ks:=K.map (·.2)) (λp hp=>List.mem_map_of_mem hp) sG];cases dst<;>rfl
 rw[<-he];exact h
theorem eY.ro{q ro:Bool}{ls:List (Option Loc)}{f:FuncId}{tmps:List DV}{H0:List (Nat×aW)}{r:DV}{f7F:List DV}{dst:Option Tmp}{all:Array Oper}{ops:List Oper}{k:List KI}{Q:Exit->St->Prop}(he:Enters P f)(yW:CH P G f ⟨tmps,H0,[]⟩ ⟨[r],H0,[]⟩)(K:List (Nat×Nat))(jR:aJ K ⟨tmps,H0,[]⟩ r H0=true)(jI:WkT f7F (aQ K tmps))(hH:a7a st.H (cH K H0))(sG:kW (K.map (·.2)) st.own=true)(hks:((K.map (·.2)).all λk=>(getKey k st.H).isSome)=true)(h:VK P G (.ops q all ops::k) .normal (finish st dst (bA K r) .no) Q)(hkl:oG (bA K r)=true:=by rfl):eY P G q ro f f7F ls dst all ops k st Q:=eY.ro' he (RO.b1J yW K jR jI hH) sG hks hkl h
end
attribute [simp] b4f pK zD a7a kW d1Z bD bA aQ rk cP cH eZ jA dJ bM gV eT uW aJ aT aM aN b1H b0J c7X a1H d2S
end Go.VM
end
end
section
section
namespace Go.Proofs.YtjpodcmhcenjjaaGreatDoor
open Go Go.VM
variable {G:GT}
def inB(n:Int):Bool:=decide (-1000000000000<=n)&&decide (n<=1000000000000)
theorem c2Y:VM.Enters prog 228:=.mk func228 rfl
theorem b8i:VM.Enters prog 258:=.mk func258 rfl
theorem a2f:VM.Enters prog 206:=.mk func206 rfl
theorem c7Z(n:Int):CS prog G 228 [.int .i64 n] (.d (.bool (inB n))) none:=by refine CS.aR func228 rfl ntmps228 rfl ?_;by_cases h: -1000000000000<=n<;>simp[inB,h]
theorem c2Z(n:Int):CS prog G 258 [.int .i64 n] (.d (.bool (inB n))) none:=by refine CS.aR func258 rfl ntmps258 rfl ?_;by_cases h: -1000000000000<=n<;>simp[inB,h]
def chk(n:Int)(ok:Bool):Int×Bool:=if ok&&inB n then(n,true) else(0,false)
theorem a3n(n:Int)(ok:Bool):CS prog G 206 [.int .i64 n,.bool ok] (.bY [.int .i64 (chk n ok).1,.bool (chk n ok).2]) none:=by
 refine CS.aR func206 rfl ntmps206 rfl ?_;cases ok
 .simp[chk]
 .simp;refine aD.mk c2Y (c7Z _) ?_;cases h:inB n<;>simp[chk,h]
end Go.Proofs.YtjpodcmhcenjjaaGreatDoor
end
section
namespace Go.Proofs.YtjpodcmhcenjjaaGreatDoor
open Go Go.VM
def vT(c:UInt8):Bool:=decide (48<=c.toNat)&&decide (c.toNat<=57)
def b6T(a:Nat)(l:List UInt8):Nat:=l.foldl (λa c=>10*a+(c.toNat-48)) a
def gD(l:List UInt8):Nat:=b6T 0 l
theorem b8j(l:List UInt8)(c:UInt8):gD (l++[c])=10*gD l+(c.toNat-48):=by simp[gD,b6T]
theorem a2E:gD []=0:=rfl
theorem wZ{l:List UInt8}{i:Nat}(h:i<l.length):gD (l.take (i+1))=10*gD (l.take i)+(l[i].toNat-48):=by rw[f7W h,b8j]
theorem tT{c:UInt8}:vT c=true↔48<=c.toNat/\c.toNat<=57:=by simp[vT]
def b0K(s:List UInt8):Bool:=decide (s.head? =some 45)
def pX(s:List UInt8):List UInt8:=if b0K s then s.tail else s
def sgn(b:Bool)(v:Nat):Int:=if b then -(v:Int) else v
def qS(s:List UInt8):Bool:=decide (1<=(pX s).length)&&decide ((pX s).length<=13)&& !(decide ((pX s).head? =some 48)&&(b0K s||decide (1<(pX s).length)))
def qG(s:List UInt8):Int×Bool:=if qS s&&(pX s).all vT then chk (sgn (b0K s) (gD (pX s))) true else(0,false)
theorem a0m{s:List UInt8}(h:(pX s).all vT=false):qG s=(0,false):=by simp[qG,h]
end Go.Proofs.YtjpodcmhcenjjaaGreatDoor
end
section
namespace Go.Proofs
open Go.Shelf
def b1N:Go.Shelf.Ren:=⟨λ|156=>265|165=>274|166=>275|169=>276|240=>283|241=>284|276=>288|277=>289|n=>n,λ|31=>39|9=>9|3=>3|4=>4|0=>0|20=>20|72=>270|76=>274|70=>267|37=>268|75=>273|127=>277|164=>278|5=>5|80=>132|n=>n,λ|n=>n⟩
theorem c8a:Go.Proofs.Lays.n156 prog b1N:={
 mixed:=by kernel_rfl
 f156:=func265.trans (congrArg some (by kernel_rfl))
 f165:=func274.trans (congrArg some (by kernel_rfl))
 f166:=func275.trans (congrArg some (by kernel_rfl))
 f169:=func276.trans (congrArg some (by kernel_rfl))
 f240:=func283.trans (congrArg some (by kernel_rfl))
 f241:=func284.trans (congrArg some (by kernel_rfl))
 f276:=func288.trans (congrArg some (by kernel_rfl))
 f277:=func289.trans (congrArg some (by kernel_rfl))
 t0:=underlying0
 a0:=isAgg0
 z0:=sizeOf0
 v0:=zeroValue0
 t3:=underlying3
 a3:=isAgg3
 z3:=sizeOf3
 v3:=zeroValue3
 t4:=underlying4
 a4:=isAgg4
 z4:=sizeOf4
 v4:=zeroValue4
 t9:=underlying9
 a9:=isAgg9
 z9:=sizeOf9
 v9:=zeroValue9
 t20:=underlying20
 a20:=isAgg20
 z20:=sizeOf20
 v20:=zeroValue20
 t31:=underlying39
 a31:=isAgg39
 z31:=sizeOf39
 v31:=zeroValue39
 t37:=underlying268
 a37:=isAgg268
 z37:=sizeOf268
 v37:=zeroValue268
 t70:=underlying267
 a70:=isAgg267
 z70:=sizeOf267
 v70:=zeroValue267
 t72:=underlying270
 a72:=isAgg270
 z72:=sizeOf270
 v72:=zeroValue270
 t75:=underlying273
 a75:=isAgg273
 z75:=sizeOf273
 v75:=zeroValue273
 t76:=underlying274
 a76:=isAgg274
 z76:=sizeOf274
 v76:=zeroValue274
 t127:=underlying277
 a127:=isAgg277
 z127:=sizeOf277
 v127:=zeroValue277
 t164:=underlying278
 a164:=isAgg278
 z164:=sizeOf278
 v164:=zeroValue278}
theorem a1J:Builder.Extra prog b1N:={
 sizeBuilder:=by kernel_rfl
 liesBuilder:=by kernel_rfl
 t5:=underlying5
 a5:=isAgg5
 z5:=sizeOf5
 v5:=zeroValue5
 infoByte:=by kernel_rfl
 cellsByte:=by kernel_rfl
 sizeByte:=by kernel_rfl
 neB5:=by decide}
open Go.RowKit in
theorem strings_Join_none(a:Option Addr)(c:Nat)(sep:ByteArray)(w:World):
  Calls prog 265 #[.slice a 0 c,.string sep] w λe w'=>e=.returned (.string ⟨#[]⟩)/\w'=w:=Any.strings_Join_none c8a a1J a c sep w
open Go.RowKit in
theorem strings_Join(bk o c:Nat)(xs:List ByteArray)(sep:ByteArray)(w:World)(e4h:∀(j:Nat) x,xs[j]? =some x->w.cell? ⟨bk,o+j,none⟩=some (.string x))(hbk:bk<w.heap.size)(hN:xs.length<=140737488355328)(b6F:xs.length<=c)(hlen:(Lib.join (xs.map (·.data.toList)) sep.data.toList).length<=140737488355328):
  Calls prog 265 #[.slice (some ⟨bk,o,none⟩) xs.length c,.string sep] w λe w'=>e=.returned (.string ⟨(Lib.join (xs.map (·.data.toList)) sep.data.toList).toArray⟩)/\Below w.heap.size w w':=Any.strings_Join c8a a1J bk o c xs sep w e4h hbk hN b6F hlen
def c3a:Go.Shelf.Ren:=⟨λ|161=>188|231=>202|227=>203|233=>204|235=>205|228=>225|197=>226|151=>227|260=>245|152=>246|137=>260|119=>261|224=>262|225=>263|217=>270|266=>281|n=>n,λ|9=>9|4=>4|3=>3|5=>5|117=>212|116=>211|0=>0|124=>215|105=>229|21=>21|119=>257|46=>258|139=>261|138=>260|n=>n,λ|3=>2|4=>3|n=>n⟩
theorem d8R:Go.Proofs.Lays.n161 prog c3a:={
 mixed:=by kernel_rfl
 f119:=func261.trans (congrArg some (by kernel_rfl))
 f137:=func260.trans (congrArg some (by kernel_rfl))
 f151:=func227.trans (congrArg some (by kernel_rfl))
 f152:=func246.trans (congrArg some (by kernel_rfl))
 f161:=func188.trans (congrArg some (by kernel_rfl))
 f197:=func226.trans (congrArg some (by kernel_rfl))
 f217:=func270.trans (congrArg some (by kernel_rfl))
 f224:=func262.trans (congrArg some (by kernel_rfl))
 f225:=func263.trans (congrArg some (by kernel_rfl))
 f227:=func203.trans (congrArg some (by kernel_rfl))
 f228:=func225.trans (congrArg some (by kernel_rfl))
 f231:=func202.trans (congrArg some (by kernel_rfl))
 f233:=func204.trans (congrArg some (by kernel_rfl))
 f235:=func205.trans (congrArg some (by kernel_rfl))
 f260:=func245.trans (congrArg some (by kernel_rfl))
 f266:=func281.trans (congrArg some (by kernel_rfl))
 t0:=underlying0
 a0:=isAgg0
 z0:=sizeOf0
 v0:=zeroValue0
 t3:=underlying3
 a3:=isAgg3
 z3:=sizeOf3
 v3:=zeroValue3
 t4:=underlying4
 a4:=isAgg4
 z4:=sizeOf4
 v4:=zeroValue4
 t5:=underlying5
 a5:=isAgg5
 z5:=sizeOf5
 v5:=zeroValue5
 t9:=underlying9
 a9:=isAgg9
 z9:=sizeOf9
 v9:=zeroValue9
 t21:=underlying21
 a21:=isAgg21
 z21:=sizeOf21
 v21:=zeroValue21
 t46:=underlying258
 a46:=isAgg258
 z46:=sizeOf258
 v46:=zeroValue258
 t105:=underlying229
 a105:=isAgg229
 z105:=sizeOf229
 v105:=zeroValue229
 t116:=underlying211
 a116:=isAgg211
 z116:=sizeOf211
 t117:=underlying212
 a117:=isAgg212
 z117:=sizeOf212
 v117:=zeroValue212
 t119:=underlying257
 a119:=isAgg257
 z119:=sizeOf257
 t124:=underlying215
 a124:=isAgg215
 z124:=sizeOf215
 v124:=zeroValue215
 t138:=underlying260
 a138:=isAgg260
 z138:=sizeOf260
 v138:=zeroValue260
 t139:=underlying261
 a139:=isAgg261
 z139:=sizeOf261
 v139:=zeroValue261
 g3:=by kernel_rfl
 g4:=by kernel_rfl}
open Go.RowKit in
theorem strings_TrimLeft_one(s:ByteArray)(c:UInt8)(hc:c.toNat<128)(w:World):
  Calls prog 188 #[.string s,.string ⟨#[c]⟩] w λe w'=>e=.returned (.string ⟨(Lib.trimLeftB s.data.toList c).toArray⟩)/\w'=w:=Any.strings_TrimLeft_one d8R s c hc w
def e1E:Go.Shelf.Ren:=⟨λ|206=>190|n=>n,λ|9=>9|4=>4|3=>3|n=>n,λ|n=>n⟩
def c6k:Go.Shelf.Ren:=⟨λ|99=>165|206=>190|n=>n,λ|9=>9|4=>4|3=>3|n=>n,λ|n=>n⟩
theorem e4i:Go.Proofs.Lays.n99 prog c6k:={
 mixed:=by kernel_rfl
 f99:=func165.trans (congrArg some (by kernel_rfl))
 f206:=func190.trans (congrArg some (by kernel_rfl))
 t3:=underlying3
 a3:=isAgg3
 z3:=sizeOf3
 v3:=zeroValue3
 t4:=underlying4
 a4:=isAgg4
 z4:=sizeOf4
 v4:=zeroValue4
 t9:=underlying9
 a9:=isAgg9
 z9:=sizeOf9
 v9:=zeroValue9}
open Go.RowKit Go.Lib in
theorem strings_HasPrefix(s p:ByteArray)(w:World):
  Calls prog 165 #[.string s,.string p] w λe w'=>e=.returned (.bool (Lib.hasPrefix s.data.toList p.data.toList))/\w'=w:=Any.strings_HasPrefix e4i s p w
end Go.Proofs
end
section
namespace Go.Proofs.YtjpodcmhcenjjaaGreatDoor
open Go Go.VM
variable {G:GT}
theorem c3b:VM.Enters prog 189:=.mk func189 rfl
theorem c8b{c:UInt8}(h:vT c=true):IntKind.i64.wrap (IntKind.u8.wrap ((c.toNat:Int)-48))=((c.toNat-48:Nat):Int):=by
 have:=tT.1 h;have e:IntKind.u8.wrap ((c.toNat:Int)-48)=((c.toNat-48:Nat):Int):=by unfold IntKind.wrap;simp[IntKind.bits,IntKind.signed];omega
 rw[e];exact wrap64 (by omega)
theorem a3o:∀(n:Nat) (l:List UInt8),l.length=n->(∀c∈l,vT c=true)->gD l<10 ^ n:=by
 intro n
 induction n with
 |zero=>intro l hl _;rw[List.length_eq_zero_iff.1 hl];simp[a2E]
 |succ n ih=>
  intro l hl h;have eF:l≠[]:=λe=>by rw[e]at hl;simp at hl
  have hs:=List.dropLast_concat_getLast eF;have hc:=tT.1 (h _ (List.getLast_mem eF));have:=ih l.dropLast (by simp;omega) λc hc=>h c (List.dropLast_subset _ hc);rw[<-hs,b8j,Nat.pow_succ];omega
theorem d2V{s:List UInt8}(h:0<s.length):b0K s=decide (s[0].toNat=45):=by
 cases s with
 |nil=>simp at h
 |cons c r=>simp only[b0K,List.head?_cons,f7N,List.getElem_cons_zero];have:c=45↔c.toNat=45:=⟨λe=>by rw[e];rfl,λe=>UInt8.toNat.inj (by simpa using e)⟩;simp[this]
theorem c8c{s:List UInt8}(h:0<s.length):(s.head? =some 48)↔s[0].toNat=48:=by
 cases s with
 |nil=>simp at h
 |cons c r=>simp only[List.head?_cons,f7N,List.getElem_cons_zero];exact⟨λe=>by rw[e];rfl,λe=>UInt8.toNat.inj (by simpa using e)⟩
theorem c6l(s:List UInt8):CS prog G 189 [.str s] (.bY [.int .i64 (qG s).1,.bool (qG s).2]) none:=by
 refine CS.aR func189 rfl ntmps189 rfl ?_;by_cases h0:0<s.length;rotate_left
 .have:s=[]:=List.length_eq_zero_iff.1 (by omega);subst this;simp[qG,qS,pX,b0K]
 by_cases hc:s[0].toNat=45
 .obtain⟨ds,hds⟩:∃ds,s.tail=ds:=⟨_,rfl⟩;have a3p:b0K s=true:=by rw[d2V h0];simp[hc]
  have oW:pX s=ds:=by unfold pX;rw[a3p, <- hds];simp
  have hle:1<=s.length:=h0;simp[h0,hc,hds,hle];by_cases e0:ds.length=0
  .first
   |(exfalso;omega;done)
   |(have hf:qS s=false:=by unfold qS;rw[oW];simp[e0]
     have e1:ds=[]:=List.length_eq_zero_iff.1 e0;simp[oW,e1,qG,hf])
  have e1:0<ds.length:=by omega
  have e2: ¬ds=[]:=λe=>e0 (by rw[e];rfl);by_cases hl:13<ds.length
  .have hf:qS s=false:=by unfold qS;rw[oW];simp;omega
   simp[oW,e0,e2,hl,qG,hf]
  have hh:=c8c e1;by_cases hd:ds[0].toNat=48
  .have hf:qS s=false:=by simp[qS,oW,a3p,hh.2 hd]
   simp[e0,e1,e2,hl,hd,qG,hf]
  have hd': ¬ds.head? =some 48:=λe=>hd (hh.1 e);have a1K:qS s=true:=by simp[qS,oW,a3p,hd'];omega
  simp[e0,e1,e2,hl,hd];have hlen:ds.length<=13:=by have:=a1K;simp only[qS,f7H,decide_eq_true_eq,oW]at this;exact this.1.2
  refine SW.eE (ι:={i:Nat//i<=ds.length/\∀c∈ds.take i,vT c=true}) (λi=>[(6,.d (.int .i64 (gD (ds.take i.1):Nat))),(43,.d (.int .i64 i.1))]) (λ_=>[]) (λ_=>[]) (λi=>ds.length-i.1) ⟨0,by simp⟩ (by simp[a2E]) ?_;rintro⟨i,hi,ht⟩;by_cases aE:i<ds.length
  .have hw:=aY (show i<9223372036854775807 by omega);by_cases hd:vT ds[i]=true
   .have hv:=a3o _ (ds.take (i+1)) rfl λc hc=>by
     rw[f7W aE]at hc;rcases List.mem_append.1 hc with hc|hc
     .exact ht c hc
     .rw[f7O]at hc;rw[hc];exact hd
    have hp:10 ^ (ds.take (i+1)).length<=10 ^ 13:=Nat.pow_le_pow_right (by omega) (by simp;omega);rw[wZ aE]at hv;have hdd:=tT.1 hd;have h48: ¬ds[i].toNat<48:=by omega
    have h57: ¬57<ds[i].toNat:=by omega
    have w1:IntKind.i64.wrap (10*((gD (ds.take i):Nat):Int))=10*((gD (ds.take i):Nat):Int):=wrap64 (by omega);have w2:=c8b hd;have w3:IntKind.i64.wrap (10*((gD (ds.take i):Nat):Int)+((ds[i].toNat-48:Nat):Int))=((gD (ds.take (i+1)):Nat):Int):=by rw[wZ aE,wrap64 (by omega)];simp
    simp[aE,h48,h57,w1,w2,w3];exact aX.mk ⟨i+1,aE,λc hc=>by
     rw[f7W aE]at hc;rcases List.mem_append.1 hc with hc|hc
     .exact ht c hc
     .rw[f7O]at hc;rw[hc];exact hd⟩ (by simp[hw]) (by simp;omega)
   .have a2F:(pX s).all vT=false:=by
     cases h:(pX s).all vT
     .rfl
     .rw[oW,f7K]at h;exact absurd (h _ (List.getElem_mem aE)) hd
    by_cases h48:ds[i].toNat<48
    .simp[aE,h48,a0m a2F]
    .have h57:57<ds[i].toNat:=by rw[tT]at hd;omega
     simp[aE,h48,h57,a0m a2F]
  .have hi':i=ds.length:=by omega
   subst hi';rw[List.take_length]at ht;have dB:(pX s).all vT=true:=by rw[oW,f7K];exact ht
   have hv:=a3o _ ds rfl ht;have hp:10 ^ ds.length<=10 ^ 13:=Nat.pow_le_pow_right (by omega) hlen;have hZ:qG s=chk (sgn (b0K s) (gD (pX s))) true:=by simp[qG,a1K,dB]
   rw[a3p,oW]at hZ;simp[sgn]at hZ;have w1:IntKind.i64.wrap (-((gD ds:Nat):Int))= -((gD ds:Nat):Int):=wrap64 (by omega);simp[w1];refine aD.mk a2f (a3n _ _) ?_;simp[hZ]
 .have a3p:b0K s=false:=by rw[d2V h0];simp[hc]
  have oW:pX s=s:=by unfold pX;rw[a3p];rfl
  simp[h0,hc];by_cases e0:s.length=0
  .first
   |(exfalso;omega;done)
   |(have hf:qS s=false:=by unfold qS;rw[oW];simp[e0]
     have e1:s=[]:=List.length_eq_zero_iff.1 e0;simp[oW,e1,qG,hf])
  have e1:0<s.length:=by omega
  have e2: ¬s=[]:=λe=>e0 (by rw[e];rfl);by_cases hl:13<s.length
  .have hf:qS s=false:=by unfold qS;rw[oW];simp;omega
   simp[oW,e0,e2,hl,qG,hf]
  have hh:=c8c e1;by_cases hd:s[0].toNat=48
  .by_cases h1:1<s.length
   .have hf:qS s=false:=by simp[qS,oW,hh.2 hd,h1]
    simp[e0,e1,e2,hl,hd,h1,qG,hf]
   .have a1K:qS s=true:=by simp[qS,oW,a3p,h1];omega
    simp[e0,e1,e2,hl,hd,h1];have hlen:s.length<=13:=by have:=a1K;simp only[qS,f7H,decide_eq_true_eq,oW]at this;exact this.1.2
    refine SW.eE (ι:={i:Nat//i<=s.length/\∀c∈s.take i,vT c=true}) (λi=>[(6,.d (.int .i64 (gD (s.take i.1):Nat))),(43,.d (.int .i64 i.1))]) (λ_=>[]) (λ_=>[]) (λi=>s.length-i.1) ⟨0,by simp⟩ (by simp[a2E]) ?_;rintro⟨i,hi,ht⟩;by_cases aE:i<s.length
    .have hw:=aY (show i<9223372036854775807 by omega);by_cases hd:vT s[i]=true
     .have hv:=a3o _ (s.take (i+1)) rfl λc hc=>by
       rw[f7W aE]at hc;rcases List.mem_append.1 hc with hc|hc
       .exact ht c hc
       .rw[f7O]at hc;rw[hc];exact hd
      have hp:10 ^ (s.take (i+1)).length<=10 ^ 13:=Nat.pow_le_pow_right (by omega) (by simp;omega);rw[wZ aE]at hv;have hdd:=tT.1 hd;have h48: ¬s[i].toNat<48:=by omega
      have h57: ¬57<s[i].toNat:=by omega
      have w1:IntKind.i64.wrap (10*((gD (s.take i):Nat):Int))=10*((gD (s.take i):Nat):Int):=wrap64 (by omega);have w2:=c8b hd;have w3:IntKind.i64.wrap (10*((gD (s.take i):Nat):Int)+((s[i].toNat-48:Nat):Int))=((gD (s.take (i+1)):Nat):Int):=by rw[wZ aE,wrap64 (by omega)];simp
      simp[aE,h48,h57,w1,w2,w3];exact aX.mk ⟨i+1,aE,λc hc=>by
       rw[f7W aE]at hc;rcases List.mem_append.1 hc with hc|hc
       .exact ht c hc
       .rw[f7O]at hc;rw[hc];exact hd⟩ (by simp[hw]) (by simp;omega)
     .have a2F:(pX s).all vT=false:=by
       cases h:(pX s).all vT
       .rfl
       .rw[oW,f7K]at h;exact absurd (h _ (List.getElem_mem aE)) hd
      by_cases h48:s[i].toNat<48
      .simp[aE,h48,a0m a2F]
      .have h57:57<s[i].toNat:=by rw[tT]at hd;omega
       simp[aE,h48,h57,a0m a2F]
    .have hi':i=s.length:=by omega
     subst hi';rw[List.take_length]at ht;have dB:(pX s).all vT=true:=by rw[oW,f7K];exact ht
     have hv:=a3o _ s rfl ht;have hp:10 ^ s.length<=10 ^ 13:=Nat.pow_le_pow_right (by omega) hlen;have hZ:qG s=chk (sgn (b0K s) (gD (pX s))) true:=by simp[qG,a1K,dB]
     rw[a3p,oW]at hZ;simp[sgn]at hZ;have w1:IntKind.i64.wrap (-((gD s:Nat):Int))= -((gD s:Nat):Int):=wrap64 (by omega);simp[w1];refine aD.mk a2f (a3n _ _) ?_;simp[hZ]
  .have hd': ¬s.head? =some 48:=λe=>hd (hh.1 e);have a1K:qS s=true:=by simp[qS,oW,hd'];omega
   simp[e0,e1,e2,hl,hd];have hlen:s.length<=13:=by have:=a1K;simp only[qS,f7H,decide_eq_true_eq,oW]at this;exact this.1.2
   refine SW.eE (ι:={i:Nat//i<=s.length/\∀c∈s.take i,vT c=true}) (λi=>[(6,.d (.int .i64 (gD (s.take i.1):Nat))),(43,.d (.int .i64 i.1))]) (λ_=>[]) (λ_=>[]) (λi=>s.length-i.1) ⟨0,by simp⟩ (by simp[a2E]) ?_;rintro⟨i,hi,ht⟩;by_cases aE:i<s.length
   .have hw:=aY (show i<9223372036854775807 by omega);by_cases hd:vT s[i]=true
    .have hv:=a3o _ (s.take (i+1)) rfl λc hc=>by
      rw[f7W aE]at hc;rcases List.mem_append.1 hc with hc|hc
      .exact ht c hc
      .rw[f7O]at hc;rw[hc];exact hd
     have hp:10 ^ (s.take (i+1)).length<=10 ^ 13:=Nat.pow_le_pow_right (by omega) (by simp;omega);rw[wZ aE]at hv;have hdd:=tT.1 hd;have h48: ¬s[i].toNat<48:=by omega
     have h57: ¬57<s[i].toNat:=by omega
     have w1:IntKind.i64.wrap (10*((gD (s.take i):Nat):Int))=10*((gD (s.take i):Nat):Int):=wrap64 (by omega);have w2:=c8b hd;have w3:IntKind.i64.wrap (10*((gD (s.take i):Nat):Int)+((s[i].toNat-48:Nat):Int))=((gD (s.take (i+1)):Nat):Int):=by rw[wZ aE,wrap64 (by omega)];simp
     simp[aE,h48,h57,w1,w2,w3];exact aX.mk ⟨i+1,aE,λc hc=>by
      rw[f7W aE]at hc;rcases List.mem_append.1 hc with hc|hc
      .exact ht c hc
      .rw[f7O]at hc;rw[hc];exact hd⟩ (by simp[hw]) (by simp;omega)
    .have a2F:(pX s).all vT=false:=by
      cases h:(pX s).all vT
      .rfl
      .rw[oW,f7K]at h;exact absurd (h _ (List.getElem_mem aE)) hd
     by_cases h48:s[i].toNat<48
     .simp[aE,h48,a0m a2F]
     .have h57:57<s[i].toNat:=by rw[tT]at hd;omega
      simp[aE,h48,h57,a0m a2F]
   .have hi':i=s.length:=by omega
    subst hi';rw[List.take_length]at ht;have dB:(pX s).all vT=true:=by rw[oW,f7K];exact ht
    have hv:=a3o _ s rfl ht;have hp:10 ^ s.length<=10 ^ 13:=Nat.pow_le_pow_right (by omega) hlen;have hZ:qG s=chk (sgn (b0K s) (gD (pX s))) true:=by simp[qG,a1K,dB]
    rw[a3p,oW]at hZ;simp[sgn]at hZ;have w1:IntKind.i64.wrap (-((gD s:Nat):Int))= -((gD s:Nat):Int):=wrap64 (by omega);simp[w1];refine aD.mk a2f (a3n _ _) ?_;simp[hZ]
end Go.Proofs.YtjpodcmhcenjjaaGreatDoor
end
end
section
section
namespace Go.Proofs.YtjpodcmhcenjjaaGreatDoor
structure Tok where
 kind:Int
 text:List UInt8
 n:Int
 line:Int
 deriving DecidableEq
def smU(b:UInt8):Bool:=decide (97<=b.toNat/\b.toNat<=122)
def caU(b:UInt8):Bool:=decide (65<=b.toNat/\b.toNat<=90)
def dgU(b:UInt8):Bool:=decide (48<=b.toNat/\b.toNat<=57)
def inU(b:UInt8):Bool:=smU b||caU b||dgU b||decide (b.toNat=95)
def cE:List (List UInt8):=[[60,61,62],[45,62],[61,62],[60,61],[62,61],[33,61],[61,61],[38,38],[124,124],[43],[45],[42],[47],[37],[40],[41],[123],[125],[91],[93],[60],[62],[61],[124],[44],[58],[59],[46],[33],[63],[39]]
def sL(s:List UInt8):List UInt8:=(cE.find? λt=>t.isPrefixOf s).getD []
section
variable (num:List UInt8->Int×Bool)
def firstT(s:List UInt8):Int×List UInt8×Int×Bool:=
 match s with
 |[]=>(0,[],0,false)
 |c::r=>
  if smU c then(1,(c::r).takeWhile inU,0,true)
  else if caU c then(2,(c::r).takeWhile inU,0,true)
  else if dgU c then(3,(c::r).takeWhile dgU,(num ((c::r).takeWhile dgU)).1,(num ((c::r).takeWhile dgU)).2)
  else if sL (c::r)=[] then(0,[],0,false)
  else(4,sL (c::r),0,true)
def kE:List UInt8->Nat->Int->Bool->Except Int (List Tok)
 |[],_,ln,_=>.ok [⟨0,[],0,ln⟩]
 |_::r,k+1,ln,cm=>kE r k ln cm
 |c::r,0,ln,cm=>
  if c=10 then kE r 0 (ln+1) false
  else if cm=true\/c=32\/c=9 then kE r 0 ln cm
  else if c=35 then kE r 0 ln true
  else if (firstT num (c::r)).2.2.2 then
   match kE r ((firstT num (c::r)).2.1.length-1) ln false with
   | .ok l=>.ok (⟨(firstT num (c::r)).1,(firstT num (c::r)).2.1,(firstT num (c::r)).2.2.1,ln⟩::l)
   | .error e=>.error e
  else .error ln
variable {num}
theorem e1F{b:UInt8}(h:smU b=true):inU b=true:=by simp[inU,h]
theorem e1G{b:UInt8}(h:caU b=true):inU b=true:=by simp[inU,h]
theorem b6U{p:UInt8->Bool}{rest:List UInt8}(h:∀b,rest.head? =some b->p b=false):∀s:List UInt8,(s++rest).takeWhile p=s.takeWhile p
 |[]=>by
  cases rest with
  |nil=>rfl
  |cons b r=>simp[List.takeWhile,h b rfl]
 |c::s=>by simp only[List.cons_append,List.takeWhile_cons,b6U h s]
theorem d2X{s:List UInt8}(h:sL s≠[]):sL s∈cE/\sL s <+:s:=by
 unfold sL at h|-;cases hf:cE.find? λt=>t.isPrefixOf s with
 |none=>rw[hf]at h;simp at h
 |some t=>exact⟨List.mem_of_find?_eq_some hf,List.isPrefixOf_iff_prefix.1 (by simpa using List.find?_some hf)⟩
theorem c9D:∀t∈cE,sL t=t:=by decide
theorem a2g(p:UInt8->Bool):∀s:List UInt8,s.takeWhile p <+:s:=λs=>List.takeWhile_prefix p
theorem vU(p:UInt8->Bool):∀s:List UInt8,(s.takeWhile p).takeWhile p=s.takeWhile p
 |[]=>rfl
 |c::s=>by
  rw[List.takeWhile_cons];split
  .rename_i hc;rw[List.takeWhile_cons,if_pos hc,vU p s]
  .rfl
theorem a0O{p:UInt8->Bool}{c:UInt8}{r:List UInt8}(h:p c=true):(c::r).takeWhile p=c::r.takeWhile p:=by rw[List.takeWhile_cons,if_pos h]
theorem a9h{s:List UInt8}(h:(firstT num s).2.2.2=true):(firstT num s).2.1≠[]/\(firstT num s).2.1 <+:s/\firstT num (firstT num s).2.1=firstT num s:=by
 cases s with
 |nil=>simp[firstT]at h
 |cons c r=>
  by_cases h1:smU c=true
  .have hw:=a0O (r:=r) (e1F h1);have hs:=vU inU (c::r);have hp:=a2g inU (c::r);simp only[firstT,h1,if_true]at h|-;rw[hw]at hs hp|-;refine⟨by simp,hp,?_⟩;simp only[firstT,h1,if_true,hs]
  .have h1:smU c=false:=by simpa using h1
   by_cases h2:caU c=true
   .have hw:=a0O (r:=r) (e1G h2);have hs:=vU inU (c::r);have hp:=a2g inU (c::r);simp only[firstT,h1,h2,if_true,Bool.false_eq_true,if_false]at h|-;rw[hw]at hs hp|-;refine⟨by simp,hp,?_⟩;simp only[firstT,h1,h2,if_true,Bool.false_eq_true,if_false,hs]
   .have h2:caU c=false:=by simpa using h2
    by_cases h3:dgU c=true
    .have hw:=a0O (r:=r) h3;have hs:=vU dgU (c::r);have hp:=a2g dgU (c::r);simp only[firstT,h1,h2,h3,if_true,Bool.false_eq_true,if_false]at h|-;rw[hw]at hs hp|-;refine⟨by simp,hp,?_⟩;simp only[firstT,h1,h2,h3,if_true,Bool.false_eq_true,if_false,hs]
    .have h3:dgU c=false:=by simpa using h3
     by_cases h4:sL (c::r)=[]
     .simp[firstT,h1,h2,h3,h4]at h
     .obtain⟨hm,hp⟩:=d2X h4;have e1H:=c9D _ hm;simp only[firstT,h1,h2,h3,h4,Bool.false_eq_true,if_false]at h|-;refine⟨h4,hp,?_⟩;obtain⟨t,ht⟩:∃t,sL (c::r)=t:=⟨_,rfl⟩;rw[ht]at h4 hp e1H|-;cases t with
      |nil=>exact absurd rfl h4
      |cons d t'=>
       have hd:d=c:=by obtain⟨u,hu⟩:=hp;simp only[List.cons_append,List.cons.injEq]at hu;exact hu.1
       subst hd;simp only[firstT,h1,h2,h3,Bool.false_eq_true,if_false,e1H];simp
theorem b8k:∀(s:List UInt8) (k:Nat) (ln:Int) (cm:Bool),k<=s.length->kE num s k ln cm=kE num (s.drop k) 0 ln cm
 |[],k,ln,cm,h=>by
  have:k=0:=by simpa using h
  subst this
  rfl
 |c::r,0,ln,cm,_=>by rfl
 |c::r,k+1,ln,cm,h=>by
  rw[List.drop_succ_cons];simp only[List.length_cons]at h;rw[<-b8k r k ln cm (by omega)]
  rfl
end
end Go.Proofs.YtjpodcmhcenjjaaGreatDoor
end
section
namespace Go.Proofs.YtjpodcmhcenjjaaGreatDoor
section
variable {num:List UInt8->Int×Bool}
theorem b4l{c:UInt8}{r:List UInt8}(ln:Int)(h1:c≠10)(h2:c≠32)(h3:c≠9)(h4:c≠35):kE num (c::r) 0 ln false=if (firstT num (c::r)).2.2.2 then
   (match kE num ((c::r).drop (firstT num (c::r)).2.1.length) 0 ln false with
   | .ok l=>.ok (⟨(firstT num (c::r)).1,(firstT num (c::r)).2.1,(firstT num (c::r)).2.2.1,ln⟩::l)
   | .error e=>.error e)
  else .error ln:=by
 conv=>lhs;rw[kE]
 rw[if_neg h1,if_neg (by simp[h2,h3]),if_neg h4];split
 .rename_i mP;obtain⟨q1,q2,_⟩:=a9h mP;obtain⟨tx,htx⟩:∃tx,(firstT num (c::r)).2.1=tx:=⟨_,rfl⟩;rw[htx]at q1 q2|-;have hl:0<tx.length:=List.length_pos_iff.2 q1;have hle:=q2.length_le;simp only[List.length_cons]at hle;rw[b8k r (tx.length-1) ln false (by omega)];have:(c::r).drop tx.length=r.drop (tx.length-1):=by
   conv=>lhs;rw[show tx.length=(tx.length-1)+1 by omega]
   rfl
  rw[this]
  try rfl
 .rfl
inductive OkT (num:List UInt8->Int×Bool):List Tok->Int->Prop
 |fin (ln l:Int):ln<=l->OkT num [⟨0,[],0,l⟩] ln
 |cons (t:Tok) (r:List Tok) (ln:Int):ln<=t.line->firstT num t.text=(t.kind,t.text,t.n,true)->OkT num r t.line->OkT num (t::r) ln
theorem OkT.mono{l:List Tok}{ln ln':Int}(h:OkT num l ln)(hl:ln'<=ln):OkT num l ln':=by
 cases h with
 |fin _ l hle=>exact .fin _ _ (by omega)
 |cons t r _ h1 h2 h3=>exact .cons t r _ (by omega) h2 h3
theorem zY:∀(s:List UInt8) (k:Nat) (ln:Int) (cm:Bool) (l:List Tok),kE num s k ln cm=.ok l->OkT num l ln
 |[],k,ln,cm,l,h=>by simp only[kE,Except.ok.injEq]at h;subst h;exact .fin _ _ (Int.le_refl _)
 |c::r,k+1,ln,cm,l,h=>by rw[kE]at h;exact zY r k ln cm l h
 |c::r,0,ln,cm,l,h=>by
  rw[kE]at h;split at h
  .exact(zY r 0 _ _ l h).mono (by omega)
  .split at h
   .exact zY r 0 _ _ l h
   .split at h
    .exact zY r 0 _ _ l h
    .split at h
     .rename_i mP;split at h
      .rename_i l' hl;simp only[Except.ok.injEq]at h;subst h;obtain⟨q1,q2,q3⟩:=a9h mP;refine .cons _ _ _ (Int.le_refl _) ?_ (zY r _ _ _ l' hl);simp only;rw[q3, <- mP]
      .cases h
     .cases h
end
end Go.Proofs.YtjpodcmhcenjjaaGreatDoor
end
section
namespace Go.Proofs.YtjpodcmhcenjjaaGreatDoor
open Go
theorem b9S{s:List UInt8}{i:Nat}(h:i<s.length):((⟨s.toArray⟩:ByteArray).get! i)=s[i]:=by
 show(s.toArray)[i]! =s[i]
 simp[h]
theorem d8S(s:List UInt8):(⟨s.toArray⟩:ByteArray).size=s.length:=by
 show s.toArray.size=s.length
 simp
theorem d2Y{s:List UInt8}{i:Nat}(h:i<s.length)(hb:s[i].toNat<128):Utf8.decode ⟨s.toArray⟩ i=(s[i].toNat,1):=by rw[Lib.decode_at,b9S h];unfold Lib.decodeN;rw[if_pos hb]
theorem d2Z{s:List UInt8}{i:Nat}(h:i<s.length)(hb:128<=s[i].toNat):128<=(Utf8.decode ⟨s.toArray⟩ i).1/\1<=(Utf8.decode ⟨s.toArray⟩ i).2/\i+(Utf8.decode ⟨s.toArray⟩ i).2<=s.length/\
  ∀j,i<=j->j<i+(Utf8.decode ⟨s.toArray⟩ i).2->∃h:j<s.length,128<=s[j].toNat:=by
 rw[Lib.decode_at,b9S h,d8S];have at1:∀k,i+k<s.length->((⟨s.toArray⟩:ByteArray).get! (i+k))=s[i+k]! :=λk hk=>by rw[b9S hk];simp[hk]
 have two:∀(j:Nat) (hj:j<s.length),s[j].toNat/64=2->128<=s[j].toNat:=λj hj h=>by omega
 have key:∀k,i+k<s.length->((⟨s.toArray⟩:ByteArray).get! (i+k)).toNat/64=2->∃h:i+k<s.length,128<=s[i+k].toNat:=λk hk h=>by rw[b9S hk]at h;exact⟨hk,two _ hk h⟩
 rcases Lib.decodeN_shape (s.length-i) s[i].toNat ((⟨s.toArray⟩:ByteArray).get! (i+1)).toNat ((⟨s.toArray⟩:ByteArray).get! (i+2)).toNat ((⟨s.toArray⟩:ByteArray).get! (i+3)).toNat with h1|h1|h1|h1|h1
 .omega
 .obtain⟨a,b,c,d,e⟩:=h1;rw[e];refine⟨by simp only;omega,by simp,by simp only;omega,λj hj sM=>?_⟩;simp only at sM;rcases(show j=i\/j=i+1 by omega)with rfl|rfl
  .exact⟨h,hb⟩
  .exact key 1 (by omega) c
 .obtain⟨a,b,c,d,f,g,e⟩:=h1;rw[e];refine⟨by simp only;omega,by simp,by simp only;omega,λj hj sM=>?_⟩;simp only at sM;rcases(show j=i\/j=i+1\/j=i+2 by omega)with rfl|rfl|rfl
  .exact⟨h,hb⟩
  .exact key 1 (by omega) c
  .exact key 2 (by omega) d
 .obtain⟨a,b,c,d,f,g,k,e⟩:=h1;rw[e];refine⟨by simp only;omega,by simp,by simp only;omega,λj hj sM=>?_⟩;simp only at sM;rcases(show j=i\/j=i+1\/j=i+2\/j=i+3 by omega)with rfl|rfl|rfl|rfl
  .exact⟨h,hb⟩
  .exact key 1 (by omega) c
  .exact key 2 (by omega) d
  .exact key 3 (by omega) f
 .rw[h1];refine⟨by simp,by simp,by simp only;omega,λj hj sM=>?_⟩;simp only at sM;rcases(show j=i by omega)with rfl;exact⟨h,hb⟩
end Go.Proofs.YtjpodcmhcenjjaaGreatDoor
end
end
section
namespace Go.VM
open Go Go.RowKit Go.ChangeShapes Go.WideShapes Go.Proofs.YtjpodcmhcenjjaaGreatDoor
mutual
def szD:D->Nat
 | .str s=>s.length+1
 | .sl es=>b9T es+1
 | .agg ds=>szL ds
 | .int _ _=>1
 | .bool _=>1
 | .aF=>1
def szL:List D->Nat
 |[]=>0
 |d::r=>szD d+szL r
def b9T:List (List D)->Nat
 |[]=>0
 |l::r=>szL l+b9T r
end
theorem b4m:∀a b:List D,szL (a++b)=szL a+szL b
 |[],b=>by simp[szL]
 |d::a,b=>by have:=b4m a b;simp only[List.cons_append,szL,this];omega
mutual
theorem b9U {H:Type}:∀d:DataW H,szL (flat d)<=Rows.uptoBulk d
 | .lit (.int k n)=>by simp[flat,szL,szD,Rows.uptoBulk]
 | .lit (.bool b)=>by simp[flat,szL,szD,Rows.uptoBulk]
 | .lit (.string s)=>by simp[flat,szL,szD,Rows.uptoBulk]
 | .nil=>by simp[flat,szL,szD,b9T,Rows.uptoBulk]
 | .slice es sp=>by have:=b8l es;simp only[flat,szL,szD,Rows.uptoBulk];omega
 | .agg ps=>by have:=c3c ps;simp only[flat,Rows.uptoBulk];omega
 | .lit (.float .f32 _)=>by simp[flat,szL]
 | .lit (.float .f64 _)=>by simp[flat,szL]
 | .lit .nil=>by simp[flat,szL]
 | .ptr d=>by simp[flat,szL]
 | .iface _ d=>by simp[flat,szL]
 | .map es=>by simp[flat,szL]
 | .held _=>by simp[flat,szL]
theorem b8l {H:Type}:∀l:List (DataW H),b9T (yN l)<=Rows.uptoBulkAll l
 |[]=>by simp[yN,b9T]
 |d::r=>by have h1:=b9U d;have h2:=b8l r;simp only[yN,b9T,Rows.uptoBulkAll];omega
theorem c3c {H:Type}:∀l:List (DataW H),szL (vQ l)<=Rows.uptoBulkAll l
 |[]=>by simp[vQ,szL]
 |d::r=>by have h1:=b9U d;have h2:=c3c r;simp only[vQ,b4m,Rows.uptoBulkAll];omega
end
section
variable {P:Program} {H:Type} {enc:TypeId×Value->H} {w:World} {sp:Nat->Bool} {held:Bool} {L:List TypeId}
theorem c3d{r:Reach}{b0:Nat}(rT:laidOutB P=true)(hp:a1G P L=true){t:TypeId}{v:Value}{d:DataW H}{ps:List MemPlace}(hT:L.contains t=true)(a1o:Value.okWide P w r b0 t v)(h:DataW.Trod enc P w 0 sp held t v d ps):
  ∃x,a6Y P t x/\V (RW w) w v x/\szD x=szL (flat d):=by
 obtain⟨n,hn⟩:=h;obtain⟨h1,h2,h3⟩:=b0I rT hp n t _ _ hT hn;have oU:=f7K.1 hp t (by simpa using hT);simp only[f7H,decide_eq_true_eq]at oU;obtain⟨_,oU⟩:=oU;cases hu:P.underlying t with
 |none=>rw[hu]at oU;cases oU
 |some u=>
  cases ha:pE u with
  |true=>
   have hv:∃cs:Array Value,v=.agg cs:=by
    unfold Value.okWide at a1o;rw[hu]at a1o;cases u<;>simp only[pE]at ha<;>(try cases ha)
    .obtain⟨cs,hv,_⟩:=a1o;exact⟨cs,hv⟩
    .obtain⟨cs,hv,_⟩:=a1o;exact⟨cs,hv⟩
   obtain⟨cs,rfl⟩:=hv;refine⟨.agg (flat d),by simp only[a6Y,hu,ha,if_true];exact⟨_,rfl,h2⟩,.agg _ _ (by simpa[Value.cells]using h1.symm) (λi x hx=>(h3 i x hx).1) (λi x hx=>?_),by simp[szD]⟩;have:=(h3 i x hx).2;simpa[Value.cells,List.getD,f7J]using this
  |false=>
   have hc:v.cells=#[v]:=by refine b4e hu ha ?_ a1o;rw[hu]at oU|-;cases u<;>simp only[pE]at ha<;>(try cases ha)<;>first|rfl|(simp at oU)
   rw[hc]at h1 h3;simp at h1;obtain⟨x,hx⟩:∃x,flat d=[x]:=List.length_eq_one_iff.1 h1;simp only[hx]at h2 h3;refine⟨x,by simp only[a6Y,hu,ha];exact h2,by simpa using (h3 0 x rfl).2,by simp[hx,szL]⟩
theorem b1O{r:Reach}{b0:Nat}(rT:laidOutB P=true)(hp:a1G P L=true):∀ {ts:List TypeId} {vs:List Value} {ds:List (DataW H)} {ps:List MemPlace},(∀t∈ts,L.contains t=true)->(∀(j:Nat) t v,ts[j]? =some t->vs[j]? =some v->Value.okWide P w r b0 t v)->
  DataW.TrodAll enc P w 0 sp held ts vs ds ps->∃xs,a9e P ts xs/\vs.length=xs.length/\(∀(i:Nat) (d:D),xs[i]? =some d->V (RW w) w (vs.getD i undef) d)/\szL xs<=Rows.uptoBulkAll ds
 |[],_,_,_,_,_,h=>by obtain⟨rfl,rfl,rfl⟩:=trodAll_nil h;exact⟨[],trivial,rfl,by simp,by simp[szL]⟩
 |t::ts,_,_,_,hT,hv,h=>by
  obtain⟨v,vs1,d,ds1,a,b,rfl,rfl,rfl,h1,h2⟩:=trodAll_cons h;obtain⟨x,q1,q2,q7⟩:=c3d rT hp (hT t (.head _)) (hv 0 t v rfl rfl) h1;obtain⟨xs,q3,q4,q5,q6⟩:=b1O rT hp (λt ht=>hT t (.tail _ ht)) (λj t v a b=>hv (j+1) t v a b) h2;refine⟨x::xs,⟨q1,q3⟩,by simp[q4],λi d hi=>?_,by have:=b9U d;simp only[szL,Rows.uptoBulkAll];omega⟩
  cases i with
  |zero=>simp at hi;subst hi;simpa using q2
  |succ i=>simp at hi;simpa using q5 i d hi
theorem b4n{G:GT}{f:FuncId}{fn:Func}{s:ChangeSpec}{apart fresh handsOn again:Bool}{tb:TypeId}{r:Reach}{b0:Nat}(rT:laidOutB P=true)(hmr:mapsRowed P=true)(hsf:((List.range P.types.size).all λt=>match P.underlying t with|some (.slice e)=>decide (0<P.cellsOf e)|_=>true)=true)(hp:a1G P L=true){ts:List TypeId}(hts:fn.params.toList=ts)(hT:(ts.all λt=>L.contains t)=true)(c2R:s.vars=[])(hZ:fn.resultTypes=#[tb])(htb:P.underlying tb=some .bool)(hs:∀ds:List (DataW H),ds.length=ts.length->s.fn H ds={results:=[.lit (.bool true)],args:=ds})(qO:∀xs,a9e P ts xs->szL xs<=1048576->CS P G f xs (.d (.bool true)) none){W:World}{args:Array Value}{ds gs:List (DataW H)}{before:List MemPlace}(a1o:∀(j:Nat) t v,fn.params[j]? =some t->args[j]? =some v->Value.okWide P W r b0 t v)(hW:DataW.Whole enc P fn.params.toList s.vars apart W args.toList ds gs before)(hG:a6I G (yY W.heap.size) (RW W) W)(hk:Rows.uptoSmall H (ds++gs)=true):
  Calls P f args W λe W'=>∃v,e=.returned v/\s.post enc P fn apart fresh handsOn again W args v W':=by
 have hW':=hW;obtain⟨p,q,hA,hV,rfl,hfz,hnd⟩:=hW;rw[c2R]at hV;obtain⟨rfl,rfl⟩:=trodVars_none hV;rw[hts]at hA;have hTm:∀t∈ts,L.contains t=true:=f7K.1 hT;obtain⟨xs,q1,q2,q3,q6⟩:=b1O rT hp hTm (λj t v a b=>a1o j t v (by rw[<-Array.getElem?_toList,hts];exact a) (by rw[<-Array.getElem?_toList];exact b)) hA;have jG:szL xs<=1048576:=by have h1:Rows.uptoBulkAll (ds++[])<=1048576:=of_decide_eq_true hk;rw[List.append_nil]at h1;omega
 refine(qO xs q1 jG W (RW W) args hG (λ_ _ h=>h) (by simpa using q2) (λi d hi=>by simpa[List.getD,f7J]using q3 i d hi)).mono λe W' ⟨v,R',he,htv,mD,_,_⟩=>?_;have hv:v=.bool true:=by
  have:=htv (λ_=>0);cases this with
  |d _ _ h=>cases h;rfl
 subst he hv;have hlen:=b1F hA;have aE:∀x∈p++[],x.block<W.heap.size:=hW'.lt;refine⟨_,rfl,c9C hW' mD.below.below (λ_ _ _=>?_) (λsp' hsp=>?_) (λ_ _=>?_) ?_⟩
 .rw[List.append_nil,hs ds hlen,hZ];exact trodAll_cons_mk (shut_bool htb _) trodAll_mk0
 .rw[List.append_nil,List.append_nil,hs ds hlen,hts];have h1:=a6Z (w':=W') hA λx hx=>mD.below.below.same (aE x (by simpa using hx));refine h1.respare (kids_rows rT hmr) (λt e ht hu=>slices_full_of P hsf t e ht hu) (λt ht=>?_) (λx hx=>hsp x (by simpa using hx));have oU:=f7K.1 hp t (by simpa using hTm t ht);simp only[f7H,decide_eq_true_eq]at oU;exact oU.1
 .rw[List.append_nil,hs ds hlen,c2R]
  rfl
 .exact ok_one hZ rfl (okWide_bool_mk htb _)
end
end Go.VM
end
section
section
namespace Go.Proofs.YtjpodcmhcenjjaaGreatDoor
open Go Go.VM
abbrev Nm:=List UInt8
theorem d3a:strs []=[]:=rfl
attribute [simp] d3a
structure Pr where
 op:Int
 name:Nm
 n:Int
 kids:List Pr
structure Ty where
 op:Int
 name:Nm
 args:List Ty
 names:List Nm
 pred:Pr
 a9i:List Pr
theorem Pr.ind{M:Pr->Prop}(h:∀p:Pr,(∀k∈p.kids,M k)->M p):∀p,M p
 |⟨op,nm,n,ks⟩=>h _ λk hk=>Pr.ind h k
theorem Ty.ind{M:Ty->Prop}(h:∀t:Ty,(∀k∈t.args,M k)->M t):∀t,M t
 |⟨op,nm,l,ns,p,ps⟩=>h _ λk hk=>Ty.ind h k
def qH:Pr->List D
 |⟨op,nm,n,ks⟩=>[.int .i64 op,.str nm,.int .i64 n,.sl (ks.map qH)]
abbrev zP(p:Pr):List D:=[.int .i64 p.op,.str p.name,.int .i64 p.n,.sl (p.kids.map qH)]
theorem cN(p:Pr):qH p=[.int .i64 p.op,.str p.name,.int .i64 p.n,.sl (p.kids.map qH)]:=by cases p;rw[qH]
def tyC:Ty->List D
 |⟨op,nm,l,ns,p,ps⟩=>[.int .i64 op,.str nm,.sl (l.map tyC),.sl (strs ns),.int .i64 p.op,.str p.name,.int .i64 p.n,.sl (p.kids.map qH),.sl (ps.map qH)]
abbrev tyD(t:Ty):List D:=[.int .i64 t.op,.str t.name,.sl (t.args.map tyC),.sl (strs t.names),.int .i64 t.pred.op,.str t.pred.name,.int .i64 t.pred.n,.sl (t.pred.kids.map qH),.sl (t.a9i.map qH)]
theorem bU(t:Ty):tyC t=[.int .i64 t.op,.str t.name,.sl (t.args.map tyC),.sl (strs t.names),.int .i64 t.pred.op,.str t.pred.name,.int .i64 t.pred.n,.sl (t.pred.kids.map qH),.sl (t.a9i.map qH)]:=by cases t;rw[tyC]
attribute [simp] cN bU
theorem vV{l:List Pr}{i:Nat}(h:i<l.length):(l.map qH)[i]? =some (zP l[i]):=by simp[h,cN]
theorem d8T{l:List Ty}{i:Nat}(h:i<l.length):(l.map tyC)[i]? =some (tyD l[i]):=by simp[h,bU]
end Go.Proofs.YtjpodcmhcenjjaaGreatDoor
end
section
namespace Go.Proofs.YtjpodcmhcenjjaaGreatDoor
open Go Go.VM
variable {G:GT}
mutual
def bH:Pr->Nat
 |⟨_,_,_,l⟩=>1+cW l
def cW:List Pr->Nat
 |[]=>0
 |t::r=>bH t+cW r
end
mutual
theorem d8U:∀p:Pr,bH p<=szL (qH p)
 |⟨op,nm,n,l⟩=>by have:=c3e l;rw[cN];simp only[bH,szL,szD];omega
theorem c3e:∀l:List Pr,cW l<=b9T (l.map qH)
 |[]=>by simp[cW,b9T]
 |t::r=>by have h1:=d8U t;have h2:=c3e r;simp only[cW,List.map_cons,b9T];omega
end
theorem b0L:∀a b:List Pr,cW (a++b)=cW a+cW b
 |[],b=>by simp[cW]
 |t::a,b=>by simp only[List.cons_append,cW,b0L a b];omega
theorem oO(p:Pr):bH p=1+cW p.kids:=by cases p;rfl
theorem qI{l:List Pr}{i:Nat}(h:i<l.length):cW (l.take (i+1))=cW (l.take i)+bH l[i]:=by rw[f7W h,b0L];simp[cW]
theorem hU:∀(l:List Pr) (i:Nat),cW (l.take i)<=cW l
 |[],i=>by simp
 |t::r,0=>by simp[cW]
 |t::r,i+1=>by have:=hU r i;simp only[List.take_succ_cons,cW];omega
theorem c3f(p:Pr):1<=bH p:=by rw[oO];omega
theorem gE:∀l:List Pr,l.length<=cW l
 |[]=>by simp
 |t::r=>by have h1:=c3f t;have h2:=gE r;simp only[cW,List.length_cons];omega
theorem a9j:VM.Enters prog 222:=.mk func222 rfl
theorem c3g(p:Pr):bH p<=900000000->CS prog G 222 [.agg (zP p)] (.d (.int .i64 (bH p))) none:=by
 revert p
 refine Pr.ind λp ih=>?_;obtain⟨op,nm,n,l⟩:=p;intro hN;simp only at ih;have hn:=oO ⟨op,nm,n,l⟩;simp only at hn;have hl:=gE l;refine CS.aR func222 rfl ntmps222 rfl ?_;simp;refine SW.eE (ι:={i:Nat//i<=l.length}) (λi=>[(3,.d (.int .i64 (1+cW (l.take i.1):Nat))),(9,.d (.int .i64 i.1))]) (λ_=>[(1,.cells [.d (.int .i64 op),.d (.str nm),.d (.int .i64 n),.d (.sl (l.map qH))])]) (λ_=>[]) (λi=>l.length-i.1) ⟨0,by simp⟩ (by simp[cW]) ?_;rintro⟨i,hi⟩;by_cases aE:i<l.length
 .have hg:=vV aE;have hw:=aY (show i<9223372036854775807 by omega);have hb2:=qI aE;have hb3:=hU l (i+1);have hw2:IntKind.i64.wrap (((1+cW (l.take i):Nat):Int)+(bH l[i]:Int))=((1+cW (l.take (i+1)):Nat):Int):=by rw[wrap64 (by omega),hb2];omega
  simp[aE,hg];refine aD.mk a9j (ih l[i] (List.getElem_mem aE) (by omega)) ?_;simp;exact aX.mk ⟨i+1,aE⟩ (by simp at hw2;simp[hw,hw2]) (by simp;omega)
 .have:i=l.length:=by omega
  subst this;simp[hn]
end Go.Proofs.YtjpodcmhcenjjaaGreatDoor
end
section
namespace Go.Proofs.YtjpodcmhcenjjaaGreatDoor
open Go Go.VM
variable {G:GT}
theorem cF{P:Program}{q:Bool}{x:Out}{c:Prop}[Decidable c]{dst:Option Tmp}{all:Array Oper}{rest:List Oper}{k:List KI}{Q:Exit->St->Prop}(hc:c)(h:b8b P G q (some x) dst all rest k Q):b8b P G q (if c then some x else none) dst all rest k Q:=by rw[if_pos hc];exact h
theorem d3b{α β:Type}(f:α->β){l:List α}{i:Nat}(h:i<l.length):(l.take (i+1)).map f=(l.take i).map f++[f l[i]]:=by
 rw[f7W h,List.map_append]
 rfl
end Go.Proofs.YtjpodcmhcenjjaaGreatDoor
end
end
