/- Lemmas that the law of this claim needs (Z6 Z7 ZL Up Z8). No condition. -/
import Derived.Test.YtjpodcmhcenjjaaGreatDoorOba
import Derived.Test.YtjpodcmhcenjjaaGreatDoorObc
import Derived.Test.YtjpodcmhcenjjaaGreatDoorRows
import Derived.Lib.ItoaNum
import Derived.Lib.LaidTab
import Derived.WalkSmall
import Derived.Deep.Draws
import Derived.Lib.Join
import Derived.Sort.Grow
import Derived.Lib.MapLaws
import Derived.Shelf.Strings.Builder1
import Derived.Shelf.Strings.Builder2
import Derived.Shelf.Strings.OnBuilder
import Derived.Shelf.Strings.Trim
import Derived.Shelf.Small.Utf8
import Derived.Shelf.Small.Strs
import Derived.Shelf.Strings.BuilderF
import Derived.Shelf.Strings.BuilderK
import Derived.Shelf.Strings.Search1
import Derived.Shelf.Strings.Prefix
import Derived.Shelf.Strings.Runes
import Derived.Shelf.Strings.AsciiSet
import Derived.Shelf.Unicode.DecodeSlow
import Derived.Test.YtjpodcmhcenjjaaGreatDoorProg
import Derived.Lib.ItoaLen
set_option linter.unusedVariables false
set_option linter.unusedSimpArgs false
set_option linter.unusedSectionVars false
set_option maxRecDepth 100000
set_option maxHeartbeats 64000000
open Go.Proofs.Tryz
section
section
namespace Go.VM
open Go Go.RowKit Go.Sort
section
variable {P:Program} {G:GT}
theorem CS.c3L{f:FuncId}{ds:List D}{r:D}(h:∀(w:World) (R:Nat->Nat->Prop) (args:Array Value),a5c G (xC w.heap.size) R w->(∀b o,R b o->b<w.heap.size)->args.size=ds.length->(∀(i:Nat) (d:D),ds[i]? =some d->V R w (args.getD i undef) d)->
  Calls P f args w λe w'=>∃v,e=.returned v/\V R w' v r/\Below w.heap.size w w'):CS P G f ds (.d r) none:=λw R args hg hR hl hv=>
 (h w R args hg hR hl hv).mono λe w' ⟨v,he,hr,hb⟩=>⟨v,R,he,λ_=>.d _ _ hr,⟨.c7l hb,λ_ _ h=>h,λ_ _ h h'=>absurd h h',λb o hbo=>hb.cell (hR b o hbo)⟩,λb o hbo=>Nat.lt_of_lt_of_le (hR b o hbo) hb.size,λ_ he=>by cases he⟩
theorem d4k{f:FuncId}{xs:List (List UInt8)}{sep:List UInt8}(h0:∀(a:Option Addr) (c:Nat) (sep:ByteArray) (w:World),Calls P f #[.slice a 0 c,.string sep] w λe w'=>e=.returned (.string ⟨#[]⟩)/\w'=w)(h1:∀(bk o c:Nat) (xs:List ByteArray) (sep:ByteArray) (w:World),(∀(j:Nat) x,xs[j]? =some x->w.cell? ⟨bk,o+j,none⟩=some (.string x))->bk<w.heap.size->xs.length<=140737488355328->xs.length<=c->(Lib.join (xs.map (·.data.toList)) sep.data.toList).length<=140737488355328->
   Calls P f #[.slice (some ⟨bk,o,none⟩) xs.length c,.string sep] w λe w'=>e=.returned (.string ⟨(Lib.join (xs.map (·.data.toList)) sep.data.toList).toArray⟩)/\Below w.heap.size w w')(hl:xs.length<=140737488355328)(hj:(Lib.join xs sep).length<=140737488355328):CS P G f [.sl (xs.map λs=>[.str s]),.str sep] (.d (.str (Lib.join xs sep))) none:=by
 refine CS.c3L λw R args hg hR hs hv=>?_;have ha:args=#[args.getD 0 undef,args.getD 1 undef]:=by
  obtain⟨l⟩:=args
  match l,hs with
  |[a,b],_=>rfl
 have e1:=(hv 1 _ rfl).mT;have e0:=hv 0 _ rfl;have nix:∀a c,xs=[]->args=#[.slice a 0 c,.string ⟨sep.toArray⟩]->Calls P f args w λe w'=>∃v,e=.returned v/\V R w' v (.str (Lib.join xs sep))/\Below w.heap.size w w':=λa c hx ha'=>by rw[ha',hx,Lib.join_nil];exact(h0 a c _ w).mono λe w' ⟨he,hw⟩=>⟨_,he,.str [],hw▸Below.refl _ _⟩
 generalize args.getD 0 undef=v0 at *;rw[e1]at ha;generalize hes:(xs.map λs=>[D.str s])=es0 at e0;cases e0 with
 |emp ao cap=>exact nix ao cap (by simpa using hes) ha
 |sl b o n cap size es g q1 q2 q3 q4 q5 q6 q7=>
  subst hes;by_cases hx:xs=[]
  .have:n=0:=by rw[q1,hx];rfl
   subst this;exact nix _ cap hx ha
  .have hn:n=xs.length:=by rw[q1];simp
   have hU:size=1:=by
    cases xs with
    |nil=>exact absurd rfl hx
    |cons x r=>exact(q4 [.str x] (by simp)).symm
   subst hU;have hc:∀(j:Nat) (x:List UInt8),xs[j]? =some x->R b (o+j)/\w.cell? ⟨b,o+j,none⟩=some (.string ⟨x.toArray⟩):=λj x hj=>by
    have xU:j<n:=by rw[hn];exact(f2O.1 hj).1
    obtain⟨r1,r2⟩:=q5 j 0 xU (by omega);have:=q7 j 0 [.str x] (.str x) (by rw[f2X,hj];rfl) rfl;simp only[Nat.mul_one,Nat.add_zero]at r1 r2;rw[this.mT]at r2;exact⟨r1,r2⟩
   have hb:b<w.heap.size:=by
    cases xs with
    |nil=>exact absurd rfl hx
    |cons x r=>exact hR b _ (hc 0 x rfl).1
   have key:=h1 b o cap (xs.map λs=>⟨s.toArray⟩) ⟨sep.toArray⟩ w (λj x hj=>by rw[f2X]at hj;obtain⟨y,hy,rfl⟩:=f2M.1 hj;exact(hc j y hy).2) hb (by simpa using hl) (by simp;omega) (by simpa[List.map_map,Function.comp_def]using hj)
   simp only[List.length_map,List.map_map,Function.comp_def]at key;rw[ha,hn];have hid:List.map (λx:List UInt8=>x) xs=xs:=by simp
   simp only[hid]at key;exact key.mono λe w' ⟨he,hw⟩=>⟨_,he,.str _,hw⟩
end
end Go.VM
end
section
namespace Go.VM
open Go Go.RowKit
section
variable {P:Program} {G:GT} {st:St} {base:cN} {R:Nat->Nat->Prop} {μ:Nat->Nat} {a:Act} {w:World}
def c8z(P:Program)(s:St):ResultVar->Option DV
 | .tmp i=>some (s.tmps.getD i (.cJ []))
 | .cell p ty=>match s.tmps.getD p (.cJ [])with
  | .ptr k off=>(match getKey k s.H with
   |some (.cells cs)=>a9o P ty (cs.drop off)
   |_=>none)
  |_=>none
def a0x(P:Program)(s:St)(rs:List ResultVar):Option DV:=match rs with
 |[r]=>c8z P s r
 |rs=>(a3H P s rs).map .cJ
theorem d4l(hr:Rel P G base R μ st a w){r:ResultVar}{x:DV}(h:c8z P st r=some x):∃v,(a8B a.tmps r).run P w=.ok v w/\TV R μ w v x:=by
 cases r with
 |tmp i=>simp only[c8z,f2T]at h;subst h;have he:=hr.eval (.tmp i);simp only[St.eval,Act.eval]at he;exact⟨_,rfl,he⟩
 |cell p ty=>
  simp only[c8z]at h;have he:=hr.eval (.tmp p);simp only[St.eval,Act.eval]at he;split at h
  .rename_i k off hp;split at h
   .rename_i cs hk;rw[hp]at he;obtain⟨_,_,hob⟩:=hr.gM k _ hk;have cD:=(a8u.a3q hob).drop off;rw[Nat.zero_add]at cD;obtain⟨v,h1,h2,_⟩:=vH (P:=P) cD h;refine⟨v,?_,h2⟩;unfold a8B;simp only;rw[he.b6h];simp only[asAddr,Sem.run_bind,Sem.run_pure,Result.andThen_ok,h1]
   .cases h
  .cases h
theorem zL(hr:Rel P G base R μ st a w){fn:Func}{r:DV}(h:a0x P st fn.results.toList=some r):∃v,(results fn a.tmps).run P w=.ok v w/\TV R μ w v r:=by
 unfold a0x at h;split at h
 .rename_i r0 hrs;obtain⟨v,h1,h2⟩:=d4l hr h;refine⟨v,?_,h2⟩;rw[a6j,Array.mapM_eq_mapM_toList,hrs];simp[h1]
 .rename_i dX;obtain⟨ds,hds,rfl⟩:=f2M.1 h;obtain⟨vs,h1,h2,h3⟩:=b1A hr hds;have hl:vs.length≠1:=λe=>by
   have:ds.length=1:=by omega
   have hrl:fn.results.toList.length=1:=by rw[<-b5a hds];exact this
   match hq:fn.results.toList,hrl with
   |[x],_=>exact dX x hq
  refine⟨.tuple vs.toArray,?_,.cJ _ _ (by simpa using h2) (λi d hi=>by have:=h3 i d hi;simpa[f2P,List.getD]using this)⟩;rw[a6j,Array.mapM_eq_mapM_toList];simp only[Sem.run_bind,Sem.run_map,h1,Result.andThen_ok,Sem.run_pure];rw[dif_neg (by simpa using hl)]
where b5a {P:Program} {s:St}:∀ {l:List ResultVar} {ds:List D},a3H P s l=some ds->ds.length=l.length
 |[],ds,h=>by simp[a3H]at h;subst h;rfl
 |r::l,ds,h=>by
  simp only[a3H]at h;split at h
  .rename_i x ds' _ h';simp at h;subst h;simp[b5a h']
  .cases h
def a8E(n:Nat)(rs:List ResultVar):Loc->Option Loc
 | .t j=>match rs with
  |[.tmp i]=>if i=j/\j<n then some (.t 0) else none
  |_=>none
 | .c k off=>some (.c k off)
def a9I(s:St)(rs:List ResultVar)(r:DV):St:=⟨[r],s.H,s.own.map λc=>(c.1,c.2.filterMap (a8E s.tmps.length rs))⟩
def c3M(P:Program)(s:St)(rs:List ResultVar)(s1:St):Prop:=match a0x P s rs with
 |some r=>yF (a9I s rs r) s1
 |none=>False
theorem Rel.ret(hr:Rel P G base R μ st a w){fn:Func}{r:DV}{v:Value}(hv:(results fn a.tmps).run P w=.ok v w)(ht:TV R μ w v r):Rel P G base R μ (a9I st fn.results.toList r) {tmps:=#[v],defers:=[]} w:=by
 refine⟨rfl,rfl,λi u d hu hd=>?_,hr.gM,hr.inj,λc hc k off hl=>?_,?_,hr.tP,hr.pE,hr.base,hr.pass⟩
 .simp only[a9I]at hd;cases i with
  |zero=>simp at hu hd;subst hu hd;exact ht
  |succ i=>simp at hd
 .simp only[a9I,List.mem_map]at hc;obtain⟨c0,xZ,rfl⟩:=hc;simp only[List.mem_filterMap]at hl;obtain⟨l0,hl0,he⟩:=hl;cases l0 with
  |t j=>
   simp only[a8E]at he;split at he
   .split at he<;>cases he
   .cases he
  |c k' a3t=>simp only[a8E,f2T]at he;cases he;exact hr.dF c0 xZ k off hl0
 .obtain⟨vs,hl,h1,xE⟩:=hr.own;refine⟨vs,by simpa[a9I]using hl,λi c u hc hu=>?_,xE⟩;simp only[a9I,f2X]at hc;obtain⟨c0,xZ,rfl⟩:=f2M.1 hc;have ho:=h1 i c0 u xZ hu;refine⟨λl hl u' hu'=>?_,ho.own,ho.keys⟩;simp only[List.mem_filterMap]at hl;obtain⟨l0,hl0,he⟩:=hl;cases l0 with
  |t j=>
   simp only[a8E]at he;split at he
   .rename_i i' hrs;split at he
    .rename_i hij;cases he;obtain⟨rfl,aI⟩:=hij;simp[bZ]at hu';subst hu';have c7U:fn.results=#[.tmp i']:=by apply Array.ext';simpa using hrs
     rw[results_tmp c7U a.tmps P w]at hv;cases hv;have b6z:i'<a.tmps.size:=by rw[hr.size];exact aI
     exact ho.dF _ hl0 _ (by simp[bZ,b6z])
    .cases he
   .cases he
  |c k' a3t=>simp only[a8E,f2T]at he;subst he;exact ho.dF _ hl0 u' hu'
theorem CH.a5w{f:FuncId}{fn:Func}{c:Code}{n:Nat}{s0 s1:St}(hf:P.funcs[f]? =some fn)(hb:fn.body=some c)(hn:fn.ntmps=n){rs:List ResultVar}(hrs:fn.results.toList=rs)(hT:(s0.own.all λc=>c.2.all λl=>match l with| .t i=>decide (i<s0.tmps.length)|_=>true)=true)(h:SW P G c ⟨s0.tmps++List.replicate (n-s0.tmps.length) (.cJ []),s0.H,s0.own⟩ λe s=>(e=.normal\/e=.ret)/\c3M P s rs s1):CH P G f s0 s1:=by
 subst hrs;intro base R μ args w hr;refine calls_of_wp hf hb ?_;have hU:args.size=s0.tmps.length:=hr.size;have jU:Rel P G base R μ ⟨s0.tmps++List.replicate (n-s0.tmps.length) (.cJ []),s0.H,s0.own⟩ {tmps:=args++Array.replicate (fn.ntmps-args.size) undef,defers:=[]} w:=by
  refine⟨rfl,by simp[hU,hn],λi v d hiv hid=>?_,hr.gM,hr.inj,hr.dF,?_,hr.tP,hr.pE,hr.base,hr.pass⟩
  .simp only at hid;by_cases hi:i<s0.tmps.length
   .rw[f2Y hi]at hid;rw[Array.getElem?_append_left (by omega)]at hiv;exact hr.tmps i v d hiv hid
   .rw[f2V (by omega),List.getElem?_replicate]at hid;split at hid<;>simp at hid;subst hid;rw[Array.getElem?_append_right (by omega),Array.getElem?_replicate]at hiv;split at hiv<;>simp at hiv;subst hiv;exact .cJ #[] [] rfl (by simp)
  .obtain⟨vs,hl,h1,xE⟩:=hr.own;refine⟨vs,hl,λi c v hc hv=>?_,xE⟩;have ho:=h1 i c v hc hv;refine⟨λl hl u hu=>?_,ho.own,ho.keys⟩;cases l with
   |t j=>have hj:=f2Q.1 (f2Q.1 hT c (f2S hc)) _ hl;simp only[decide_eq_true_eq]at hj;simp only[bZ]at hu;rw[Array.getElem?_append_left (by omega)]at hu;exact ho.dF _ hl u hu
   |c k off=>exact ho.dF _ hl u hu
 refine wp_mono (h base R μ _ w jU) λe a' w' ⟨s,R',μ',⟨he,a1B⟩,eK,hs⟩=>?_;unfold c3M at a1B;split at a1B
 .rename_i r kC;obtain⟨v,hv1,hv2⟩:=zL eK kC;have a3I:a'.defers=[]/\∃v,(results fn a'.tmps).run P w'=.ok v w'/\∃v' R' μ',Ending.returned v=.returned v'/\Rel P G base R' μ' s1 {tmps:=#[v'],defers:=[]} w'/\Step base R w R' w':=
   ⟨eK.defers,v,hv1,v,R',μ',rfl,(eK.ret hv1 hv2).a0X a1B,hs⟩
  rcases he with rfl|rfl
  .exact a3I
  .exact a3I
 .exact a1B.elim
theorem CH.aZ{f:FuncId}{fn:Func}{c:Code}{n:Nat}{s0 s1:St}(hf:P.funcs[f]? =some fn)(hb:fn.body=some c)(hn:fn.ntmps=n){rs:List ResultVar}(hrs:fn.results.toList=rs)(hT:(s0.own.all λc=>c.2.all λl=>match l with| .t i=>decide (i<s0.tmps.length)|_=>true)=true)(h:VK P G [.code c] .normal ⟨s0.tmps++List.replicate (n-s0.tmps.length) (.cJ []),s0.H,s0.own⟩ λe s=>(e=.normal\/e=.ret)/\c3M P s rs s1):CH P G f s0 s1:=CH.a5w hf hb hn hrs hT (a2M c _ _ (b8Z h))
end
end Go.VM
end
section
namespace Go.VM
open Go Go.RowKit
def tH(s:St):List (TypeId×List Loc)->List (TypeId×List Loc)->Option (List (TypeId×List Loc))
 |own,[]=>some own
 |own,c::r=>if b1x s c then tH s own r else match yE c own with
  |some dZ=>tH s dZ r
  |none=>none
def eS(K:List (Nat×Nat))(dst:Option Tmp):Loc->Option Loc
 | .t i=>if i=0 then dst.map Loc.t else none
 | .c k off=>some (.c (rk K k) off)
def gP(K:List (Nat×Nat))(dst:Option Tmp)(c:TypeId×List Loc):TypeId×List Loc:=(c.1,c.2.filterMap (eS K dst))
def b1J(K:List (Nat×Nat))(ls:List (Option Loc)):Loc->Option Loc
 | .t i=>(ls[i]?).join
 | .c k off=>some (.c (rk K k) off)
def oN(K:List (Nat×Nat))(ls:List (Option Loc))(c:TypeId×List Loc):TypeId×List Loc:=(c.1,c.2.filterMap (b1J K ls))
def xJ(n:Nat)(ls:List (Option Loc))(own:List (TypeId×List Loc)):Bool:=own.all λc=>c.2.all λl=>match l with
 | .t i=>(match ls[i]? with
  |some (some (.t t))=>decide (t<n)
  |_=>false)
 | .c _ _=>true
def dQ:List (Nat×Nat)->List (TypeId×List Loc)->List (TypeId×List Loc)
 |[],own=>own
 |p::r,own=>dQ r (dropKey p.2 own)
def bO(K:List (Nat×Nat)):List (Nat×aW)->List (Nat×aW)->List (Nat×aW)
 |[],H=>H
 |p::r,H=>bO K r (bU (rk K p.1) (cQ K p.2) H)
def cI(K:List (Nat×Nat))(H:List (Nat×aW)):List (Nat×aW):=H.map λp=>(rk K p.1,cQ K p.2)
def mG(dst:Option Tmp)(d:DV)(l:List DV):List DV:=match dst with
 |some i=>l.set i d
 |none=>l
def kK(dst:Option Tmp)(own:List (TypeId×List Loc)):List (TypeId×List Loc):=match dst with
 |some d=>cE (.t d) own
 |none=>own
def bE(K:List (Nat×Nat))(dst:Option Tmp)(st:St)(rest:List (TypeId×List Loc))(r:DV)(H1:List (Nat×aW))(dZ:List (TypeId×List Loc)):St:=
 {tmps:=mG dst (bD K r) st.tmps,H:=bO K H1 st.H,own:=dZ.map (gP K dst)++kK dst (dQ K rest)}
def aK(K:List (Nat×Nat))(s0:St)(r:DV)(H1:List (Nat×aW)):Bool:=
 decide ((K.map (·.1)).Nodup)&&decide ((K.map (·.2)).Nodup)&&(K.all λp=>decide (100000<=p.1))&&(s0.tmps.all (aP K))&&
 (s0.H.all λp=>(K.any λq=>q.1==p.1)&&aM K p.2&&(getKey p.1 H1).isSome)&&bA s0.H s0.own&&
 aP K r&&decide ((H1.map (·.1)).Nodup)&&(H1.all λp=>aM K p.2&&(getKey p.1 s0.H).isSome)
theorem gQ{k:Nat}{o:aW}:∀ {H:List (Nat×aW)},getKey k H=some o->(k,o)∈H
 |[],h=>by simp[getKey]at h
 |(k',o')::r,h=>by
  unfold getKey at h;split at h
  .rename_i he;cases h;subst he;exact .head _
  .exact .tail _ (gQ h)
theorem getKey_of_mem{k:Nat}{o:aW}:∀ {H:List (Nat×aW)},(H.map (·.1)).Nodup->(k,o)∈H->getKey k H=some o
 |(k',o')::r,hn,h=>by
  simp only[List.map_cons,List.nodup_cons]at hn;unfold getKey;rcases List.mem_cons.1 h with he|h
  .cases he;simp
  .have:k'≠k:=λe=>hn.1 (by rw[e];exact List.mem_map.2 ⟨(k,o),h,rfl⟩);rw[if_neg this];exact getKey_of_mem hn.2 h
theorem wG{K:List (Nat×Nat)}{k:Nat}{o:aW}:∀ {l H:List (Nat×aW)},getKey k (bO K l H)=some o->(∃p∈l,k=rk K p.1/\o=cQ K p.2)\/((∀p∈l,k≠rk K p.1)/\getKey k H=some o)
 |[],H,h=>.inr ⟨by simp,h⟩
 |p::r,H,h=>by
  rcases wG (l:=r) h with⟨q,h1,h2⟩|⟨h1,h2⟩
  .exact .inl ⟨q,.tail _ h1,h2⟩
  .rw[eQ]at h2;split at h2
   .rename_i he;cases h2;exact .inl ⟨p,.head _,he.symm,rfl⟩
   .rename_i dX;exact .inr ⟨λq hq=>by rcases List.mem_cons.1 hq with rfl|hq;exact λe=>dX e.symm;exact h1 q hq,h2⟩
theorem a3N{K:List (Nat×Nat)}{k:Nat}:∀ {l H:List (Nat×aW)},(∃o,getKey k H=some o)->∃o,getKey k (bO K l H)=some o
 |[],H,h=>h
 |p::r,H,⟨o,h⟩=>a3N (l:=r) (by
   rw[eQ];split
   .exact⟨_,rfl⟩
   .exact⟨o,h⟩)
theorem b1K{K:List (Nat×Nat)}:∀ {own:List (TypeId×List Loc)} {i:Nat} {c:TypeId×List Loc},(dQ K own)[i]? =some c->∃c',own[i]? =some c'/\c.1=c'.1/\∀x,x∈c.2->x∈c'.2/\∀p∈K,x.wN p.2=false:=by
 induction K with
 |nil=>intro own i c h;exact⟨c,h,rfl,λx hx=>⟨hx,by simp⟩⟩
 |cons p r ih=>intro own i c h;obtain⟨c1,h1,h2,h3⟩:=ih h;obtain⟨c0,g1,g2,g3⟩:=wP h1;refine⟨c0,g1,h2.trans g2,λx hx=>?_⟩;obtain⟨q1,q2⟩:=h3 x hx;have q3:=(g3 x).1 q1;exact⟨q3.1,λy hy=>by rcases List.mem_cons.1 hy with rfl|hy;exact q3.2;exact q2 y hy⟩
theorem a9J{dst:Option Tmp}{own:List (TypeId×List Loc)}{i:Nat}{c:TypeId×List Loc}(h:(kK dst own)[i]? =some c):∃c',own[i]? =some c'/\c.1=c'.1/\∀x,x∈c.2->x∈c'.2/\∀d,dst=some d->x≠ .t d:=by
 cases dst with
 |none=>exact⟨c,h,rfl,λx hx=>⟨hx,by simp⟩⟩
 |some d=>obtain⟨c',h1,h2,h3⟩:=oZ h;exact⟨c',h1,h2,λx hx=>⟨((h3 x).1 hx).1,λd' hd=>by cases hd;exact((h3 x).1 hx).2⟩⟩
theorem c2f(K:List (Nat×Nat)):∀own,(dQ K own).length=own.length:=by
 induction K with
 |nil=>intro own;rfl
 |cons p r ih=>intro own;simp[dQ,ih,dropKey]
theorem b9p(dst:Option Tmp)(own:List (TypeId×List Loc)):(kK dst own).length=own.length:=by cases dst<;>simp[kK,cE]
section
variable {P:Program} {G:GT} {st:St} {base:cN} {R:Nat->Nat->Prop} {μ:Nat->Nat} {a:Act} {w:World}
theorem a3O(hr:Rel P G base R μ st a w):∀(cs own dZ:List (TypeId×List Loc)) (vs:List Value),c1S P base R μ st a w own vs->tH st own cs=some dZ->
  ∃vsT vs1:List Value,vsT.length=cs.length/\(∀(i:Nat) (c:TypeId×List Loc) (v:Value),cs[i]? =some c->vsT[i]? =some v->a1V P base R μ st a w c v)/\vsT.Pairwise a2E/\c1S P base R μ st a w dZ vs1/\
   (∀v∈vsT,∀u∈vs1,a2E v u)/\(∀x∈vs1,x∈vs)/\∀x∈vsT,bF x=none\/x∈vs
 |[],own,dZ,vs,h,ht=>by simp only[tH,f2T]at ht;subst ht;exact⟨[],vs,rfl,by simp,.nil,h,by simp,λ_ h=>h,by simp⟩
 |c::r,own,dZ,vs,h,ht=>by
  unfold tH at ht;split at ht
  .rename_i hn;obtain⟨vsT,vs1,q1,q2,q3,q4,q5,q6,q7⟩:=a3O hr r own dZ vs h ht;have hex:∃v,a1V P base R μ st a w c v/\bF v=none:=by
    by_cases hx:∃l∈c.2,∃u,bZ a w μ l=some u
    .obtain⟨l,hl,u,hu⟩:=hx;unfold b1x at hn;split at hn
     .rename_i he;rw[he]at hl;cases hl
     .rename_i l' he;rw[he]at hl;simp at hl;subst hl;obtain⟨ao,rfl⟩:=b4X hr hn hu;have hs:bF (.slice ao 0 0)=none:=by cases ao<;>rfl
      exact⟨.slice ao 0 0,⟨λl2 hl2 u2 hu2=>by rw[he]at hl2;simp at hl2;subst hl2;rw[hu]at hu2;exact(Option.some.inj hu2).symm,.inl ⟨ao,rfl⟩,λk o _=>by rw[hs];simp⟩,hs⟩
     .cases hn
    .exact⟨.slice none 0 0,⟨λl hl u hu=>absurd ⟨l,hl,u,hu⟩ hx,.inl ⟨none,rfl⟩,λk o _=>by simp[bF]⟩,rfl⟩
   obtain⟨v,hv1,hv2⟩:=hex;refine⟨v::vsT,vs1,by simp[q1],λi c' u hc hu=>?_,List.pairwise_cons.2 ⟨λx _ g hg=>(by rw[hv2]at hg;cases hg),q3⟩,q4,λx hx u hu=>?_,q6,λx hx=>?_⟩
   .cases i with
    |zero=>simp at hc hu;subst hc hu;exact hv1
    |succ i=>simp at hc hu;exact q2 i c' u hc hu
   .rcases List.mem_cons.1 hx with rfl|hx
    .exact λg hg=>by rw[hv2]at hg;cases hg
    .exact q5 x hx u hu
   .rcases List.mem_cons.1 hx with rfl|hx
    .exact .inl hv2
    .exact q7 x hx
  .split at ht
   .rename_i e2O htk;obtain⟨v,vs2,p1,p2,p3,p4,p5⟩:=h.take htk;obtain⟨vsT,vs1,q1,q2,q3,q4,q5,q6,q7⟩:=a3O hr r e2O dZ vs2 p2 ht;refine⟨v::vsT,vs1,by simp[q1],λi c' u hc hu=>?_,List.pairwise_cons.2 ⟨λx hx=>?_,q3⟩,q4,λx hx u hu=>?_,λx hx=>p3 x (q6 x hx),λx hx=>?_⟩
    .cases i with
     |zero=>simp at hc hu;subst hc hu;exact p1
     |succ i=>simp at hc hu;exact q2 i c' u hc hu
    .rcases q7 x hx with hs|hx'
     .exact λg _ hg=>by rw[hs]at hg;cases hg
     .exact p5 x hx'
    .rcases List.mem_cons.1 hx with rfl|hx
     .exact p5 u (q6 u hu)
     .exact q5 x hx u hu
    .rcases List.mem_cons.1 hx with rfl|hx
     .exact .inr p4
     .rcases q7 x hx with hs|hx'
      .exact .inl hs
      .exact .inr (p3 x hx')
   .cases ht
end
end Go.VM
end
section
namespace Go.VM
open Go Go.RowKit
section
variable {P:Program} {G:GT} {st:St}
theorem oK.mono{b b':cN}{R:Nat->Nat->Prop}{w:World}{e:TypeId}{v:Value}(h:oK P b R w e v)(hb:∀k,b k->b' k):oK P b' R w e v:=by
 rcases h with h|⟨g,n,cap,cur,h0,h1,h2⟩
 .exact .inl h
 .exact .inr ⟨g,n,cap,cur,h0,hb g h1,h2⟩
theorem mP.a9K{f:FuncId}{s0:St}{r:DV}{H1:List (Nat×aW)}{dZ:List (TypeId×List Loc)}(hch:CH P G f s0 ⟨[r],H1,dZ⟩)(K:List (Nat×Nat)){f2L:List DV}{ls:List (Option Loc)}{dst:Option Tmp}{rest:List (TypeId×List Loc)}(jB:aK K s0 r H1=true)(kR:WkT f2L (aO K s0.tmps))(hH:WkH st.H (cI K s0.H))(kF:tH st st.own (s0.own.map (oN K ls))=some rest)(kn:xJ st.tmps.length ls s0.own=true):
  mP P G f f2L ls st dst (bE K dst st rest r H1 dZ):=by
 simp only[aK,f2N,decide_eq_true_eq,f2Q]at jB;obtain⟨⟨⟨⟨⟨⟨⟨⟨kf,ks⟩,kp⟩,kt⟩,kh⟩,kl⟩,kr⟩,kd⟩,k1⟩:=jB;intro base R μ a w args hr hl hv a6a;obtain⟨vs,pF⟩:=hr.own;obtain⟨vsT,vsR,t1,t2,t3,t4,t5,t6,t7⟩:=a3O hr _ _ _ vs ⟨pF.len,pF.one,pF.apart⟩ kF;have inK:∀k o,getKey k s0.H=some o->(K.any λp=>p.1==k)=true/\aM K o=true/\(getKey k H1).isSome=true:=λk o hk=>by
  have:=kh _ (gQ hk)
  try simp only[f2N]at this
  exact⟨this.1.1,this.1.2,this.2⟩
 have inst:∀k o,getKey k s0.H=some o->∃o',getKey (rk K k) st.H=some o'/\WkO o' (cQ K o):=λk o hk=>by
  have hm:=gQ hk;have:∀ {l:List (Nat×aW)},WkH st.H (cI K l)->(k,o)∈l->∃o',getKey (rk K k) st.H=some o'/\WkO o' (cQ K o):=by
   intro l
   induction l with
   |nil=>intro _ h;cases h
   |cons p l ih=>
    intro hw hp;obtain⟨h1,h2⟩:=hw;rcases List.mem_cons.1 hp with rfl|hp
    .exact h1
    .exact ih h2 hp
  exact this hH hm
 have big:∀k,(K.any λp=>p.1==k)=true->100000<=k:=λk hk=>by obtain⟨p,h1,h2,_⟩:=zF hk;rw[<-h2];exact kp p h1
 have c8A:∀k k',(K.any λp=>p.1==k)=true->(K.any λp=>p.1==k')=true->rk K k=rk K k'->k=k':=λk k' h h' he=>by
  obtain⟨p,p1,p2,p3⟩:=zF h;obtain⟨q,q1,q2,q3⟩:=zF h';have hpq:p.2=q.2:=by rw[<-p3, <- q3,he]
  have:p=q:=a4G ks p1 q1 hpq;rw[<-p2, <- q2,this]
 have one:∀k,(getKey k H1).isSome=true->∃o,getKey k s0.H=some o:=λk hk=>by
  obtain⟨o,ho⟩:=Option.isSome_iff_exists.1 hk;have:=k1 _ (gQ ho)
  try simp only[f2N]at this
  exact Option.isSome_iff_exists.1 this.2
 let mC:cN:=⟨λb=>w.heap.size<=b\/(∃k o,getKey k s0.H=some o/\b=μ (rk K k))\/(∃v∈vsT,bF v=some b),λk=>μ (rk K k)⟩
 have sub:∀b,mC b->base b:=λb hb=>by
  rcases hb with hb|⟨k,o,hk,rfl⟩|⟨v,hv,hs⟩
  .exact hr.base b hb
  .obtain⟨o',sV,_⟩:=inst k o hk;exact(hr.gM _ o' sV).1
  .obtain⟨i,hi⟩:=f3e hv;have tT:i<(s0.own.map (oN K ls)).length:=by rw[<-t1];exact(f2O.1 hi).1
   exact(t2 i _ v (f2R tT) hi).own.a0l hs
 have a1C:Rel P G mC R (λk=>μ (rk K k)) s0 {tmps:=args,defers:=[]} w:=by
  obtain⟨g1,g2⟩:=zH kR;rw[pT]at g1 g2;refine⟨rfl,by show args.size=s0.tmps.length;rw[List.length_map]at g1;omega,λi v d hiv hid=>?_,λk o hk=>?_,λk k' o o' hk hk' he=>?_,λc hc k off hl'=>?_,⟨vsT,by simpa using t1,λi c v hc yA=>?_,t3⟩,hr.tP.up sub,hr.pE,λb hb=>.inl hb,λk hk=>rfl⟩
  .obtain⟨d0,hd0,b9q⟩:=g2 i (bD K d) (by rw[f2X,hid];rfl);have hva:=hv i d0 hd0;have hav:args.getD i undef=v:=by simp only at hiv;simp[f2P,hiv]
   rw[hav]at hva;have c8B:TV R μ w v (bD K d):=by
    rcases b9q with hc|hc|⟨hc1,hc2⟩
    .rw[hc];exact .undef _
    .rw[hc];exact hva
    .rw[hc2];rw[hc1]at hva;obtain⟨ao,rfl⟩:=hva.a6W.jM;exact .d _ _ (.emp _ _)
   exact c8B.ren (μ:=μ) (λ_ _=>rfl) (kt d (f2S hid))
  .obtain⟨q1,q2,_⟩:=inK k o hk;obtain⟨o',sV,hw⟩:=inst k o hk;obtain⟨p1,p2,p3⟩:=hr.gM _ o' sV;exact⟨.inr (.inl ⟨k,o,hk,rfl⟩),p2,(b0L hw p3).ren (λ_ _=>rfl) q2⟩
  .obtain⟨o1,h1,_⟩:=inst k o hk;obtain⟨o2,h2,_⟩:=inst k' o' hk';exact c8A k k' (inK k o hk).1 (inK k' o' hk').1 (hr.inj _ _ o1 o2 h1 h2 he)
  .have:=f2Q.1 (f2Q.1 kl c hc) _ hl';exact Option.isSome_iff_exists.1 this
  .have ho:=t2 i (oN K ls c) v (by rw[f2X,hc];rfl) yA;refine⟨λl hl' u hu=>?_,?_,λk o hk=>?_⟩
   .have hn:=f2Q.1 (f2Q.1 kn c (f2S hc)) l hl';cases l with
    |t j=>
     simp only at hn;split at hn
     .rename_i t hj;simp only[decide_eq_true_eq]at hn;have ht:t<a.tmps.size:=by rw[hr.size];exact hn
      have hlv:bZ a w μ (.t t)=some a.tmps[t]:=by simp[bZ,ht]
      have h1:=a6a j _ hj _ hlv;have h2:=ho.dF (.t t) (List.mem_filterMap.2 ⟨.t j,hl',by simp[b1J,hj]⟩) _ hlv;simp only[bZ]at hu;have h3:args.getD j undef=u:=by simp[f2P,hu]
      rw[<-h3, <- h1,h2]
     .cases hn
    |c k off=>exact ho.dF (.c (rk K k) off) (List.mem_filterMap.2 ⟨.c k off,hl',rfl⟩) u hu
   .rcases ho.own with h|⟨g,n,cap,cur,h0,h1,h2,h3,h4⟩
    .exact .inl h
    .by_cases xZ:cap=0
     .subst xZ;have:n=0:=by omega
      subst this;exact .inl ⟨_,h0⟩
     .exact .inr ⟨g,n,cap,cur,h0,.inr (.inr ⟨v,f2S yA,by rw[h0];simp[bF,xZ]⟩),h2,h3,h4⟩
   .obtain⟨o',sV,_⟩:=inst k o hk;exact ho.keys _ o' sV
 refine(hch mC R (λk=>μ (rk K k)) args w a1C).mono λe w' ⟨v,R',ν,he,b1L,hs⟩=>⟨v,R',μ,he,?_,⟨hs.below.mono sub,hs.mono,λb o h1 h2=>sub b (hs.new b o h1 h2),hs.cells⟩⟩;have hsb:Step base R w R' w':=⟨hs.below.mono sub,hs.mono,λb o h1 h2=>sub b (hs.new b o h1 h2),hs.cells⟩;have hν:∀k,(K.any λp=>p.1==k)=true->ν k=μ (rk K k):=λk hk=>b1L.pass k (big k hk);have k1':∀p∈H1,aM K p.2=true/\(∃o,getKey p.1 s0.H=some o)/\getKey p.1 H1=some p.2:=λp hp=>by
  have:=k1 p hp
  try simp only[f2N]at this
  exact⟨this.1,Option.isSome_iff_exists.1 this.2,getKey_of_mem kd hp⟩
 have kept:∀b, ¬mC b->w'.heap[b]? =w.heap[b]? /\∀off,R' b off->R b off:=λb hb=>⟨hs.below.block b hb,λoff h=>by
  by_cases hx:R b off
  .exact hx
  .exact absurd (hs.new b off h hx) hb⟩
 have c2g:∀k o,(∀p∈H1,k≠rk K p.1)->getKey k st.H=some o-> ¬mC (μ k):=λk o hk ho hb=>by
  rcases hb with hb|⟨k0,o0,h0,he'⟩|⟨u,hu,hsp⟩
  .have:=(hr.gM k o ho).2.2.lt;omega
  .obtain⟨o',sV,_⟩:=inst k0 o0 h0;have:=hr.inj k (rk K k0) o o' ho sV he';obtain⟨o1,ho1⟩:=Option.isSome_iff_exists.1 (inK k0 o0 h0).2.2;exact hk (k0,o1) (gQ ho1) this
  .obtain⟨i,hi⟩:=f3e hu;have tT:i<(s0.own.map (oN K ls)).length:=by rw[<-t1];exact(f2O.1 hi).1
   exact(t2 i _ u (f2R tT) hi).keys k o ho hsp
 have known:∀k o,getKey k (bO K H1 st.H)=some o->∃o',getKey k st.H=some o':=λk o hk=>by
  rcases wG hk with⟨p,hp,rfl,_⟩|⟨_,h⟩
  .obtain⟨_,⟨o0,h0⟩,_⟩:=k1' p hp;obtain⟨o',sV,_⟩:=inst _ _ h0;exact⟨o',sV⟩
  .exact⟨o,h⟩
 obtain⟨vs1,hv1⟩:=b1L.own;have hd0:∀u,(#[v]:Array Value)[0]? =some u->u=v:=λu hu=>by simp at hu;exact hu.symm
 refine⟨by cases dst<;>exact hr.defers,?_,λi u d hu hd=>?_,λk o hk=>?_,λk k' o o' hk hk' he'=>?_,λc hc k off hl'=>?_,⟨vs1++vsR,?_,λi c u hc hu=>?_,?_⟩,hr.tP.bK hsb,b1L.pE,λb hb=>hr.base b (Nat.le_trans hs.below.size hb),hr.pass⟩
 .cases dst with
  |none=>exact hr.size
  |some t=>simp[bE,mG,Act.put,hr.size]
 ·
  have kC:TV R' μ w' v (bD K r):=(b1L.tmps 0 v r rfl rfl).b4O hν kr;cases dst with
  |none=>exact(hr.tmps i u d hu hd).bK hsb
  |some t=>
   simp only[bE,mG,Act.put]at hu hd;by_cases hti:t=i
   .subst hti;have h1:t<st.tmps.length:=by
     by_cases aI:t<st.tmps.length
     .exact aI
     .have sI:(st.tmps.set t (bD K r))[t]? =none:=List.getElem?_eq_none (by rw[List.length_set];exact Nat.le_of_not_lt aI);rw[sI]at hd;cases hd
    have h2:t<a.tmps.size:=by rw[hr.size];exact h1
    simp[h1]at hd;simp[h2]at hu;subst hu hd;exact kC
   .rw[Array.getElem?_setIfInBounds_ne hti]at hu;rw[List.getElem?_set_ne hti]at hd;exact(hr.tmps i u d hu hd).bK hsb
 ·
  simp only[bE]at hk;rcases wG hk with⟨p,hp,rfl,rfl⟩|⟨hk1,xF⟩
  .obtain⟨q1,⟨o0,h0⟩,q3⟩:=k1' p hp;obtain⟨p1,p2,p3⟩:=b1L.gM p.1 p.2 q3;have hk0:=(inK _ _ h0).1;rw[hν _ hk0]at p1 p2 p3;exact⟨sub _ p1,p2,p3.b4O hν q1⟩
  .obtain⟨p1,p2,p3⟩:=hr.gM k o xF;obtain⟨e1,e2⟩:=kept _ (c2g k o hk1 xF);exact⟨p1,λoff h=>p2 off (e2 off h),p3.bK hsb e1⟩
 .obtain⟨o1,h1⟩:=known k o hk;obtain⟨o2,h2⟩:=known k' o' hk';exact hr.inj k k' o1 o2 h1 h2 he'
 ·
  simp only[bE,List.mem_append]at hc;rcases hc with hc|hc
  .obtain⟨c0,xZ,rfl⟩:=List.mem_map.1 hc;obtain⟨l0,hl0,he0⟩:=List.mem_filterMap.1 hl';cases l0 with
   |t j=>
    simp only[eS]at he0;split at he0
    .cases dst<;>simp at he0
    .cases he0
   |c k0 uC=>simp only[eS,f2T]at he0;cases he0;obtain⟨o,ho⟩:=b1L.dF c0 xZ k0 off hl0;have hm:=gQ ho;obtain⟨_,⟨o0,h0⟩,_⟩:=k1' _ hm;obtain⟨o',sV,_⟩:=inst _ _ h0;exact a3N ⟨o',sV⟩
  .obtain⟨i,hi⟩:=f3e hc;obtain⟨c1,g1,_,g3⟩:=a9J hi;obtain⟨c2,f1,_,f3⟩:=b1K g1;have hx:=(f3 _ (g3 _ hl').1).1;have e6C:=f2S f1;obtain⟨o,ho⟩:=hr.dF c2 (a4H kF c2 e6C) k off hx;exact a3N ⟨o,ho⟩
 .have:=hv1.len;have:=t4.len;simp only[bE,List.length_append,List.length_map,b9p,c2f];simp at *;omega
 ·
  simp only[bE]at hc;have h1l:vs1.length=dZ.length:=hv1.len;by_cases hi:i<dZ.length
  .rw[f2Y (by simpa using hi),f2X]at hc;rw[f2Y (by omega)]at hu;obtain⟨c0,xZ,rfl⟩:=f2M.1 hc;have ho:=hv1.one i c0 u xZ hu;refine⟨λl hl' u' hu'=>?_,ho.own.mono sub,λk o hk=>?_⟩
   .obtain⟨l0,hl0,he0⟩:=List.mem_filterMap.1 hl';cases l0 with
    |t j=>
     simp only[eS]at he0;split at he0
     .rename_i hj;subst hj;cases dst with
      |none=>simp at he0
      |some t=>
       simp at he0;subst he0;simp only[bZ,Act.put]at hu';by_cases aI:t<a.tmps.size
       .simp[aI]at hu';subst hu';exact ho.dF (.t 0) hl0 _ (by simp[bZ])
       .simp[aI]at hu'
     .cases he0
    |c k0 uC=>simp only[eS,f2T]at he0;subst he0;obtain⟨o,hoo⟩:=b1L.dF c0 (f2S xZ) k0 uC hl0;obtain⟨_,⟨o0,h0⟩,_⟩:=k1' _ (gQ hoo);have hk0:=(inK _ _ h0).1;refine ho.dF (.c k0 uC) hl0 u' ?_;simp only[bZ]at hu' |-;rw[hν _ hk0];cases dst<;>exact hu'
   .simp only[bE]at hk;rcases wG hk with⟨p,hp,rfl,_⟩|⟨hk1,xF⟩
    .obtain⟨_,⟨o0,h0⟩,q3⟩:=k1' p hp;have:=ho.keys p.1 p.2 q3;rw[hν _ (inK _ _ h0).1]at this;exact this
    .intro hsp;exact c2g k o hk1 xF (ho.own.a0l hsp)
  .rw[f2V (by simp;omega)]at hc;rw[f2V (by omega)]at hu;simp only[List.length_map]at hc;rw[h1l]at hu;obtain⟨c1,g1,g2,g3⟩:=a9J hc;obtain⟨c2,f1,f2,f3⟩:=b1K g1;have ho:=t4.one _ c2 u f1 hu;have hum:=f2S hu;have out:∀g,bF u=some g-> ¬mC g:=λg hg hb=>by
    rcases hb with hb|⟨k0,o0,h0,he'⟩|⟨x,hx,hsp⟩
    .have:=ho.own.lt hg;omega
    .obtain⟨o',sV,_⟩:=inst k0 o0 h0;exact ho.keys _ o' sV (by rw[hg,he'])
    .exact t5 x hx u hum g hsp hg
   refine⟨λl hl' u' hu'=>?_,?_,λk o hk=>?_⟩
   .obtain⟨q1,q2⟩:=g3 l hl';obtain⟨q3,q4⟩:=f3 l q1;refine ho.dF l q3 u' ?_;rw[a5n q2]at hu';cases l with
    |t j=>exact hu'
    |c k off=>
     obtain⟨o,hoo⟩:=hr.dF c2 (a4H kF c2 (f2S f1)) k off q3;have sI:∀p∈H1,k≠rk K p.1:=λp hp e=>by obtain⟨_,⟨o0,h0⟩,_⟩:=k1' p hp;obtain⟨q,hq1,hq2,hq3⟩:=zF (inK _ _ h0).1;have:=q4 q hq1;simp[Loc.wN,e,hq3]at this
     rw[<-hu'];exact(World.cell?_of_block (kept _ (c2g k o sI hoo)).1).symm
   .have:oK P base R' w' c2.1 u:=ho.own.c3r (λg hg=>(kept g (out g hg)).1) (λg off hg h=>(kept g (out g hg)).2 off h);rw[g2,f2];exact this
   .obtain⟨o',sV⟩:=known k o hk;exact ho.keys k o' sV
 .refine List.pairwise_append.2 ⟨hv1.apart,t4.apart,λx hx y hy g hg hg'=>?_⟩;obtain⟨i,hi⟩:=f3e hx;have tT:i<dZ.length:=by rw[<-hv1.len];exact(f2O.1 hi).1
  have hb:=(hv1.one i _ x (f2R tT) hi).own.a0l hg;obtain⟨j,hj⟩:=f3e hy;have xU:j<rest.length:=by rw[<-t4.len];exact(f2O.1 hj).1
  have ho:=t4.one j _ y (f2R xU) hj;rcases hb with hb|⟨k0,o0,h0,he'⟩|⟨z,hz,hsp⟩
  .have:=ho.own.lt hg';omega
  .obtain⟨o',sV,_⟩:=inst k0 o0 h0;exact ho.keys _ o' sV (by rw[hg',he'])
  .exact t5 z hz y hy g hsp hg'
where
 a4G {α β:Type} {f:α->β}:∀ {l:List α},(l.map f).Nodup->∀ {x y:α},x∈l->y∈l->f x=f y->x=y
  |z::l,hn,x,y,hx,hy,he=>by
   simp only[List.map_cons,List.nodup_cons,List.mem_map,not_exists,not_and]at hn;rcases List.mem_cons.1 hx with h1|h1
   .rcases List.mem_cons.1 hy with h2|h2
    .rw[h1,h2]
    .exact absurd (by rw[<-he,h1]) (hn.1 y h2)
   .rcases List.mem_cons.1 hy with h2|h2
    .exact absurd (by rw[he,h2]) (hn.1 x h1)
    .exact a4G hn.2 h1 h2 he
 b9r {c:TypeId×List Loc} {own dZ:List (TypeId×List Loc)} (h:yE c own=some dZ):∀x∈dZ,x∈own:=λx hx=>by obtain⟨pre,c0,post,rfl,rfl,_,_⟩:=a2d h;simp at hx|-;rcases hx with hx|hx<;>simp[hx]
 a4H {s:St}:∀ {cs own dZ:List (TypeId×List Loc)},tH s own cs=some dZ->∀x∈dZ,x∈own
  |[],own,dZ,h,x,hx=>by simp only[tH,f2T]at h;subst h;exact hx
  |c::r,own,dZ,h,x,hx=>by
   unfold tH at h;split at h
   .exact a4H h x hx
   .split at h
    .rename_i e2O ht;exact b9r ht x (a4H h x hx)
    .cases h
theorem eR.mk{q ro:Bool}{ls:List (Option Loc)}{f:FuncId}{s0:St}{r:DV}{H1:List (Nat×aW)}{dZ:List (TypeId×List Loc)}{f2L:List DV}{dst:Option Tmp}{all:Array Oper}{ops:List Oper}{k:List KI}{Q:Exit->St->Prop}{rest:List (TypeId×List Loc)}(he:Enters P f)(hch:CH P G f s0 ⟨[r],H1,dZ⟩)(K:List (Nat×Nat))(jB:aK K s0 r H1=true)(kR:WkT f2L (aO K s0.tmps))(hH:WkH st.H (cI K s0.H))(kF:tH st st.own (s0.own.map (oN K ls))=some rest)(b3V:xJ st.tmps.length ls s0.own=true)(h:VK P G (.ops q all ops::k) .normal (bE K dst st rest r H1 dZ) Q)(hro:ro=false:=by kernel_rfl):eR P G q ro f f2L ls dst all ops k st Q:=eR.mk' ⟨_,⟨he,mP.a9K hch K jB kR hH kF b3V⟩,h⟩ hro
theorem aE.own{q ro qn:Bool}{ls:List (Option Loc)}{f:FuncId}{s0:St}{r:DV}{dZ:List (TypeId×List Loc)}{ds:List D}{dst:Option Tmp}{all:Array Oper}{ops:List Oper}{k:List KI}{Q:Exit->St->Prop}{rest:List (TypeId×List Loc)}(he:Enters P f)(hch:CH P G f s0 ⟨[r],[],dZ⟩)(jB:aK [] s0 r []=true)(kR:WkT (ds.map .d) (aO [] s0.tmps))(hH:WkH st.H (cI [] s0.H))(kF:tH st st.own (s0.own.map (oN [] ls))=some rest)(b3V:xJ st.tmps.length ls s0.own=true)(h:VK P G (.ops q all ops::k) .normal (bE [] dst st rest r [] dZ) Q)(hro:ro=false:=by kernel_rfl):aE P G q ro qn f ds ls dst all ops k st Q:=aE.dP ⟨_,⟨he,mP.a9K hch [] jB kR hH kF b3V⟩,h⟩ hro
theorem a9L{k:Nat}{o:aW}:∀ {H:List (Nat×aW)},getKey k H=some o->yV k o H=H
 |[],h=>by simp[getKey]at h
 |(k',o')::r,h=>by
  unfold getKey at h;unfold yV;split at h
  .rename_i he;cases h;subst he;simp
  .rename_i he;rw[if_neg he,a9L h]
theorem b9s{k:Nat}{o:aW}{H:List (Nat×aW)}(h:getKey k H=some o):bU k o H=H:=by unfold bU;rw[h];exact a9L h
theorem a7p{K:List (Nat×Nat)}:∀ {l H:List (Nat×aW)},(∀p∈l,getKey (rk K p.1) H=some (cQ K p.2))->bO K l H=H
 |[],H,_=>rfl
 |p::r,H,h=>by unfold bO;rw[b9s (h p (.head _))];exact a7p λq hq=>h q (.tail _ hq)
theorem b6A{k:Nat}{ks:List Nat}{own:List (TypeId×List Loc)}(hk:k∈ks)(h:jW ks own=true):dropKey k own=own:=by
 unfold dropKey
 conv=>rhs;rw[<-List.map_id own]
 refine List.map_congr_left λc hc=>?_;have h1:=f2Q.1 h c hc;have:c.2.filter (λx=> !x.wN k)=c.2:=List.filter_eq_self.2 λl hl=>by
  have h2:=f2Q.1 h1 l hl;cases l with
  |t i=>rfl
  |c k' off=>simp only[c7G,Bool.not_eq_true',List.contains_eq_mem,decide_eq_false_iff_not]at h2;simp only[Loc.wN,Bool.not_eq_true',beq_eq_false_iff_ne,ne_eq];exact λe=>h2 (e▸hk)
 rw[this];rfl
theorem a9M:∀ {K:List (Nat×Nat)} {ks:List Nat} {own:List (TypeId×List Loc)},(∀p∈K,p.2∈ks)->jW ks own=true->dQ K own=own
 |[],_,_,_,_=>rfl
 |p::r,ks,own,h,hn=>by unfold dQ;rw[b6A (h p (.head _)) hn];exact a9M (λq hq=>h q (.tail _ hq)) hn
def a5x(H:List (Nat×aW)):List (Nat×aW)->Prop
 |[]=>True
 |p::r=>getKey p.1 H=some p.2/\a5x H r
theorem b9t:∀l:List DV,WkT l l
 |[]=>trivial
 |d::r=>⟨.inr (.inl rfl),b9t r⟩
theorem b5b{H:List (Nat×aW)}:∀ {l:List (Nat×aW)},a5x H l->WkH H l
 |[],_=>trivial
 |p::r,h=>⟨⟨p.2,h.1,by cases p.2<;>simp[WkO,b9t]⟩,b5b h.2⟩
theorem b1M{H:List (Nat×aW)}{K:List (Nat×Nat)}:∀ {l:List (Nat×aW)},a5x H (cI K l)->∀p∈l,getKey (rk K p.1) H=some (cQ K p.2)
 |q::r,h,p,hp=>by
  rcases List.mem_cons.1 hp with rfl|hp
  .exact h.1
  .exact b1M h.2 p hp
theorem a9N{H H':List (Nat×aW)}{K:List (Nat×Nat)}{ks:List Nat}(ha:∀k∈ks,getKey k H'=getKey k H):∀ {l:List (Nat×aW)},(∀p∈l,rk K p.1∈ks)->a5x H (cI K l)->a5x H' (cI K l)
 |[],_,_=>trivial
 |p::r,hi,h=>⟨(ha _ (hi p (.head _))).trans h.1,a9N ha (λq hq=>hi q (.tail _ hq)) h.2⟩
theorem RO.a9K{f:FuncId}{tmps:List DV}{H0:List (Nat×aW)}{r:DV}{f2L:List DV}{H:List (Nat×aW)}(hch:CH P G f ⟨tmps,H0,[]⟩ ⟨[r],H0,[]⟩)(K:List (Nat×Nat))(jB:aK K ⟨tmps,H0,[]⟩ r H0=true)(kR:WkT f2L (aO K tmps))(hH:a5x H (cI K H0)):RO P G f f2L (K.map (·.2)) H (bD K r):=by
 intro st mM sI dst ls;have hin:∀p∈H0,rk K p.1∈K.map (·.2):=λp hp=>by simp only[aK,f2N,f2Q]at jB;obtain⟨⟨⟨⟨⟨_,hh⟩,_⟩,_⟩,_⟩,_⟩:=jB;obtain⟨q,q1,q2,q3⟩:=zF (hh p hp).1.1;rw[q3];exact List.mem_map_of_mem q1
 have hH:a5x st.H (cI K H0):=a9N mM hin hH;have h:=mP.a9K (st:=st) (dst:=dst) (ls:=ls) hch K jB kR (b5b hH) (rest:=st.own) rfl rfl;have he:bE K dst st st.own r H0 []=finish st dst (bD K r) .no:=by unfold bE;rw[a7p (b1M hH),a9M (ks:=K.map (·.2)) (λp hp=>List.mem_map_of_mem hp) sI];cases dst<;>rfl
 rw[<-he];exact h
theorem eR.ro{q ro:Bool}{ls:List (Option Loc)}{f:FuncId}{tmps:List DV}{H0:List (Nat×aW)}{r:DV}{f2L:List DV}{dst:Option Tmp}{all:Array Oper}{ops:List Oper}{k:List KI}{Q:Exit->St->Prop}(he:Enters P f)(hch:CH P G f ⟨tmps,H0,[]⟩ ⟨[r],H0,[]⟩)(K:List (Nat×Nat))(jB:aK K ⟨tmps,H0,[]⟩ r H0=true)(kR:WkT f2L (aO K tmps))(hH:a5x st.H (cI K H0))(sI:jW (K.map (·.2)) st.own=true)(hks:((K.map (·.2)).all λk=>(getKey k st.H).isSome)=true)(h:VK P G (.ops q all ops::k) .normal (finish st dst (bD K r) .no) Q)(hkl:qM (bD K r)=true:=by rfl):eR P G q ro f f2L ls dst all ops k st Q:=eR.ro' he (RO.a9K hch K jB kR hH) sI hks hkl h
end
attribute [simp] b1J oN xJ a5x jW c7G bE bD aO rk cQ cI eS gP dQ bO mG kK tH aK aP aL aM a9I a8E c3M a0x c8z
end Go.VM
end
end
section
section
namespace Go.Proofs.YtjpodcmhcenjjaaGreatDoor
open Go Go.VM
variable {G:GT}
def inB(n:Int):Bool:=decide (-1000000000000<=n)&&decide (n<=1000000000000)
theorem b9u:VM.Enters prog 228:=.mk func228 rfl
theorem a0Z:VM.Enters prog 206:=.mk func206 rfl
theorem c3O(n:Int):CS prog G 228 [.int .i64 n] (.d (.bool (inB n))) none:=by refine CS.aZ func228 rfl ntmps228 rfl ?_;by_cases h: -1000000000000<=n<;>simp[inB,h]
def chk(n:Int)(ok:Bool):Int×Bool:=if ok&&inB n then(n,true) else(0,false)
theorem a2h(n:Int)(ok:Bool):CS prog G 206 [.int .i64 n,.bool ok] (.cJ [.int .i64 (chk n ok).1,.bool (chk n ok).2]) none:=by
 refine CS.aZ func206 rfl ntmps206 rfl ?_;cases ok
 .simp[chk]
 .simp;refine aE.mk b9u (c3O _) ?_;cases h:inB n<;>simp[chk,h]
end Go.Proofs.YtjpodcmhcenjjaaGreatDoor
end
section
namespace Go.Proofs.YtjpodcmhcenjjaaGreatDoor
open Go Go.VM
def vM(c:UInt8):Bool:=decide (48<=c.toNat)&&decide (c.toNat<=57)
def c2h(a:Nat)(l:List UInt8):Nat:=l.foldl (λa c=>10*a+(c.toNat-48)) a
def kL(l:List UInt8):Nat:=c2h 0 l
theorem b5c(l:List UInt8)(c:UInt8):kL (l++[c])=10*kL l+(c.toNat-48):=by simp[kL,c2h]
theorem a7q:kL []=0:=rfl
theorem yR{l:List UInt8}{i:Nat}(h:i<l.length):kL (l.take (i+1))=10*kL (l.take i)+(l[i].toNat-48):=by rw[f3c h,b5c]
theorem uD{c:UInt8}:vM c=true↔48<=c.toNat/\c.toNat<=57:=by simp[vM]
def a8F(s:List UInt8):Bool:=decide (s.head? =some 45)
def pA(s:List UInt8):List UInt8:=if a8F s then s.tail else s
def sgn(b:Bool)(v:Nat):Int:=if b then -(v:Int) else v
def pU(s:List UInt8):Bool:=decide (1<=(pA s).length)&&decide ((pA s).length<=13)&& !(decide ((pA s).head? =some 48)&&(a8F s||decide (1<(pA s).length)))
def pL(s:List UInt8):Int×Bool:=if pU s&&(pA s).all vM then chk (sgn (a8F s) (kL (pA s))) true else(0,false)
theorem yS{s:List UInt8}(h:(pA s).all vM=false):pL s=(0,false):=by simp[pL,h]
end Go.Proofs.YtjpodcmhcenjjaaGreatDoor
end
section
namespace Go.Proofs
open Go.Shelf
def a9O:Go.Shelf.Ren:=⟨λ|156=>265|165=>274|166=>275|169=>276|240=>283|241=>284|276=>288|277=>289|n=>n,λ|31=>39|9=>9|3=>3|4=>4|0=>0|20=>20|72=>270|76=>274|70=>267|37=>268|75=>273|127=>277|164=>278|5=>5|80=>132|n=>n,λ|n=>n⟩
theorem c3P:Go.Proofs.Lays.n156 prog a9O:={
 mixed:=by kernel_rfl
 f156:=func265.trans (congrArg some (by kernel_rfl))
 f165:=func274.trans (congrArg some (by kernel_rfl))
 f166:=func275.trans (congrArg some (by kernel_rfl))
 f169:=func276.trans (congrArg some (by kernel_rfl))
 f240:=func283.trans (congrArg some (by kernel_rfl))
 f241:=func284.trans (congrArg some (by kernel_rfl))
 f276:=func288.trans (congrArg some (by kernel_rfl))
 f277:=func289.trans (congrArg some (by kernel_rfl))
 t0:=underlying0
 a0:=isAgg0
 z0:=sizeOf0
 v0:=zeroValue0
 t3:=underlying3
 a3:=isAgg3
 z3:=sizeOf3
 v3:=zeroValue3
 t4:=underlying4
 a4:=isAgg4
 z4:=sizeOf4
 v4:=zeroValue4
 t9:=underlying9
 a9:=isAgg9
 z9:=sizeOf9
 v9:=zeroValue9
 t20:=underlying20
 a20:=isAgg20
 z20:=sizeOf20
 v20:=zeroValue20
 t31:=underlying39
 a31:=isAgg39
 z31:=sizeOf39
 v31:=zeroValue39
 t37:=underlying268
 a37:=isAgg268
 z37:=sizeOf268
 v37:=zeroValue268
 t70:=underlying267
 a70:=isAgg267
 z70:=sizeOf267
 v70:=zeroValue267
 t72:=underlying270
 a72:=isAgg270
 z72:=sizeOf270
 v72:=zeroValue270
 t75:=underlying273
 a75:=isAgg273
 z75:=sizeOf273
 v75:=zeroValue273
 t76:=underlying274
 a76:=isAgg274
 z76:=sizeOf274
 v76:=zeroValue274
 t127:=underlying277
 a127:=isAgg277
 z127:=sizeOf277
 v127:=zeroValue277
 t164:=underlying278
 a164:=isAgg278
 z164:=sizeOf278
 v164:=zeroValue278}
theorem a0y:Builder.Extra prog a9O:={
 sizeBuilder:=by kernel_rfl
 liesBuilder:=by kernel_rfl
 t5:=underlying5
 a5:=isAgg5
 z5:=sizeOf5
 v5:=zeroValue5
 infoByte:=by kernel_rfl
 cellsByte:=by kernel_rfl
 sizeByte:=by kernel_rfl
 neB5:=by decide}
open Go.RowKit in
theorem strings_Join_none(a:Option Addr)(c:Nat)(sep:ByteArray)(w:World):
  Calls prog 265 #[.slice a 0 c,.string sep] w λe w'=>e=.returned (.string ⟨#[]⟩)/\w'=w:=Any.strings_Join_none c3P a0y a c sep w
open Go.RowKit in
theorem strings_Join(bk o c:Nat)(xs:List ByteArray)(sep:ByteArray)(w:World)(d9I:∀(j:Nat) x,xs[j]? =some x->w.cell? ⟨bk,o+j,none⟩=some (.string x))(hbk:bk<w.heap.size)(hN:xs.length<=140737488355328)(b1e:xs.length<=c)(hlen:(Lib.join (xs.map (·.data.toList)) sep.data.toList).length<=140737488355328):
  Calls prog 265 #[.slice (some ⟨bk,o,none⟩) xs.length c,.string sep] w λe w'=>e=.returned (.string ⟨(Lib.join (xs.map (·.data.toList)) sep.data.toList).toArray⟩)/\Below w.heap.size w w':=Any.strings_Join c3P a0y bk o c xs sep w d9I hbk hN b1e hlen
def b9v:Go.Shelf.Ren:=⟨λ|161=>188|231=>202|227=>203|233=>204|235=>205|228=>225|197=>226|151=>227|260=>245|152=>246|137=>260|119=>261|224=>262|225=>263|217=>270|266=>281|n=>n,λ|9=>9|4=>4|3=>3|5=>5|117=>212|116=>211|0=>0|124=>215|105=>229|21=>21|119=>257|46=>258|139=>261|138=>260|n=>n,λ|3=>2|4=>3|n=>n⟩
theorem d4n:Go.Proofs.Lays.n161 prog b9v:={
 mixed:=by kernel_rfl
 f119:=func261.trans (congrArg some (by kernel_rfl))
 f137:=func260.trans (congrArg some (by kernel_rfl))
 f151:=func227.trans (congrArg some (by kernel_rfl))
 f152:=func246.trans (congrArg some (by kernel_rfl))
 f161:=func188.trans (congrArg some (by kernel_rfl))
 f197:=func226.trans (congrArg some (by kernel_rfl))
 f217:=func270.trans (congrArg some (by kernel_rfl))
 f224:=func262.trans (congrArg some (by kernel_rfl))
 f225:=func263.trans (congrArg some (by kernel_rfl))
 f227:=func203.trans (congrArg some (by kernel_rfl))
 f228:=func225.trans (congrArg some (by kernel_rfl))
 f231:=func202.trans (congrArg some (by kernel_rfl))
 f233:=func204.trans (congrArg some (by kernel_rfl))
 f235:=func205.trans (congrArg some (by kernel_rfl))
 f260:=func245.trans (congrArg some (by kernel_rfl))
 f266:=func281.trans (congrArg some (by kernel_rfl))
 t0:=underlying0
 a0:=isAgg0
 z0:=sizeOf0
 v0:=zeroValue0
 t3:=underlying3
 a3:=isAgg3
 z3:=sizeOf3
 v3:=zeroValue3
 t4:=underlying4
 a4:=isAgg4
 z4:=sizeOf4
 v4:=zeroValue4
 t5:=underlying5
 a5:=isAgg5
 z5:=sizeOf5
 v5:=zeroValue5
 t9:=underlying9
 a9:=isAgg9
 z9:=sizeOf9
 v9:=zeroValue9
 t21:=underlying21
 a21:=isAgg21
 z21:=sizeOf21
 v21:=zeroValue21
 t46:=underlying258
 a46:=isAgg258
 z46:=sizeOf258
 v46:=zeroValue258
 t105:=underlying229
 a105:=isAgg229
 z105:=sizeOf229
 v105:=zeroValue229
 t116:=underlying211
 a116:=isAgg211
 z116:=sizeOf211
 t117:=underlying212
 a117:=isAgg212
 z117:=sizeOf212
 v117:=zeroValue212
 t119:=underlying257
 a119:=isAgg257
 z119:=sizeOf257
 t124:=underlying215
 a124:=isAgg215
 z124:=sizeOf215
 v124:=zeroValue215
 t138:=underlying260
 a138:=isAgg260
 z138:=sizeOf260
 v138:=zeroValue260
 t139:=underlying261
 a139:=isAgg261
 z139:=sizeOf261
 v139:=zeroValue261
 g3:=by kernel_rfl
 g4:=by kernel_rfl}
open Go.RowKit in
theorem strings_TrimLeft_one(s:ByteArray)(c:UInt8)(hc:c.toNat<128)(w:World):
  Calls prog 188 #[.string s,.string ⟨#[c]⟩] w λe w'=>e=.returned (.string ⟨(Lib.trimLeftB s.data.toList c).toArray⟩)/\w'=w:=Any.strings_TrimLeft_one d4n s c hc w
def d7g:Go.Shelf.Ren:=⟨λ|206=>190|n=>n,λ|9=>9|4=>4|3=>3|n=>n,λ|n=>n⟩
def c2i:Go.Shelf.Ren:=⟨λ|99=>165|206=>190|n=>n,λ|9=>9|4=>4|3=>3|n=>n,λ|n=>n⟩
theorem d9J:Go.Proofs.Lays.n99 prog c2i:={
 mixed:=by kernel_rfl
 f99:=func165.trans (congrArg some (by kernel_rfl))
 f206:=func190.trans (congrArg some (by kernel_rfl))
 t3:=underlying3
 a3:=isAgg3
 z3:=sizeOf3
 v3:=zeroValue3
 t4:=underlying4
 a4:=isAgg4
 z4:=sizeOf4
 v4:=zeroValue4
 t9:=underlying9
 a9:=isAgg9
 z9:=sizeOf9
 v9:=zeroValue9}
open Go.RowKit Go.Lib in
theorem strings_HasPrefix(s p:ByteArray)(w:World):
  Calls prog 165 #[.string s,.string p] w λe w'=>e=.returned (.bool (Lib.hasPrefix s.data.toList p.data.toList))/\w'=w:=Any.strings_HasPrefix d9J s p w
end Go.Proofs
end
section
namespace Go.Proofs.YtjpodcmhcenjjaaGreatDoor
open Go Go.VM
variable {G:GT}
theorem b9w:VM.Enters prog 189:=.mk func189 rfl
theorem c8C{c:UInt8}(h:vM c=true):IntKind.i64.wrap (IntKind.u8.wrap ((c.toNat:Int)-48))=((c.toNat-48:Nat):Int):=by
 have:=uD.1 h;have e:IntKind.u8.wrap ((c.toNat:Int)-48)=((c.toNat-48:Nat):Int):=by unfold IntKind.wrap;simp[IntKind.bits,IntKind.signed];omega
 rw[e];exact wrap64 (by omega)
theorem a2i:∀(n:Nat) (l:List UInt8),l.length=n->(∀c∈l,vM c=true)->kL l<10 ^ n:=by
 intro n
 induction n with
 |zero=>intro l hl _;rw[List.length_eq_zero_iff.1 hl];simp[a7q]
 |succ n ih=>
  intro l hl h;have dX:l≠[]:=λe=>by rw[e]at hl;simp at hl
  have hs:=List.dropLast_concat_getLast dX;have hc:=uD.1 (h _ (List.getLast_mem dX));have:=ih l.dropLast (by simp;omega) λc hc=>h c (List.dropLast_subset _ hc);rw[<-hs,b5c,Nat.pow_succ];omega
theorem c8D{s:List UInt8}(h:0<s.length):a8F s=decide (s[0].toNat=45):=by
 cases s with
 |nil=>simp at h
 |cons c r=>simp only[a8F,List.head?_cons,f2T,List.getElem_cons_zero];have:c=45↔c.toNat=45:=⟨λe=>by rw[e];rfl,λe=>UInt8.toNat.inj (by simpa using e)⟩;simp[this]
theorem c3Q{s:List UInt8}(h:0<s.length):(s.head? =some 48)↔s[0].toNat=48:=by
 cases s with
 |nil=>simp at h
 |cons c r=>simp only[List.head?_cons,f2T,List.getElem_cons_zero];exact⟨λe=>by rw[e];rfl,λe=>UInt8.toNat.inj (by simpa using e)⟩
theorem c2j(s:List UInt8):CS prog G 189 [.str s] (.cJ [.int .i64 (pL s).1,.bool (pL s).2]) none:=by
 refine CS.aZ func189 rfl ntmps189 rfl ?_;by_cases h0:0<s.length;rotate_left
 .have:s=[]:=List.length_eq_zero_iff.1 (by omega);subst this;simp[pL,pU,pA,a8F]
 by_cases hc:s[0].toNat=45
 .obtain⟨ds,hds⟩:∃ds,s.tail=ds:=⟨_,rfl⟩;have a7r:a8F s=true:=by rw[c8D h0];simp[hc]
  have mZ:pA s=ds:=by unfold pA;rw[a7r, <- hds];simp
  have hle:1<=s.length:=h0;simp[h0,hc,hds,hle];by_cases e0:ds.length=0
  .first
   |(exfalso;omega;done)
   |(have hf:pU s=false:=by unfold pU;rw[mZ];simp[e0]
     have e1:ds=[]:=List.length_eq_zero_iff.1 e0;simp[mZ,e1,pL,hf])
  have e1:0<ds.length:=by omega
  have e2: ¬ds=[]:=λe=>e0 (by rw[e];rfl);by_cases hl:13<ds.length
  .have hf:pU s=false:=by unfold pU;rw[mZ];simp;omega
   simp[mZ,e0,e2,hl,pL,hf]
  have hh:=c3Q e1;by_cases hd:ds[0].toNat=48
  .have hf:pU s=false:=by simp[pU,mZ,a7r,hh.2 hd]
   simp[e0,e1,e2,hl,hd,pL,hf]
  have hd': ¬ds.head? =some 48:=λe=>hd (hh.1 e);have a5y:pU s=true:=by simp[pU,mZ,a7r,hd'];omega
  simp[e0,e1,e2,hl,hd];have hlen:ds.length<=13:=by have:=a5y;simp only[pU,f2N,decide_eq_true_eq,mZ]at this;exact this.1.2
  refine SW.eL (ι:={i:Nat//i<=ds.length/\∀c∈ds.take i,vM c=true}) (λi=>[(6,.d (.int .i64 (kL (ds.take i.1):Nat))),(43,.d (.int .i64 i.1))]) (λ_=>[]) (λ_=>[]) (λi=>ds.length-i.1) ⟨0,by simp⟩ (by simp[a7q]) ?_;rintro⟨i,hi,ht⟩;by_cases aI:i<ds.length
  .have hw:=bC (show i<9223372036854775807 by omega);by_cases hd:vM ds[i]=true
   .have hv:=a2i _ (ds.take (i+1)) rfl λc hc=>by
     rw[f3c aI]at hc;rcases List.mem_append.1 hc with hc|hc
     .exact ht c hc
     .rw[f2U]at hc;rw[hc];exact hd
    have hp:10 ^ (ds.take (i+1)).length<=10 ^ 13:=Nat.pow_le_pow_right (by omega) (by simp;omega);rw[yR aI]at hv;have hdd:=uD.1 hd;have h48: ¬ds[i].toNat<48:=by omega
    have h57: ¬57<ds[i].toNat:=by omega
    have w1:IntKind.i64.wrap (10*((kL (ds.take i):Nat):Int))=10*((kL (ds.take i):Nat):Int):=wrap64 (by omega);have w2:=c8C hd;have w3:IntKind.i64.wrap (10*((kL (ds.take i):Nat):Int)+((ds[i].toNat-48:Nat):Int))=((kL (ds.take (i+1)):Nat):Int):=by rw[yR aI,wrap64 (by omega)];simp
    simp[aI,h48,h57,w1,w2,w3];exact bJ.mk ⟨i+1,aI,λc hc=>by
     rw[f3c aI]at hc;rcases List.mem_append.1 hc with hc|hc
     .exact ht c hc
     .rw[f2U]at hc;rw[hc];exact hd⟩ (by simp[hw]) (by simp;omega)
   .have a1D:(pA s).all vM=false:=by
     cases h:(pA s).all vM
     .rfl
     .rw[mZ,f2Q]at h;exact absurd (h _ (List.getElem_mem aI)) hd
    by_cases h48:ds[i].toNat<48
    .simp[aI,h48,yS a1D]
    .have h57:57<ds[i].toNat:=by rw[uD]at hd;omega
     simp[aI,h48,h57,yS a1D]
  .have hi':i=ds.length:=by omega
   subst hi';rw[List.take_length]at ht;have cY:(pA s).all vM=true:=by rw[mZ,f2Q];exact ht
   have hv:=a2i _ ds rfl ht;have hp:10 ^ ds.length<=10 ^ 13:=Nat.pow_le_pow_right (by omega) hlen;have kC:pL s=chk (sgn (a8F s) (kL (pA s))) true:=by simp[pL,a5y,cY]
   rw[a7r,mZ]at kC;simp[sgn]at kC;have w1:IntKind.i64.wrap (-((kL ds:Nat):Int))= -((kL ds:Nat):Int):=wrap64 (by omega);simp[w1];refine aE.mk a0Z (a2h _ _) ?_;simp[kC]
 .have a7r:a8F s=false:=by rw[c8D h0];simp[hc]
  have mZ:pA s=s:=by unfold pA;rw[a7r];rfl
  simp[h0,hc];by_cases e0:s.length=0
  .first
   |(exfalso;omega;done)
   |(have hf:pU s=false:=by unfold pU;rw[mZ];simp[e0]
     have e1:s=[]:=List.length_eq_zero_iff.1 e0;simp[mZ,e1,pL,hf])
  have e1:0<s.length:=by omega
  have e2: ¬s=[]:=λe=>e0 (by rw[e];rfl);by_cases hl:13<s.length
  .have hf:pU s=false:=by unfold pU;rw[mZ];simp;omega
   simp[mZ,e0,e2,hl,pL,hf]
  have hh:=c3Q e1;by_cases hd:s[0].toNat=48
  .by_cases h1:1<s.length
   .have hf:pU s=false:=by simp[pU,mZ,hh.2 hd,h1]
    simp[e0,e1,e2,hl,hd,h1,pL,hf]
   .have a5y:pU s=true:=by simp[pU,mZ,a7r,h1];omega
    simp[e0,e1,e2,hl,hd,h1];have hlen:s.length<=13:=by have:=a5y;simp only[pU,f2N,decide_eq_true_eq,mZ]at this;exact this.1.2
    refine SW.eL (ι:={i:Nat//i<=s.length/\∀c∈s.take i,vM c=true}) (λi=>[(6,.d (.int .i64 (kL (s.take i.1):Nat))),(43,.d (.int .i64 i.1))]) (λ_=>[]) (λ_=>[]) (λi=>s.length-i.1) ⟨0,by simp⟩ (by simp[a7q]) ?_;rintro⟨i,hi,ht⟩;by_cases aI:i<s.length
    .have hw:=bC (show i<9223372036854775807 by omega);by_cases hd:vM s[i]=true
     .have hv:=a2i _ (s.take (i+1)) rfl λc hc=>by
       rw[f3c aI]at hc;rcases List.mem_append.1 hc with hc|hc
       .exact ht c hc
       .rw[f2U]at hc;rw[hc];exact hd
      have hp:10 ^ (s.take (i+1)).length<=10 ^ 13:=Nat.pow_le_pow_right (by omega) (by simp;omega);rw[yR aI]at hv;have hdd:=uD.1 hd;have h48: ¬s[i].toNat<48:=by omega
      have h57: ¬57<s[i].toNat:=by omega
      have w1:IntKind.i64.wrap (10*((kL (s.take i):Nat):Int))=10*((kL (s.take i):Nat):Int):=wrap64 (by omega);have w2:=c8C hd;have w3:IntKind.i64.wrap (10*((kL (s.take i):Nat):Int)+((s[i].toNat-48:Nat):Int))=((kL (s.take (i+1)):Nat):Int):=by rw[yR aI,wrap64 (by omega)];simp
      simp[aI,h48,h57,w1,w2,w3];exact bJ.mk ⟨i+1,aI,λc hc=>by
       rw[f3c aI]at hc;rcases List.mem_append.1 hc with hc|hc
       .exact ht c hc
       .rw[f2U]at hc;rw[hc];exact hd⟩ (by simp[hw]) (by simp;omega)
     .have a1D:(pA s).all vM=false:=by
       cases h:(pA s).all vM
       .rfl
       .rw[mZ,f2Q]at h;exact absurd (h _ (List.getElem_mem aI)) hd
      by_cases h48:s[i].toNat<48
      .simp[aI,h48,yS a1D]
      .have h57:57<s[i].toNat:=by rw[uD]at hd;omega
       simp[aI,h48,h57,yS a1D]
    .have hi':i=s.length:=by omega
     subst hi';rw[List.take_length]at ht;have cY:(pA s).all vM=true:=by rw[mZ,f2Q];exact ht
     have hv:=a2i _ s rfl ht;have hp:10 ^ s.length<=10 ^ 13:=Nat.pow_le_pow_right (by omega) hlen;have kC:pL s=chk (sgn (a8F s) (kL (pA s))) true:=by simp[pL,a5y,cY]
     rw[a7r,mZ]at kC;simp[sgn]at kC;have w1:IntKind.i64.wrap (-((kL s:Nat):Int))= -((kL s:Nat):Int):=wrap64 (by omega);simp[w1];refine aE.mk a0Z (a2h _ _) ?_;simp[kC]
  .have hd': ¬s.head? =some 48:=λe=>hd (hh.1 e);have a5y:pU s=true:=by simp[pU,mZ,hd'];omega
   simp[e0,e1,e2,hl,hd];have hlen:s.length<=13:=by have:=a5y;simp only[pU,f2N,decide_eq_true_eq,mZ]at this;exact this.1.2
   refine SW.eL (ι:={i:Nat//i<=s.length/\∀c∈s.take i,vM c=true}) (λi=>[(6,.d (.int .i64 (kL (s.take i.1):Nat))),(43,.d (.int .i64 i.1))]) (λ_=>[]) (λ_=>[]) (λi=>s.length-i.1) ⟨0,by simp⟩ (by simp[a7q]) ?_;rintro⟨i,hi,ht⟩;by_cases aI:i<s.length
   .have hw:=bC (show i<9223372036854775807 by omega);by_cases hd:vM s[i]=true
    .have hv:=a2i _ (s.take (i+1)) rfl λc hc=>by
      rw[f3c aI]at hc;rcases List.mem_append.1 hc with hc|hc
      .exact ht c hc
      .rw[f2U]at hc;rw[hc];exact hd
     have hp:10 ^ (s.take (i+1)).length<=10 ^ 13:=Nat.pow_le_pow_right (by omega) (by simp;omega);rw[yR aI]at hv;have hdd:=uD.1 hd;have h48: ¬s[i].toNat<48:=by omega
     have h57: ¬57<s[i].toNat:=by omega
     have w1:IntKind.i64.wrap (10*((kL (s.take i):Nat):Int))=10*((kL (s.take i):Nat):Int):=wrap64 (by omega);have w2:=c8C hd;have w3:IntKind.i64.wrap (10*((kL (s.take i):Nat):Int)+((s[i].toNat-48:Nat):Int))=((kL (s.take (i+1)):Nat):Int):=by rw[yR aI,wrap64 (by omega)];simp
     simp[aI,h48,h57,w1,w2,w3];exact bJ.mk ⟨i+1,aI,λc hc=>by
      rw[f3c aI]at hc;rcases List.mem_append.1 hc with hc|hc
      .exact ht c hc
      .rw[f2U]at hc;rw[hc];exact hd⟩ (by simp[hw]) (by simp;omega)
    .have a1D:(pA s).all vM=false:=by
      cases h:(pA s).all vM
      .rfl
      .rw[mZ,f2Q]at h;exact absurd (h _ (List.getElem_mem aI)) hd
     by_cases h48:s[i].toNat<48
     .simp[aI,h48,yS a1D]
     .have h57:57<s[i].toNat:=by rw[uD]at hd;omega
      simp[aI,h48,h57,yS a1D]
   .have hi':i=s.length:=by omega
    subst hi';rw[List.take_length]at ht;have cY:(pA s).all vM=true:=by rw[mZ,f2Q];exact ht
    have hv:=a2i _ s rfl ht;have hp:10 ^ s.length<=10 ^ 13:=Nat.pow_le_pow_right (by omega) hlen;have kC:pL s=chk (sgn (a8F s) (kL (pA s))) true:=by simp[pL,a5y,cY]
    rw[a7r,mZ]at kC;simp[sgn]at kC;have w1:IntKind.i64.wrap (-((kL s:Nat):Int))= -((kL s:Nat):Int):=wrap64 (by omega);simp[w1];refine aE.mk a0Z (a2h _ _) ?_;simp[kC]
end Go.Proofs.YtjpodcmhcenjjaaGreatDoor
end
end
section
section
namespace Go.Proofs.YtjpodcmhcenjjaaGreatDoor
structure Tok where
 kind:Int
 text:List UInt8
 n:Int
 line:Int
 deriving DecidableEq
def smU(b:UInt8):Bool:=decide (97<=b.toNat/\b.toNat<=122)
def caU(b:UInt8):Bool:=decide (65<=b.toNat/\b.toNat<=90)
def dgU(b:UInt8):Bool:=decide (48<=b.toNat/\b.toNat<=57)
def inU(b:UInt8):Bool:=smU b||caU b||dgU b||decide (b.toNat=95)
def eT:List (List UInt8):=[[60,61,62],[45,62],[61,62],[60,61],[62,61],[33,61],[61,61],[38,38],[124,124],[43],[45],[42],[47],[37],[40],[41],[123],[125],[91],[93],[60],[62],[61],[124],[44],[58],[59],[46],[33],[63],[39]]
def sL(s:List UInt8):List UInt8:=(eT.find? λt=>t.isPrefixOf s).getD []
def b9x(b:UInt8):Bool:=decide (b=10)||decide (b=32)||decide (b=9)
section
variable (num:List UInt8->Int×Bool)
def firstT(s:List UInt8):Int×List UInt8×Int×Bool:=
 match s with
 |[]=>(0,[],0,false)
 |c::r=>
  if smU c then(1,(c::r).takeWhile inU,0,true)
  else if caU c then(2,(c::r).takeWhile inU,0,true)
  else if dgU c then(3,(c::r).takeWhile dgU,(num ((c::r).takeWhile dgU)).1,(num ((c::r).takeWhile dgU)).2)
  else if sL (c::r)=[] then(0,[],0,false)
  else(4,sL (c::r),0,true)
def jH:List UInt8->Nat->Int->Bool->Except Int (List Tok)
 |[],_,ln,_=>.ok [⟨0,[],0,ln⟩]
 |_::r,k+1,ln,cm=>jH r k ln cm
 |c::r,0,ln,cm=>
  if c=10 then jH r 0 (ln+1) false
  else if cm=true\/c=32\/c=9 then jH r 0 ln cm
  else if c=35 then jH r 0 ln true
  else if (firstT num (c::r)).2.2.2 then
   match jH r ((firstT num (c::r)).2.1.length-1) ln false with
   | .ok l=>.ok (⟨(firstT num (c::r)).1,(firstT num (c::r)).2.1,(firstT num (c::r)).2.2.1,ln⟩::l)
   | .error e=>.error e
  else .error ln
variable {num}
theorem c8F{b:UInt8}(h:b9x b=true):inU b=false:=by simp only[b9x,f2Z,decide_eq_true_eq]at h;rcases h with(rfl|rfl)|rfl<;>decide
theorem e2S{b:UInt8}(h:smU b=true):inU b=true:=by simp[inU,h]
theorem e2T{b:UInt8}(h:caU b=true):inU b=true:=by simp[inU,h]
theorem e2U{b:UInt8}(h:dgU b=true):inU b=true:=by simp[inU,h]
theorem d9K{b:UInt8}(h:b9x b=true):dgU b=false:=by
 cases hd:dgU b with
 |false=>rfl
 |true=>have:=e2U hd;rw[c8F h]at this;cases this
theorem a1a{p:UInt8->Bool}{rest:List UInt8}(h:∀b,rest.head? =some b->p b=false):∀s:List UInt8,(s++rest).takeWhile p=s.takeWhile p
 |[]=>by
  cases rest with
  |nil=>rfl
  |cons b r=>simp[List.takeWhile,h b rfl]
 |c::s=>by simp only[List.cons_append,List.takeWhile_cons,a1a h s]
theorem c2k:∀t∈eT,∀b∈t,b9x b=false:=by decide
theorem b1N:∀(t s rest:List UInt8),(∀b,rest.head? =some b->b9x b=true)->(∀b∈t,b9x b=false)->t.isPrefixOf (s++rest)=t.isPrefixOf s
 |[],s,rest,_,_=>by simp[List.isPrefixOf]
 |x::t,[],rest,h,ht=>by
  cases rest with
  |nil=>rfl
  |cons b r=>
   have h1:=h b rfl;have h2:=ht x (.head _);have:(x==b)=false:=by rw[beq_eq_false_iff_ne];rintro rfl;rw[h1]at h2;cases h2
   simp[List.isPrefixOf,this]
 |x::t,c::s,rest,h,ht=>by simp only[List.cons_append,List.isPrefixOf,b1N t s rest h λb hb=>ht b (.tail _ hb)]
theorem find_congr{α:Type}{p q:α->Bool}:∀ {l:List α},(∀x∈l,p x=q x)->l.find? p=l.find? q
 |[],_=>rfl
 |x::l,h=>by simp only[List.find?_cons,h x (.head _),find_congr λy hy=>h y (.tail _ hy)]
theorem c8G{s rest:List UInt8}(h:∀b,rest.head? =some b->b9x b=true):sL (s++rest)=sL s:=by unfold sL;rw[find_congr λt ht=>b1N t s rest h (c2k t ht)]
theorem b5d{s rest:List UInt8}(hs:s≠[])(h:∀b,rest.head? =some b->b9x b=true):firstT num (s++rest)=firstT num s:=by
 cases s with
 |nil=>exact absurd rfl hs
 |cons c r=>have h1:=a1a (p:=inU) (rest:=rest) (λb hb=>c8F (h b hb)) (c::r);have h2:=a1a (p:=dgU) (rest:=rest) (λb hb=>d9K (h b hb)) (c::r);have h3:=c8G (s:=c::r) h;rw[List.cons_append]at h1 h2 h3|-;simp only[firstT,h1,h2,h3]
theorem c8H{s:List UInt8}(h:sL s≠[]):sL s∈eT/\sL s <+:s:=by
 unfold sL at h|-;cases hf:eT.find? λt=>t.isPrefixOf s with
 |none=>rw[hf]at h;simp at h
 |some t=>exact⟨List.mem_of_find?_eq_some hf,List.isPrefixOf_iff_prefix.1 (by simpa using List.find?_some hf)⟩
theorem c5E:∀t∈eT,sL t=t:=by decide
theorem a1b(p:UInt8->Bool):∀s:List UInt8,s.takeWhile p <+:s:=λs=>List.takeWhile_prefix p
theorem uE(p:UInt8->Bool):∀s:List UInt8,(s.takeWhile p).takeWhile p=s.takeWhile p
 |[]=>rfl
 |c::s=>by
  rw[List.takeWhile_cons];split
  .rename_i hc;rw[List.takeWhile_cons,if_pos hc,uE p s]
  .rfl
theorem zM{p:UInt8->Bool}{c:UInt8}{r:List UInt8}(h:p c=true):(c::r).takeWhile p=c::r.takeWhile p:=by rw[List.takeWhile_cons,if_pos h]
theorem a7s{s:List UInt8}(h:(firstT num s).2.2.2=true):(firstT num s).2.1≠[]/\(firstT num s).2.1 <+:s/\firstT num (firstT num s).2.1=firstT num s:=by
 cases s with
 |nil=>simp[firstT]at h
 |cons c r=>
  by_cases h1:smU c=true
  .have hw:=zM (r:=r) (e2S h1);have hs:=uE inU (c::r);have hp:=a1b inU (c::r);simp only[firstT,h1,if_true]at h|-;rw[hw]at hs hp|-;refine⟨by simp,hp,?_⟩;simp only[firstT,h1,if_true,hs]
  .have h1:smU c=false:=by simpa using h1
   by_cases h2:caU c=true
   .have hw:=zM (r:=r) (e2T h2);have hs:=uE inU (c::r);have hp:=a1b inU (c::r);simp only[firstT,h1,h2,if_true,Bool.false_eq_true,if_false]at h|-;rw[hw]at hs hp|-;refine⟨by simp,hp,?_⟩;simp only[firstT,h1,h2,if_true,Bool.false_eq_true,if_false,hs]
   .have h2:caU c=false:=by simpa using h2
    by_cases h3:dgU c=true
    .have hw:=zM (r:=r) h3;have hs:=uE dgU (c::r);have hp:=a1b dgU (c::r);simp only[firstT,h1,h2,h3,if_true,Bool.false_eq_true,if_false]at h|-;rw[hw]at hs hp|-;refine⟨by simp,hp,?_⟩;simp only[firstT,h1,h2,h3,if_true,Bool.false_eq_true,if_false,hs]
    .have h3:dgU c=false:=by simpa using h3
     by_cases h4:sL (c::r)=[]
     .simp[firstT,h1,h2,h3,h4]at h
     .obtain⟨hm,hp⟩:=c8H h4;have d7h:=c5E _ hm;simp only[firstT,h1,h2,h3,h4,Bool.false_eq_true,if_false]at h|-;refine⟨h4,hp,?_⟩;obtain⟨t,ht⟩:∃t,sL (c::r)=t:=⟨_,rfl⟩;rw[ht]at h4 hp d7h|-;cases t with
      |nil=>exact absurd rfl h4
      |cons d t'=>
       have hd:d=c:=by obtain⟨u,hu⟩:=hp;simp only[List.cons_append,List.cons.injEq]at hu;exact hu.1
       subst hd;simp only[firstT,h1,h2,h3,Bool.false_eq_true,if_false,d7h];simp
theorem b5e:∀(s:List UInt8) (k:Nat) (ln:Int) (cm:Bool),k<=s.length->jH num s k ln cm=jH num (s.drop k) 0 ln cm
 |[],k,ln,cm,h=>by
  have:k=0:=by simpa using h
  subst this
  rfl
 |c::r,0,ln,cm,_=>by rfl
 |c::r,k+1,ln,cm,h=>by
  rw[List.drop_succ_cons];simp only[List.length_cons]at h;rw[<-b5e r k ln cm (by omega)]
  rfl
end
end Go.Proofs.YtjpodcmhcenjjaaGreatDoor
end
section
namespace Go.Proofs.YtjpodcmhcenjjaaGreatDoor
section
variable {num:List UInt8->Int×Bool}
theorem c2l{c:UInt8}{r:List UInt8}(ln:Int)(h1:c≠10)(h2:c≠32)(h3:c≠9)(h4:c≠35):jH num (c::r) 0 ln false=if (firstT num (c::r)).2.2.2 then
   (match jH num ((c::r).drop (firstT num (c::r)).2.1.length) 0 ln false with
   | .ok l=>.ok (⟨(firstT num (c::r)).1,(firstT num (c::r)).2.1,(firstT num (c::r)).2.2.1,ln⟩::l)
   | .error e=>.error e)
  else .error ln:=by
 conv=>lhs;rw[jH]
 rw[if_neg h1,if_neg (by simp[h2,h3]),if_neg h4];split
 .rename_i rK;obtain⟨q1,q2,_⟩:=a7s rK;obtain⟨tx,htx⟩:∃tx,(firstT num (c::r)).2.1=tx:=⟨_,rfl⟩;rw[htx]at q1 q2|-;have hl:0<tx.length:=List.length_pos_iff.2 q1;have hle:=q2.length_le;simp only[List.length_cons]at hle;rw[b5e r (tx.length-1) ln false (by omega)];have:(c::r).drop tx.length=r.drop (tx.length-1):=by
   conv=>lhs;rw[show tx.length=(tx.length-1)+1 by omega]
   rfl
  rw[this]
  try rfl
 .rfl
inductive OkT (num:List UInt8->Int×Bool):List Tok->Int->Prop
 |fin (ln l:Int):ln<=l->OkT num [⟨0,[],0,l⟩] ln
 |cons (t:Tok) (r:List Tok) (ln:Int):ln<=t.line->firstT num t.text=(t.kind,t.text,t.n,true)->OkT num r t.line->OkT num (t::r) ln
theorem OkT.mono{l:List Tok}{ln ln':Int}(h:OkT num l ln)(hl:ln'<=ln):OkT num l ln':=by
 cases h with
 |fin _ l hle=>exact .fin _ _ (by omega)
 |cons t r _ h1 h2 h3=>exact .cons t r _ (by omega) h2 h3
theorem a0z:∀(s:List UInt8) (k:Nat) (ln:Int) (cm:Bool) (l:List Tok),jH num s k ln cm=.ok l->OkT num l ln
 |[],k,ln,cm,l,h=>by simp only[jH,Except.ok.injEq]at h;subst h;exact .fin _ _ (Int.le_refl _)
 |c::r,k+1,ln,cm,l,h=>by rw[jH]at h;exact a0z r k ln cm l h
 |c::r,0,ln,cm,l,h=>by
  rw[jH]at h;split at h
  .exact(a0z r 0 _ _ l h).mono (by omega)
  .split at h
   .exact a0z r 0 _ _ l h
   .split at h
    .exact a0z r 0 _ _ l h
    .split at h
     .rename_i rK;split at h
      .rename_i l' hl;simp only[Except.ok.injEq]at h;subst h;obtain⟨q1,q2,q3⟩:=a7s rK;refine .cons _ _ _ (Int.le_refl _) ?_ (a0z r _ _ _ l' hl);simp only;rw[q3, <- rK]
      .cases h
     .cases h
end
end Go.Proofs.YtjpodcmhcenjjaaGreatDoor
end
section
namespace Go.Proofs.YtjpodcmhcenjjaaGreatDoor
open Go
theorem b6B{s:List UInt8}{i:Nat}(h:i<s.length):((⟨s.toArray⟩:ByteArray).get! i)=s[i]:=by
 show(s.toArray)[i]! =s[i]
 simp[h]
theorem d4q(s:List UInt8):(⟨s.toArray⟩:ByteArray).size=s.length:=by
 show s.toArray.size=s.length
 simp
theorem c8I{s:List UInt8}{i:Nat}(h:i<s.length)(hb:s[i].toNat<128):Utf8.decode ⟨s.toArray⟩ i=(s[i].toNat,1):=by rw[Lib.decode_at,b6B h];unfold Lib.decodeN;rw[if_pos hb]
theorem c8J{s:List UInt8}{i:Nat}(h:i<s.length)(hb:128<=s[i].toNat):128<=(Utf8.decode ⟨s.toArray⟩ i).1/\1<=(Utf8.decode ⟨s.toArray⟩ i).2/\i+(Utf8.decode ⟨s.toArray⟩ i).2<=s.length/\
  ∀j,i<=j->j<i+(Utf8.decode ⟨s.toArray⟩ i).2->∃h:j<s.length,128<=s[j].toNat:=by
 rw[Lib.decode_at,b6B h,d4q];have at1:∀k,i+k<s.length->((⟨s.toArray⟩:ByteArray).get! (i+k))=s[i+k]! :=λk hk=>by rw[b6B hk];simp[hk]
 have two:∀(j:Nat) (hj:j<s.length),s[j].toNat/64=2->128<=s[j].toNat:=λj hj h=>by omega
 have key:∀k,i+k<s.length->((⟨s.toArray⟩:ByteArray).get! (i+k)).toNat/64=2->∃h:i+k<s.length,128<=s[i+k].toNat:=λk hk h=>by rw[b6B hk]at h;exact⟨hk,two _ hk h⟩
 rcases Lib.decodeN_shape (s.length-i) s[i].toNat ((⟨s.toArray⟩:ByteArray).get! (i+1)).toNat ((⟨s.toArray⟩:ByteArray).get! (i+2)).toNat ((⟨s.toArray⟩:ByteArray).get! (i+3)).toNat with h1|h1|h1|h1|h1
 .omega
 .obtain⟨a,b,c,d,e⟩:=h1;rw[e];refine⟨by simp only;omega,by simp,by simp only;omega,λj hj tI=>?_⟩;simp only at tI;rcases(show j=i\/j=i+1 by omega)with rfl|rfl
  .exact⟨h,hb⟩
  .exact key 1 (by omega) c
 .obtain⟨a,b,c,d,f,g,e⟩:=h1;rw[e];refine⟨by simp only;omega,by simp,by simp only;omega,λj hj tI=>?_⟩;simp only at tI;rcases(show j=i\/j=i+1\/j=i+2 by omega)with rfl|rfl|rfl
  .exact⟨h,hb⟩
  .exact key 1 (by omega) c
  .exact key 2 (by omega) d
 .obtain⟨a,b,c,d,f,g,k,e⟩:=h1;rw[e];refine⟨by simp only;omega,by simp,by simp only;omega,λj hj tI=>?_⟩;simp only at tI;rcases(show j=i\/j=i+1\/j=i+2\/j=i+3 by omega)with rfl|rfl|rfl|rfl
  .exact⟨h,hb⟩
  .exact key 1 (by omega) c
  .exact key 2 (by omega) d
  .exact key 3 (by omega) f
 .rw[h1];refine⟨by simp,by simp,by simp only;omega,λj hj tI=>?_⟩;simp only at tI;rcases(show j=i by omega)with rfl;exact⟨h,hb⟩
end Go.Proofs.YtjpodcmhcenjjaaGreatDoor
end
end
section
namespace Go.VM
open Go Go.RowKit Go.ChangeShapes Go.WideShapes Go.Proofs.YtjpodcmhcenjjaaGreatDoor
mutual
def szD:D->Nat
 | .str s=>s.length+1
 | .sl es=>b6C es+1
 | .agg ds=>szL ds
 | .int _ _=>1
 | .bool _=>1
 | .aJ=>1
def szL:List D->Nat
 |[]=>0
 |d::r=>szD d+szL r
def b6C:List (List D)->Nat
 |[]=>0
 |l::r=>szL l+b6C r
end
theorem b1O:∀a b:List D,szL (a++b)=szL a+szL b
 |[],b=>by simp[szL]
 |d::a,b=>by have:=b1O a b;simp only[List.cons_append,szL,this];omega
mutual
theorem b6D {H:Type}:∀d:DataW H,szL (flat d)<=Rows.uptoBulk d
 | .lit (.int k n)=>by simp[flat,szL,szD,Rows.uptoBulk]
 | .lit (.bool b)=>by simp[flat,szL,szD,Rows.uptoBulk]
 | .lit (.string s)=>by simp[flat,szL,szD,Rows.uptoBulk]
 | .nil=>by simp[flat,szL,szD,b6C,Rows.uptoBulk]
 | .slice es sp=>by have:=b5f es;simp only[flat,szL,szD,Rows.uptoBulk];omega
 | .agg ps=>by have:=b9y ps;simp only[flat,Rows.uptoBulk];omega
 | .lit (.float .f32 _)=>by simp[flat,szL]
 | .lit (.float .f64 _)=>by simp[flat,szL]
 | .lit .nil=>by simp[flat,szL]
 | .ptr d=>by simp[flat,szL]
 | .iface _ d=>by simp[flat,szL]
 | .map es=>by simp[flat,szL]
 | .held _=>by simp[flat,szL]
theorem b5f {H:Type}:∀l:List (DataW H),b6C (wU l)<=Rows.uptoBulkAll l
 |[]=>by simp[wU,b6C]
 |d::r=>by have h1:=b6D d;have h2:=b5f r;simp only[wU,b6C,Rows.uptoBulkAll];omega
theorem b9y {H:Type}:∀l:List (DataW H),szL (uB l)<=Rows.uptoBulkAll l
 |[]=>by simp[uB,szL]
 |d::r=>by have h1:=b6D d;have h2:=b9y r;simp only[uB,b1O,Rows.uptoBulkAll];omega
end
section
variable {P:Program} {H:Type} {enc:TypeId×Value->H} {w:World} {sp:Nat->Bool} {held:Bool} {L:List TypeId}
theorem b9z{r:Reach}{b0:Nat}(tQ:laidOutB P=true)(hp:a0w P L=true){t:TypeId}{v:Value}{d:DataW H}{ps:List MemPlace}(hT:L.contains t=true)(a0f:Value.okWide P w r b0 t v)(h:DataW.Trod enc P w 0 sp held t v d ps):
  ∃x,a5u P t x/\V (RW w) w v x/\szD x=szL (flat d):=by
 obtain⟨n,hn⟩:=h;obtain⟨h1,h2,h3⟩:=a8D tQ hp n t _ _ hT hn;have mW:=f2Q.1 hp t (by simpa using hT);simp only[f2N,decide_eq_true_eq]at mW;obtain⟨_,mW⟩:=mW;cases hu:P.underlying t with
 |none=>rw[hu]at mW;cases mW
 |some u=>
  cases ha:mS u with
  |true=>
   have hv:∃cs:Array Value,v=.agg cs:=by
    unfold Value.okWide at a0f;rw[hu]at a0f;cases u<;>simp only[mS]at ha<;>(try cases ha)
    .obtain⟨cs,hv,_⟩:=a0f;exact⟨cs,hv⟩
    .obtain⟨cs,hv,_⟩:=a0f;exact⟨cs,hv⟩
   obtain⟨cs,rfl⟩:=hv;refine⟨.agg (flat d),by simp only[a5u,hu,ha,if_true];exact⟨_,rfl,h2⟩,.agg _ _ (by simpa[Value.cells]using h1.symm) (λi x hx=>(h3 i x hx).1) (λi x hx=>?_),by simp[szD]⟩;have:=(h3 i x hx).2;simpa[Value.cells,List.getD,f2P]using this
  |false=>
   have hc:v.cells=#[v]:=by refine b1I hu ha ?_ a0f;rw[hu]at mW|-;cases u<;>simp only[mS]at ha<;>(try cases ha)<;>first|rfl|(simp at mW)
   rw[hc]at h1 h3;simp at h1;obtain⟨x,hx⟩:∃x,flat d=[x]:=List.length_eq_one_iff.1 h1;simp only[hx]at h2 h3;refine⟨x,by simp only[a5u,hu,ha];exact h2,by simpa using (h3 0 x rfl).2,by simp[hx,szL]⟩
theorem a9P{r:Reach}{b0:Nat}(tQ:laidOutB P=true)(hp:a0w P L=true):∀ {ts:List TypeId} {vs:List Value} {ds:List (DataW H)} {ps:List MemPlace},(∀t∈ts,L.contains t=true)->(∀(j:Nat) t v,ts[j]? =some t->vs[j]? =some v->Value.okWide P w r b0 t v)->
  DataW.TrodAll enc P w 0 sp held ts vs ds ps->∃xs,a7n P ts xs/\vs.length=xs.length/\(∀(i:Nat) (d:D),xs[i]? =some d->V (RW w) w (vs.getD i undef) d)/\szL xs<=Rows.uptoBulkAll ds
 |[],_,_,_,_,_,h=>by obtain⟨rfl,rfl,rfl⟩:=trodAll_nil h;exact⟨[],trivial,rfl,by simp,by simp[szL]⟩
 |t::ts,_,_,_,hT,hv,h=>by
  obtain⟨v,vs1,d,ds1,a,b,rfl,rfl,rfl,h1,h2⟩:=trodAll_cons h;obtain⟨x,q1,q2,q7⟩:=b9z tQ hp (hT t (.head _)) (hv 0 t v rfl rfl) h1;obtain⟨xs,q3,q4,q5,q6⟩:=a9P tQ hp (λt ht=>hT t (.tail _ ht)) (λj t v a b=>hv (j+1) t v a b) h2;refine⟨x::xs,⟨q1,q3⟩,by simp[q4],λi d hi=>?_,by have:=b6D d;simp only[szL,Rows.uptoBulkAll];omega⟩
  cases i with
  |zero=>simp at hi;subst hi;simpa using q2
  |succ i=>simp at hi;simpa using q5 i d hi
theorem b1P{G:GT}{f:FuncId}{fn:Func}{s:ChangeSpec}{apart fresh handsOn again:Bool}{tb:TypeId}{r:Reach}{b0:Nat}(tQ:laidOutB P=true)(hmr:mapsRowed P=true)(hsf:((List.range P.types.size).all λt=>match P.underlying t with|some (.slice e)=>decide (0<P.cellsOf e)|_=>true)=true)(hp:a0w P L=true){ts:List TypeId}(hts:fn.params.toList=ts)(hT:(ts.all λt=>L.contains t)=true)(b9m:s.vars=[])(kC:fn.resultTypes=#[tb])(htb:P.underlying tb=some .bool)(hs:∀ds:List (DataW H),ds.length=ts.length->s.fn H ds={results:=[.lit (.bool true)],args:=ds})(pR:∀xs,a7n P ts xs->szL xs<=1048576->CS P G f xs (.d (.bool true)) none){W:World}{args:Array Value}{ds gs:List (DataW H)}{before:List MemPlace}(a0f:∀(j:Nat) t v,fn.params[j]? =some t->args[j]? =some v->Value.okWide P W r b0 t v)(hW:DataW.Whole enc P fn.params.toList s.vars apart W args.toList ds gs before)(hG:a5c G (xC W.heap.size) (RW W) W)(hk:Rows.uptoSmall H (ds++gs)=true):
  Calls P f args W λe W'=>∃v,e=.returned v/\s.post enc P fn apart fresh handsOn again W args v W':=by
 have hW':=hW;obtain⟨p,q,hA,hV,rfl,hfz,hnd⟩:=hW;rw[b9m]at hV;obtain⟨rfl,rfl⟩:=trodVars_none hV;rw[hts]at hA;have hTm:∀t∈ts,L.contains t=true:=f2Q.1 hT;obtain⟨xs,q1,q2,q3,q6⟩:=a9P tQ hp hTm (λj t v a b=>a0f j t v (by rw[<-Array.getElem?_toList,hts];exact a) (by rw[<-Array.getElem?_toList];exact b)) hA;have hU:szL xs<=1048576:=by have h1:Rows.uptoBulkAll (ds++[])<=1048576:=of_decide_eq_true hk;rw[List.append_nil]at h1;omega
 refine(pR xs q1 hU W (RW W) args hG (λ_ _ h=>h) (by simpa using q2) (λi d hi=>by simpa[List.getD,f2P]using q3 i d hi)).mono λe W' ⟨v,R',he,htv,mM,_,_⟩=>?_;have hv:v=.bool true:=by
  have:=htv (λ_=>0);cases this with
  |d _ _ h=>cases h;rfl
 subst he hv;have hlen:=a9H hA;have aI:∀x∈p++[],x.block<W.heap.size:=hW'.lt;refine⟨_,rfl,c5D hW' mM.below.below (λ_ _ _=>?_) (λsp' hsp=>?_) (λ_ _=>?_) ?_⟩
 .rw[List.append_nil,hs ds hlen,kC];exact trodAll_cons_mk (shut_bool htb _) trodAll_mk0
 .rw[List.append_nil,List.append_nil,hs ds hlen,hts];have h1:=a5v (w':=W') hA λx hx=>mM.below.below.same (aI x (by simpa using hx));refine h1.respare (kids_rows tQ hmr) (λt e ht hu=>slices_full_of P hsf t e ht hu) (λt ht=>?_) (λx hx=>hsp x (by simpa using hx));have mW:=f2Q.1 hp t (by simpa using hTm t ht);simp only[f2N,decide_eq_true_eq]at mW;exact mW.1
 .rw[List.append_nil,hs ds hlen,b9m]
  rfl
 .exact ok_one kC rfl (okWide_bool_mk htb _)
end
end Go.VM
end
section
section
namespace Go.Proofs.YtjpodcmhcenjjaaGreatDoor
open Go Go.VM
abbrev Nm:=List UInt8
theorem c8K:strs []=[]:=rfl
attribute [simp] c8K
structure Pr where
 op:Int
 name:Nm
 n:Int
 kids:List Pr
structure Ty where
 op:Int
 name:Nm
 args:List Ty
 names:List Nm
 pred:Pr
 a7t:List Pr
theorem Pr.ind{M:Pr->Prop}(h:∀p:Pr,(∀k∈p.kids,M k)->M p):∀p,M p
 |⟨op,nm,n,ks⟩=>h _ λk hk=>Pr.ind h k
theorem Ty.ind{M:Ty->Prop}(h:∀t:Ty,(∀k∈t.args,M k)->M t):∀t,M t
 |⟨op,nm,l,ns,p,ps⟩=>h _ λk hk=>Ty.ind h k
def oO:Pr->List D
 |⟨op,nm,n,ks⟩=>[.int .i64 op,.str nm,.int .i64 n,.sl (ks.map oO)]
abbrev prD(p:Pr):List D:=[.int .i64 p.op,.str p.name,.int .i64 p.n,.sl (p.kids.map oO)]
theorem eH(p:Pr):oO p=[.int .i64 p.op,.str p.name,.int .i64 p.n,.sl (p.kids.map oO)]:=by cases p;rw[oO]
def tyC:Ty->List D
 |⟨op,nm,l,ns,p,ps⟩=>[.int .i64 op,.str nm,.sl (l.map tyC),.sl (strs ns),.int .i64 p.op,.str p.name,.int .i64 p.n,.sl (p.kids.map oO),.sl (ps.map oO)]
abbrev tyD(t:Ty):List D:=[.int .i64 t.op,.str t.name,.sl (t.args.map tyC),.sl (strs t.names),.int .i64 t.pred.op,.str t.pred.name,.int .i64 t.pred.n,.sl (t.pred.kids.map oO),.sl (t.a7t.map oO)]
theorem cM(t:Ty):tyC t=[.int .i64 t.op,.str t.name,.sl (t.args.map tyC),.sl (strs t.names),.int .i64 t.pred.op,.str t.pred.name,.int .i64 t.pred.n,.sl (t.pred.kids.map oO),.sl (t.a7t.map oO)]:=by cases t;rw[tyC]
attribute [simp] eH cM
theorem wH{l:List Pr}{i:Nat}(h:i<l.length):(l.map oO)[i]? =some (prD l[i]):=by simp[h,eH]
theorem d4r{l:List Ty}{i:Nat}(h:i<l.length):(l.map tyC)[i]? =some (tyD l[i]):=by simp[h,cM]
end Go.Proofs.YtjpodcmhcenjjaaGreatDoor
end
section
namespace Go.Proofs.YtjpodcmhcenjjaaGreatDoor
open Go Go.VM
variable {G:GT}
mutual
def cB:Pr->Nat
 |⟨_,_,_,l⟩=>1+dT l
def dT:List Pr->Nat
 |[]=>0
 |t::r=>cB t+dT r
end
mutual
theorem d4s:∀p:Pr,cB p<=szL (oO p)
 |⟨op,nm,n,l⟩=>by have:=b9A l;rw[eH];simp only[cB,szL,szD];omega
theorem b9A:∀l:List Pr,dT l<=b6C (l.map oO)
 |[]=>by simp[dT,b6C]
 |t::r=>by have h1:=d4s t;have h2:=b9A r;simp only[dT,List.map_cons,b6C];omega
end
theorem a8H:∀a b:List Pr,dT (a++b)=dT a+dT b
 |[],b=>by simp[dT]
 |t::a,b=>by simp only[List.cons_append,dT,a8H a b];omega
theorem rT(p:Pr):cB p=1+dT p.kids:=by cases p;rfl
theorem tA{l:List Pr}{i:Nat}(h:i<l.length):dT (l.take (i+1))=dT (l.take i)+cB l[i]:=by rw[f3c h,a8H];simp[dT]
theorem kS:∀(l:List Pr) (i:Nat),dT (l.take i)<=dT l
 |[],i=>by simp
 |t::r,0=>by simp[dT]
 |t::r,i+1=>by have:=kS r i;simp only[List.take_succ_cons,dT];omega
theorem b1Q(p:Pr):1<=cB p:=by rw[rT];omega
theorem kM:∀l:List Pr,l.length<=dT l
 |[]=>by simp
 |t::r=>by have h1:=b1Q t;have h2:=kM r;simp only[dT,List.length_cons];omega
end Go.Proofs.YtjpodcmhcenjjaaGreatDoor
end
section
namespace Go.Proofs.YtjpodcmhcenjjaaGreatDoor
open Go Go.VM
variable {G:GT}
theorem eE{P:Program}{q:Bool}{x:Out}{c:Prop}[Decidable c]{dst:Option Tmp}{all:Array Oper}{rest:List Oper}{k:List KI}{Q:Exit->St->Prop}(hc:c)(h:a9D P G q (some x) dst all rest k Q):a9D P G q (if c then some x else none) dst all rest k Q:=by rw[if_pos hc];exact h
theorem c8L{α β:Type}(f:α->β){l:List α}{i:Nat}(h:i<l.length):(l.take (i+1)).map f=(l.take i).map f++[f l[i]]:=by
 rw[f3c h,List.map_append]
 rfl
end Go.Proofs.YtjpodcmhcenjjaaGreatDoor
end
end
