/- Lemmas that the law of this claim needs (ZV VmR). No condition. -/
import Derived.Test.YtjpodcmhcenjjaaGreatDoorOsa
import Derived.Test.YtjpodcmhcenjjaaGreatDoorOsd
import Derived.Laws.CopyRow
import Derived.Laws.MakeOwn
import Derived.RangeFuncOwn
set_option linter.unusedVariables false
set_option linter.unusedSimpArgs false
set_option linter.unusedSectionVars false
set_option maxRecDepth 100000
set_option maxHeartbeats 64000000
open Go.Proofs.Tryz
section
section
namespace Go.VM
open Go Go.RowKit
section
variable {P:Program} {G:GT} {st:St} {Q:Exit->St->Prop}
theorem SW.jZ{x y:Code}(h:SW P G x st λe s=>match e with
  | .normal=>SW P G y s Q
  |e=>Q e s):SW P G (.seq x y) st Q:=λbase R μ a w hr=>
 wp_seq (wp_mono (h base R μ a w hr) λe a1 w1 ⟨s,R1,μ1,q1,q2,q3⟩=>by
  cases e with
  |normal=>exact wp_mono (q1 base R1 μ1 a1 w1 q2) λe2 a2 w2 ⟨s2,R2,μ2,p1,p2,p3⟩=>⟨s2,R2,μ2,p1,p2,q3.trans p3⟩
  |_=>exact⟨s,R1,μ1,q1,q2,q3⟩)
theorem SW.vk{c:Code}(h:VK P G [.code c] .normal st Q):SW P G c st Q:=a4f _ _ _ (c2D h)
theorem CS.a5p{f:FuncId}{fn:Func}{c:Code}{n:Nat}{ds:List D}{r:DV}{own:Option TypeId}(hf:P.funcs[f]? =some fn)(hb:fn.body=some c)(hn:fn.ntmps=n){rs:List ResultVar}(hrs:fn.results.toList=rs)(h:SW P G c (a0I ds n) λe s=>(e=.normal\/e=.ret)/\c2u (c9m P s rs) r/\c2v s rs own):CS P G f ds r own:=by
 subst hrs;intro w R args hg hR hl hv;refine calls_of_wp hf hb ?_;have kU:=Rel.init (P:=P) (G:=G) fn hg hR hl hv;rw[<-hn]at h;refine wp_mono (h (yY w.heap.size) R _ _ w kU) λe a' w' ⟨s,R',μ',⟨he,hZ,kJ⟩,eM,hs⟩=>?_;obtain⟨r0,hZ,hwk⟩:=b3V hZ;obtain⟨v,hv1,hv2⟩:=c7R eM hZ;have a5a:a'.defers=[]/\∃v,(results fn a'.tmps).run P w'=.ok v w'/\∃v' R',Ending.returned v=.returned v'/\(∀μ,TV R' μ w' v' r)/\Step (yY w.heap.size) R w R' w'/\(∀b o,R' b o->b<w'.heap.size)/\(∀e,own=some e->pG P (yY w.heap.size) R' w' e v'):=
  ⟨eM.defers,v,hv1,v,R',rfl,λμ=>(hv2 μ).wk hwk,hs,eM.pH,λe he'=>by subst he';exact c2w eM kJ hv1⟩
 rcases he with rfl|rfl
 .exact a5a
 .exact a5a
theorem dR(a:Act){d:Nat}(v:Value)(h:d<a.tmps.size):(a.put (some d) v).eval (.tmp d)=v:=by simp[Act.put,Act.eval,h]
theorem bV(a:Act){d x:Nat}(v:Value)(h:x≠d):(a.put (some d) v).eval (.tmp x)=a.eval (.tmp x):=by simp[Act.put,Act.eval,Array.getElem?_setIfInBounds,Ne.symm h]
theorem size_put(a:Act)(d:Option Tmp)(v:Value):(a.put d v).tmps.size=a.tmps.size:=by cases d<;>simp[Act.put]
theorem c0a(w:World)(z cs:Array Value)(e:TypeId):(w.alloc (.cells z e)).setRow w.heap.size cs=w.alloc (.cells cs e):=by
 unfold World.setRow World.alloc;cases w with
 |mk heap tape drawn os output=>
  simp only;congr 1;apply Array.ext
  .simp
  .intro k h1 h2;simp only[Array.getElem_modify,Array.getElem_push];split
   .rename_i hk;subst hk;simp
   .rename_i hk;have hk2:k<heap.size:=by simp at h2;omega
    simp[hk2]
end
end Go.VM
end
section
namespace Go.VM
open Go Go.RowKit
def pM(k n:Nat):Array Bool:=((List.range n).map λj=>decide (j<k)).toArray
def a5q(ops:Array Oper)(m:Nat):Nat->Nat->Array Bool->Bool
 |0,_,listed=>decide (listed=pM m ops.size)
 |fuel+1,k,listed=>(Region.ready .any ops listed).contains k&&
  (match ops[k]? with
  |none=>false
  |some oi=>
   (List.range ops.size).all λj=>j==k||listed.getD j true||gL ops ops.size j k||(match ops[j]? with
    |some oj=>oi.apart ops oj&&qC ops oi oj
    |none=>true))&&
  a5q ops m fuel (k+1) (listed.setIfInBounds k true)
def xY(ops:Array Oper)(m:Nat):Bool:=(List.range ops.size).all λj=>decide (j<m)||(List.range m).all λi=>gL ops ops.size j i
def d3i(ops:Array Oper)(m:Nat):Bool:=((eG ops).isEmpty||(ops.toList.all (c9e ops)&&decide ((eG ops).Nodup)))&&(decide (m<=ops.size)&&xY ops m)&&a5q ops m m 0 (Array.replicate ops.size false)
section
variable {P:Program} {G:GT} {st:St}
theorem a7d{k n j:Nat}(h:(pM k n).getD j true=false):k<=j/\j<n:=by
 unfold pM at h;rw[f7J]at h;by_cases hj:j<n
 .simp[hj]at h;omega
 .simp[hj]at h
theorem a7Y{ops:Array Oper}{m j i:Nat}{o:Oper}(h:xY ops m=true)(hj:m<=j)(ho:ops[j]? =some o)(hi:i<m):gL ops ops.size j i=true:=by
 unfold xY at h;have hjs:=(f7Q.1 ho).1;have h1:=f7K.1 h j (List.mem_range.2 hjs);simp only[f7T,decide_eq_true_eq]at h1;rcases h1 with h1|h1
 .omega
 .exact f7K.1 h1 i (List.mem_range.2 hi)
def b1S(P:Program)(G:GT)(ops:Array Oper)(m:Nat)(Q:St->Prop):Nat->Array Bool->St->Prop
 |0,listed,st=>listed=pM m ops.size/\Q st
 |fuel+1,listed,st=>Region.ready .any ops listed≠[]/\∀i∈Region.ready .any ops listed,i<m/\match ops[i]? with
  |none=>b1S P G ops m Q fuel (listed.setIfInBounds i true) st
  |some o=>pA P G true ops o (b1S P G ops m Q fuel (listed.setIfInBounds i true)) st
theorem b4B{ops:Array Oper}{m r:Nat}{Q:St->Prop}{QQ:Exit->Act->World->Prop}:∀(fuel:Nat) (listed:Array Bool) (st:St),b1S P G ops m Q fuel listed st->∀(base:cT) (R:Nat->Nat->Prop) (μ:Nat->Nat) (a:Act) (w:World),Rel P G base R μ st a w->
  (∀s a' w' R' μ',Q s->Rel P G base R' μ' s a' w'->Step base R w R' w'->wpAny P .any ops QQ r (pM m ops.size) a' w')->wpAny P .any ops QQ (fuel+r) listed a w
 |0,_,st,h,base,R,μ,a,w,hr,hk=>by rw[Nat.zero_add,h.1];exact hk st a w R μ h.2 hr (.refl _ _ _)
 |fuel+1,listed,st,h,base,R,μ,a,w,hr,hk=>by
  rw[show fuel+1+r=(fuel+r)+1 by omega];refine⟨λh0=>absurd h0 h.1,λi hi=>?_⟩;have h1:=(h.2 i hi).2;unfold wpOp;split
  .rename_i ho;rw[ho]at h1;exact b4B fuel _ st h1 base R μ a w hr hk
  .rename_i o ho;rw[ho]at h1;exact uA h1 hr λs v w' R' μ' h' eM qP=>b4B fuel _ s h' base R' μ' _ w' eM λs a' w2 R2 μ2 q1 q2 q3=>hk s a' w2 R2 μ2 q1 q2 (qP.trans q3)
theorem b4C{listed:Array Bool}{i j:Nat}(hj:listed.getD j true=false)(eF:j≠i):(listed.setIfInBounds i true).getD j true=false:=by rw[getD_set_ne true (Ne.symm eF)];exact hj
theorem c3n{ops:Array Oper}{m:Nat}{Q:St->Prop}{i:Nat}{oi:Oper}(him:i<m)(hT:xY ops m=true)(hA:pJ ops)(hi:ops[i]? =some oi)(hsi:(cR oi.op=true/\mI ops oi=false)\/pB oi=true):
  ∀(fuel:Nat) (listed:Array Bool) (st s:St),eH ops listed->
   (∀j oj,ops[j]? =some oj->j≠i->listed.getD j true=false->gL ops ops.size j i=false->oi.apart ops oj=true/\qC ops oi oj=true)->
   i∈Region.ready .any ops listed->qE ops listed st->Eff P G ops oi st s->
   b1S P G ops m Q fuel (listed.setIfInBounds i true) s->b1S P G ops m Q (fuel+1) listed st:=by
 have low:∀(listed:Array Bool),eH ops listed->i∈Region.ready .any ops listed->∀j∈Region.ready .any ops listed,j<m:=λlisted oI hr j hj=>by apply Classical.byContradiction;intro hjm;obtain⟨_,oj,zB,dB⟩:=mem_ready.1 hj;obtain⟨a2c,_⟩:=mem_ready.1 hr;have h1:=a7Y hT (Nat.le_of_not_lt hjm) zB him;rw[cV oI a2c ops.size j λo ho=>by rw[zB]at ho;cases ho;exact dB]at h1;cases h1
 intro fuel
 induction fuel with
 |zero=>
  intro listed st s oI _ hr _ hy H;refine⟨λh=>(by rw[h]at hr;cases hr),λj hj=>⟨low listed oI hr j hj,?_⟩⟩;by_cases zV:j=i
  .subst zV;rw[hi];exact(dF hsi).2 ⟨s,hy,H⟩
  .exfalso;obtain⟨wY,oj,zB,dB⟩:=mem_ready.1 hj;obtain⟨a2c,_⟩:=mem_ready.1 hr;have h1:=b4C wY zV;rw[H.1]at h1;have h2:=a7d h1;have:=low listed oI hr j hj;omega
 |succ fuel ih=>
  intro listed st s oI yK hr hI hy H;refine⟨λh=>(by rw[h]at hr;cases hr),λj hj=>⟨low listed oI hr j hj,?_⟩⟩;by_cases zV:j=i
  .subst zV;rw[hi];exact(dF hsi).2 ⟨s,hy,H⟩
  .have h1:=(H.2 j (ready_mono hj zV)).2;obtain⟨wY,oj,zB,dB⟩:=mem_ready.1 hj;rw[zB]at h1|-;simp only at h1|-;obtain⟨a2c,oi',b9G,a8Z⟩:=mem_ready.1 hr;have a4w:gL ops ops.size j i=false:=cV oI a2c _ _ λo ho=>by rw[zB]at ho;cases ho;exact dB
   obtain⟨yV,hpo⟩:=yK j oj zB zV wY a4w;have hsj:(cR oj.op=true/\mI ops oj=false)\/pB oj=true:=by
    by_cases hs:pB oj=true
    .exact .inr hs
    .refine .inl ⟨?_,?_⟩
     .unfold qC at hpo;simp only[pB,f7T,f7H,Bool.not_eq_true']at hpo hs;rcases hpo with((((((h|h)|h)|h)|h)|h)|h)|h
      .exact h.1.2
      .exact absurd (.inl (.inl h.1.2)) hs
      .exact h.1.1.2
      .exact absurd (.inl (.inr h.2)) hs
      .exact h.1.2
      .exact absurd (.inl h.1.2) hs
      .exact absurd (.inr h.2) hs
      .exact(oA (G:=G) (st:=st) h.1.2).1
     .cases hx:mI ops oj with
      |false=>rfl
      |true=>
       have aE:i<ops.size:=(f7Q.1 hi).1;rcases uM hx zB aE (λe=>zV e.symm)with h'|h'
       .have:=cV oI wY ops.size i λo ho=>by rw[b9G]at ho;cases ho;exact a8Z
        rw[h']at this;cases this
       .rw[a4w]at h';cases h'
   obtain⟨s12,hu,hk⟩:=(dF hsj).1 h1;obtain⟨s2,e1,e2⟩:=a8Y yV hpo (λhn d hd=>hI i oi d hi hn a2c hd) (λhn d hd=>hI j oj d zB hn wY hd) hy hu;refine(dF hsj).2 ⟨s2,e1,?_⟩;refine ih (listed.setIfInBounds j true) s2 s12 (oI.set hj) (λk ok hk' hki hun sG=>?_) (ready_mono hr (Ne.symm zV)) (hI.step hA zB λk hf hn=>tS e1 hf hn) e2 ?_
   .exact yK k ok hk' hki (sZ hun).2 sG
   .rw[Array.setIfInBounds_comm _ _ zV];exact hk
theorem b8o{ops:Array Oper}{m:Nat}{Q:St->Prop}(hTA:xY ops m=true)(hA:pJ ops)(hT:eG ops=[]\/∀o∈ops.toList,c9e ops o=true):∀(l:List Oper) (k:Nat) (listed:Array Bool) (st:St),k+l.length=m->(∀j,j<l.length->l[j]? =ops[k+j]?)->eH ops listed->qE ops listed st->
  a5q ops m l.length k listed=true->uL P G true ops l st Q->b1S P G ops m Q l.length listed st
 |[],_,_,_,_,_,_,_,hB,h=>⟨by simpa[a5q]using hB,h⟩
 |o::l,k,listed,st,hkm,hl,oI,hI,hB,h=>by
  have e7H:k<m:=by simp only[List.length_cons]at hkm;omega
  have h0:ops[k]? =some o:=by simpa using (hl 0 (by simp)).symm
  simp only[List.length_cons,a5q,f7H,h0]at hB;obtain⟨⟨hr,hf⟩,hB'⟩:=hB;have hrk:k∈Region.ready .any ops listed:=by simpa using hr
  have qR:∀s,qE ops (listed.setIfInBounds k true) s->uL P G true ops l s Q->b1S P G ops m Q l.length (listed.setIfInBounds k true) s:=λs hs h=>b8o hTA hA hT l (k+1) _ s (by simp only[List.length_cons]at hkm;omega) (λj hj=>by have:=hl (j+1) (by simpa using hj);simpa[Nat.add_assoc,Nat.add_comm 1 j]using this) (oI.set hrk) hs hB' h
  have b3B:∀j oj,ops[j]? =some oj->j≠k->listed.getD j true=false->gL ops ops.size j k=false->o.apart ops oj=true/\qC ops o oj=true:=by intro j oj hj eF hun sG;rw[f7K]at hf;have h1:=hf j (List.mem_range.2 (f7Q.1 hj).1);simp only[hj,f7T,beq_iff_eq,eF,false_or,hun,Bool.false_eq_true,sG,f7H]at h1;exact h1
  have only:(∀j oj,ops[j]? =some oj->j≠k->listed.getD j true=false->gL ops ops.size j k=false->False)->b1S P G ops m Q (l.length+1) listed st:=λsG=>by
   have low:∀j∈Region.ready .any ops listed,j<m:=λj hj=>by apply Classical.byContradiction;intro hjm;obtain⟨_,oj,zB,dB⟩:=mem_ready.1 hj;obtain⟨a2c,_⟩:=mem_ready.1 hrk;have h1:=a7Y hTA (Nat.le_of_not_lt hjm) zB e7H;rw[cV oI a2c ops.size j λo ho=>by rw[zB]at ho;cases ho;exact dB]at h1;cases h1
   refine⟨λh'=>(by rw[h']at hrk;cases hrk),λj hj=>⟨low j hj,?_⟩⟩;by_cases hjk:j=k
   .subst hjk;rw[h0];have b7X:pA P G true ops o (λs=>uL P G true ops l s Q/\qE ops (listed.setIfInBounds j true) s) st:=by
     by_cases hT0:eG ops=[]
     .refine eU (λs hs=>⟨hs,λi oi d hi hn _ hd=>?_⟩) h;have:d∈eG ops:=List.mem_filterMap.2 ⟨oi,by rw[Array.mem_toList_iff];exact Array.mem_of_getElem? hi,by rw[if_pos hn];exact hd⟩;rw[hT0]at this;cases this
     .have hT:=hT.resolve_left hT0;refine eU (λs hs=>⟨hs.1,hI.step hA h0 hs.2⟩) (b7W hT0 (hT o (by rw[Array.mem_toList_iff];exact Array.mem_of_getElem? h0)) h)
    exact eU (λs hs=>qR s hs.2 hs.1) b7X
   .obtain⟨wY,oj,zB,dB⟩:=mem_ready.1 hj;have a4w:gL ops ops.size j k=false:=cV oI (mem_ready.1 hrk).1 _ _ λo' uI=>by rw[zB]at uI;cases uI;exact dB
    exact(sG j oj zB hjk wY a4w).elim
  by_cases hs:(cR o.op=true/\mI ops o=false)\/pB o=true
  .obtain⟨s,hd,hk⟩:=(dF hs).1 h;exact c3n e7H hTA hA h0 hs l.length listed st s oI (λj oj hj eF hun sG=>b3B j oj hj eF hun sG) hrk hI hd (qR _ (hI.step hA h0 λk hf hn=>tS hd hf hn) hk)
  .refine only λj oj hj eF hun sG=>?_;obtain⟨_,hpo⟩:=b3B j oj hj eF hun sG;cases hal:mI ops o with
   |true=>
    obtain⟨_,ok,mP,d2f⟩:=mem_ready.1 hrk;have d2g:gL ops ops.size k j=false:=cV oI hun _ _ λo' uI=>by rw[mP]at uI;cases uI;exact d2f
    rcases uM hal h0 (f7Q.1 hj).1 eF with h'|h'
    .rw[sG]at h';cases h'
    .rw[d2g]at h';cases h'
   |false=>
    unfold qC at hpo;simp only[pB,f7T,f7H,Bool.not_eq_true']at hpo hs;rcases hpo with((((((h'|h')|h')|h')|h')|h')|h')|h'
    .exact hs (.inl ⟨h'.1.1,hal⟩)
    .exact hs (.inl ⟨h'.1.1,hal⟩)
    .exact hs (.inr (.inl (.inl h'.1.1.1)))
    .exact hs (.inl ⟨h'.1,hal⟩)
    .exact hs (.inr (.inl (.inr h'.1.1)))
    .exact hs (.inr (.inl h'.1.1))
    .exact hs (.inl ⟨(oA (G:=G) (st:=st) h'.1.1).1,hal⟩)
    .exact hs (.inr (.inr h'.1.1))
theorem b4D{id:Nat}{ops:Array Oper}{m:Nat}{T:St->Prop}{Q:Exit->St->Prop}(hm:P.follows .mixedOrders=true)(hB:d3i ops m=true)(hF:b0E ops st=true)(h:uL P G true ops (ops.toList.take m) st T)(hT:∀s base R μ a w (QQ:Exit->Act->World->Prop),T s->Rel P G base R μ s a w->(∀s' a' w' R' μ',Q .normal s'->Rel P G base R' μ' s' a' w'->Step base R w R' w'->QQ .normal a' w')->wpAny P .any ops QQ (ops.size-m) (pM m ops.size) a w):SW P G (.region id ops true) st Q:=by
 intro base R μ a w hr;obtain⟨eM,qP⟩:=hr.drew;unfold d3i at hB;rw[f7H,f7H,f7H,decide_eq_true_eq]at hB;obtain⟨⟨hN,e7I,hTA⟩,hB⟩:=hB;rw[f7T,List.isEmpty_iff,f7H,f7K,decide_eq_true_eq]at hN;have mem:∀ {i oi d},ops[i]? =some oi->dZ oi=true->oi.dst=some d->d∈eG ops:=λhi hn hd=>List.mem_filterMap.2 ⟨_,by rw[Array.mem_toList_iff];exact Array.mem_of_getElem? hi,by rw[if_pos hn];exact hd⟩;have hA:pJ ops:=λi j oi oj d hi hj hni hnj hdi hdj=>by
  rcases hN with hN|⟨_,hN⟩
  .have:=mem hi hni hdi;rw[hN]at this;cases this
  .exact b3Q (l:=ops.toList) (f:=λo=>if dZ o then o.dst else none) hN i j (by simpa using hi) (by simpa using hj) (by rw[if_pos hni];exact hdi) (by rw[if_pos hnj];exact hdj)
 have hI:qE ops (Array.replicate ops.size false) st:=λj oj d hj hn _ hd=>f7K.1 hF d (mem hj hn hd);have hlen:(ops.toList.take m).length=m:=by simp;omega
 have h1:=b8o (P:=P) (G:=G) hTA hA (hN.imp (λh=>h) (λh=>h.1)) (ops.toList.take m) 0 (Array.replicate ops.size false) st (by rw[hlen];omega) (λj hj=>by
  rw[hlen]at hj;rw[List.getElem?_take,if_pos hj];simp) (λk hk=>by
  rcases Nat.lt_or_ge k ops.size with h'|h'
  .simp[h']at hk
  .simp[Nat.not_lt.2 h']at hk) hI (by rw[hlen];exact hB) h
 rw[hlen]at h1;refine wp_region_any hm ?_;have h2:=b4B (r:=ops.size-m) (QQ:=λe a' w'=>∃s' R' μ',Q e s'/\Rel P G base R' μ' s' a' w'/\Step base R w R' w') m _ st h1 base R μ a w.drew eM λs a' w' R' μ' q1 q2 q3=>hT s base R' μ' a' w' _ q1 q2 λs2 a2 w2 R2 μ2 p1 p2 p3=>⟨s2,R2,μ2,p1,p2,(qP.trans q3).trans p3⟩
 rw[show m+(ops.size-m)=ops.size by omega]at h2;exact h2
end
end Go.VM
end
section
namespace Go.VM
open Go Go.RowKit
def spl(cur:Array Value)(off:Nat)(l:List Value):Array Value:=(cur.toList.take off++l++cur.toList.drop (off+l.length)).toArray
theorem a9p{cur:Array Value}{off:Nat}{l:List Value}(h:off+l.length<=cur.size)(k:Nat):(spl cur off l)[k]? =if k<off then cur[k]? else if k<off+l.length then l[k-off]? else cur[k]? :=by unfold spl;rw[List.getElem?_toArray,a3g _ _ _ (by simpa using h)];simp
theorem b4E{cur:Array Value}{off:Nat}{l:List Value}(h:off+l.length<=cur.size):(spl cur off l).size=cur.size:=by unfold spl;simp only[List.size_toArray,List.length_append,List.length_take,List.length_drop,Array.length_toList];omega
theorem d8W{cur:Array Value}{off:Nat}{l l':List Value}(h:off+l.length<=cur.size)(hl:l'.length=l.length):spl (spl cur off l) off l'=spl cur off l':=by
 apply Array.ext_getElem?;intro k;have h1:=b4E h;rw[a9p (by rw[h1];omega),a9p h,a9p (by omega)];rw[hl];split
 .rfl
 .split
  .rfl
  .rfl
theorem d8X(a b c:List Value)(b':List Value)(h:b'.length=b.length):spl (a.toArray++b.toArray++c.toArray) a.length b'=a.toArray++b'.toArray++c.toArray:=by unfold spl;rw[h];simp
theorem setRow_setRow(w:World)(g:Nat)(a b:Array Value):(w.setRow g a).setRow g b=w.setRow g b:=by
 unfold World.setRow;cases w with
 |mk heap tape drawn os output=>
  simp only;congr 1;apply Array.ext
  .simp
  .intro k h1 h2;simp only[Array.getElem_modify];by_cases hk:g=k
   .simp only[hk,if_true];generalize heap[k]'(by simpa using h1)=o;cases o<;>rfl
   .simp[hk]
theorem b1T(w:World){g b:Nat}(eF:g≠b)(x y:Array Value):(w.setRow g x).setRow b y=(w.setRow b y).setRow g x:=by
 unfold World.setRow;cases w with
 |mk heap tape drawn os output=>
  simp only;congr 1;apply Array.ext
  .simp
  .intro k h1 h2;simp only[Array.getElem_modify];by_cases hk:g=k
   .subst hk;simp[Ne.symm eF]
   .by_cases hb:b=k
    .subst hb;simp[hk]
    .simp[hk,hb]
section
variable {P:Program} {G:GT} {st:St}
theorem vZ{a:Act}{w:World}{o:Oper}{t:TypeId}{ad x:Operand}(ho:o.op=.store t ad x){b off:Nat}{cur:Array Value}{T:TypeId}(had:a.eval ad=.pointer (some ⟨b,off,none⟩))(hh:w.heap[b]? =some (.cells cur T (0,0)))(jG:(a.eval x).cells.size=P.cellsOf t)(eF:P.cellsOf t≠0)(kD:∀u∈(a.eval x).cells.toList,u.oneCell'=true)(jR:off+(a.eval x).cells.size<=cur.size):
  (execOp a.eval o).run P w=.ok .skip (w.setRow b (spl cur off (a.eval x).cells.toList)):=by
 have mD:=run_storeCells_at P b off T (a.eval x).cells.toList 0 cur w hh (by simpa using jR) kD;simp only[Nat.add_zero]at mD;have hnn: ¬((a.eval x).cells.size≠P.cellsOf t):=by rw[jG];simp
 unfold spl;simp only[execOp,ho,Sem.run_bind,had,Instr.storeAt,Instr.sureAddr,storeVar,Sem.run_pure,Result.andThen_ok,tZ (gZ eF) w,if_neg hnn,mD]
theorem a2H{a:Act}{w:World}{o:Oper}{t e:TypeId}{x i:Operand}(ho:o.op=.indexAddr t x i)(hu:P.underlying t=some (.slice e)){b n cap k:Nat}{kd:IntKind}(hx:a.eval x=.slice (some ⟨b,0,none⟩) n cap)(hi:a.eval i=.int kd (k:Int))(hk:k<n)(hs:0<P.cellsOf e):
  (execOp a.eval o).run P w=.ok (.value (.pointer (some ⟨b,k*P.cellsOf e,none⟩))) w:=by
 have hso:=tZ (gZ (P:=P) (t:=e) (by omega)) w;have hkn: ¬(n<=k):=by omega
 simp[execOp,ho,hx,hi,Instr.indexAt,run_underlying hu,asIntOf,hk,hso,qN]
theorem b1U{base:cT}{R:Nat->Nat->Prop}{μ:Nat->Nat}{a:Act}{w:World}(hr:Rel P G base R μ st a w){t ty e:TypeId}(mP:gK P e=true)(hu:P.underlying t=some (.slice e)){i:Tmp}{x:Operand}{xs:List (List D)}{z0:List D}{dV:List (TypeId×List Loc)}(hsx:st.eval G (.tmp i)=.d (.sl xs))(htk:gC (.t i) st.own=some (e,dV))(hlx:∀c∈xs,c.length=P.cellsOf e)(hx:st.eval G x=.d (.sl [z0]))(hz0:z0.length=P.cellsOf e)(hbd:(xs.length+1)*(P.bytesOf e+1)<=140737488355328):
  ∃g cap a2h w1,(Builtin.append_ #[t,t] ty #[a.eval (.tmp i),a.eval x]).run P w=.ok (.slice (some ⟨g,0,none⟩) (xs.length+1) cap) w1/\w1.heap[g]? =some (.cells a2h e (0,0))/\xs.length*P.cellsOf e+P.cellsOf e<=a2h.size/\
   (∀k o,getKey k st.H=some o->μ k≠g/\w1.heap[μ k]? =w.heap[μ k]?)/\
   ∀(news:List Value) (c:List D),news.length=P.cellsOf e->c.length=P.cellsOf e->(∀u∈news,u.oneCell'=true)->(∀(j:Nat) (d:D),c[j]? =some d->d.one=true/\∃v,news[j]? =some v/\V R w v d)->
    ∃R1,Rel P G base R1 μ {st with own:=dV} a (w1.setRow g (spl a2h (xs.length*P.cellsOf e) news))/\V R1 (w1.setRow g (spl a2h (xs.length*P.cellsOf e) news)) (.slice (some ⟨g,0,none⟩) (xs.length+1) cap) (.sl (xs++[c]))/\
     a4I P base R1 μ {st with own:=dV} a (w1.setRow g (spl a2h (xs.length*P.cellsOf e) news)) (.slice (some ⟨g,0,none⟩) (xs.length+1) cap) (.fresh e)/\Step base R w R1 (w1.setRow g (spl a2h (xs.length*P.cellsOf e) news)):=by
 obtain⟨ti,z,hi,vN,a7F,a0E,hz,hzs⟩:=yH mP;have hb1:xs.length+1<=140737488355328:=by rw[Nat.mul_add]at hbd;omega
 have hb2:(xs.length+1)*P.bytesOf e<=140737488355328:=by rw[Nat.mul_add]at hbd;omega
 obtain⟨ao2,d8Y,hv2,a7e⟩:=b7L (ys:=[z0]) hr (by rw[hx];rfl);obtain⟨b2,d8Z,e7J,rfl,q1,q2,q3⟩:=a7e (by simp);have f1k:e7J=P.cellsOf e:=by rw[<-q2 z0 (.head _),hz0]
 subst f1k;obtain⟨n0,m1,m2,m3,m4⟩:=a8S q2 q3;simp only[List.length_singleton,Nat.one_mul]at m1 hv2;obtain⟨eM,v0,vs,hv0,kJ,a2y,rK,yV⟩:=hr.gC htk;have hsv:a.eval (.tmp i)=v0:=by
  refine hv0 _ ?_
  show a.tmps[i]? =some (a.tmps.getD i undef)
  by_cases hs:i<a.tmps.size
  .simp[hs]
  .have h3: ¬i<st.tmps.length:=by rw[<-hr.size];exact hs
   simp[St.eval,List.getD,List.getElem?_eq_none (Nat.le_of_not_lt h3)]at hsx
 have hV:=hr.kK hsx;have aE:∀k o,getKey k st.H=some o->μ k<w.heap.size:=λk o hk=>(hr.gY k o hk).2.2.lt;have b6L:∀(olds:List Value) (old:Nat),olds.length=xs.length*P.cellsOf e->(∀(i j:Nat) (c:List D) (d:D),xs[i]? =some c->c[j]? =some d->d.one=true/\∃v,olds[i*P.cellsOf e+j]? =some v/\V R w v d)->
   (Builtin.append_ #[t,t] ty #[a.eval (.tmp i),a.eval x]).run P w=.ok (.slice (some ⟨w.heap.size,0,none⟩) (xs.length+1) (grownCap w (xs.length+1) old e)) (w.drew.alloc (.cells (olds.toArray++n0.toArray++Builtin.zeroCells z.cells (grownCap w (xs.length+1) old e-(xs.length+1))) e))->
   ∃g cap a2h w1,(Builtin.append_ #[t,t] ty #[a.eval (.tmp i),a.eval x]).run P w=.ok (.slice (some ⟨g,0,none⟩) (xs.length+1) cap) w1/\w1.heap[g]? =some (.cells a2h e (0,0))/\xs.length*P.cellsOf e+P.cellsOf e<=a2h.size/\
   (∀k o,getKey k st.H=some o->μ k≠g/\w1.heap[μ k]? =w.heap[μ k]?)/\
   ∀(news:List Value) (c:List D),news.length=P.cellsOf e->c.length=P.cellsOf e->(∀u∈news,u.oneCell'=true)->(∀(j:Nat) (d:D),c[j]? =some d->d.one=true/\∃v,news[j]? =some v/\V R w v d)->
    ∃R1,Rel P G base R1 μ {st with own:=dV} a (w1.setRow g (spl a2h (xs.length*P.cellsOf e) news))/\V R1 (w1.setRow g (spl a2h (xs.length*P.cellsOf e) news)) (.slice (some ⟨g,0,none⟩) (xs.length+1) cap) (.sl (xs++[c]))/\
     a4I P base R1 μ {st with own:=dV} a (w1.setRow g (spl a2h (xs.length*P.cellsOf e) news)) (.slice (some ⟨g,0,none⟩) (xs.length+1) cap) (.fresh e)/\Step base R w R1 (w1.setRow g (spl a2h (xs.length*P.cellsOf e) news)):=by
  intro olds old ho1 ho2 cZ;refine⟨w.heap.size,_,_,_,cZ,heap_alloc_new w.drew _,?_,λk o hk=>⟨by have:=aE k o hk;omega,Below.heap_alloc w.drew _ _ (aE k o hk)⟩,?_⟩
  .simp only[Array.size_append,List.size_toArray,ho1,m1];omega
  .intro news c hn hc h1 hcn;have hsp:spl (olds.toArray++n0.toArray++Builtin.zeroCells z.cells (grownCap w (xs.length+1) old e-(xs.length+1))) (xs.length*P.cellsOf e) news=olds.toArray++news.toArray++Builtin.zeroCells z.cells (grownCap w (xs.length+1) old e-(xs.length+1)):=by have:=d8X olds n0 (Builtin.zeroCells z.cells (grownCap w (xs.length+1) old e-(xs.length+1))).toList news (by rw[hn,m1]);rw[ho1]at this;simpa using this
   rw[hsp];have hal:=c0a w.drew (olds.toArray++n0.toArray++Builtin.zeroCells z.cells (grownCap w (xs.length+1) old e-(xs.length+1))) (olds.toArray++news.toArray++Builtin.zeroCells z.cells (grownCap w (xs.length+1) old e-(xs.length+1))) e;have hhs:w.drew.heap.size=w.heap.size:=rfl;rw[hhs]at hal;rw[hal];obtain⟨R',n1,n2,n3,n4⟩:=a7G eM (e:=e) (z:=z) a0E hzs (xs:=xs) (ys:=[c]) (olds:=olds) (news:=news) old (by unfold maxLen;simp;omega) hlx (by simpa using hc) ho1 (by simpa using hn) ho2 (λi j c' d hi hj=>by
    cases i with
    |zero=>simp at hi;subst hi;simpa using hcn j d hj
    |succ i=>simp at hi) _ rfl
   exact⟨R',n1,n3,n4,n2⟩
 have b3C:xs=[]->(∃ao,v0=.slice ao 0 0)->_:=λhx0 ⟨ao,hao⟩=>b6L [] 0 (by rw[hx0];simp) (by rw[hx0];simp) (by
  rw[hsv,hao,hv2,hx0];cases ao with
  |none=>have:=run_append_nil (P:=P) w t ty e ti z hu hi hz ⟨b2,d8Z,none⟩ 1 d8Y n0 (by rw[m1,vN,Nat.one_mul]) m2 (by omega) (by omega) (by rw[a7F];rw[hx0]at hb2;simp at hb2;omega);simpa using this
  |some b0=>have:=run_append_grow (P:=P) w t ty e ti z hu hi hz b0 0 0 [] (by simp) (by simp) ⟨b2,d8Z,none⟩ 1 d8Y n0 (by rw[m1,vN,Nat.one_mul]) m2 (by omega) (by omega) (by rw[a7F];rw[hx0]at hb2;exact growslice_fits (by omega) (by simpa using hb2));simpa using this)
 rcases kJ with⟨ao,rfl⟩|⟨g,n,cap,cur,rfl,hbg,hg,hnc,hcm,qO,hnR⟩
 .have hx0:xs=[]:=by obtain⟨ao',d7a,h1,_⟩:=hV.a0z;rw[hsv]at h1;exact List.eq_nil_of_length_eq_zero (Value.slice.inj h1).2.1.symm
  exact b3C hx0 ⟨ao,rfl⟩
 .obtain⟨ao',d7a,h1,_,d1X⟩:=hV.a0z;rw[hsv]at h1;cases h1;have holds:∃olds:List Value,olds.length=xs.length*P.cellsOf e/\(∀(j:Nat) (u:Value),olds[j]? =some u->w.cell? ((⟨g,0,none⟩:Addr).add j)=some u)/\
    ∀(i j:Nat) (c:List D) (d:D),xs[i]? =some c->c[j]? =some d->d.one=true/\∃v,olds[i*P.cellsOf e+j]? =some v/\V R w v d:=by
   by_cases hx0:xs=[]
   .subst hx0;exact⟨[],by simp,by simp,by simp⟩
   .obtain⟨b,o',size,hba,q1,q2,q3⟩:=d1X hx0;cases hba;have jG:size=P.cellsOf e:=by
     cases xs with
     |nil=>exact absurd rfl hx0
     |cons c l=>rw[<-q2 c (.head _),hlx c (.head _)]
    subst jG;obtain⟨olds,n1,n2,_,n4⟩:=a8S q2 q3;exact⟨olds,n1,n2,n4⟩
  obtain⟨olds,o1,o2,o3⟩:=holds;by_cases a4P:xs.length+1<=cap
  .have hmul:(xs.length+1)*P.cellsOf e<=cap*P.cellsOf e:=Nat.mul_le_mul_right _ a4P;have e1I:xs.length*P.cellsOf e+P.cellsOf e<=cur.size:=by rw[qO];rw[Nat.add_mul,Nat.one_mul]at hmul;exact hmul
   have jR:xs.length*P.cellsOf e+n0.length<=cur.size:=by rw[m1];exact e1I
   have cZ:=run_append_room (P:=P) w t ty e ti hu hi g xs.length cap cur hg ⟨b2,d8Z,none⟩ 1 d8Y n0 (by rw[m1,vN,Nat.one_mul]) m2 m3 a4P (by rw[vN];exact jR);rw[vN]at cZ;have a7e:(Builtin.append_ #[t,t] ty #[a.eval (.tmp i),a.eval x]).run P w=.ok (.slice (some ⟨g,0,none⟩) (xs.length+1) cap) (w.setRow g (spl cur (xs.length*P.cellsOf e) n0)):=by rw[hsv,hv2];exact cZ
   have b2x:bF (.slice (some ⟨g,0,none⟩) xs.length cap)=some g:=by simp[bF];omega
   have e7K:∀k o,getKey k st.H=some o->μ k≠g:=λk o hk he=>a2y k o hk (by rw[b2x,he]);refine⟨g,cap,_,_,a7e,setRow_heap w g cur _ e _ hg,?_,λk o hk=>⟨e7K k o hk,setRow_other w g _ _ (e7K k o hk)⟩,?_⟩
   .rw[b4E jR];exact e1I
   .intro news c hn hc h1n hcn;have hnl:news.length=n0.length:=by rw[hn,m1]
    rw[d8W jR hnl,setRow_setRow];have e1J:xs.length*P.cellsOf e+news.length<=cur.size:=by rw[hnl];exact jR
    generalize c2f:spl cur (xs.length*P.cellsOf e) news=cur';have a4t:∀k,cur'[k]? =if k<xs.length*P.cellsOf e then cur[k]? else if k<xs.length*P.cellsOf e+news.length then news[k-xs.length*P.cellsOf e]? else cur[k]? :=λk=>by rw[<-c2f];exact a9p e1J k
    obtain⟨p1,p2,p3⟩:=eM.c7K (g:=g) (n:=xs.length) (m:=1) (s:=P.cellsOf e) (cur':=cur') (λk o' hk he=>a2y k o' hk (by rw[b2x,he])) rK (λv' zS hsp=>(yV v' zS).1 g b2x hsp) hbg hg hnR (λoff c8Z=>by rw[a4t,if_pos c8Z]);have e1K:(w.setRow g cur').heap[g]? =some (.cells cur' e (0,0)):=setRow_heap w g cur _ e _ hg;have d1V:cur'.size=cap*P.cellsOf e:=by rw[<-c2f,b4E e1J,qO]
    refine⟨_,p1,?_,?_,p2⟩
    .have hly:∀c'∈[c],c'.length=P.cellsOf e:=by simpa using hc
     have oV:∀(i j:Nat) (c':List D) (d:D),(xs++[c])[i]? =some c'->c'[j]? =some d->d.one=true/\∃v,(w.setRow g cur').cell? ⟨g,0+i*P.cellsOf e+j,none⟩=some v/\V R w v d:=λi j c' d hi' hj=>by
      rw[Nat.zero_add,cell_of_row _ _ _ cur' e (0,0) e1K,a4t];by_cases tY:i<xs.length
      .rw[f7S tY]at hi';obtain⟨w1,v,w2,w3⟩:=o3 i j c' d hi' hj;have aE:=(f7I.1 w2).1;have b3I:=o2 _ v w2;rw[qN,Nat.zero_add,cell_of_row _ _ _ cur e (0,0) hg]at b3I;rw[if_pos (by omega)];exact⟨w1,v,b3I,w3⟩
      .rw[f7P (by omega)]at hi';have hi0:i=xs.length:=by have:=(f7I.1 hi').1;simp at this;omega
       subst hi0;simp at hi';subst hi';obtain⟨w1,v,w2,w3⟩:=hcn j d hj;have aE:=(f7I.1 w2).1;rw[if_neg (by omega),if_pos (by omega),Nat.add_sub_cancel_left];exact⟨w1,v,w2,w3⟩
     refine .sl g 0 _ cap (P.cellsOf e) _ (λi j=>((w.setRow g cur').cell? ⟨g,0+i*P.cellsOf e+j,none⟩).getD undef) (by simp) a4P a0E (λc' yU=>by simp at yU;rcases yU with yU|yU;exact hlx c' yU;exact hly c' (by simpa using yU)) (λi j hi' hj=>⟨.inr ⟨rfl,?_⟩,?_⟩) (λi j c' d hi' hj=>(oV i j c' d hi' hj).1) (λi j c' d hi' hj=>?_)
     .have:(i+1)*P.cellsOf e<=(xs.length+1)*P.cellsOf e:=Nat.mul_le_mul_right _ (by omega);rw[Nat.add_mul]at this;omega
     .have tY:i<(xs++[c]).length:=by simp;omega
      have hei:=f7L tY;have hjl:j<((xs++[c])[i]).length:=by
       have hm:(xs++[c])[i]∈xs++[c]:=List.getElem_mem tY;rw[List.mem_append]at hm;rcases hm with hm|hm
       .rw[hlx _ hm];exact hj
       .rw[hly _ hm];exact hj
      obtain⟨_,v,hv,_⟩:=oV i j _ _ hei (f7L hjl);rw[hv];rfl
     .obtain⟨_,v,hv,hvd⟩:=oV i j c' d hi' hj;rw[hv];exact hvd.bI p2
    .refine⟨.inr ⟨g,_,cap,cur',rfl,hbg,e1K,a4P,hcm,d1V,λoff c8Z hR=>?_⟩,λk o' hk=>by have:=a2y k o' hk;rw[b2x]at this;simpa[bF,show cap≠0 by omega]using this,vs,p3,λv' zS=>?_⟩
     .rcases hR with hR|⟨_,hR⟩
      .have:xs.length*P.cellsOf e<=(xs.length+1)*P.cellsOf e:=Nat.mul_le_mul_right _ (by omega);exact hnR off (by omega) hR
      .omega
     .have d1Y:bF (.slice (some ⟨g,0,none⟩) (xs.length+1) cap)=some g:=by simp[bF];omega
      exact⟨λg' hg' c5K=>(yV v' zS).1 g' (by rw[b2x, <- d1Y];exact hg') c5K,λg' hg' c5K=>(yV v' zS).2 g' hg' (by rw[b2x, <- d1Y];exact c5K)⟩
  .refine b6L olds cap o1 o3 ?_;rw[hsv,hv2];exact run_append_grow (P:=P) w t ty e ti z hu hi hz ⟨g,0,none⟩ xs.length cap olds (by rw[o1,vN]) o2 ⟨b2,d8Z,none⟩ 1 d8Y n0 (by rw[m1,vN,Nat.one_mul]) m2 (by omega) (by omega) (by rw[a7F];exact growslice_fits (by omega) hb2)
abbrev tl2(s:St)(dV:List (TypeId×List Loc))(e:TypeId)(r p:Tmp)(xs:List (List D))(c:List D):St:=finish (finish {s with own:=dV} (some r) (.d (.sl (xs++[c]))) (.fresh e)) (some p) .undef .no
theorem dA{ops:Array Oper}{Q:Exit->Act->World->Prop}{i:Nat}{K:Act->World->Prop}{a a':Act}{w w':World}{o:Oper}(ho:ops[i]? =some o)(hg:o.guard=none){v:Value}(cZ:(execOp a.eval o).run P w=.ok (.value v) w'\/((execOp a.eval o).run P w=.ok .skip w'/\v=Go.undef))(ha:a.put o.dst v=a')(h:K a' w'):wpOp P ops Q i K a w:=by
 unfold wpOp;rw[ho];have hw:∀y,Region.wanted o y=true:=λy=>by unfold Region.wanted;rw[hg]
 simp only[hw,if_true];left;unfold Oper.wp;rcases cZ with h1|⟨h1,rfl⟩
 .rw[h1]
  show K (a.put o.dst v) w'
  rw[ha];exact h
 .rw[h1]
  show K (a.put o.dst Go.undef) w'
  rw[ha];exact h
theorem d9a{ops:Array Oper}{i0 i1 i2 i3:Nat}{L0:Array Bool}{t e:TypeId}{s z r p q x b:Tmp}{y0 y1 y2 y3:TypeId}{p0 p1 p2 p3:String}{f0 f1 f2 f3:Array Edge}{xs:List (List D)}{z0 c:List D}{dV:List (TypeId×List Loc)}{out:Out}{Q:St->Prop}{QQ:Exit->Act->World->Prop}(h0:ops[i0]? =some ⟨some r,.call {callee:=.builtin .append,args:=#[.tmp s,.tmp z],argTypes:=#[t,t]},y0,p0,f0,none⟩)(h1:ops[i1]? =some ⟨some p,.indexAddr t (.tmp r) (.tmp q),y1,p1,f1,none⟩)(h2:ops[i2]? =some ⟨none,.store e (.tmp p) (.tmp x),y2,p2,f2,none⟩)(h3:ops[i3]? =some ⟨none,.store t (.tmp b) (.tmp r),y3,p3,f3,none⟩)(r0:Region.ready .any ops L0=[i0])(r1:Region.ready .any ops (L0.setIfInBounds i0 true)=[i1,i3])(r2:Region.ready .any ops ((L0.setIfInBounds i0 true).setIfInBounds i1 true)=[i2,i3])(r3:Region.ready .any ops ((L0.setIfInBounds i0 true).setIfInBounds i3 true)=[i1])(r4:Region.ready .any ops (((L0.setIfInBounds i0 true).setIfInBounds i1 true).setIfInBounds i2 true)=[i3])(r5:Region.ready .any ops (((L0.setIfInBounds i0 true).setIfInBounds i1 true).setIfInBounds i3 true)=[i2])(r6:Region.ready .any ops (((L0.setIfInBounds i0 true).setIfInBounds i3 true).setIfInBounds i1 true)=[i2])(r7:Region.ready .any ops ((((L0.setIfInBounds i0 true).setIfInBounds i1 true).setIfInBounds i2 true).setIfInBounds i3 true)=[])(r8:Region.ready .any ops ((((L0.setIfInBounds i0 true).setIfInBounds i1 true).setIfInBounds i3 true).setIfInBounds i2 true)=[])(r9:Region.ready .any ops ((((L0.setIfInBounds i0 true).setIfInBounds i3 true).setIfInBounds i1 true).setIfInBounds i2 true)=[])(mP:gK P e=true)(hu:P.underlying t=some (.slice e))(eF:(r≠q/\r≠x/\r≠p/\r≠b)/\p≠x/\p≠b)(aE:r<st.tmps.length/\p<st.tmps.length)(hsx:st.eval G (.tmp s)=.d (.sl xs))(htk:gC (.t s) st.own=some (e,dV))(hlx:∀c∈xs,c.length=P.cellsOf e)(hx:st.eval G (.tmp z)=.d (.sl [z0]))(hz0:z0.length=P.cellsOf e)(hbd:(xs.length+1)*(P.bytesOf e+1)<=140737488355328)(hq:st.eval G (.tmp q)=.d (.int .i64 (xs.length:Int)))(hxv:st.eval G (.tmp x)=.d (.agg c))(hc:c.length=P.cellsOf e)(mD:uG P G t (.tmp b) (.tmp r) (tl2 st dV e r p xs c)=some out)(hQ:Q out.st){base:cT}{R:Nat->Nat->Prop}{μ:Nat->Nat}{a:Act}{w:World}(hr:Rel P G base R μ st a w)(hk:∀s' a' w' R' μ',Q s'->Rel P G base R' μ' s' a' w'->Step base R w R' w'->QQ .normal a' w'):wpAny P .any ops QQ 4 L0 a w:=by
 obtain⟨⟨n1,n2,n3,n4⟩,n5,n6⟩:=eF;obtain⟨l1,l2⟩:=aE;have jG:=hr.size;obtain⟨_,_,_,_,_,a0E,_,_⟩:=yH mP;obtain⟨g,cap,a2h,w1,e0,hg,jR,e4p,b7M⟩:=b1U (ty:=y0) hr mP hu (x:=.tmp z) hsx htk hlx hx hz0 hbd;obtain⟨pc,hpc,b0O,c3p⟩:=(hr.kK hxv).a3c;have kD:∀u∈pc.toList,u.oneCell'=true:=λu hu=>by
  obtain⟨j,hj⟩:=f7Y hu;have hjl:j<c.length:=by rw[<-b0O];simpa using (f7I.1 hj).1
  obtain⟨k1,k2⟩:=c3p j c[j] (by simp[hjl]);have:pc.getD j Go.undef=u:=by
   have:pc[j]? =some u:=by simpa using hj
   simp[f7J,this]
  rw[this]at k2;exact k2.a8O k1
 obtain⟨R1,hr1,hV1,hA1,hs1⟩:=b7M pc.toList c (by simpa[b0O]using hc) hc kD (λj d hj=>by
  obtain⟨k1,k2⟩:=c3p j d hj;have hjl:j<pc.size:=by rw[b0O];exact(f7I.1 hj).1
  refine⟨k1,pc[j],by simp[hjl],?_⟩;simpa[f7J,hjl]using k2)
 generalize hvS:(Value.slice (some ⟨g,0,none⟩) (xs.length+1) cap)=vS at *;generalize d3j:spl a2h (xs.length*P.cellsOf e) pc.toList=b0P at *;have hra:r<a.tmps.size:=by rw[jG];exact l1
 have hpa:p<a.tmps.size:=by rw[jG];exact l2
 have e4r:=hr1.put (dst:=some r) (.d _ _ hV1) hA1;have zC:=e4r.put (dst:=some p) (v:=.pointer (some ⟨g,xs.length*P.cellsOf e,none⟩)) (act:=.no) (.undef _) trivial;generalize ha1:a.put (some r) vS=a1 at *;generalize ha2:a1.put (some p) (.pointer (some ⟨g,xs.length*P.cellsOf e,none⟩))=a2 at *;have z1:a1.tmps.size=a.tmps.size:=by rw[<-ha1];exact size_put _ _ _
 have v1r:a1.eval (.tmp r)=vS:=by rw[<-ha1];exact dR _ _ hra
 have v1q:a1.eval (.tmp q)=a.eval (.tmp q):=by rw[<-ha1];exact bV _ _ (Ne.symm n1)
 have v1x:a1.eval (.tmp x)=a.eval (.tmp x):=by rw[<-ha1];exact bV _ _ (Ne.symm n2)
 have v1b:a1.eval (.tmp b)=a.eval (.tmp b):=by rw[<-ha1];exact bV _ _ (Ne.symm n4)
 have v2p:a2.eval (.tmp p)=.pointer (some ⟨g,xs.length*P.cellsOf e,none⟩):=by rw[<-ha2];exact dR _ _ (z1.symm▸hpa)
 have v2x:a2.eval (.tmp x)=.agg pc:=by rw[<-ha2,bV _ _ (Ne.symm n5),v1x,hpc]
 have v2r:a2.eval (.tmp r)=vS:=by rw[<-ha2,bV _ _ n3];exact v1r
 have v2b:a2.eval (.tmp b)=a.eval (.tmp b):=by rw[<-ha2,bV _ _ (Ne.symm n6)];exact v1b
 have a5r:=mD;unfold uG at a5r;split at a5r;rotate_left
 .cases a5r
 rename_i kb off ys hb hys;split at a5r;rotate_left
 .cases a5r
 rename_i cs hkb;split at a5r;rotate_left
 .cases a5r
 rename_i hcd
 clear a5r
 have hHs:(tl2 st dV e r p xs c).H=st.H:=rfl;rw[hHs]at hkb;have hb':a2.eval (.tmp b)=.pointer (some ⟨μ kb,off,none⟩):=zC.eC hb;have e4u:ys.length=1:=by
  have:(tl2 st dV e r p xs c).eval G (.tmp r)=.d (.sl (xs++[c])):=by simp[St.eval,finish,List.getD,l1,List.getElem?_set,Ne.symm n3]
  rw[this]at hys;simp only[uE,D.cells,List.map_cons,List.map_nil,f7N]at hys;rw[<-hys];rfl
 obtain⟨_,_,vs0,T0,hh0,e4v,_⟩:=hr.gY kb _ hkb;obtain⟨hbg,e4w⟩:=e4p kb _ hkb;have hvc:vS.cells=#[vS]:=by rw[<-hvS];rfl
 have hvo:vS.oneCell'=true:=by rw[<-hvS];rfl
 have hob:w1.heap[μ kb]? =some (.cells vs0 T0 (0,0)):=e4w.trans hh0;generalize hX:spl vs0 off [vS]=X;have E0:(execOp a.eval ⟨some r,.call {callee:=.builtin .append,args:=#[.tmp s,.tmp z],argTypes:=#[t,t]},y0,p0,f0,none⟩).run P w=.ok (.value vS) w1:=by simp[execOp,resolve,invoke,builtin,e0]
 have E1:∀w',(execOp a1.eval ⟨some p,.indexAddr t (.tmp r) (.tmp q),y1,p1,f1,none⟩).run P w'=.ok (.value (.pointer (some ⟨g,xs.length*P.cellsOf e,none⟩))) w':=λw'=>a2H rfl hu (v1r.trans hvS.symm) (v1q.trans (hr.vL hq)) (by omega) a0E
 have E2:∀w':World,w'.heap[g]? =some (.cells a2h e (0,0))->(execOp a2.eval ⟨none,.store e (.tmp p) (.tmp x),y2,p2,f2,none⟩).run P w'=.ok .skip (w'.setRow g b0P):=λw' hw'=>by have:=vZ (P:=P) (a:=a2) (w:=w') (o:=⟨none,.store e (.tmp p) (.tmp x),y2,p2,f2,none⟩) rfl v2p hw' (by rw[v2x];show pc.size=_;rw[b0O,hc]) (by omega) (by rw[v2x];exact kD) (by rw[v2x];show _+pc.size<=_;rw[b0O,hc];exact jR);rw[v2x]at this;have oI:(Value.agg pc).cells=pc:=rfl;rw[oI,d3j]at this;exact this
 have E3:∀(ax:Act) (w':World),ax.eval (.tmp b)=.pointer (some ⟨μ kb,off,none⟩)->ax.eval (.tmp r)=vS->w'.heap[μ kb]? =some (.cells vs0 T0 (0,0))->(execOp ax.eval ⟨none,.store t (.tmp b) (.tmp r),y3,p3,f3,none⟩).run P w'=.ok .skip (w'.setRow (μ kb) X):=λax w' hb1 hr1 hw'=>by have:=vZ (P:=P) (a:=ax) (w:=w') (o:=⟨none,.store t (.tmp b) (.tmp r),y3,p3,f3,none⟩) rfl hb1 hw' (by rw[hr1,hvc, <- hcd.1,e4u];rfl) (by omega) (by rw[hr1,hvc];simpa using hvo) (by rw[hr1,hvc];show off+1<=_;rw[e4v];omega);rw[hr1,hvc]at this;have:(execOp ax.eval ⟨none,.store t (.tmp b) (.tmp r),y3,p3,f3,none⟩).run P w'=.ok .skip (w'.setRow (μ kb) (spl vs0 off [vS])):=this;rw[hX]at this;exact this
 have hb1:a1.eval (.tmp b)=.pointer (some ⟨μ kb,off,none⟩):=by rw[v1b, <- v2b];exact hb'
 have hgX:(w1.setRow (μ kb) X).heap[g]? =some (.cells a2h e (0,0)):=(setRow_other w1 (μ kb) g _ (Ne.symm hbg)).trans hg;have hbX:(w1.setRow g b0P).heap[μ kb]? =some (.cells vs0 T0 (0,0)):=(setRow_other w1 g (μ kb) _ hbg).trans hob;have b8p:(w1.setRow (μ kb) X).setRow g b0P=(w1.setRow g b0P).setRow (μ kb) X:=b1T w1 hbg X b0P;have yO:QQ .normal a2 ((w1.setRow g b0P).setRow (μ kb) X):=by
  obtain⟨v,w',R',μ',cZ,hr3,_,_,hs3⟩:=a6j (o:=⟨none,.store t (.tmp b) (.tmp r),y3,p3,f3,none⟩) rfl mD base R1 μ a2 _ zC;rw[E3 a2 _ hb' v2r hbX]at cZ;rcases cZ with cZ|⟨cZ,_⟩
  .cases cZ
  .cases cZ;exact hk out.st a2 _ R' μ' hQ hr3 (hs1.trans hs3)
 refine wpAny_all r0 (by simp) λi hi=>?_;simp only[f7O]at hi;subst hi;refine dA h0 rfl (.inl E0) ha1 ?_;refine wpAny_all r1 (by simp) λj hj=>?_;simp only[List.mem_cons,List.not_mem_nil,or_false]at hj;rcases hj with rfl|rfl
 .refine dA h1 rfl (.inl (E1 w1)) ha2 ?_;refine wpAny_all r2 (by simp) λj hj=>?_;simp only[List.mem_cons,List.not_mem_nil,or_false]at hj;rcases hj with rfl|rfl
  .refine dA h2 rfl (.inr ⟨E2 w1 hg,rfl⟩) rfl ?_;refine wpAny_all r4 (by simp) λj hj=>?_;simp only[f7O]at hj;subst hj;exact dA h3 rfl (.inr ⟨E3 a2 _ hb' v2r hbX,rfl⟩) rfl (wpAny_done r7 yO _)
  .refine dA h3 rfl (.inr ⟨E3 a2 _ hb' v2r hob,rfl⟩) rfl ?_;refine wpAny_all r5 (by simp) λj hj=>?_;simp only[f7O]at hj;subst hj;exact dA h2 rfl (.inr ⟨E2 _ hgX,rfl⟩) rfl (wpAny_done r8 (by rw[b8p];exact yO) _)
 .refine dA h3 rfl (.inr ⟨E3 a1 _ hb1 v1r hob,rfl⟩) rfl ?_;refine wpAny_all r3 (by simp) λj hj=>?_;simp only[f7O]at hj;subst hj;refine dA h1 rfl (.inl (E1 _)) ha2 ?_;refine wpAny_all r6 (by simp) λj hj=>?_;simp only[f7O]at hj;subst hj;exact dA h2 rfl (.inr ⟨E2 _ hgX,rfl⟩) rfl (wpAny_done r9 (by rw[b8p];exact yO) _)
end
end Go.VM
end
section
namespace Go.VM
open Go Go.RowKit
section
variable {P:Program} {G:GT} {st:St} {Q:Exit->St->Prop}
theorem SW.c6p{id:Nat}{c:Code}(h:SW P G c st λe s=>match e with
  | .exit id'=>if id'=id then Q .normal s else Q (.exit id') s
  |e=>Q e s):SW P G (.block id c) st Q:=λbase R μ a w hr=>wp_block (wp_mono (h base R μ a w hr) λe a1 w1 ⟨s,R1,μ1,q1,q2,q3⟩=>by
   cases e with
   |exit id'=>
    simp only[Exit.inBlock];simp only at q1;by_cases hid:id'=id
    .rw[if_pos hid]at q1|-;exact⟨s,R1,μ1,q1,q2,q3⟩
    .rw[if_neg hid]at q1|-;exact⟨s,R1,μ1,q1,q2,q3⟩
   |_=>exact⟨s,R1,μ1,q1,q2,q3⟩)
theorem SW.f3A{c:Code}{ι:Type}(ws:ι->List (Nat×DV))(H:ι->List (Nat×aW))(own:ι->List (TypeId×List Loc))(m:ι->Nat)(x0:ι)(h0:uN st (eS c st (ws x0) (H x0) (own x0)))(round:∀x,SW P G c (eS c st (ws x) (H x) (own x)) λe s=>match e with
   | .normal=>aX (λy=>eS c st (ws y) (H y) (own y)) m x s
   |e=>Q e s):SW P G (.loop c) st Q:=by
 intro base R μ a w hr;refine wp_loop_ghost (λn a1 w1=>∃x R1 μ1,m x=n/\Rel P G base R1 μ1 (eS c st (ws x) (H x) (own x)) a1 w1/\Step base R w R1 w1) (m x0) ⟨x0,R,μ,rfl,hr.a0H h0,.refl _ _ _⟩ ?_;rintro n a1 w1 ⟨x,R1,μ1,rfl,hr1,hs1⟩;refine wp_mono (round x base R1 μ1 a1 w1 hr1) λe a2 w2 ⟨s,R2,μ2,q,zC,hs2⟩=>?_;cases e with
 |normal=>simp only at q;unfold aX at q;obtain⟨y,hy,aE⟩:=q;exact⟨m y,aE,y,R2,μ2,rfl,zC.a0H hy,hs1.trans hs2⟩
 |_=>exact⟨s,R2,μ2,q,zC,hs1.trans hs2⟩
theorem c6q{all:Array Oper}{rest:List Oper}{T:St->Prop}(h:VK P G [.ops true all rest] .normal st λ_ s=>T s):uL P G true all rest st T:=by simp only[VK]at h;exact h
def e4y(P:Program)(G:GT)(t e:TypeId)(s z r p q x b:Tmp)(Q:St->Prop)(st:St):Prop:=
 ∃(xs:List (List D)) (z0 c:List D) (dV:List (TypeId×List Loc)) (out:Out),(r<st.tmps.length/\p<st.tmps.length)/\st.eval G (.tmp s)=.d (.sl xs)/\gC (.t s) st.own=some (e,dV)/\(∀c∈xs,c.length=P.cellsOf e)/\st.eval G (.tmp z)=.d (.sl [z0])/\z0.length=P.cellsOf e/\
  (xs.length+1)*(P.bytesOf e+1)<=140737488355328/\st.eval G (.tmp q)=.d (.int .i64 (xs.length:Int))/\st.eval G (.tmp x)=.d (.agg c)/\c.length=P.cellsOf e/\uG P G t (.tmp b) (.tmp r) (tl2 st dV e r p xs c)=some out/\Q out.st
def b8r(ops:Array Oper)(m:Nat):Bool:=
 let L:=pM m ops.size
 decide (ops.size=m+4)&&(Region.ready .any ops L==[m])&&(Region.ready .any ops (L.setIfInBounds m true)==[m+1,m+3])&&(Region.ready .any ops ((L.setIfInBounds m true).setIfInBounds (m+1) true)==[m+2,m+3])&&(Region.ready .any ops ((L.setIfInBounds m true).setIfInBounds (m+3) true)==[m+1])&&
 (Region.ready .any ops (((L.setIfInBounds m true).setIfInBounds (m+1) true).setIfInBounds (m+2) true)==[m+3])&&(Region.ready .any ops (((L.setIfInBounds m true).setIfInBounds (m+1) true).setIfInBounds (m+3) true)==[m+2])&&(Region.ready .any ops (((L.setIfInBounds m true).setIfInBounds (m+3) true).setIfInBounds (m+1) true)==[m+2])&&
 (Region.ready .any ops ((((L.setIfInBounds m true).setIfInBounds (m+1) true).setIfInBounds (m+2) true).setIfInBounds (m+3) true)==[])&&(Region.ready .any ops ((((L.setIfInBounds m true).setIfInBounds (m+1) true).setIfInBounds (m+3) true).setIfInBounds (m+2) true)==[])&&(Region.ready .any ops ((((L.setIfInBounds m true).setIfInBounds (m+3) true).setIfInBounds (m+1) true).setIfInBounds (m+2) true)==[])
end
end Go.VM
end
section
namespace Go.VM
open Go Go.RowKit
section
variable {P:Program} {G:GT} {st:St}
theorem Rel.alias{base:cT}{R:Nat->Nat->Prop}{μ:Nat->Nat}{a:Act}{w:World}(hr:Rel P G base R μ st a w){t:Tmp}{k off:Nat}(hk:∃o,getKey k st.H=some o)(ht:t<a.tmps.size)(h:∀u,w.cell? ⟨μ k,off,none⟩=some u->u=a.eval (.tmp t)):
  Rel P G base R μ {st with own:=addAlias (.t t) (.c k off) st.own} a w:=by
 obtain⟨vs,rK⟩:=hr.own;refine⟨hr.defers,hr.size,hr.tmps,hr.gY,hr.inj,λc hc k' a4M hl=>?_,⟨vs,by simpa[addAlias]using rK.len,λi c v hc hv=>?_,rK.apart⟩,hr.tQ,hr.pH,hr.base,hr.pass⟩
 .obtain⟨i,hi⟩:=f7Y hc;obtain⟨c',yU,_,hm⟩:=vJ hi;rcases hm _ hl with hx|⟨hx,_⟩
  .exact hr.dI c' (f7M yU) k' a4M hx
  .cases hx;exact hk
 .obtain⟨c',yU,he,hm⟩:=vJ hc;have ho:=rK.one i c' v yU hv;refine⟨λl hl u hu=>?_,by rw[he];exact ho.own,ho.keys⟩;rcases hm l hl with hx|⟨rfl,hx⟩
  .exact ho.dI l hx u hu
  .have h1:=h u hu;have h2:cB a w μ (.t t)=some (a.eval (.tmp t)):=by simp[cB,Act.eval,ht]
   rw[h1];exact ho.dI _ hx _ h2
end
end Go.VM
end
section
namespace Go.VM
open Go Go.RowKit
section
variable {P:Program} {G:GT} {base:cT} {R:Nat->Nat->Prop} {μ:Nat->Nat} {st:St} {a:Act} {w:World}
theorem xD{o:Oper}{t u:TypeId}{x:Operand}{i fo:Nat}(ho:o.op=.fieldAddr t x i)(hf:aG P t i=some (fo,u))(eF:P.cellsOf u≠0){b off:Nat}(hx:a.eval x=.pointer (some ⟨b,off,none⟩)):
  (execOp a.eval o).run P w=.ok (.value (.pointer (some ⟨b,off+fo,none⟩))) w:=by
 obtain⟨fs,f,h1,h2,rfl,rfl⟩:=vM hf;obtain⟨ti,hti⟩:∃i,P.info? f.type=some i:=by
  cases hi:P.info? f.type with
  |none=>simp[Program.cellsOf,hi]at eF
  |some i=>exact⟨i,rfl⟩
 simp[execOp,ho,hx,Instr.fieldAt,run_underlying h1,h2,Instr.sureAddr,a0A (w:=w) b off f hti eF]
end
end Go.VM
end
section
namespace Go.VM
open Go
section
variable {G:GT}
theorem c8g{P:Program}{id:Nat}{ops:Array Oper}{st:St}{Q:Exit->St->Prop}(hm:P.follows .mixedOrders=true)(h:b3L P G ops (λs=>Q .normal s) ops.size (Array.replicate ops.size false) st):SW P G (.region id ops true) st Q:=by intro base R μ a w hr;obtain⟨eM,qP⟩:=hr.drew;exact wp_region_any hm (b3e ops.size _ st h base R μ a w.drew eM λs a' w' R' μ' q1 q2 q3=>⟨s,R',μ',q1,q2,qP.trans q3⟩)
abbrev lst(l:List Nat):Array Bool:=l.foldl (λa i=>a.setIfInBounds i true) (Array.replicate 4 false)
def four(ops:Array Oper):Bool:=decide (ops.size=4)&&(Region.ready .any ops (lst [])==[0,1])&&(Region.ready .any ops (lst [0])==[1,2])&&(Region.ready .any ops (lst [1])==[0,3])&&(Region.ready .any ops (lst [0,1])==[2,3])&&(Region.ready .any ops (lst [1,0])==[2,3])
 &&(Region.ready .any ops (lst [0,2])==[1])&&(Region.ready .any ops (lst [1,3])==[0])&&(Region.ready .any ops (lst [0,1,2])==[3])&&(Region.ready .any ops (lst [0,1,3])==[2])&&(Region.ready .any ops (lst [1,0,2])==[3])&&(Region.ready .any ops (lst [1,0,3])==[2])&&(Region.ready .any ops (lst [0,2,1])==[3])&&(Region.ready .any ops (lst [1,3,0])==[2])
 &&(Region.ready .any ops (lst [0,1,2,3])==[])&&(Region.ready .any ops (lst [0,1,3,2])==[])&&(Region.ready .any ops (lst [1,0,2,3])==[])&&(Region.ready .any ops (lst [1,0,3,2])==[])&&(Region.ready .any ops (lst [0,2,1,3])==[])&&(Region.ready .any ops (lst [1,3,0,2])==[])
theorem e9O{P:Program}{id:Nat}{ops:Array Oper}{st:St}{Q:Exit->St->Prop}{o0 o1 o2 o3:Oper}(hm:P.follows .mixedOrders=true)(hB:four ops=true)(h0:ops[0]? =some o0)(h1:ops[1]? =some o1)(h2:ops[2]? =some o2)(h3:ops[3]? =some o3)(h:let V:=pA P G true ops
   let F:=λs=>Q .normal s
   V o0 (λs=>V o1 (λs=>V o2 (V o3 F) s/\V o3 (V o2 F) s) s/\V o2 (V o1 (V o3 F)) s) st/\V o1 (λs=>V o0 (λs=>V o2 (V o3 F) s/\V o3 (V o2 F) s) s/\V o3 (V o0 (V o2 F)) s) st):SW P G (.region id ops true) st Q:=by
 simp only[four,f7H,decide_eq_true_eq,beq_iff_eq,List.foldl_cons,List.foldl_nil]at hB;obtain⟨⟨⟨⟨⟨⟨⟨⟨⟨⟨⟨⟨⟨⟨⟨⟨⟨⟨⟨jG,r⟩,r0⟩,r1⟩,r01⟩,r10⟩,r02⟩,r13⟩,e4z⟩,f1w⟩,e4A⟩,f1x⟩,e4B⟩,f1y⟩,d3l⟩,e7Q⟩,d3m⟩,e7R⟩,d3n⟩,e7S⟩:=hB;refine c8g hm ?_;rw[jG];simp only[b3L,r,r0,r1,r01,r10,r02,r13,e4z,f1w,e4A,f1x,e4B,f1y,d3l,e7Q,d3m,e7R,d3n,e7S,h0,h1,h2,h3,List.forall_mem_cons,List.not_mem_nil,false_imp_iff,implies_true,and_true,true_and,reduceCtorEq];exact h
def three(ops:Array Oper):Bool:=decide (ops.size=4)&&(Region.ready .any ops (lst [])==[0,1])&&(Region.ready .any ops (lst [0])==[1,2])&&(Region.ready .any ops (lst [1])==[0])&&(Region.ready .any ops (lst [0,1])==[2])&&(Region.ready .any ops (lst [1,0])==[2])
 &&(Region.ready .any ops (lst [0,2])==[1])&&(Region.ready .any ops (lst [0,1,2])==[3])&&(Region.ready .any ops (lst [1,0,2])==[3])&&(Region.ready .any ops (lst [0,2,1])==[3])
 &&(Region.ready .any ops (lst [0,1,2,3])==[])&&(Region.ready .any ops (lst [1,0,2,3])==[])&&(Region.ready .any ops (lst [0,2,1,3])==[])
theorem c3q{P:Program}{id:Nat}{ops:Array Oper}{st:St}{Q:Exit->St->Prop}{o0 o1 o2 o3:Oper}(hm:P.follows .mixedOrders=true)(hB:three ops=true)(h0:ops[0]? =some o0)(h1:ops[1]? =some o1)(h2:ops[2]? =some o2)(h3:ops[3]? =some o3)(h:VK P G [.ops true ops [o0]] .normal st (λ_ s=>VK P G [.ops true ops [o1,o2,o3]] .normal s (λ_ s=>Q .normal s)/\VK P G [.ops true ops [o2,o1,o3]] .normal s (λ_ s=>Q .normal s))/\VK P G [.ops true ops [o1,o0,o2,o3]] .normal st (λ_ s=>Q .normal s)):SW P G (.region id ops true) st Q:=by simp only[VK]at h;simp only[three,f7H,decide_eq_true_eq,beq_iff_eq,List.foldl_cons,List.foldl_nil]at hB;obtain⟨⟨⟨⟨⟨⟨⟨⟨⟨⟨⟨⟨jG,r⟩,r0⟩,r1⟩,r01⟩,r10⟩,r02⟩,e4z⟩,e4A⟩,e4B⟩,d3l⟩,d3m⟩,d3n⟩:=hB;refine c8g hm ?_;rw[jG];simp only[b3L,r,r0,r1,r01,r10,r02,e4z,e4A,e4B,d3l,d3m,d3n,h0,h1,h2,h3,List.forall_mem_cons,List.not_mem_nil,false_imp_iff,implies_true,and_true,true_and,reduceCtorEq];exact h
end
end Go.VM
end
section
namespace Go.VM
open Go
section
variable {P:Program} {G:GT} {base:cT} {R:Nat->Nat->Prop} {μ:Nat->Nat} {st:St} {a:Act} {w:World}
def a2I(P:Program)(G:GT)(ops:Array Oper)(c:Nat)(Q:St->Prop):Nat->Array Bool->St->Prop
 |0,listed,st=>Region.ready .any ops listed=[]/\Q st
 |fuel+1,listed,st=>(Region.ready .any ops listed=[]->Q st)/\∀i∈Region.ready .any ops listed,match ops[i]? with
  |none=>a2I P G ops c Q fuel (listed.setIfInBounds i true) st
  |some o=>pA P G (i !=c) ops o (a2I P G ops c Q fuel (listed.setIfInBounds i true)) st
theorem a9q{ops:Array Oper}{c:Nat}{Q:St->Prop}{QQ:Exit->Act->World->Prop}:∀(fuel:Nat) (listed:Array Bool) (st:St),a2I P G ops c Q fuel listed st->∀(base:cT) (R:Nat->Nat->Prop) (μ:Nat->Nat) (a:Act) (w:World),Rel P G base R μ st a w->
  (∀s a' w' R' μ',Q s->Rel P G base R' μ' s a' w'->Step base R w R' w'->QQ .normal a' w')->wpAny P .any ops QQ fuel listed a w
 |0,_,st,h,base,R,μ,a,w,hr,hk=>⟨h.1,hk st a w R μ h.2 hr (.refl _ _ _)⟩
 |fuel+1,listed,st,h,base,R,μ,a,w,hr,hk=>by
  refine⟨λh0=>hk st a w R μ (h.1 h0) hr (.refl _ _ _),λi hi=>?_⟩;have h1:=h.2 i hi;unfold wpOp;split
  .rename_i ho;rw[ho]at h1;exact a9q fuel _ st h1 base R μ a w hr hk
  .rename_i o ho;rw[ho]at h1;exact uA h1 hr λs v w' R' μ' h' eM qP=>a9q fuel _ s h' base R' μ' _ w' eM λs a' w2 R2 μ2 q1 q2 q3=>hk s a' w2 R2 μ2 q1 q2 (qP.trans q3)
theorem d3o{id:Nat}{ops:Array Oper}{c:Nat}{Q:Exit->St->Prop}(hm:P.follows .mixedOrders=true)(h:a2I P G ops c (λs=>Q .normal s) ops.size (Array.replicate ops.size false) st):SW P G (.region id ops true) st Q:=by intro base R μ a w hr;obtain⟨eM,qP⟩:=hr.drew;exact wp_region_any hm (a9q ops.size _ st h base R μ a w.drew eM λs a' w' R' μ' q1 q2 q3=>⟨s,R',μ',q1,q2,qP.trans q3⟩)
theorem c3r{ops:Array Oper}{c:Nat}{Q:St->Prop}{i:Nat}{oi:Oper}(hA:pJ ops)(hi:ops[i]? =some oi)(hic:i≠c)(hsi:(cR oi.op=true/\mI ops oi=false)\/pB oi=true):
  ∀(fuel:Nat) (listed:Array Bool) (st s:St),eH ops listed->
   (∀j oj,ops[j]? =some oj->j≠i->listed.getD j true=false->gL ops ops.size j i=false->j≠c/\oi.apart ops oj=true/\qC ops oi oj=true)->
   i∈Region.ready .any ops listed->qE ops listed st->Eff P G ops oi st s->
   a2I P G ops c Q fuel (listed.setIfInBounds i true) s->a2I P G ops c Q (fuel+1) listed st:=by
 have qi:(i !=c)=true:=by simpa using hic
 intro fuel
 induction fuel with
 |zero=>
  intro listed st s _ _ hr _ hy H;refine⟨λh=>(by rw[h]at hr;cases hr),λj hj=>?_⟩;by_cases zV:j=i
  .subst zV;rw[hi,qi];exact(dF hsi).2 ⟨s,hy,H⟩
  .have:=ready_mono hj zV;rw[H.1]at this;cases this
 |succ fuel ih=>
  intro listed st s oI yK hr hI hy H;refine⟨λh=>(by rw[h]at hr;cases hr),λj hj=>?_⟩;by_cases zV:j=i
  .subst zV;rw[hi,qi];exact(dF hsi).2 ⟨s,hy,H⟩
  .have h1:=H.2 j (ready_mono hj zV);obtain⟨wY,oj,zB,dB⟩:=mem_ready.1 hj;rw[zB]at h1|-;simp only at h1|-;obtain⟨a2c,oi',b9G,a8Z⟩:=mem_ready.1 hr;have a4w:gL ops ops.size j i=false:=cV oI a2c _ _ λo ho=>by rw[zB]at ho;cases ho;exact dB
   obtain⟨hjc,yV,hpo⟩:=yK j oj zB zV wY a4w;have qj:(j !=c)=true:=by simpa using hjc
   rw[qj]at h1|-;have hsj:(cR oj.op=true/\mI ops oj=false)\/pB oj=true:=by
    by_cases hs:pB oj=true
    .exact .inr hs
    .refine .inl ⟨?_,?_⟩
     .unfold qC at hpo;simp only[pB,f7T,f7H,Bool.not_eq_true']at hpo hs;rcases hpo with((((((h|h)|h)|h)|h)|h)|h)|h
      .exact h.1.2
      .exact absurd (.inl (.inl h.1.2)) hs
      .exact h.1.1.2
      .exact absurd (.inl (.inr h.2)) hs
      .exact h.1.2
      .exact absurd (.inl h.1.2) hs
      .exact absurd (.inr h.2) hs
      .exact(oA (G:=G) (st:=st) h.1.2).1
     .cases hx:mI ops oj with
      |false=>rfl
      |true=>
       have aE:i<ops.size:=(f7Q.1 hi).1;rcases uM hx zB aE (λe=>zV e.symm)with h'|h'
       .have:=cV oI wY ops.size i λo ho=>by rw[b9G]at ho;cases ho;exact a8Z
        rw[h']at this;cases this
       .rw[a4w]at h';cases h'
   obtain⟨s12,hu,hk⟩:=(dF hsj).1 h1;obtain⟨s2,e1,e2⟩:=a8Y yV hpo (λhn d hd=>hI i oi d hi hn a2c hd) (λhn d hd=>hI j oj d zB hn wY hd) hy hu;refine(dF hsj).2 ⟨s2,e1,?_⟩;refine ih (listed.setIfInBounds j true) s2 s12 (oI.set hj) (λk ok hk' hki hun sG=>?_) (ready_mono hr (Ne.symm zV)) (hI.step hA zB λk hf hn=>tS e1 hf hn) e2 ?_
   .exact yK k ok hk' hki (sZ hun).2 sG
   .rw[Array.setIfInBounds_comm _ _ zV];exact hk
def a4A(P:Program)(G:GT)(ops:Array Oper)(c:Nat):List Nat->St->(St->Prop)->Prop
 |[],st,K=>K st
 |i::r,st,K=>match ops[i]? with
  |some o=>pA P G (i !=c) ops o (λs=>a4A P G ops c r s K) st
  |none=>False
def b4F(ops:Array Oper)(c:Nat)(listed:Array Bool)(i:Nat):Bool:=(Region.ready .any ops listed==[i])||((Region.ready .any ops listed).contains i&&(i !=c)&&(match ops[i]? with
 |none=>false
 |some oi=>((cR oi.op&& !mI ops oi)||pB oi)&&(List.range ops.size).all λj=>j==i||listed.getD j true||gL ops ops.size j i||(j !=c&&(match ops[j]? with
  |some oj=>oi.apart ops oj&&qC ops oi oj
  |none=>true))))
def cL(l:List Nat)(x:Array Bool):Array Bool:=l.foldl (λx i=>x.setIfInBounds i true) x
def a9r(ops:Array Oper)(c:Nat):List Nat->Array Bool->Bool
 |[],_=>true
 |i::r,listed=>b4F ops c listed i&&a9r ops c r (listed.setIfInBounds i true)
theorem b8s{ops:Array Oper}(h:eG ops=[]){i:Nat}{o:Oper}{d:Tmp}(hi:ops[i]? =some o)(hn:dZ o=true)(hd:o.dst=some d):False:=by have:d∈eG ops:=List.mem_filterMap.2 ⟨o,by rw[Array.mem_toList_iff];exact Array.mem_of_getElem? hi,by rw[if_pos hn];exact hd⟩;rw[h]at this;cases this
theorem a6o{ops:Array Oper}{c:Nat}{Q:St->Prop}(hN:eG ops=[]):∀(l:List Nat) (listed:Array Bool) (st:St) (fuel:Nat),eH ops listed->a9r ops c l listed=true->
  a4A P G ops c l st (a2I P G ops c Q fuel (cL l listed))->(eH ops (cL l listed)->True)->a2I P G ops c Q (l.length+fuel) listed st
 |[],listed,st,fuel,_,_,h,_=>by simpa[cL,a4A]using h
 |i::l,listed,st,fuel,oI,hB,h,_=>by
  have hA:pJ ops:=λi j oi oj d hi _ hni _ hdi _=>(b8s hN hi hni hdi).elim;have hI:∀listed st,qE ops listed st:=λ_ _ j oj d hj hn _ hd=>(b8s hN hj hn hd).elim;simp only[a9r,f7H]at hB;obtain⟨hf,hB'⟩:=hB;simp only[a4A]at h;split at h;rotate_left
  .cases h
  rename_i o ho;have he:(i::l).length+fuel=l.length+fuel+1:=by simp only[List.length_cons];omega
  rw[he];unfold b4F at hf;rw[f7T,beq_iff_eq]at hf;have hri:i∈Region.ready .any ops listed:=by
   rcases hf with hf|hf
   .rw[hf];exact f7O.2 rfl
   .simp only[f7H]at hf;simpa using hf.1.1
  have qR:∀s,a4A P G ops c l s (a2I P G ops c Q fuel (cL (i::l) listed))->a2I P G ops c Q (l.length+fuel) (listed.setIfInBounds i true) s:=λs hs=>a6o hN l _ s fuel (oI.set hri) hB' hs λ_=>trivial;rcases hf with hf|hf
  .refine⟨λh'=>(by rw[h']at hf;cases hf),λj hj=>?_⟩;rw[hf,f7O]at hj;subst hj;rw[ho];exact eU qR h
  .rw[ho]at hf;simp only[f7H,f7T,Bool.not_eq_true',bne_iff_ne,ne_eq]at hf;obtain⟨⟨_,hic⟩,hsi,dB⟩:=hf;have qi:(i !=c)=true:=by simpa using hic
   rw[qi]at h;obtain⟨s,hd,hk⟩:=(dF hsi).1 h;refine c3r hA ho hic hsi _ listed st s oI (λj oj hj eF hun sG=>?_) hri (hI _ _) hd (qR s hk);rw[f7K]at dB;have h1:=dB j (List.mem_range.2 (f7Q.1 hj).1);simp only[hj,f7T,beq_iff_eq,eF,false_or,hun,Bool.false_eq_true,sG,f7H,bne_iff_ne,ne_eq]at h1;exact h1
theorem c6r{ops:Array Oper}{c:Nat}{Q:St->Prop}{fuel:Nat}{listed:Array Bool}(h:Region.ready .any ops listed=[])(hq:Q st):a2I P G ops c Q fuel listed st:=by
 cases fuel with
 |zero=>exact⟨h,hq⟩
 |succ n=>exact⟨λ_=>hq,λi hi=>by rw[h]at hi;cases hi⟩
theorem tC{ops:Array Oper}{c:Nat}{K K':St->Prop}(hk:∀s,K s->K' s):∀(l:List Nat) (st:St),a4A P G ops c l st K->a4A P G ops c l st K'
 |[],st,h=>hk st h
 |i::r,st,h=>by
  simp only[a4A]at h|-;split at h
  .exact eU (λs hs=>tC hk r s hs) h
  .cases h
theorem eH.cL{ops:Array Oper}{c:Nat}:∀(l:List Nat) (listed:Array Bool),eH ops listed->a9r ops c l listed=true->eH ops (VM.cL l listed)
 |[],_,hc,_=>hc
 |i::r,listed,hc,hB=>by
  simp only[a9r,f7H]at hB;have hri:i∈Region.ready .any ops listed:=by
   have hf:=hB.1;unfold b4F at hf;rw[f7T,beq_iff_eq]at hf;rcases hf with hf|hf
   .rw[hf];exact f7O.2 rfl
   .simp only[f7H]at hf;simpa using hf.1.1
  exact eH.cL r _ (hc.set hri) hB.2
inductive Ord where
 |none
 |call (rest:List Nat) (more:Ord)
 |op (i:Nat) (next more:Ord)
def sel(ops:Array Oper):List Nat->List Oper
 |[]=>[]
 |i::r=>match ops[i]? with
  |some o=>o::sel ops r
  |none=>sel ops r
def b2F(P:Program)(G:GT)(ops:Array Oper)(c:Nat)(K:St->Prop):Ord->St->Prop
 | .none,_=>True
 | .call rest more,st=>VK P G [.ops false ops (sel ops [c]),.ops true ops (sel ops rest)] .normal st (λ_ s=>K s)/\b2F P G ops c K more st
 | .op i next more,st=>VK P G [.ops true ops (sel ops [i])] .normal st (λ_ s=>b2F P G ops c K next s)/\b2F P G ops c K more st
def a3w(c:Nat):Ord->Nat->Bool
 | .none,_=>false
 | .call _ more,j=>decide (j=c)||a3w c more j
 | .op i _ more,j=>decide (j=i)||a3w c more j
def inB(ops:Array Oper)(c:Nat)(l:List Nat):Bool:=l.all λi=>decide (i<ops.size)&&decide (i≠c)
def b4G(ops:Array Oper)(c:Nat):Ord->Nat->Array Bool->Bool
 | .none,_,_=>true
 | .call rest more,n,listed=>decide (c<ops.size)&&inB ops c rest&&a9r ops c rest (listed.setIfInBounds c true)&&(Region.ready .any ops (cL rest (listed.setIfInBounds c true))).isEmpty&&decide (rest.length+1<=n)&&b4G ops c more n listed
 | .op i next more,n,listed=>inB ops c [i]&&decide (2<=n)&& !(Region.ready .any ops (listed.setIfInBounds i true)).isEmpty&&((Region.ready .any ops (listed.setIfInBounds i true)).all λj=>a3w c next j)&&b4G ops c next (n-1) (listed.setIfInBounds i true)&&b4G ops c more n listed
theorem wA{ops:Array Oper}{c:Nat}{K:St->Prop}:∀(l:List Nat) (st:St),inB ops c l=true->uL P G true ops (sel ops l) st K->a4A P G ops c l st K
 |[],st,_,h=>h
 |i::r,st,hB,h=>by
  simp only[inB,List.all_cons,f7H,decide_eq_true_eq]at hB;obtain⟨⟨hi,hic⟩,hr⟩:=hB;have qi:(i !=c)=true:=by simpa using hic
  simp only[sel,f7Z hi,uL]at h;simp only[a4A,f7Z hi,qi];exact eU (λs hs=>wA r s hr hs) h
theorem a9s{ops:Array Oper}{c:Nat}{Q:St->Prop}(hN:eG ops=[]):∀(T:Ord) (n:Nat) (listed:Array Bool) (st:St),eH ops listed->b4G ops c T (n+1) listed=true->b2F P G ops c Q T st->∀i∈Region.ready .any ops listed,a3w c T i=true->
  match ops[i]? with
  |none=>a2I P G ops c Q n (listed.setIfInBounds i true) st
  |some o=>pA P G (i !=c) ops o (a2I P G ops c Q n (listed.setIfInBounds i true)) st
 | .none,_,_,_,_,_,_,_,_,ha=>by cases ha
 | .call rest more,n,listed,st,oI,hB,h,i,hi,ha=>by
  simp only[b4G,f7H,decide_eq_true_eq,List.isEmpty_iff]at hB;obtain⟨⟨⟨⟨⟨hc,vI⟩,hs⟩,he⟩,hlen⟩,a5s⟩:=hB;simp only[b2F]at h;simp only[a3w,f7T,decide_eq_true_eq]at ha;by_cases hic:i=c
  .subst hic;have h1:=h.1;simp only[VK,sel,f7Z hc,uL]at h1;simp only[f7Z hc,bne_self_eq_false];refine eU (λs qP=>?_) h1;obtain⟨k,hk⟩:=Nat.exists_eq_add_of_le (Nat.le_of_succ_le_succ hlen);rw[hk];exact a6o hN rest _ s k (oI.set hi) hs (tC (λs hs=>c6r he hs) _ _ (wA rest s vI qP)) λ_=>trivial
  .exact a9s hN more n listed st oI a5s h.2 i hi (ha.resolve_left hic)
 | .op x next more,n,listed,st,oI,hB,h,i,hi,ha=>by
  simp only[b4G,f7H,decide_eq_true_eq,Bool.not_eq_true',List.isEmpty_eq_false_iff,f7K]at hB;obtain⟨⟨⟨⟨⟨vI,hn⟩,eF⟩,dB⟩,qR⟩,a5s⟩:=hB;simp only[b2F]at h;simp only[a3w,f7T,decide_eq_true_eq]at ha;by_cases hix:i=x
  .subst hix;have h1:=h.1;simp only[inB,List.all_cons,List.all_nil,Bool.and_true,f7H,decide_eq_true_eq]at vI;have qi:(i !=c)=true:=by simpa using vI.2
   simp only[VK,sel,f7Z vI.1,uL]at h1;simp only[f7Z vI.1,qi];refine eU (λs qP=>?_) h1;obtain⟨m,rfl⟩:∃m,n=m+1:=⟨n-1,by omega⟩;exact⟨λh'=>(eF h').elim,λj hj=>a9s hN next m _ s (oI.set hi) qR qP j hj (dB j hj)⟩
  .exact a9s hN more n listed st oI a5s h.2 i hi (ha.resolve_left hix)
def d3p(ops:Array Oper)(c:Nat)(qM:List Nat)(T:Ord):Bool:=(eG ops).isEmpty&&decide (qM.length+1<=ops.size)&&inB ops c qM&&a9r ops c qM (Array.replicate ops.size false)&& !(Region.ready .any ops (cL qM (Array.replicate ops.size false))).isEmpty&&((Region.ready .any ops (cL qM (Array.replicate ops.size false))).all λj=>a3w c T j)&&b4G ops c T (ops.size-qM.length) (cL qM (Array.replicate ops.size false))
theorem d3q{id:Nat}{ops:Array Oper}{Q:Exit->St->Prop}(c:Nat)(qM:List Nat)(T:Ord)(hm:P.follows .mixedOrders=true)(hB:d3p ops c qM T=true)(h:VK P G [.ops true ops (sel ops qM)] .normal st λ_ s=>b2F P G ops c (λs=>Q .normal s) T s):SW P G (.region id ops true) st Q:=by
 simp only[d3p,f7H,List.isEmpty_iff,decide_eq_true_eq,Bool.not_eq_true',List.isEmpty_eq_false_iff,f7K]at hB;obtain⟨⟨⟨⟨⟨⟨hN,hlen⟩,vI⟩,hs⟩,eF⟩,dB⟩,ht⟩:=hB;refine d3o (c:=c) hm ?_;obtain⟨k,hk⟩:=Nat.exists_eq_add_of_le hlen;have oI:eH ops (Array.replicate ops.size false):=λk hk=>by
  rcases Nat.lt_or_ge k ops.size with h'|h'
  .simp[h']at hk
  .simp[Nat.not_lt.2 h']at hk
 have e:ops.size-qM.length=k+1:=by omega
 rw[e]at ht;simp only[VK]at h;have:=a6o (P:=P) (G:=G) (c:=c) (Q:=λs=>Q .normal s) hN qM (Array.replicate ops.size false) st (k+1) oI hs (tC (λs qP=>⟨λh'=>(eF h').elim,λj hj=>a9s hN T k _ s (eH.cL qM _ oI hs) ht qP j hj (dB j hj)⟩) _ _ (wA qM st vI h)) λ_=>trivial;rw[show qM.length+(k+1)=ops.size by omega]at this;exact this
attribute [simp] sel b2F
theorem SW.e7U{st:St}{Q:Exit->St->Prop}{c:Code}{ι:Type}(ws:ι->List (Nat×DV))(H:ι->List (Nat×aW))(own:ι->List (TypeId×List Loc))(m:ι->Nat)(x0:ι)(h0:uN st (eS c st (ws x0) (H x0) (own x0)))(round:∀x,SW P G c (eS c st (ws x) (H x) (own x)) λe s=>match e with
   | .normal=>aX (λy=>eS c st (ws y) (H y) (own y)) m x s
   |e=>Q e s):SW P G (.loop c) st Q:=by
 intro base R μ a w hr;refine wp_loop_ghost (λn a1 w1=>∃x R1 μ1,m x=n/\Rel P G base R1 μ1 (eS c st (ws x) (H x) (own x)) a1 w1/\Step base R w R1 w1) (m x0) ⟨x0,R,μ,rfl,hr.a0H h0,.refl _ _ _⟩ ?_;rintro n a1 w1 ⟨x,R1,μ1,rfl,hr1,hs1⟩;refine wp_mono (round x base R1 μ1 a1 w1 hr1) λe a2 w2 ⟨s,R2,μ2,q,zC,hs2⟩=>?_;cases e with
 |normal=>simp only at q;unfold aX at q;obtain⟨y,hy,aE⟩:=q;exact⟨m y,aE,y,R2,μ2,rfl,zC.a0H hy,hs1.trans hs2⟩
 |_=>exact⟨s,R2,μ2,q,zC,hs1.trans hs2⟩
theorem SW.a7f{c:Operand}{x y:Code}{st:St}{Q:Exit->St->Prop}(hc:st.eval G c=.d (.bool true))(h:SW P G x st Q):SW P G (.cond c x y) st Q:=λbase R μ a w hr=>wp_cond (hr.a0y hc) (h base R μ a w hr)
theorem SW.b1V{c:Operand}{x y:Code}{st:St}{Q:Exit->St->Prop}(hc:st.eval G c=.d (.bool false))(h:SW P G y st Q):SW P G (.cond c x y) st Q:=λbase R μ a w hr=>wp_cond (hr.a0y hc) (h base R μ a w hr)
theorem SW.f1z{x y:Code}{st:St}{Q:Exit->St->Prop}(st':St)(h1:SW P G x st λe s=>match e with
  | .normal=>uN s st'
  |e=>Q e s)(h2:SW P G y st' Q):SW P G (.seq x y) st Q:=SW.jZ λbase R μ a w hr=>
 wp_mono (h1 base R μ a w hr) λe a1 w1 ⟨s,R1,μ1,q1,q2,q3⟩=>by
  cases e with
  |normal=>exact⟨s,R1,μ1,λbase R μ a w hr=>h2 base R μ a w (hr.a0H q1),q2,q3⟩
  |_=>exact⟨s,R1,μ1,q1,q2,q3⟩
theorem SW.f1A{x y:Code}{st:St}{Q:Exit->St->Prop}(ws:List (Nat×DV))(H:List (Nat×aW))(own:List (TypeId×List Loc))(h1:SW P G x st λe s=>match e with
  | .normal=>uN s (eS x st ws H own)
  |e=>Q e s)(h2:SW P G y (eS x st ws H own) Q):SW P G (.seq x y) st Q:=SW.f1z _ h1 h2
end
end Go.VM
end
section
namespace Go.VM
open Go Go.RowKit
section
variable {P:Program} {G:GT} {st:St} {base:cT} {R:Nat->Nat->Prop} {μ:Nat->Nat} {a:Act} {w:World}
abbrev a0a(v:Value):List PanicEntry:=[{v:=v,recovered:=false}]
def e7V(base:cT)(R:Nat->Nat->Prop)(w:World)(v:Value)(e:Ending)(w':World):Prop:=∃R',e=.panicked (a0a v)/\Step base R w R' w'/\∀b o,R' b o->b<w'.heap.size
def CPn(P:Program)(G:GT)(f:FuncId)(s0:St)(v:Value):Prop:=
 ∀(base:cT) (R:Nat->Nat->Prop) (μ:Nat->Nat) (args:Array Value) (w:World),Rel P G base R μ s0 {tmps:=args,defers:=[]} w->Calls P f args w (e7V base R w v)
def a9t(P:Program)(G:GT)(f:FuncId)(f7F:List DV)(ls:List (Option Loc))(st:St)(v:Value):Prop:=
 ∀(base:cT) (R:Nat->Nat->Prop) (μ:Nat->Nat) (a:Act) (w:World) (args:Array Value),Rel P G base R μ st a w->args.size=f7F.length->(∀(i:Nat) (d:DV),f7F[i]? =some d->TV R μ w (args.getD i undef) d)->
  (∀(i:Nat) (l:Loc),ls[i]? =some (some l)->∀u,cB a w μ l=some u->u=args.getD i undef)->Calls P f args w (e7V base R w v)
theorem a9t.e4C{f:FuncId}{s0:St}{v:Value}(yW:CPn P G f s0 v)(K:List (Nat×Nat)){f7F:List DV}{ls:List (Option Loc)}{rest:List (TypeId×List Loc)}(jR:aJ K s0 .undef s0.H=true)(jI:WkT f7F (aQ K s0.tmps))(hH:WkH st.H (cH K s0.H))(kJ:uW st st.own (s0.own.map (pK K ls))=some rest)(kn:zD st.tmps.length ls s0.own=true):
  a9t P G f f7F ls st v:=by
 simp only[aJ,f7H,decide_eq_true_eq,f7K]at jR;obtain⟨⟨⟨⟨⟨⟨⟨⟨kf,ks⟩,kp⟩,kt⟩,kh⟩,kl⟩,kr⟩,kd⟩,k1⟩:=jR;intro base R μ a w args hr hl hv a6J;obtain⟨vs,rK⟩:=hr.own;obtain⟨vsT,vsR,t1,t2,t3,t4,t5,t6,t7⟩:=a5j hr _ _ _ vs ⟨rK.len,rK.one,rK.apart⟩ kJ;have inK:∀k o,getKey k s0.H=some o->(K.any λp=>p.1==k)=true/\aN K o=true/\(getKey k s0.H).isSome=true:=λk o hk=>by
  have:=kh _ (gN hk)
  try simp only[f7H]at this
  exact⟨this.1.1,this.1.2,this.2⟩
 have inst:∀k o,getKey k s0.H=some o->∃o',getKey (rk K k) st.H=some o'/\WkO o' (cP K o):=λk o hk=>by
  have hm:=gN hk;have:∀ {l:List (Nat×aW)},WkH st.H (cH K l)->(k,o)∈l->∃o',getKey (rk K k) st.H=some o'/\WkO o' (cP K o):=by
   intro l
   induction l with
   |nil=>intro _ h;cases h
   |cons p l ih=>
    intro hw hp;obtain⟨h1,h2⟩:=hw;rcases List.mem_cons.1 hp with rfl|hp
    .exact h1
    .exact ih h2 hp
  exact this hH hm
 have big:∀k,(K.any λp=>p.1==k)=true->100000<=k:=λk hk=>by obtain⟨p,h1,h2,_⟩:=a0F hk;rw[<-h2];exact kp p h1
 have d2T:∀k k',(K.any λp=>p.1==k)=true->(K.any λp=>p.1==k')=true->rk K k=rk K k'->k=k':=λk k' h h' he=>by
  obtain⟨p,p1,p2,p3⟩:=a0F h;obtain⟨q,q1,q2,q3⟩:=a0F h';have hpq:p.2=q.2:=by rw[<-p3, <- q3,he]
  have:p=q:=mA.b1J.a6k ks p1 q1 hpq;rw[<-p2, <- q2,this]
 have one:∀k,(getKey k s0.H).isSome=true->∃o,getKey k s0.H=some o:=λk hk=>by
  obtain⟨o,ho⟩:=Option.isSome_iff_exists.1 hk;have:=k1 _ (gN ho)
  try simp only[f7H]at this
  exact Option.isSome_iff_exists.1 this.2
 let jP:cT:=⟨λb=>w.heap.size<=b\/(∃k o,getKey k s0.H=some o/\b=μ (rk K k))\/(∃v∈vsT,bF v=some b),λk=>μ (rk K k)⟩
 have sub:∀b,jP b->base b:=λb hb=>by
  rcases hb with hb|⟨k,o,hk,rfl⟩|⟨v,hv,hs⟩
  .exact hr.base b hb
  .obtain⟨o',uI,_⟩:=inst k o hk;exact(hr.gY _ o' uI).1
  .obtain⟨i,hi⟩:=f7Y hv;have tY:i<(s0.own.map (pK K ls)).length:=by rw[<-t1];exact(f7I.1 hi).1
   exact(t2 i _ v (f7L tY) hi).own.a1v hs
 have a0N:Rel P G jP R (λk=>μ (rk K k)) s0 {tmps:=args,defers:=[]} w:=by
  obtain⟨g1,g2⟩:=yL jI;rw[qQ]at g1 g2;refine⟨rfl,by show args.size=s0.tmps.length;rw[List.length_map]at g1;omega,λi v d hiv hid=>?_,λk o hk=>?_,λk k' o o' hk hk' he=>?_,λc hc k off hl'=>?_,⟨vsT,by simpa using t1,λi c v hc zS=>?_,t3⟩,hr.tQ.up sub,hr.pH,λb hb=>.inl hb,λk hk=>rfl⟩
  .obtain⟨d0,hd0,b4h⟩:=g2 i (bA K d) (by rw[f7R,hid];rfl);have hva:=hv i d0 hd0;have hav:args.getD i undef=v:=by simp only at hiv;simp[f7J,hiv]
   rw[hav]at hva;have d2U:TV R μ w v (bA K d):=by
    rcases b4h with hc|hc|⟨hc1,hc2⟩
    .rw[hc];exact .undef _
    .rw[hc];exact hva
    .rw[hc2];rw[hc1]at hva;obtain⟨ao,rfl⟩:=hva.a7B.jQ;exact .d _ _ (.emp _ _)
   exact d2U.ren (μ:=μ) (λ_ _=>rfl) (kt d (f7M hid))
  .obtain⟨q1,q2,_⟩:=inK k o hk;obtain⟨o',uI,hw⟩:=inst k o hk;obtain⟨p1,p2,p3⟩:=hr.gY _ o' uI;exact⟨.inr (.inl ⟨k,o,hk,rfl⟩),p2,(b3h hw p3).ren (λ_ _=>rfl) q2⟩
  .obtain⟨o1,h1,_⟩:=inst k o hk;obtain⟨o2,h2,_⟩:=inst k' o' hk';exact d2T k k' (inK k o hk).1 (inK k' o' hk').1 (hr.inj _ _ o1 o2 h1 h2 he)
  .have:=f7K.1 (f7K.1 kl c hc) _ hl';exact Option.isSome_iff_exists.1 this
  .have ho:=t2 i (pK K ls c) v (by rw[f7R,hc];rfl) zS;refine⟨λl hl' u hu=>?_,?_,λk o hk=>?_⟩
   .have hn:=f7K.1 (f7K.1 kn c (f7M hc)) l hl';cases l with
    |t j=>
     simp only at hn;split at hn
     .rename_i t hj;simp only[decide_eq_true_eq]at hn;have ht:t<a.tmps.size:=by rw[hr.size];exact hn
      have hlv:cB a w μ (.t t)=some a.tmps[t]:=by simp[cB,ht]
      have h1:=a6J j _ hj _ hlv;have h2:=ho.dI (.t t) (List.mem_filterMap.2 ⟨.t j,hl',by simp[b4f,hj]⟩) _ hlv;simp only[cB]at hu;have h3:args.getD j undef=u:=by simp[f7J,hu]
      rw[<-h3, <- h1,h2]
     .cases hn
    |c k off=>exact ho.dI (.c (rk K k) off) (List.mem_filterMap.2 ⟨.c k off,hl',rfl⟩) u hu
   .rcases ho.own with h|⟨g,n,cap,cur,h0,h1,h2,h3,h4⟩
    .exact .inl h
    .by_cases wL:cap=0
     .subst wL;have:n=0:=by omega
      subst this;exact .inl ⟨_,h0⟩
     .exact .inr ⟨g,n,cap,cur,h0,.inr (.inr ⟨v,f7M zS,by rw[h0];simp[bF,wL]⟩),h2,h3,h4⟩
   .obtain⟨o',uI,_⟩:=inst k o hk;exact ho.keys _ o' uI
 exact(yW jP R (λk=>μ (rk K k)) args w a0N).mono λe w' ⟨R',he,hs,hb⟩=>⟨R',he,⟨hs.below.mono sub,hs.mono,λb o h1 h2=>sub b (hs.new b o h1 h2),hs.cells⟩,hb⟩
theorem a8a{o:Oper}{f:FuncId}{f7F:List DV}{v:Value}(hc:eB G o st=some (f,f7F))(qO:Enters P f/\a9t P G f f7F (kI o) st v)(hr:Rel P G base R μ st a w){K:Act->World->Prop}{Q:Exit->Act->World->Prop}(h:∀R' w',Step base R w R' w'->(∀b o,R' b o->b<w'.heap.size)->Q (.panic (a0a v)) a w'):o.wp P a w K Q:=by
 obtain⟨⟨fn,hf1,hf2,hf3⟩,qO⟩:=qO;have b9z: ¬fn.body=none:=λhe=>by simp[he]at hf2
 have b9A: ¬fn.name= "runtime.NumGoroutine" :=by simpa using hf3
 have main:∀args:Array Value,(execOp a.eval o).run P w=.ok (.enter f args) w->args.size=f7F.length->(∀(i:Nat) (d:DV),f7F[i]? =some d->TV R μ w (args.getD i undef) d)->
   (∀(i:Nat) (l:Loc),(kI o)[i]? =some (some l)->∀u,cB a w μ l=some u->u=args.getD i undef)->o.wp P a w K Q:=λargs a4Q hl hv a6J=>by
  unfold Oper.wp;rw[a4Q]
  show Calls P f args w _
  refine(qO base R μ a w args hr hl hv a6J).mono λe w' ⟨R',he,hs,hb⟩=>?_;subst he;exact h R' w' hs hb
 have each:∀(l:List Operand) (i:Nat) (d:DV),(l.map (st.eval G))[i]? =some d->TV R μ w ((l.map a.eval).getD i undef) d:=λl i d hi=>by
  rw[f7R]at hi;obtain⟨x,hx,rfl⟩:=f7G.1 hi;have:(l.map a.eval).getD i undef=a.eval x:=by simp[List.getD,hx]
  rw[this];exact hr.eval x
 have dI:∀(args:Array Operand) (vs:Array Value),kI o=args.toList.map a4H->∀(i:Nat) (l:Loc),(kI o)[i]? =some (some l)->∀u,cB a w μ l=some u->u=(args.map a.eval++vs).getD i undef:=λargs vs rT i l hi u hu=>by
  rw[rT,f7R]at hi;obtain⟨x,hx,hxl⟩:=f7G.1 hi;cases x with
  |tmp t=>
   simp only[a4H,f7N]at hxl;subst hxl;simp only[cB]at hu;have aE:i<args.size:=by have:=(f7I.1 hx).1;simpa using this
   have he:args[i]? =some (.tmp t):=by simpa using hx
   rw[f7J,Array.getElem?_append_left (by simpa using aE),Array.getElem?_map,he];simp[Act.eval,hu]
  |_=>cases hxl
 unfold eB at hc;split at hc
 .rename_i x args ts tO;have rT:kI o=args.toList.map a4H:=by simp[kI,tO]
  split at hc
  .rename_i f' hx;simp at hc;obtain⟨rfl,rfl⟩:=hc;refine main (args.map a.eval) ?_ (by simp) (λi d hi=>?_) (by simpa using dI args #[] rT)
   .simp[execOp,tO,resolve,hr.b3x hx,Deferred.ofValue,invoke,callFunc,hf1,b9z,b9A]
   .have:=each args.toList i d hi;simpa[f7J,List.getD]using this
  .rename_i f' cs hx;simp at hc;obtain⟨rfl,rfl⟩:=hc;obtain⟨vs,he,rK,hvc⟩:=(hr.oT hx).a8Q;refine main (args.map a.eval++vs) ?_ (by simp[rK]) (λi d hi=>?_) (dI args vs rT)
   .simp[execOp,tO,resolve,he,Deferred.ofValue,invoke,callFunc,hf1,b9z,b9A]
   .by_cases aE:i<args.size
    .rw[f7S (by simpa using aE)]at hi;have:=each args.toList i d hi;rw[f7J,Array.getElem?_append_left (by simpa using aE)];simpa[f7J,List.getD]using this
    .rw[f7P (by simp;omega)]at hi;simp only[List.length_map,Array.length_toList]at hi;have:=hvc _ d hi;rw[f7J,Array.getElem?_append_right (by simp;omega)];simpa[f7J]using this
  .cases hc
 .cases hc
abbrev a1M(st:St):St:=⟨List.replicate st.tmps.length .undef,[],[]⟩
theorem Rel.a9u(hr:Rel P G base R μ st a w){R':Nat->Nat->Prop}{w':World}(hs:Step base R w R' w')(hb:∀b o,R' b o->b<w'.heap.size):Rel P G base R' μ (a1M st) a w' where
 defers:=hr.defers
 size:=by simpa using hr.size
 tmps:=λi v d _ hd=>by
  rw[List.getElem?_replicate]at hd;split at hd
  .simp at hd;subst hd;exact .undef _
  .cases hd
 gY:=λk o h=>by cases h
 inj:=λk k' o o' h=>by cases h
 dI:=λc hc=>by cases hc
 own:=⟨[],rfl,λi c v h _=>by simp at h,.nil⟩
 tQ:=a6I.bI hs hr.tQ
 pH:=hb
 base:=λb h=>hr.base b (Nat.le_trans hs.below.size h)
 pass:=hr.pass
def a1N(P:Program)(G:GT)(ops:Array Oper)(c:Nat)(Q:Exit->St->Prop)(st:St):Prop:=match ops[c]? with
 |some o=>eR o ops st.tmps=some true/\∃f f7F v,eB G o st=some (f,f7F)/\(Enters P f/\a9t P G f f7F (kI o) st v)/\Q (.panic (a0a v)) (a1M st)
 |none=>False
theorem a1N.ok{ops:Array Oper}{c:Nat}{Q:Exit->St->Prop}{o:Oper}(ho:ops[c]? =some o)(h:a1N P G ops c Q st)(hr:Rel P G base R μ st a w){QQ:Exit->Act->World->Prop}{KK:Act->World->Prop}{KE:Prop}(hk:∀v s w' R',Q (.panic (a0a v)) s->Rel P G base R' μ s a w'->Step base R w R' w'->QQ (.panic (a0a v)) a w'):
  if Region.wanted o (yielded ops a.tmps) then o.wp P a w KK QQ\/(o.asks P a w/\LetsOut QQ) else KE:=by
 unfold a1N at h;rw[ho]at h;obtain⟨hw,f,f7F,v,h1,h2,h3⟩:=h;rw[a2B hr hw,if_pos rfl];exact .inl (a8a h1 h2 hr λR' w' hs hb=>hk v _ w' R' h3 (hr.a9u hs hb) hs)
def a7g(P:Program)(G:GT)(ops:Array Oper)(c:Nat)(Z:St->Prop):Nat->Array Bool->St->Prop
 |0,_,_=>False
 |fuel+1,listed,st=>Region.ready .any ops listed≠[]/\∀i∈Region.ready .any ops listed,if i=c then Z st else match ops[i]? with
  |none=>False
  |some o=>pA P G true ops o (a7g P G ops c Z fuel (listed.setIfInBounds i true)) st
theorem a9v{ops:Array Oper}{c:Nat}{Q:Exit->St->Prop}{QQ:Exit->Act->World->Prop}:∀(fuel:Nat) (listed:Array Bool) (st:St),a7g P G ops c (a1N P G ops c Q) fuel listed st->∀(base:cT) (R:Nat->Nat->Prop) (μ:Nat->Nat) (a:Act) (w:World),Rel P G base R μ st a w->
  (∀v s a' w' R' μ',Q (.panic (a0a v)) s->Rel P G base R' μ' s a' w'->Step base R w R' w'->QQ (.panic (a0a v)) a' w')->wpAny P .any ops QQ fuel listed a w
 |0,_,st,h,base,R,μ,a,w,hr,hk=>h.elim
 |fuel+1,listed,st,h,base,R,μ,a,w,hr,hk=>by
  refine⟨λh0=>(h.1 h0).elim,λi hi=>?_⟩;have h1:=h.2 i hi;unfold wpOp;split
  .rename_i ho;rw[ho]at h1;split at h1
   .rename_i hic;subst hic;unfold a1N at h1;rw[ho]at h1;exact h1.elim
   .exact h1.elim
  .rename_i o ho;rw[ho]at h1;split at h1
   .rename_i hic;subst hic;exact a1N.ok ho h1 hr λv s w' R' q1 q2 q3=>hk v s a w' R' μ q1 q2 q3
   .exact uA h1 hr λs v w' R' μ' h' eM qP=>a9v fuel _ s h' base R' μ' _ w' eM λv s a' w2 R2 μ2 q1 q2 q3=>hk v s a' w2 R2 μ2 q1 q2 (qP.trans q3)
theorem c3t{ops:Array Oper}{c:Nat}{Z:St->Prop}{i:Nat}{oi:Oper}(hA:pJ ops)(hi:ops[i]? =some oi)(hic:i≠c)(hsi:(cR oi.op=true/\mI ops oi=false)\/pB oi=true):
  ∀(fuel:Nat) (listed:Array Bool) (st s:St),eH ops listed->
   (∀j oj,ops[j]? =some oj->j≠i->listed.getD j true=false->gL ops ops.size j i=false->j≠c/\oi.apart ops oj=true/\qC ops oi oj=true)->
   i∈Region.ready .any ops listed->qE ops listed st->Eff P G ops oi st s->
   a7g P G ops c Z fuel (listed.setIfInBounds i true) s->a7g P G ops c Z (fuel+1) listed st:=by
 intro fuel
 induction fuel with
 |zero=>intro listed st s _ _ hr _ hy H;exact H.elim
 |succ fuel ih=>
  intro listed st s oI yK hr hI hy H;refine⟨λh=>(by rw[h]at hr;cases hr),λj hj=>?_⟩;by_cases zV:j=i
  .subst zV;rw[if_neg hic,hi];exact(dF hsi).2 ⟨s,hy,H⟩
  .have h1:=H.2 j (ready_mono hj zV);obtain⟨wY,oj,zB,dB⟩:=mem_ready.1 hj;rw[zB]at h1|-;simp only at h1|-;obtain⟨a2c,oi',b9G,a8Z⟩:=mem_ready.1 hr;have a4w:gL ops ops.size j i=false:=cV oI a2c _ _ λo ho=>by rw[zB]at ho;cases ho;exact dB
   obtain⟨hjc,yV,hpo⟩:=yK j oj zB zV wY a4w;rw[if_neg hjc]at h1|-;have hsj:(cR oj.op=true/\mI ops oj=false)\/pB oj=true:=by
    by_cases hs:pB oj=true
    .exact .inr hs
    .refine .inl ⟨?_,?_⟩
     .unfold qC at hpo;simp only[pB,f7T,f7H,Bool.not_eq_true']at hpo hs;rcases hpo with((((((h|h)|h)|h)|h)|h)|h)|h
      .exact h.1.2
      .exact absurd (.inl (.inl h.1.2)) hs
      .exact h.1.1.2
      .exact absurd (.inl (.inr h.2)) hs
      .exact h.1.2
      .exact absurd (.inl h.1.2) hs
      .exact absurd (.inr h.2) hs
      .exact(oA (G:=G) (st:=st) h.1.2).1
     .cases hx:mI ops oj with
      |false=>rfl
      |true=>
       have aE:i<ops.size:=(f7Q.1 hi).1;rcases uM hx zB aE (λe=>zV e.symm)with h'|h'
       .have:=cV oI wY ops.size i λo ho=>by rw[b9G]at ho;cases ho;exact a8Z
        rw[h']at this;cases this
       .rw[a4w]at h';cases h'
   obtain⟨s12,hu,hk⟩:=(dF hsj).1 h1;obtain⟨s2,e1,e2⟩:=a8Y yV hpo (λhn d hd=>hI i oi d hi hn a2c hd) (λhn d hd=>hI j oj d zB hn wY hd) hy hu;refine(dF hsj).2 ⟨s2,e1,?_⟩;refine ih (listed.setIfInBounds j true) s2 s12 (oI.set hj) (λk ok hk' hki hun sG=>?_) (ready_mono hr (Ne.symm zV)) (hI.step hA zB λk hf hn=>tS e1 hf hn) e2 ?_
   .exact yK k ok hk' hki (sZ hun).2 sG
   .rw[Array.setIfInBounds_comm _ _ zV];exact hk
theorem a6p{ops:Array Oper}{c:Nat}{Z:St->Prop}(hN:eG ops=[]):∀(l:List Nat) (listed:Array Bool) (st:St) (fuel:Nat),eH ops listed->inB ops c l=true->a9r ops c l listed=true->
  a4A P G ops c l st (a7g P G ops c Z fuel (cL l listed))->a7g P G ops c Z (l.length+fuel) listed st
 |[],listed,st,fuel,_,_,_,h=>by simpa[cL,a4A]using h
 |i::l,listed,st,fuel,oI,vI,hB,h=>by
  have hA:pJ ops:=λi j oi oj d hi _ hni _ hdi _=>(b8s hN hi hni hdi).elim;have hI:∀listed st,qE ops listed st:=λ_ _ j oj d hj hn _ hd=>(b8s hN hj hn hd).elim;simp only[a9r,f7H]at hB;obtain⟨hf,hB'⟩:=hB;simp only[inB,List.all_cons,f7H,decide_eq_true_eq]at vI;obtain⟨⟨_,hic⟩,f1B⟩:=vI;have qi:(i !=c)=true:=by simpa using hic
  simp only[a4A]at h;split at h;rotate_left
  .cases h
  rename_i o ho;rw[qi]at h;have he:(i::l).length+fuel=l.length+fuel+1:=by simp only[List.length_cons];omega
  rw[he];unfold b4F at hf;rw[f7T,beq_iff_eq]at hf;have hri:i∈Region.ready .any ops listed:=by
   rcases hf with hf|hf
   .rw[hf];exact f7O.2 rfl
   .simp only[f7H]at hf;simpa using hf.1.1
  have qR:∀s,a4A P G ops c l s (a7g P G ops c Z fuel (cL (i::l) listed))->a7g P G ops c Z (l.length+fuel) (listed.setIfInBounds i true) s:=λs hs=>a6p hN l _ s fuel (oI.set hri) f1B hB' hs;rcases hf with hf|hf
  .refine⟨λh'=>(by rw[h']at hf;cases hf),λj hj=>?_⟩;rw[hf,f7O]at hj;subst hj;rw[if_neg hic,ho];exact eU qR h
  .rw[ho]at hf;simp only[f7H,f7T,Bool.not_eq_true',bne_iff_ne,ne_eq]at hf;obtain⟨⟨_,hic⟩,hsi,dB⟩:=hf;obtain⟨s,hd,hk⟩:=(dF hsi).1 h;refine c3t hA ho hic hsi _ listed st s oI (λj oj hj eF hun sG=>?_) hri (hI _ _) hd (qR s hk);rw[f7K]at dB;have h1:=dB j (List.mem_range.2 (f7Q.1 hj).1);simp only[hj,f7T,beq_iff_eq,eF,false_or,hun,Bool.false_eq_true,sG,f7H,bne_iff_ne,ne_eq]at h1;exact h1
def a4j(P:Program)(G:GT)(ops:Array Oper)(Z:St->Prop):Ord->St->Prop
 | .none,_=>True
 | .call _ more,st=>Z st/\a4j P G ops Z more st
 | .op i next more,st=>VK P G [.ops true ops (sel ops [i])] .normal st (λ_ s=>a4j P G ops Z next s)/\a4j P G ops Z more st
theorem a5t{ops:Array Oper}{c:Nat}{Z:St->Prop}:∀(T:Ord) (n:Nat) (listed:Array Bool) (st:St),b4G ops c T (n+1) listed=true->a4j P G ops Z T st->∀i∈Region.ready .any ops listed,a3w c T i=true->
  if i=c then Z st else match ops[i]? with
  |none=>False
  |some o=>pA P G true ops o (a7g P G ops c Z n (listed.setIfInBounds i true)) st
 | .none,_,_,_,_,_,_,_,ha=>by cases ha
 | .call rest more,n,listed,st,hB,h,i,hi,ha=>by
  simp only[b4G,f7H]at hB;simp only[a4j]at h;simp only[a3w,f7T,decide_eq_true_eq]at ha;by_cases hic:i=c
  .rw[if_pos hic];exact h.1
  .exact a5t more n listed st hB.2 h.2 i hi (ha.resolve_left hic)
 | .op x next more,n,listed,st,hB,h,i,hi,ha=>by
  simp only[b4G,f7H,decide_eq_true_eq,Bool.not_eq_true',List.isEmpty_eq_false_iff,f7K]at hB;obtain⟨⟨⟨⟨⟨vI,hn⟩,eF⟩,dB⟩,qR⟩,a5s⟩:=hB;simp only[a4j]at h;simp only[a3w,f7T,decide_eq_true_eq]at ha;by_cases hix:i=x
  .subst hix;have h1:=h.1;simp only[inB,List.all_cons,List.all_nil,Bool.and_true,f7H,decide_eq_true_eq]at vI;simp only[VK,sel,f7Z vI.1,uL]at h1;rw[if_neg vI.2];simp only[f7Z vI.1];refine eU (λs qP=>?_) h1;obtain⟨m,rfl⟩:∃m,n=m+1:=⟨n-1,by omega⟩;exact⟨eF,λj hj=>a5t next m _ s qR qP j hj (dB j hj)⟩
  .exact a5t more n listed st a5s h.2 i hi (ha.resolve_left hix)
theorem d9d{id:Nat}{ops:Array Oper}{Q:Exit->St->Prop}(c:Nat)(qM:List Nat)(T:Ord)(hm:P.follows .mixedOrders=true)(hB:d3p ops c qM T=true)(h:VK P G [.ops true ops (sel ops qM)] .normal st λ_ s=>a4j P G ops (a1N P G ops c Q) T s):SW P G (.region id ops true) st Q:=by
 simp only[d3p,f7H,List.isEmpty_iff,decide_eq_true_eq,Bool.not_eq_true',List.isEmpty_eq_false_iff,f7K]at hB;obtain⟨⟨⟨⟨⟨⟨hN,hlen⟩,vI⟩,hs⟩,eF⟩,dB⟩,ht⟩:=hB;obtain⟨k,hk⟩:=Nat.exists_eq_add_of_le hlen;have oI:eH ops (Array.replicate ops.size false):=λk hk=>by
  rcases Nat.lt_or_ge k ops.size with h'|h'
  .simp[h']at hk
  .simp[Nat.not_lt.2 h']at hk
 have e:ops.size-qM.length=k+1:=by omega
 rw[e]at ht;simp only[VK]at h;have:=a6p (P:=P) (G:=G) (c:=c) (Z:=a1N P G ops c Q) hN qM (Array.replicate ops.size false) st (k+1) oI vI hs (tC (λs qP=>⟨eF,λj hj=>a5t T k _ s ht qP j hj (dB j hj)⟩) _ _ (wA qM st vI h));rw[show qM.length+(k+1)=ops.size by omega]at this;intro base R μ a w hr;obtain⟨eM,qP⟩:=hr.drew;exact wp_region_any hm (a9v ops.size _ st this base R μ a w.drew eM λv s a' w' R' μ' q1 q2 q3=>⟨s,R',μ',q1,q2,qP.trans q3⟩)
theorem CPn.a1I{f:FuncId}{fn:Func}{c:Code}{n:Nat}{s0:St}{v:Value}(hf:P.funcs[f]? =some fn)(hb:fn.body=some c)(hn:fn.ntmps=n)(hT:(s0.own.all λc=>c.2.all λl=>match l with| .t i=>decide (i<s0.tmps.length)|_=>true)=true)(h:SW P G c ⟨s0.tmps++List.replicate (n-s0.tmps.length) (.bY []),s0.H,s0.own⟩ λe _=>e=.panic (a0a v)):CPn P G f s0 v:=by
 intro base R μ args w hr;refine calls_of_wp hf hb ?_;have jG:args.size=s0.tmps.length:=hr.size;have kU:Rel P G base R μ ⟨s0.tmps++List.replicate (n-s0.tmps.length) (.bY []),s0.H,s0.own⟩ {tmps:=args++Array.replicate (fn.ntmps-args.size) undef,defers:=[]} w:=by
  refine⟨rfl,by simp[jG,hn],λi v d hiv hid=>?_,hr.gY,hr.inj,hr.dI,?_,hr.tQ,hr.pH,hr.base,hr.pass⟩
  .simp only at hid;by_cases hi:i<s0.tmps.length
   .rw[f7S hi]at hid;rw[Array.getElem?_append_left (by omega)]at hiv;exact hr.tmps i v d hiv hid
   .rw[f7P (by omega),List.getElem?_replicate]at hid;split at hid<;>simp at hid;subst hid;rw[Array.getElem?_append_right (by omega),Array.getElem?_replicate]at hiv;split at hiv<;>simp at hiv;subst hiv;exact .bY #[] [] rfl (by simp)
  .obtain⟨vs,hl,h1,yV⟩:=hr.own;refine⟨vs,hl,λi c v hc hv=>?_,yV⟩;have ho:=h1 i c v hc hv;refine⟨λl hl u hu=>?_,ho.own,ho.keys⟩;cases l with
   |t j=>have hj:=f7K.1 (f7K.1 hT c (f7M hc)) _ hl;simp only[decide_eq_true_eq]at hj;simp only[cB]at hu;rw[Array.getElem?_append_left (by omega)]at hu;exact ho.dI _ hl u hu
   |c k off=>exact ho.dI _ hl u hu
 refine wp_mono (h base R μ _ w kU) λe a' w' ⟨s,R',μ',he,eM,hs⟩=>?_;subst he;exact⟨eM.defers,R',rfl,hs,eM.pH⟩
attribute [simp] a4j
end
end Go.VM
end
end
section
namespace Go.VM
open Go Go.RowKit
section
variable {P:Program} {G:GT} {st:St} {base:cT} {R:Nat->Nat->Prop} {μ:Nat->Nat} {a:Act} {w:World}
abbrev Ends:=Sum (DV×List (Nat×aW)×List (TypeId×List Loc)) Value
def CX(P:Program)(G:GT)(f:FuncId)(s0:St):Ends->Prop
 | .inl s1=>CH P G f s0 ⟨[s1.1],s1.2.1,s1.2.2⟩
 | .inr v=>CPn P G f s0 v
def sN(P:Program)(G:GT)(f:FuncId)(f7F:List DV)(ls:List (Option Loc))(dst:Option Tmp)(st:St)(K:St->Prop)(Q:Exit->St->Prop)(x0:Bool):Prop:=
 Enters P f/\(x0=true->∃s',mA P G f f7F ls st dst s'/\K s')/\(x0=false->∃v,a9t P G f f7F ls st v/\Q (.panic (a0a v)) (a1M st))
def a0U(P:Program)(G:GT)(all:Array Oper)(l:List Oper)(K:List Oper->St->Prop)(Q:Exit->St->Prop)(x0:Bool)(st:St):Prop:=match l with
 |[]=>False
 |o::rest=>match eR o all st.tmps,mZ G o st,eB G o st with
  |some true,none,some (f,f7F)=>sN P G f f7F (kI o) o.dst st (K rest) Q x0
  |_,_,_=>False
theorem b1W{all:Array Oper}{o:Oper}{rest:List Oper}{K:List Oper->St->Prop}{Q:Exit->St->Prop}{x0:Bool}(h:a0U P G all (o::rest) K Q x0 st):
  ∃f f7F,eR o all st.tmps=some true/\mZ G o st=none/\eB G o st=some (f,f7F)/\sN P G f f7F (kI o) o.dst st (K rest) Q x0:=by
 unfold a0U at h;simp only at h;split at h
 .rename_i f f7F h1 h2 h3;exact⟨f,f7F,h1,h2,h3,h⟩
 .exact h.elim
theorem a0U.pan{ops:Array Oper}{c:Nat}{o:Oper}{rest:List Oper}{K:List Oper->St->Prop}{Q:Exit->St->Prop}(ho:ops[c]? =some o)(h:a0U P G ops (o::rest) K Q false st):a1N P G ops c Q st:=by obtain⟨f,f7F,h2,_,h4,he,_,h5⟩:=b1W h;obtain⟨v,h6,h7⟩:=h5 rfl;unfold a1N;rw[ho];exact⟨h2,f,f7F,v,h4,⟨he,h6⟩,h7⟩
theorem a0U.ret{all:Array Oper}{o:Oper}{rest:List Oper}{K:List Oper->St->Prop}{Q:Exit->St->Prop}(h:a0U P G all (o::rest) K Q true st):pA P G false all o (K rest) st:=by obtain⟨f,f7F,h2,h3,h4,he,h5,_⟩:=b1W h;obtain⟨s',h6,h7⟩:=h5 rfl;unfold pA;rw[h2,h3,h4];simp only[rU,Bool.false_and,a1A,Bool.false_eq_true,if_false];exact⟨s',⟨he,h6⟩,h7⟩
def LW(P:Program)(G:GT)(all:Array Oper)(l:List Oper)(st:St)(Q:Exit->St->Prop):Prop:=
 ∀(base:cT) (R:Nat->Nat->Prop) (μ:Nat->Nat) (a:Act) (w:World),Rel P G base R μ st a w->∀QQ:Exit->Act->World->Prop,(∀e s a' w' R' μ',Q e s->Rel P G base R' μ' s a' w'->Step base R w R' w'->QQ e a' w')->wpList P all QQ l a w
theorem LW.vk{all:Array Oper}{l:List Oper}{Q:Exit->St->Prop}(h:VK P G [.ops false all l] .normal st Q):LW P G all l st Q:=by intro base R μ a w hr QQ hk;simp only[VK]at h;exact b9B all _ l st (λs=>Q .normal s) h base R μ a w hr λs a' w' R' μ' q1 q2 q3=>hk _ s a' w' R' μ' q1 q2 q3
theorem e7W{x0:Bool}(all:Array Oper)(Q:Exit->St->Prop)(l2:List Oper)(hl:x0=false->∃(c:Nat) (o:Oper) (rest:List Oper),l2=o::rest/\all[c]? =some o):∀(l:List Oper) (st:St),uL P G false all l st (λs=>a0U P G all l2 (λr s=>LW P G all r s Q) Q x0 s)->∀(base:cT) (R:Nat->Nat->Prop) (μ:Nat->Nat) (a:Act) (w:World),Rel P G base R μ st a w->
  ∀QQ:Exit->Act->World->Prop,(∀e s a' w' R' μ',Q e s->Rel P G base R' μ' s a' w'->Step base R w R' w'->QQ e a' w')->wpList P all QQ (l++l2) a w
 |[],st,h,base,R,μ,a,w,hr,QQ,hk=>by
  have h:a0U P G all l2 (λr s=>LW P G all r s Q) Q x0 st:=h
  show wpList P all QQ l2 a w
  cases l2 with
  |nil=>exact h.elim
  |cons o rest=>
   unfold wpList;cases x0 with
   |false=>obtain⟨c,o',f3B,he,hc⟩:=hl rfl;cases he;exact a1N.ok hc (h.pan hc) hr λv s w' R' q1 q2 q3=>hk _ s a w' R' μ q1 q2 q3
   |true=>refine uA h.ret hr λs v w' R' μ' h' eM qP=>?_;exact h' base R' μ' _ w' eM QQ λe s2 a2 w2 R2 μ2 q1 q2 q3=>hk e s2 a2 w2 R2 μ2 q1 q2 (qP.trans q3)
 |x::l,st,h,base,R,μ,a,w,hr,QQ,hk=>by
  show wpList P all QQ (x::(l++l2)) a w
  unfold wpList;exact uA h hr λs v w' R' μ' h' eM qP=>e7W all Q l2 hl l s h' base R' μ' _ w' eM QQ λe s a' w2 R2 μ2 q1 q2 q3=>hk e s a' w2 R2 μ2 q1 q2 (qP.trans q3)
theorem LW.at{all:Array Oper}{l:List Oper}{Q:Exit->St->Prop}(c k:Nat)(x0:Bool)(hk:l[c]? =all[k]?)(hk2:∃o,l[c]? =some o)(h:VK P G [.ops false all (l.take c)] .normal st λ_ s=>a0U P G all (l.drop c) (λr s=>LW P G all r s Q) Q x0 s):LW P G all l st Q:=by
 intro base R μ a w hr QQ wM;simp only[VK]at h;rw[<-List.take_append_drop c l];refine e7W all Q (l.drop c) (λh0=>?_) _ st h base R μ a w hr QQ wM;obtain⟨o,ho⟩:=hk2;refine⟨k,o,l.drop (c+1),?_,by rw[<-hk,ho]⟩;have aE:=(f7I.1 ho).1;rw[f7U aE];rw[f7L aE]at ho;cases ho
 rfl
theorem LW.app{all:Array Oper}{l:List Oper}{Q:Exit->St->Prop}(c:Nat)(h:VK P G [.ops false all (l.take c)] .normal st λ_ s=>LW P G all (l.drop c) s Q):LW P G all l st Q:=by
 intro base R μ a w hr QQ hk;simp only[VK]at h;have main:∀(l1:List Oper) (st:St),uL P G false all l1 st (λs=>LW P G all (l.drop c) s Q)->∀(R:Nat->Nat->Prop) (μ:Nat->Nat) (a:Act) (w:World),Rel P G base R μ st a w->
   (∀e s a' w' R' μ',Q e s->Rel P G base R' μ' s a' w'->Step base R w R' w'->QQ e a' w')->wpList P all QQ (l1++l.drop c) a w:=by
  intro l1
  induction l1 with
  |nil=>intro st h R μ a w hr hk;exact h base R μ a w hr QQ hk
  |cons x l1 ih=>
   intro st h R μ a w hr hk
   show wpList P all QQ (x::(l1++l.drop c)) a w
   unfold wpList;exact uA h hr λs v w' R' μ' h' eM qP=>ih s h' R' μ' _ w' eM λe s a' w2 R2 μ2 q1 q2 q3=>hk e s a' w2 R2 μ2 q1 q2 (qP.trans q3)
 have:=main (l.take c) st h R μ a w hr hk
 rwa[List.take_append_drop]at this
theorem SW.lw{id:Nat}{ops:Array Oper}{Q:Exit->St->Prop}(h:LW P G ops ops.toList st Q):SW P G (.region id ops false) st Q:=λbase R μ a w hr=>wp_region_list (h base R μ a w hr _ λe s a' w' R' μ' q1 q2 q3=>⟨s,R',μ',q1,q2,q3⟩)
theorem LW.c6s{all:Array Oper}{T y1 y2:TypeId}{td:TypeDesc}{d x:Tmp}{p1 p2:String}{f1 f2:Array Edge}{n e:Int}{Q:Exit->St->Prop}(hu:P.underlying T=some td)(hn:(match td with| .interface _=>false|_=>true)=true)(hd:d<st.tmps.length)(hx:st.eval G (.tmp x)=.d (.agg [.int .i64 n,.int .i64 e]))(h:Q (.panic (a0a (.iface T (.agg #[.int .i64 n,.int .i64 e])))) (a1M st)):
  LW P G all [⟨some d,.makeInterface T (.tmp x),y1,p1,f1,none⟩,⟨none,.panic (.tmp d),y2,p2,f2,none⟩] st Q:=by
 intro base R μ a w hr QQ hk;obtain⟨pc,hpc,b0O,c3p⟩:=(hr.kK hx).a3c;have e0:=(c3p 0 _ rfl).2.sW;have e1:=(c3p 1 _ rfl).2.sW;have f1C:pc=#[.int .i64 n,.int .i64 e]:=by
  have hs:pc.size=2:=by simpa using b0O
  apply Array.ext
  .simpa using hs
  .intro i h1 h2;simp only[f7J]at e0 e1;have h3:i<2:=by omega
   match i,h1,h3 with
   |0,h1,_=>simpa[h1]using e0
   |1,h1,_=>simpa[h1]using e1
 have hda:d<a.tmps.size:=by rw[hr.size];exact hd
 have cZ:(Instr.makeInterface T (.agg pc)).run P w=.ok (.iface T (.agg pc)) w:=by
  unfold Instr.makeInterface;rw[Sem.run_bind,run_underlying hu];simp only[Result.andThen_ok];split
  .simp at hn
  .rfl
 have hw:∀(o:Oper) y,o.guard=none->Region.wanted o y=true:=λo y hg=>by unfold Region.wanted;rw[hg]
 unfold wpList;rw[if_pos (hw _ _ rfl)];left;unfold Oper.wp;have e2:(execOp a.eval ⟨some d,.makeInterface T (.tmp x),y1,p1,f1,none⟩).run P w=.ok (.value (.iface T (.agg pc))) w:=by simp[execOp,hpc,cZ]
 rw[e2]
 show wpList P all QQ _ (a.put (some d) (.iface T (.agg pc))) w
 unfold wpList;rw[if_pos (hw _ _ rfl)];left;unfold Oper.wp;have e3:(execOp (a.put (some d) (.iface T (.agg pc))).eval ⟨none,.panic (.tmp d),y2,p2,f2,none⟩).run P w=.halt (.panic (.iface T (.agg pc))) w:=by simp[execOp,dR _ _ hda,Instr.panic,goPanic]
 rw[e3]
 show QQ (.panic [{v:=.iface T (.agg pc),recovered:=false}]) _ w
 rw[f1C];refine hk _ (a1M st) _ w R μ h ?_ (.refl _ _ _);have h1:=hr.a9u (.refl base R w) hr.pH;have h2:=h1.put (dst:=some d) (v:=.iface T (.agg #[.int .i64 n,.int .i64 e])) (dv:=.undef) (act:=.no) (.undef _) trivial;have h3:finish (a1M st) (some d) .undef .no=a1M st:=by
  simp only[finish,a1M,St.mk.injEq];refine⟨?_,by simp[kV,cG],by simp[cG]⟩;apply List.ext_getElem
  .simp
  .intro i q1 q2;rw[List.getElem_set];split<;>simp
 rw[h3]at h2;exact h2
def cI(P:Program)(G:GT)(ops:Array Oper)(rest:List Nat)(Q:Exit->St->Prop)(s:St):Prop:=VK P G [.ops true ops (sel ops rest)] .normal s Q
theorem cI.mk{ops:Array Oper}{rest:List Nat}{Q:Exit->St->Prop}{s:St}(h:VK P G [.ops true ops (sel ops rest)] .normal s Q):cI P G ops rest Q s:=h
def pN(P:Program)(G:GT)(ops:Array Oper)(c:Nat)(Q:Exit->St->Prop)(x0:Bool):Ord->St->Prop
 | .none,_=>True
 | .call rest more,st=>a0U P G ops (sel ops [c]) (λ_ s=>cI P G ops rest Q s) Q x0 st/\pN P G ops c Q x0 more st
 | .op i next more,st=>VK P G [.ops true ops (sel ops [i])] .normal st (λ_ s=>pN P G ops c Q x0 next s)/\pN P G ops c Q x0 more st
theorem uZ{q:Bool}{ops:Array Oper}{K K':St->Prop}(hk:∀s,K s->K' s):∀(l:List Oper) (st:St),uL P G q ops l st K->uL P G q ops l st K'
 |[],st,h=>hk st h
 |o::r,st,h=>eU (λs hs=>uZ hk r s hs) h
theorem c8h{ops:Array Oper}{c:Nat}:(∃o,ops[c]? =some o/\sel ops [c]=[o])\/sel ops [c]=[]:=by
 simp only[sel];cases h:ops[c]? with
 |none=>right;rfl
 |some o=>left;exact⟨o,rfl,rfl⟩
theorem pN.pan{ops:Array Oper}{c:Nat}{Q:Exit->St->Prop}:∀(T:Ord) (st:St),pN P G ops c Q false T st->a4j P G ops (a1N P G ops c Q) T st
 | .none,_,_=>trivial
 | .call rest more,st,h=>by
  refine⟨?_,pN.pan more st h.2⟩;have h1:=h.1;rcases c8h (ops:=ops) (c:=c)with⟨o,ho,hs⟩|hs
  .rw[hs]at h1;exact h1.pan ho
  .rw[hs]at h1;exact h1.elim
 | .op i next more,st,h=>by refine⟨?_,pN.pan more st h.2⟩;have h1:=h.1;simp only[VK]at h1|-;exact uZ (λs hs=>pN.pan next s hs) _ _ h1
theorem pN.ret{ops:Array Oper}{c:Nat}{Q:Exit->St->Prop}:∀(T:Ord) (st:St),pN P G ops c Q true T st->b2F P G ops c (λs=>Q .normal s) T st
 | .none,_,_=>trivial
 | .call rest more,st,h=>by
  refine⟨?_,pN.ret more st h.2⟩;have h1:=h.1;rcases c8h (ops:=ops) (c:=c)with⟨o,ho,hs⟩|hs
  .rw[hs]at h1|-;have h2:=h1.ret;simp only[cI,VK,uL]at h2|-;exact h2
  .rw[hs]at h1;exact h1.elim
 | .op i next more,st,h=>by refine⟨?_,pN.ret more st h.2⟩;have h1:=h.1;simp only[VK]at h1|-;exact uZ (λs hs=>pN.ret next s hs) _ _ h1
theorem b1X{q:Bool}{ops:Array Oper}{l:List Oper}{K K':St->Prop}(hk:∀s,K s->K' s)(h:VK P G [.ops q ops l] .normal st λ_ s=>K s):VK P G [.ops q ops l] .normal st λ_ s=>K' s:=by simp only[VK]at h|-;exact uZ hk _ _ h
theorem oH{id:Nat}{ops:Array Oper}{Q:Exit->St->Prop}(c:Nat)(qM:List Nat)(T:Ord)(x0:Bool)(hm:P.follows .mixedOrders=true)(hB:d3p ops c qM T=true)(h:VK P G [.ops true ops (sel ops qM)] .normal st λ_ s=>pN P G ops c Q x0 T s):SW P G (.region id ops true) st Q:=by
 cases x0 with
 |false=>exact d9d c qM T hm hB (b1X (λs hs=>pN.pan T s hs) h)
 |true=>exact d3q c qM T hm hB (b1X (λs hs=>pN.ret T s hs) h)
theorem sN.mk{ls:List (Option Loc)}{f:FuncId}{s0:St}{x:Ends}{f7F:List DV}{dst:Option Tmp}{KK:St->Prop}{Q:Exit->St->Prop}{rest:List (TypeId×List Loc)}(he:Enters P f)(hx:CX P G f s0 x)(K:List (Nat×Nat))(jR:∀d H1 dM,x=.inl (d,H1,dM)->aJ K s0 d H1=true)(c3u:∀v,x=.inr v->aJ K s0 .undef s0.H=true)(jI:WkT f7F (aQ K s0.tmps))(hH:WkH st.H (cH K s0.H))(kJ:uW st st.own (s0.own.map (pK K ls))=some rest)(b6S:zD st.tmps.length ls s0.own=true)(mP:∀d H1 dM,x=.inl (d,H1,dM)->KK (bD K dst st rest d H1 dM))(a2F:∀v,x=.inr v->Q (.panic (a0a v)) (a1M st)):sN P G f f7F ls dst st KK Q x.isLeft:=by
 refine⟨he,λh0=>?_,λh0=>?_⟩
 .match x,hx,jR,mP,h0 with
  | .inl (d,H1,dM),hx,jR,mP,_=>exact⟨_,mA.b1J hx K (jR d H1 dM rfl) jI hH kJ b6S,mP d H1 dM rfl⟩
 .match x,hx,c3u,a2F,h0 with
  | .inr v,hx,c3u,a2F,_=>exact⟨v,a9t.e4C hx K (c3u v rfl) jI hH kJ b6S,a2F v rfl⟩
attribute [simp] pN
end
attribute [irreducible] sN LW cI
attribute [simp] a0U eR
end Go.VM
end
