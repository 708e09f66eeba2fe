/- Lemmas. No condition. -/
import Derived.Test.YtmfbjecjccipfaaGreatDoorOwd
import Derived.Laws.CopyRow
import Derived.Laws.MakeOwn
import Derived.RangeFuncOwn
set_option linter.unusedVariables false
set_option linter.unusedSimpArgs false
set_option linter.unusedSectionVars false
set_option maxRecDepth 100000
set_option maxHeartbeats 64000000
open Go.Proofs.Tryz
section
section
namespace Go.VM
open Go Go.RowKit
section
variable {P:Program} {G:GT} {st:St} {Q:Exit->St->Prop}
theorem SW.gN{x y:Code}(h:SW P G x st λe s=>match e with
  |.normal=>SW P G y s Q
  |e=>Q e s):SW P G (.seq x y) st Q:=λbase R μ a w hr=>
 wp_seq (wp_mono (h base R μ a w hr) λe a1 w1 ⟨s,R1,μ1,q1,q2,q3⟩=>by
  cases e with
  |normal=>exact wp_mono (q1 base R1 μ1 a1 w1 q2) λe2 a2 w2 ⟨s2,R2,μ2,p1,p2,p3⟩=>⟨s2,R2,μ2,p1,p2,q3.trans p3⟩
  |_=>exact⟨s,R1,μ1,q1,q2,q3⟩)
variable{c:Code}
theorem SW.vk(h:VK P G [.code c] .normal st Q):SW P G c st Q:=a6z _ _ _ (c6m h)
theorem CS.a4w{f:FuncId}{fn:Func}{n:Nat}{ds:List D}{r:DV}{own:Option TypeId}(hf:P.funcs[f]? =some fn)(hb:fn.body=some c)(hn:fn.ntmps=n){rs:List ResultVar}(hrs:fn.results.toList=rs)(h:SW P G c (a2L ds n) λe s=>(e=.normal\/e=.ret)/\c6d (d3G P s rs) r/\c6e s rs own):CS P G f ds r own:=by
 subst hrs;intro w R args hg hR hl hv;refine calls_of_wp hf hb ?_;have rT:=Rel.init (P:=P) (G:=G) fn hg hR hl hv;rw[<-hn]at h;refine wp_mono (h (a1q w.heap.size) R _ _ w rT) λe a' w' ⟨s,R',μ',⟨he,mB,oO⟩,jG,hs⟩=>?_;obtain⟨r0,mB,hwk⟩:=b7g mB;obtain⟨v,hv1,hv2⟩:=d2f jG mB;have a7w:a'.defers=[]/\∃v,(results fn a'.tmps).run P w'=.ok v w'/\∃v' R',Ending.returned v=.returned v'/\(∀μ,TV R' μ w' v' r)/\Step (a1q w.heap.size) R w R' w'/\(∀b o,R' b o->b<w'.heap.size)/\(∀e,own=some e->sA P (a1q w.heap.size) R' w' e v'):=
  ⟨jG.defers,v,hv1,v,R',rfl,λμ=>(hv2 μ).wk hwk,hs,jG.sB,λe he'=>by subst he';exact c6f jG oO hv1⟩
 rcases he with rfl|rfl
 .exact a7w
 .exact a7w
variable{d:Nat}{v:Value}{a:Act}
theorem eP(h:d<a.tmps.size):(a.put (some d) v).eval (.tmp d)=v:=by simp[Act.put,Act.eval,h]
theorem cK{x:Nat}(h:x≠d):(a.put (some d) v).eval (.tmp x)=a.eval (.tmp x):=by simp[Act.put,Act.eval,Array.getElem?_setIfInBounds,Ne.symm h]
theorem size_put{d:Option Tmp}:(a.put d v).tmps.size=a.tmps.size:=by cases d<;>simp[Act.put]
theorem c3z(w:World)(z cs:Array Value)(e:TypeId):(w.alloc (.cells z e)).setRow w.heap.size cs=w.alloc (.cells cs e):=by
 unfold World.setRow World.alloc;cases w with
 |mk heap tape drawn os output=>
  simp only;congr 1;apply Array.ext
  .simp
  .intro k h1 h2;simp only[Array.getElem_modify,Array.getElem_push];split
   .rename_i hk;subst hk;simp
   .rename_i hk;have hk2:k<heap.size:=by simp at h2;omega
    simp[hk2]
end
end Go.VM
end
section
namespace Go.VM
open Go Go.RowKit
def sH(k n:Nat):Array Bool:=((List.range n).map λj=>decide (j<k)).toArray
def a7M(ops:Array Oper)(m:Nat):Nat->Nat->Array Bool->Bool
 |0,_,listed=>decide (listed=sH m ops.size)
 |fuel+1,k,listed=>(Region.ready .any ops listed).contains k&&
  (match ops[k]? with
  |none=>false
  |some oi=>
   (List.range ops.size).all λj=>j==k||listed.getD j true||kG ops ops.size j k||(match ops[j]? with
    |some oj=>oi.apart ops oj&&tB ops oi oj
    |none=>true))&&
  a7M ops m fuel (k+1) (listed.setIfInBounds k true)
def a0T(ops:Array Oper)(m:Nat):Bool:=(List.range ops.size).all λj=>decide (j<m)||(List.range m).all λi=>kG ops ops.size j i
def d7D(ops:Array Oper)(m:Nat):Bool:=((gY ops).isEmpty||(ops.toList.all (d3x ops)&&decide ((gY ops).Nodup)))&&(decide (m<=ops.size)&&a0T ops m)&&a7M ops m m 0 (Array.replicate ops.size false)
section
variable {P:Program} {G:GT} {st:St}
variable{i j m:Nat}
theorem a9Q{k n:Nat}(h:(sH k n).getD j true=false):k<=j/\j<n:=by
 unfold sH at h;rw[g3s]at h;by_cases hj:j<n
 .simp[hj]at h;omega
 .simp[hj]at h
variable{ops:Array Oper}
theorem b0L{o:Oper}(h:a0T ops m=true)(hj:m<=j)(ho:ops[j]? =some o)(hi:i<m):kG ops ops.size j i=true:=by
 unfold a0T at h;have hjs:=(g3z.1 ho).1;have h1:=g3t.1 h j (List.mem_range.2 hjs);simp only[g3C,g4e]at h1;rcases h1 with h1|h1
 .omega
 .exact g3t.1 h1 i (List.mem_range.2 hi)
def b5b(P:Program)(G:GT)(ops:Array Oper)(m:Nat)(Q:St->Prop):Nat->Array Bool->St->Prop
 |0,listed,st=>listed=sH m ops.size/\Q st
 |fuel+1,listed,st=>Region.ready .any ops listed≠[]/\∀i∈Region.ready .any ops listed,i<m/\match ops[i]? with
  |none=>b5b P G ops m Q fuel (listed.setIfInBounds i true) st
  |some o=>qO P G true ops o (b5b P G ops m Q fuel (listed.setIfInBounds i true)) st
theorem b7A{ops:Array Oper}{m r:Nat}{Q:St->Prop}{QQ:Exit->Act->World->Prop}:∀(fuel:Nat)(listed:Array Bool)(st:St),b5b P G ops m Q fuel listed st->∀(base:dU)(R:Nat->Nat->Prop)(μ:Nat->Nat)(a:Act)(w:World),Rel P G base R μ st a w->
  (∀s a' w' R' μ',Q s->Rel P G base R' μ' s a' w'->Step base R w R' w'->wpAny P .any ops QQ r (sH m ops.size) a' w')->wpAny P .any ops QQ (fuel+r) listed a w
 |0,_,st,h,base,R,μ,a,w,hr,hk=>by rw[Nat.zero_add,h.1];exact hk st a w R μ h.2 hr (.refl _ _ _)
 |fuel+1,listed,st,h,base,R,μ,a,w,hr,hk=>by
  rw[show fuel+1+r=(fuel+r)+1 by omega];refine⟨λh0=>absurd h0 h.1,λi hi=>?_⟩;have h1:=(h.2 i hi).2;unfold wpOp;split
  .rename_i ho;rw[ho]at h1;exact b7A fuel _ st h1 base R μ a w hr hk
  .rename_i o ho;rw[ho]at h1;exact uL h1 hr λs v w' R' μ' h' jG tL=>b7A fuel _ s h' base R' μ' _ w' jG λs a' w2 R2 μ2 q1 q2 q3=>hk s a' w2 R2 μ2 q1 q2 (tL.trans q3)
theorem b7B{listed:Array Bool}(hj:listed.getD j true=false)(gJ:j≠i):(listed.setIfInBounds i true).getD j true=false:=by rw[getD_set_ne true (Ne.symm gJ)];exact hj
theorem c6Q{Q:St->Prop}{oi:Oper}(him:i<m)(hT:a0T ops m=true)(hA:sC ops)(hi:ops[i]? =some oi)(hsi:(dW oi.op=true/\pQ ops oi=false)\/rU oi=true):
  ∀(fuel:Nat)(listed:Array Bool)(st s:St),gR ops listed->
   (∀j oj,ops[j]? =some oj->j≠i->listed.getD j true=false->kG ops ops.size j i=false->oi.apart ops oj=true/\tB ops oi oj=true)->
   i∈Region.ready .any ops listed->tD ops listed st->Eff P G ops oi st s->
   b5b P G ops m Q fuel (listed.setIfInBounds i true) s->b5b P G ops m Q (fuel+1) listed st:=by
 have low:∀(listed:Array Bool),gR ops listed->i∈Region.ready .any ops listed->∀j∈Region.ready .any ops listed,j<m:=λlisted qC hr j hj=>by apply Classical.byContradiction;intro hjm;obtain⟨_,oj,hoj,eQ⟩:=mem_ready.1 hj;obtain⟨a4m,_⟩:=mem_ready.1 hr;have h1:=b0L hT (g3Z hjm) hoj him;rw[eC qC a4m ops.size j λo ho=>by rw[hoj]at ho;cases ho;exact eQ]at h1;cases h1
 intro fuel
 induction fuel with
 |zero=>
  intro listed st s qC _ hr _ hy H;refine⟨λh=>(by rw[h]at hr;cases hr),λj hj=>⟨low listed qC hr j hj,?_⟩⟩;by_cases hji:j=i
  .subst hji;rw[hi];exact(eR hsi).2 ⟨s,hy,H⟩
  .exfalso;obtain⟨a0u,oj,hoj,eQ⟩:=mem_ready.1 hj;obtain⟨a4m,_⟩:=mem_ready.1 hr;have h1:=b7B a0u hji;rw[H.1]at h1;have h2:=a9Q h1;have:=low listed qC hr j hj;omega
 |succ fuel ih=>
  intro listed st s qC a1e hr hI hy H;refine⟨λh=>(by rw[h]at hr;cases hr),λj hj=>⟨low listed qC hr j hj,?_⟩⟩;by_cases hji:j=i
  .subst hji;rw[hi];exact(eR hsi).2 ⟨s,hy,H⟩
  .have h1:=(H.2 j (ready_mono hj hji)).2;obtain⟨a0u,oj,hoj,eQ⟩:=mem_ready.1 hj;rw[hoj]at h1|-;simp only at h1|-;obtain⟨a4m,oi',c3k,b1N⟩:=mem_ready.1 hr;have a6T:kG ops ops.size j i=false:=eC qC a4m _ _ λo ho=>by rw[hoj]at ho;cases ho;exact eQ
   obtain⟨hap,hpo⟩:=a1e j oj hoj hji a0u a6T;have hsj:(dW oj.op=true/\pQ ops oj=false)\/rU oj=true:=by
    by_cases hs:rU oj=true
    .exact .inr hs
    .refine .inl ⟨?_,?_⟩
     .unfold tB at hpo;simp only[rU,g3C,g3q,g3M]at hpo hs;rcases hpo with((((((h|h)|h)|h)|h)|h)|h)|h
      .exact h.1.2
      .exact absurd (.inl (.inl h.1.2)) hs
      .exact h.1.1.2
      .exact absurd (.inl (.inr h.2)) hs
      .exact h.1.2
      .exact absurd (.inl h.1.2) hs
      .exact absurd (.inr h.2) hs
      .exact(qE (G:=G) (st:=st) h.1.2).1
     .cases hx:pQ ops oj with
      |false=>rfl
      |true=>
       have aG:i<ops.size:=(g3z.1 hi).1;rcases xX hx hoj aG (λe=>hji e.symm)with h'|h'
       .have:=eC qC a0u ops.size i λo ho=>by rw[c3k]at ho;cases ho;exact b1N
        rw[h']at this;cases this
       .rw[a6T]at h';cases h'
   obtain⟨s12,hu,hk⟩:=(eR hsj).1 h1;obtain⟨s2,e1,e2⟩:=b1M hap hpo (λhn d hd=>hI i oi d hi hn a4m hd) (λhn d hd=>hI j oj d hoj hn a0u hd) hy hu;refine(eR hsj).2 ⟨s2,e1,?_⟩;refine ih (listed.setIfInBounds j true) s2 s12 (qC.set hj) (λk ok hk' hki hun vB=>?_) (ready_mono hr (Ne.symm hji)) (hI.step hA hoj λk hf hn=>wZ e1 hf hn) e2 ?_
   .exact a1e k ok hk' hki (vW hun).2 vB
   .rw[Array.setIfInBounds_comm _ _ hji];exact hk
theorem c1M{ops:Array Oper}{m:Nat}{Q:St->Prop}(hTA:a0T ops m=true)(hA:sC ops)(hT:gY ops=[]\/∀o∈ops.toList,d3x ops o=true):∀(l:List Oper)(k:Nat)(listed:Array Bool)(st:St),k+l.length=m->(∀j,j<l.length->l[j]? =ops[k+j]?)->gR ops listed->tD ops listed st->
  a7M ops m l.length k listed=true->vU P G true ops l st Q->b5b P G ops m Q l.length listed st
 |[],_,_,_,_,_,_,_,hB,h=>⟨by simpa[a7M]using hB,h⟩
 |o::l,k,listed,st,hkm,hl,qC,hI,hB,h=>by
  have f2O:k<m:=by simp only[List.length_cons]at hkm;omega
  have h0:ops[k]? =some o:=by simpa using (hl 0 (by simp)).symm
  simp only[List.length_cons,a7M,g3q,h0]at hB;obtain⟨⟨hr,hf⟩,hB'⟩:=hB;have hrk:k∈Region.ready .any ops listed:=by simpa using hr
  have tN:∀s,tD ops (listed.setIfInBounds k true) s->vU P G true ops l s Q->b5b P G ops m Q l.length (listed.setIfInBounds k true) s:=λs hs h=>c1M hTA hA hT l (k+1) _ s (by simp only[List.length_cons]at hkm;omega) (λj hj=>by have:=hl (j+1) (by simpa using hj);simpa[Nat.add_assoc,Nat.add_comm 1 j]using this) (qC.set hrk) hs hB' h
  have b6Q:∀j oj,ops[j]? =some oj->j≠k->listed.getD j true=false->kG ops ops.size j k=false->o.apart ops oj=true/\tB ops o oj=true:=by intro j oj hj gJ hun vB;rw[g3t]at hf;have h1:=hf j (List.mem_range.2 (g3z.1 hj).1);simp only[hj,g3C,beq_iff_eq,gJ,false_or,hun,g3K,vB,g3q]at h1;exact h1
  have only:(∀j oj,ops[j]? =some oj->j≠k->listed.getD j true=false->kG ops ops.size j k=false->False)->b5b P G ops m Q (l.length+1) listed st:=λvB=>by
   have low:∀j∈Region.ready .any ops listed,j<m:=λj hj=>by apply Classical.byContradiction;intro hjm;obtain⟨_,oj,hoj,eQ⟩:=mem_ready.1 hj;obtain⟨a4m,_⟩:=mem_ready.1 hrk;have h1:=b0L hTA (g3Z hjm) hoj f2O;rw[eC qC a4m ops.size j λo ho=>by rw[hoj]at ho;cases ho;exact eQ]at h1;cases h1
   refine⟨λh'=>(by rw[h']at hrk;cases hrk),λj hj=>⟨low j hj,?_⟩⟩;by_cases hjk:j=k
   .subst hjk;rw[h0];have c1x:qO P G true ops o (λs=>vU P G true ops l s Q/\tD ops (listed.setIfInBounds j true) s) st:=by
     by_cases hT0:gY ops=[]
     .refine jQ (λs hs=>⟨hs,λi oi d hi hn _ hd=>?_⟩) h;have:d∈gY ops:=g3V.2 ⟨oi,by rw[g4o];exact Array.mem_of_getElem? hi,by rw[if_pos hn];exact hd⟩;rw[hT0]at this;cases this
     .have hT:=hT.resolve_left hT0;refine jQ (λs hs=>⟨hs.1,hI.step hA h0 hs.2⟩) (c1w hT0 (hT o (by rw[g4o];exact Array.mem_of_getElem? h0)) h)
    exact jQ (λs hs=>tN s hs.2 hs.1) c1x
   .obtain⟨a0u,oj,hoj,eQ⟩:=mem_ready.1 hj;have a6T:kG ops ops.size j k=false:=eC qC (mem_ready.1 hrk).1 _ _ λo' xS=>by rw[hoj]at xS;cases xS;exact eQ
    exact(vB j oj hoj hjk a0u a6T).elim
  by_cases hs:(dW o.op=true/\pQ ops o=false)\/rU o=true
  .obtain⟨s,hd,hk⟩:=(eR hs).1 h;exact c6Q f2O hTA hA h0 hs l.length listed st s qC (λj oj hj gJ hun vB=>b6Q j oj hj gJ hun vB) hrk hI hd (tN _ (hI.step hA h0 λk hf hn=>wZ hd hf hn) hk)
  .refine only λj oj hj gJ hun vB=>?_;obtain⟨_,hpo⟩:=b6Q j oj hj gJ hun vB;cases hal:pQ ops o with
   |true=>
    obtain⟨_,ok,pG,d6C⟩:=mem_ready.1 hrk;have d6D:kG ops ops.size k j=false:=eC qC hun _ _ λo' xS=>by rw[pG]at xS;cases xS;exact d6C
    rcases xX hal h0 (g3z.1 hj).1 gJ with h'|h'
    .rw[vB]at h';cases h'
    .rw[d6D]at h';cases h'
   |false=>
    unfold tB at hpo;simp only[rU,g3C,g3q,g3M]at hpo hs;rcases hpo with((((((h'|h')|h')|h')|h')|h')|h')|h'
    .exact hs (.inl ⟨h'.1.1,hal⟩)
    .exact hs (.inl ⟨h'.1.1,hal⟩)
    .exact hs (.inr (.inl (.inl h'.1.1.1)))
    .exact hs (.inl ⟨h'.1,hal⟩)
    .exact hs (.inr (.inl (.inr h'.1.1)))
    .exact hs (.inr (.inl h'.1.1))
    .exact hs (.inl ⟨(qE (G:=G) (st:=st) h'.1.1).1,hal⟩)
    .exact hs (.inr (.inr h'.1.1))
theorem b7C{id:Nat}{T:St->Prop}{Q:Exit->St->Prop}(hm:P.follows .mixedOrders=true)(hB:d7D ops m=true)(hF:b3C ops st=true)(h:vU P G true ops (ops.toList.take m) st T)(hT:∀s base R μ a w (QQ:Exit->Act->World->Prop),T s->Rel P G base R μ s a w->(∀s' a' w' R' μ',Q .normal s'->Rel P G base R' μ' s' a' w'->Step base R w R' w'->QQ .normal a' w')->wpAny P .any ops QQ (ops.size-m) (sH m ops.size) a w):SW P G (.region id ops true) st Q:=by
 intro base R μ a w hr;obtain⟨jG,tL⟩:=hr.drew;unfold d7D at hB;rw[g3q,g3q,g3q,g4e]at hB;obtain⟨⟨hN,f2P,hTA⟩,hB⟩:=hB;rw[g3C,List.isEmpty_iff,g3q,g3t,g4e]at hN;have mem:∀{i oi d},ops[i]? =some oi->gS oi=true->oi.dst=some d->d∈gY ops:=λhi hn hd=>g3V.2 ⟨_,by rw[g4o];exact Array.mem_of_getElem? hi,by rw[if_pos hn];exact hd⟩;have hA:sC ops:=λi j oi oj d hi hj hni hnj hdi hdj=>by
  rcases hN with hN|⟨_,hN⟩
  .have:=mem hi hni hdi;rw[hN]at this;cases this
  .exact b7a (l:=ops.toList) (f:=λo=>if gS o then o.dst else none) hN i j (by simpa using hi) (by simpa using hj) (by rw[if_pos hni];exact hdi) (by rw[if_pos hnj];exact hdj)
 have hI:tD ops (Array.replicate ops.size false) st:=λj oj d hj hn _ hd=>g3t.1 hF d (mem hj hn hd);have hlen:(ops.toList.take m).length=m:=by simp;omega
 have h1:=c1M (P:=P) (G:=G) hTA hA (hN.imp (λh=>h) (λh=>h.1)) (ops.toList.take m) 0 (Array.replicate ops.size false) st (by rw[hlen];omega) (λj hj=>by
  rw[hlen]at hj;rw[g3W,if_pos hj];simp) (λk hk=>by
  rcases Nat.lt_or_ge k ops.size with h'|h'
  .simp[h']at hk
  .simp[Nat.not_lt.2 h']at hk) hI (by rw[hlen];exact hB) h
 rw[hlen]at h1;refine wp_region_any hm ?_;have h2:=b7A (r:=ops.size-m) (QQ:=λe a' w'=>∃s' R' μ',Q e s'/\Rel P G base R' μ' s' a' w'/\Step base R w R' w') m _ st h1 base R μ a w.drew jG λs a' w' R' μ' q1 q2 q3=>hT s base R' μ' a' w' _ q1 q2 λs2 a2 w2 R2 μ2 p1 p2 p3=>⟨s2,R2,μ2,p1,p2,(tL.trans q3).trans p3⟩
 rw[show m+(ops.size-m)=ops.size by omega]at h2;exact h2
end
end Go.VM
end
section
namespace Go.VM
open Go Go.RowKit
def spl(cur:Array Value)(off:Nat)(l:List Value):Array Value:=(cur.toList.take off++l++cur.toList.drop (off+l.length)).toArray
variable{l:List Value}{off:Nat}{cur:Array Value}
theorem b2b(h:off+l.length<=cur.size)(k:Nat):(spl cur off l)[k]? =if k<off then cur[k]? else if k<off+l.length then l[k-off]? else cur[k]? :=by unfold spl;rw[List.getElem?_toArray,a5z (by simpa using h)];simp
theorem b7D(h:off+l.length<=cur.size):(spl cur off l).size=cur.size:=by unfold spl;simp only[List.size_toArray,g4b,g4c,g4p,Array.length_toList];omega
theorem e3y{l':List Value}(h:off+l.length<=cur.size)(hl:l'.length=l.length):spl (spl cur off l) off l'=spl cur off l':=by
 apply Array.ext_getElem?;intro k;have h1:=b7D h;rw[b2b (by rw[h1];omega),b2b h,b2b (by omega)];rw[hl];split
 .rfl
 .split
  .rfl
  .rfl
theorem e3z(a b c:List Value)(b':List Value)(h:b'.length=b.length:=by rw[hn,m1]):spl (a.toArray++b.toArray++c.toArray) a.length b'=a.toArray++b'.toArray++c.toArray:=by unfold spl;rw[h];simp
theorem setRow_setRow(w:World)(g:Nat)(a b:Array Value):(w.setRow g a).setRow g b=w.setRow g b:=by
 unfold World.setRow;cases w with
 |mk heap tape drawn os output=>
  simp only;congr 1;apply Array.ext
  .simp
  .intro k h1 h2;simp only[Array.getElem_modify];by_cases hk:g=k
   .simp only[hk,if_true];generalize heap[k]'(by simpa using h1)=o;cases o<;>rfl
   .simp[hk]
theorem b5c(w:World){g b:Nat}(gJ:g≠b)(x y:Array Value):(w.setRow g x).setRow b y=(w.setRow b y).setRow g x:=by
 unfold World.setRow;cases w with
 |mk heap tape drawn os output=>
  simp only;congr 1;apply Array.ext
  .simp
  .intro k h1 h2;simp only[Array.getElem_modify];by_cases hk:g=k
   .subst hk;simp[Ne.symm gJ]
   .by_cases hb:b=k
    .subst hb;simp[hk]
    .simp[hk,hb]
section
variable {P:Program} {G:GT} {st:St}
variable{b:Nat}{e t:TypeId}{a:Act}{x:Operand}{w:World}{o:Oper}
theorem wB{ad:Operand}(ho:o.op=.store t ad x){off:Nat}{cur:Array Value}{T:TypeId}(had:a.eval ad=.pointer (some ⟨b,off,none⟩))(hh:w.heap[b]? =some (.cells cur T (0,0)))(mQ:(a.eval x).cells.size=P.cellsOf t)(gJ:P.cellsOf t≠0)(kR:∀u∈(a.eval x).cells.toList,u.oneCell'=true)(mX:off+(a.eval x).cells.size<=cur.size:=by rw[v2x];show _+pc.size<=_;rw[b3N,hc];exact mX):
  (execOp a.eval o).run P w=.ok .skip (w.setRow b (spl cur off (a.eval x).cells.toList)):=by
 have pP:=run_storeCells_at P b off T (a.eval x).cells.toList 0 cur w hh (by simpa using mX) kR;simp only[Nat.add_zero]at pP;have hnn:¬((a.eval x).cells.size≠P.cellsOf t):=by rw[mQ];simp
 unfold spl;simp only[execOp,ho,g4f,had,Instr.storeAt,Instr.sureAddr,storeVar,Sem.run_pure,g4h,rY (gF gJ) w,if_neg hnn,pP]
theorem a5c{i:Operand}(ho:o.op=.indexAddr t x i)(hu:P.underlying t=some (.slice e)){n cap k:Nat}{kd:IntKind}(hx:a.eval x=.slice (some ⟨b,0,none⟩) n cap)(hi:a.eval i=.int kd (k:Int))(hk:k<n)(hs:0<P.cellsOf e):
  (execOp a.eval o).run P w=.ok (.value (.pointer (some ⟨b,k*P.cellsOf e,none⟩))) w:=by
 have hso:=rY (gF (P:=P) (t:=e) (by omega)) w;have hkn:¬(n<=k):=by omega
 simp[execOp,ho,hx,hi,Instr.indexAt,g4g hu,asIntOf,hk,hso,pI]
variable{base:dU}{z0:List D}{R:Nat->Nat->Prop}{μ:Nat->Nat}{gM:List (TypeId×List Loc)}{xs:List (List D)}
theorem b5d(hr:Rel P G base R μ st a w){ty:TypeId}(pG:kF P e=true)(hu:P.underlying t=some (.slice e)){i:Tmp}(hsx:st.eval G (.tmp i)=.d (.sl xs))(htk:jW (.t i) st.own=some (e,gM))(hlx:∀c∈xs,c.length=P.cellsOf e)(hx:st.eval G x=.d (.sl [z0]))(hz0:z0.length=P.cellsOf e)(hbd:(xs.length+1)*(P.bytesOf e+1)<=140737488355328):
  ∃g cap a4x w1,(Builtin.append_ #[t,t] ty #[a.eval (.tmp i),a.eval x]).run P w=.ok (.slice (some ⟨g,0,none⟩) (xs.length+1) cap) w1/\w1.heap[g]? =some (.cells a4x e (0,0))/\xs.length*P.cellsOf e+P.cellsOf e<=a4x.size/\
   (∀k o,getKey k st.H=some o->μ k≠g/\w1.heap[μ k]? =w.heap[μ k]?)/\
   ∀(news:List Value)(c:List D),news.length=P.cellsOf e->c.length=P.cellsOf e->(∀u∈news,u.oneCell'=true)->(∀(j:Nat)(d:D),c[j]? =some d->d.one=true/\∃v,news[j]? =some v/\V R w v d)->
    ∃R1,Rel P G base R1 μ {st with own:=gM} a (w1.setRow g (spl a4x (xs.length*P.cellsOf e) news))/\V R1 (w1.setRow g (spl a4x (xs.length*P.cellsOf e) news)) (.slice (some ⟨g,0,none⟩) (xs.length+1) cap) (.sl (xs++[c]))/\
     a7c P base R1 μ {st with own:=gM} a (w1.setRow g (spl a4x (xs.length*P.cellsOf e) news)) (.slice (some ⟨g,0,none⟩) (xs.length+1) cap) (.fresh e)/\Step base R w R1 (w1.setRow g (spl a4x (xs.length*P.cellsOf e) news)):=by
 obtain⟨ti,z,hi,zG,b0x,a2I,hz,hzs⟩:=a1b pG;have hb1:xs.length+1<=140737488355328:=by rw[Nat.mul_add]at hbd;omega
 have hb2:(xs.length+1)*P.bytesOf e<=140737488355328:=by rw[Nat.mul_add]at hbd;omega
 obtain⟨ao2,e3A,hv2,a9R⟩:=c1l (ys:=[z0]) hr (by rw[hx];rfl);obtain⟨b2,e3B,f2R,rfl,q1,q2,q3⟩:=a9R (by simp);have f6L:f2R=P.cellsOf e:=by rw[<-q2 z0 (.head _),hz0]
 subst f6L;obtain⟨n0,m1,m2,m3,m4⟩:=b1F q2 q3;simp only[List.length_singleton,Nat.one_mul]at m1 hv2;obtain⟨jG,v0,vs,hv0,oO,a4Q,tA,hap⟩:=hr.jW htk;have hsv:a.eval (.tmp i)=v0:=by
  refine hv0 _ ?_
  show a.tmps[i]? =some (a.tmps.getD i undef)
  by_cases hs:i<a.tmps.size
  .simp[hs]
  .have h3:¬i<st.tmps.length:=by rw[<-hr.size];exact hs
   simp[St.eval,List.getD,g3X (g3Z h3)]at hsx
 have hV:=hr.pX hsx;have aG:∀k o,getKey k st.H=some o->μ k<w.heap.size:=λk o hk=>(hr.mL k o hk).2.2.lt;have c0e:∀(olds:List Value)(old:Nat),olds.length=xs.length*P.cellsOf e->(∀(i j:Nat)(c:List D)(d:D),xs[i]? =some c->c[j]? =some d->d.one=true/\∃v,olds[i*P.cellsOf e+j]? =some v/\V R w v d)->
   (Builtin.append_ #[t,t] ty #[a.eval (.tmp i),a.eval x]).run P w=.ok (.slice (some ⟨w.heap.size,0,none⟩) (xs.length+1) (grownCap w (xs.length+1) old e)) (w.drew.alloc (.cells (olds.toArray++n0.toArray++Builtin.zeroCells z.cells (grownCap w (xs.length+1) old e-(xs.length+1))) e))->
   ∃g cap a4x w1,(Builtin.append_ #[t,t] ty #[a.eval (.tmp i),a.eval x]).run P w=.ok (.slice (some ⟨g,0,none⟩) (xs.length+1) cap) w1/\w1.heap[g]? =some (.cells a4x e (0,0))/\xs.length*P.cellsOf e+P.cellsOf e<=a4x.size/\
   (∀k o,getKey k st.H=some o->μ k≠g/\w1.heap[μ k]? =w.heap[μ k]?)/\
   ∀(news:List Value)(c:List D),news.length=P.cellsOf e->c.length=P.cellsOf e->(∀u∈news,u.oneCell'=true)->(∀(j:Nat)(d:D),c[j]? =some d->d.one=true/\∃v,news[j]? =some v/\V R w v d)->
    ∃R1,Rel P G base R1 μ {st with own:=gM} a (w1.setRow g (spl a4x (xs.length*P.cellsOf e) news))/\V R1 (w1.setRow g (spl a4x (xs.length*P.cellsOf e) news)) (.slice (some ⟨g,0,none⟩) (xs.length+1) cap) (.sl (xs++[c]))/\
     a7c P base R1 μ {st with own:=gM} a (w1.setRow g (spl a4x (xs.length*P.cellsOf e) news)) (.slice (some ⟨g,0,none⟩) (xs.length+1) cap) (.fresh e)/\Step base R w R1 (w1.setRow g (spl a4x (xs.length*P.cellsOf e) news)):=by
  intro olds old ho1 ho2 dG;refine⟨w.heap.size,_,_,_,dG,heap_alloc_new w.drew _,?_,λk o hk=>⟨by have:=aG k o hk;omega,Below.heap_alloc w.drew _ _ (aG k o hk)⟩,?_⟩
  .simp only[Array.size_append,List.size_toArray,ho1,m1];omega
  .intro news c hn hc h1 hcn;have hsp:spl (olds.toArray++n0.toArray++Builtin.zeroCells z.cells (grownCap w (xs.length+1) old e-(xs.length+1))) (xs.length*P.cellsOf e) news=olds.toArray++news.toArray++Builtin.zeroCells z.cells (grownCap w (xs.length+1) old e-(xs.length+1)):=by have:=e3z olds n0 (Builtin.zeroCells z.cells (grownCap w (xs.length+1) old e-(xs.length+1))).toList news;rw[ho1]at this;simpa using this
   rw[hsp];have hal:=c3z w.drew (olds.toArray++n0.toArray++Builtin.zeroCells z.cells (grownCap w (xs.length+1) old e-(xs.length+1))) (olds.toArray++news.toArray++Builtin.zeroCells z.cells (grownCap w (xs.length+1) old e-(xs.length+1))) e;have hhs:w.drew.heap.size=w.heap.size:=rfl;rw[hhs]at hal;rw[hal];obtain⟨R',n1,n2,n3,n4⟩:=b0y jG (e:=e) (z:=z) a2I hzs (xs:=xs) (ys:=[c]) (olds:=olds) (news:=news) old (by unfold maxLen;simp;omega) hlx (by simpa using hc) ho1 (by simpa using hn) ho2 (λi j c' d hi hj=>by
    cases i with
    |zero=>simp at hi;subst hi;simpa using hcn j d hj
    |succ i=>simp at hi) rfl
   exact⟨R',n1,n3,n4,n2⟩
 have b5K:xs=[]->(∃ao,v0=.slice ao 0 0)->_:=λhx0 ⟨ao,hao⟩=>c0e [] 0 (by rw[hx0];simp) (by rw[hx0];simp) (by
  rw[hsv,hao,hv2,hx0];cases ao with
  |none=>have:=run_append_nil (P:=P) w t ty e ti z hu hi hz ⟨b2,e3B,none⟩ 1 e3A n0 (by rw[m1,zG,Nat.one_mul]) m2 (by omega) (by omega) (by rw[b0x];rw[hx0]at hb2;simp at hb2;omega);simpa using this
  |some b0=>have:=run_append_grow (P:=P) w t ty e ti z hu hi hz b0 0 0 [] (by simp) (by simp) ⟨b2,e3B,none⟩ 1 e3A n0 (by rw[m1,zG,Nat.one_mul]) m2 (by omega) (by omega) (by rw[b0x];rw[hx0]at hb2;exact growslice_fits (by omega) (by simpa using hb2));simpa using this)
 rcases oO with⟨ao,rfl⟩|⟨g,n,cap,cur,rfl,hbg,hg,hnc,hcm,sS,hnR⟩
 .have hx0:xs=[]:=by obtain⟨ao',e1x,h1,_⟩:=hV.a1t;rw[hsv]at h1;exact g4a (Value.slice.inj h1).2.1.symm
  exact b5K hx0 ⟨ao,rfl⟩
 .obtain⟨ao',e1x,h1,_,d6u⟩:=hV.a1t;rw[hsv]at h1;cases h1;have holds:∃olds:List Value,olds.length=xs.length*P.cellsOf e/\(∀(j:Nat)(u:Value),olds[j]? =some u->w.cell? ((⟨g,0,none⟩:Addr).add j)=some u)/\
    ∀(i j:Nat)(c:List D)(d:D),xs[i]? =some c->c[j]? =some d->d.one=true/\∃v,olds[i*P.cellsOf e+j]? =some v/\V R w v d:=by
   by_cases hx0:xs=[]
   .subst hx0;exact⟨[],by simp,by simp,by simp⟩
   .obtain⟨b,o',size,hba,q1,q2,q3⟩:=d6u hx0;cases hba;have mQ:size=P.cellsOf e:=by
     cases xs with
     |nil=>exact absurd rfl hx0
     |cons c l=>rw[<-q2 c (.head _),hlx c (.head _)]
    subst mQ;obtain⟨olds,n1,n2,_,n4⟩:=b1F q2 q3;exact⟨olds,n1,n2,n4⟩
  obtain⟨olds,o1,o2,o3⟩:=holds;by_cases a7k:xs.length+1<=cap
  .have hmul:(xs.length+1)*P.cellsOf e<=cap*P.cellsOf e:=g4k _ a7k;have e6I:xs.length*P.cellsOf e+P.cellsOf e<=cur.size:=by rw[sS];rw[Nat.add_mul,Nat.one_mul]at hmul;exact hmul
   have mX:xs.length*P.cellsOf e+n0.length<=cur.size:=by rw[m1];exact e6I
   have dG:=run_append_room (P:=P) w t ty e ti hu hi g xs.length cap cur hg ⟨b2,e3B,none⟩ 1 e3A n0 (by rw[m1,zG,Nat.one_mul]) m2 m3 a7k (by rw[zG];exact mX);rw[zG]at dG;have a9R:(Builtin.append_ #[t,t] ty #[a.eval (.tmp i),a.eval x]).run P w=.ok (.slice (some ⟨g,0,none⟩) (xs.length+1) cap) (w.setRow g (spl cur (xs.length*P.cellsOf e) n0)):=by rw[hsv,hv2];exact dG
   have b5L:bR (.slice (some ⟨g,0,none⟩) xs.length cap)=some g:=by simp[bR];omega
   have f2S:∀k o,getKey k st.H=some o->μ k≠g:=λk o hk he=>a4Q k o hk (by rw[b5L,he]);refine⟨g,cap,_,_,a9R,setRow_heap w g cur _ e _ hg,?_,λk o hk=>⟨f2S k o hk,setRow_other w g _ _ (f2S k o hk)⟩,?_⟩
   .rw[b7D mX];exact e6I
   .intro news c hn hc h1n hcn;have hnl:news.length=n0.length:=by rw[hn,m1]
    rw[e3y mX hnl,setRow_setRow];have e6J:xs.length*P.cellsOf e+news.length<=cur.size:=by rw[hnl];exact mX
    generalize c5P:spl cur (xs.length*P.cellsOf e) news=cur';have a6Q:∀k,cur'[k]? =if k<xs.length*P.cellsOf e then cur[k]? else if k<xs.length*P.cellsOf e+news.length then news[k-xs.length*P.cellsOf e]? else cur[k]? :=λk=>by rw[<-c5P];exact b2b e6J k
    obtain⟨p1,p2,p3⟩:=jG.d1Y (g:=g) (n:=xs.length) (m:=1) (s:=P.cellsOf e) (cur':=cur') (λk o' hk he=>a4Q k o' hk (by rw[b5L,he])) tA (λv' hv' hsp=>(hap v' hv').1 g b5L hsp) hbg hg hnR (λoff d3r=>by rw[a6Q,if_pos d3r]);have e6K:(w.setRow g cur').heap[g]? =some (.cells cur' e (0,0)):=setRow_heap w g cur _ e _ hg;have d6t:cur'.size=cap*P.cellsOf e:=by rw[<-c5P,b7D e6J,sS]
    refine⟨_,p1,?_,?_,p2⟩
    .have hly:∀c'∈[c],c'.length=P.cellsOf e:=by simpa using hc
     have rN:∀(i j:Nat)(c':List D)(d:D),(xs++[c])[i]? =some c'->c'[j]? =some d->d.one=true/\∃v,(w.setRow g cur').cell? ⟨g,0+i*P.cellsOf e+j,none⟩=some v/\V R w v d:=λi j c' d hi' hj=>by
      rw[Nat.zero_add,cell_of_row _ _ _ cur' e (0,0) e6K,a6Q];by_cases zC:i<xs.length
      .rw[g3B zC]at hi';obtain⟨w1,v,w2,w3⟩:=o3 i j c' d hi' hj;have aG:=(g3r.1 w2).1;have b6U:=o2 _ v w2;rw[pI,Nat.zero_add,cell_of_row _ _ _ cur e (0,0) hg]at b6U;rw[if_pos (by omega)];exact⟨w1,v,b6U,w3⟩
      .rw[g3y (by omega)]at hi';have hi0:i=xs.length:=by have:=(g3r.1 hi').1;simp at this;omega
       subst hi0;simp at hi';subst hi';obtain⟨w1,v,w2,w3⟩:=hcn j d hj;have aG:=(g3r.1 w2).1;rw[if_neg (by omega),if_pos (by omega),Nat.add_sub_cancel_left];exact⟨w1,v,w2,w3⟩
     refine .sl g 0 _ cap (P.cellsOf e) _ (λi j=>((w.setRow g cur').cell? ⟨g,0+i*P.cellsOf e+j,none⟩).getD undef) (by simp) a7k a2I (λc' hc'=>by simp at hc';rcases hc' with hc'|hc';exact hlx c' hc';exact hly c' (by simpa using hc')) (λi j hi' hj=>⟨.inr ⟨rfl,?_⟩,?_⟩) (λi j c' d hi' hj=>(rN i j c' d hi' hj).1) (λi j c' d hi' hj=>?_)
     .have:(i+1)*P.cellsOf e<=(xs.length+1)*P.cellsOf e:=g4k _ (by omega);rw[Nat.add_mul]at this;omega
     .have zC:i<(xs++[c]).length:=by simp;omega
      have hei:=g3u zC;have hjl:j<((xs++[c])[i]).length:=by
       have hm:(xs++[c])[i]∈xs++[c]:=g3P zC;rw[g3Q]at hm;rcases hm with hm|hm
       .rw[hlx _ hm];exact hj
       .rw[hly _ hm];exact hj
      obtain⟨_,v,hv,_⟩:=rN i j _ _ hei (g3u hjl);rw[hv];rfl
     .obtain⟨_,v,hv,hvd⟩:=rN i j c' d hi' hj;rw[hv];exact hvd.cD p2
    .refine⟨.inr ⟨g,_,cap,cur',rfl,hbg,e6K,a7k,hcm,d6t,λoff d3r hR=>?_⟩,λk o' hk=>by have:=a4Q k o' hk;rw[b5L]at this;simpa[bR,show cap≠0 by omega]using this,vs,p3,λv' hv'=>?_⟩
     .rcases hR with hR|⟨_,hR⟩
      .have:xs.length*P.cellsOf e<=(xs.length+1)*P.cellsOf e:=g4k _ (by omega);exact hnR off (by omega) hR
      .omega
     .have d6v:bR (.slice (some ⟨g,0,none⟩) (xs.length+1) cap)=some g:=by simp[bR];omega
      exact⟨λg' hg' c9K=>(hap v' hv').1 g' (by rw[b5L, <- d6v];exact hg') c9K,λg' hg' c9K=>(hap v' hv').2 g' hg' (by rw[b5L, <- d6v];exact c9K)⟩
  .refine c0e olds cap o1 o3 ?_;rw[hsv,hv2];exact run_append_grow (P:=P) w t ty e ti z hu hi hz ⟨g,0,none⟩ xs.length cap olds (by rw[o1,zG]) o2 ⟨b2,e3B,none⟩ 1 e3A n0 (by rw[m1,zG,Nat.one_mul]) m2 (by omega) (by omega) (by rw[b0x];exact growslice_fits (by omega) hb2)
abbrev tl2(s:St)(gM:List (TypeId×List Loc))(e:TypeId)(r p:Tmp)(xs:List (List D))(c:List D):St:=finish (finish {s with own:=gM} (some r) (.d (.sl (xs++[c]))) (.fresh e)) (some p) .undef .no
variable{ops:Array Oper}
theorem eG{Q:Exit->Act->World->Prop}{i:Nat}{K:Act->World->Prop}{a':Act}{w':World}(ho:ops[i]? =some o)(hg:o.guard=none){v:Value}(dG:(execOp a.eval o).run P w=.ok (.value v) w'\/((execOp a.eval o).run P w=.ok .skip w'/\v=Go.undef))(ha:a.put o.dst v=a')(h:K a' w'):wpOp P ops Q i K a w:=by
 unfold wpOp;rw[ho];have hw:∀y,Region.wanted o y=true:=λy=>by unfold Region.wanted;rw[hg]
 simp only[hw,if_true];left;unfold Oper.wp;rcases dG with h1|⟨h1,rfl⟩
 .rw[h1]
  show K (a.put o.dst v) w'
  rw[ha];exact h
 .rw[h1]
  show K (a.put o.dst Go.undef) w'
  rw[ha];exact h
theorem e3C{i0 i1 i2 i3:Nat}{L0:Array Bool}{s z r p q x b:Tmp}{y0 y1 y2 y3:TypeId}{p0 p1 p2 p3:String}{f0 f1 f2 f3:Array Edge}{c:List D}{out:Out}{Q:St->Prop}{QQ:Exit->Act->World->Prop}(h0:ops[i0]? =some ⟨some r,.call {callee:=.builtin .append,args:=#[.tmp s,.tmp z],argTypes:=#[t,t]},y0,p0,f0,none⟩)(h1:ops[i1]? =some ⟨some p,.indexAddr t (.tmp r) (.tmp q),y1,p1,f1,none⟩)(h2:ops[i2]? =some ⟨none,.store e (.tmp p) (.tmp x),y2,p2,f2,none⟩)(h3:ops[i3]? =some ⟨none,.store t (.tmp b) (.tmp r),y3,p3,f3,none⟩)(r0:Region.ready .any ops L0=[i0])(r1:Region.ready .any ops (L0.setIfInBounds i0 true)=[i1,i3])(r2:Region.ready .any ops ((L0.setIfInBounds i0 true).setIfInBounds i1 true)=[i2,i3])(r3:Region.ready .any ops ((L0.setIfInBounds i0 true).setIfInBounds i3 true)=[i1])(r4:Region.ready .any ops (((L0.setIfInBounds i0 true).setIfInBounds i1 true).setIfInBounds i2 true)=[i3])(r5:Region.ready .any ops (((L0.setIfInBounds i0 true).setIfInBounds i1 true).setIfInBounds i3 true)=[i2])(r6:Region.ready .any ops (((L0.setIfInBounds i0 true).setIfInBounds i3 true).setIfInBounds i1 true)=[i2])(r7:Region.ready .any ops ((((L0.setIfInBounds i0 true).setIfInBounds i1 true).setIfInBounds i2 true).setIfInBounds i3 true)=[])(r8:Region.ready .any ops ((((L0.setIfInBounds i0 true).setIfInBounds i1 true).setIfInBounds i3 true).setIfInBounds i2 true)=[])(r9:Region.ready .any ops ((((L0.setIfInBounds i0 true).setIfInBounds i3 true).setIfInBounds i1 true).setIfInBounds i2 true)=[])(pG:kF P e=true)(hu:P.underlying t=some (.slice e))(gJ:(r≠q/\r≠x/\r≠p/\r≠b)/\p≠x/\p≠b)(aG:r<st.tmps.length/\p<st.tmps.length)(hsx:st.eval G (.tmp s)=.d (.sl xs))(htk:jW (.t s) st.own=some (e,gM))(hlx:∀c∈xs,c.length=P.cellsOf e)(hx:st.eval G (.tmp z)=.d (.sl [z0]))(hz0:z0.length=P.cellsOf e)(hbd:(xs.length+1)*(P.bytesOf e+1)<=140737488355328)(hq:st.eval G (.tmp q)=.d (.int .i64 (xs.length:Int)))(hxv:st.eval G (.tmp x)=.d (.agg c))(hc:c.length=P.cellsOf e)(pP:uF P G t (.tmp b) (.tmp r) (tl2 st gM e r p xs c)=some out)(hQ:Q out.st)(hr:Rel P G base R μ st a w)(hk:∀s' a' w' R' μ',Q s'->Rel P G base R' μ' s' a' w'->Step base R w R' w'->QQ .normal a' w'):wpAny P .any ops QQ 4 L0 a w:=by
 obtain⟨⟨n1,n2,n3,n4⟩,n5,n6⟩:=gJ;obtain⟨l1,l2⟩:=aG;have mQ:=hr.size;obtain⟨_,_,_,_,_,a2I,_,_⟩:=a1b pG;obtain⟨g,cap,a4x,w1,e0,hg,mX,e9q,c1m⟩:=b5d (ty:=y0) hr pG hu (x:=.tmp z) hsx htk hlx hx hz0 hbd;obtain⟨pc,hpc,b3N,c6S⟩:=(hr.pX hxv).a5w;have kR:∀u∈pc.toList,u.oneCell'=true:=λu hu=>by
  obtain⟨j,hj⟩:=g3H hu;have hjl:j<c.length:=by rw[<-b3N];simpa using (g3r.1 hj).1
  obtain⟨k1,k2⟩:=c6S j c[j] (by simp[hjl]);have:pc.getD j Go.undef=u:=by
   have:pc[j]? =some u:=by simpa using hj
   simp[g3s,this]
  rw[this]at k2;exact k2.b1A k1
 obtain⟨R1,hr1,hV1,hA1,hs1⟩:=c1m pc.toList c (by simpa[b3N]using hc) hc kR (λj d hj=>by
  obtain⟨k1,k2⟩:=c6S j d hj;have hjl:j<pc.size:=by rw[b3N];exact(g3r.1 hj).1
  refine⟨k1,pc[j],by simp[hjl],?_⟩;simpa[g3s,hjl]using k2)
 generalize hvS:(Value.slice (some ⟨g,0,none⟩) (xs.length+1) cap)=vS at *;generalize d7E:spl a4x (xs.length*P.cellsOf e) pc.toList=b3O at *;have hra:r<a.tmps.size:=by rw[mQ];exact l1
 have hpa:p<a.tmps.size:=by rw[mQ];exact l2
 have e9s:=hr1.put (dst:=some r) (.d _ _ hV1) hA1;have hr2:=e9s.put (dst:=some p) (v:=.pointer (some ⟨g,xs.length*P.cellsOf e,none⟩)) (act:=.no) (.undef _) trivial;generalize ha1:a.put (some r) vS=a1 at *;generalize ha2:a1.put (some p) (.pointer (some ⟨g,xs.length*P.cellsOf e,none⟩))=a2 at *;have z1:a1.tmps.size=a.tmps.size:=by rw[<-ha1];exact size_put
 have v1r:a1.eval (.tmp r)=vS:=by rw[<-ha1];exact eP hra
 have v1q:a1.eval (.tmp q)=a.eval (.tmp q):=by rw[<-ha1];exact cK (Ne.symm n1)
 have v1x:a1.eval (.tmp x)=a.eval (.tmp x):=by rw[<-ha1];exact cK (Ne.symm n2)
 have v1b:a1.eval (.tmp b)=a.eval (.tmp b):=by rw[<-ha1];exact cK (Ne.symm n4)
 have v2p:a2.eval (.tmp p)=.pointer (some ⟨g,xs.length*P.cellsOf e,none⟩):=by rw[<-ha2];exact eP (z1.symm▸hpa)
 have v2x:a2.eval (.tmp x)=.agg pc:=by rw[<-ha2,cK (Ne.symm n5),v1x,hpc]
 have v2r:a2.eval (.tmp r)=vS:=by rw[<-ha2,cK n3];exact v1r
 have v2b:a2.eval (.tmp b)=a.eval (.tmp b):=by rw[<-ha2,cK (Ne.symm n6)];exact v1b
 have a7N:=pP;unfold uF at a7N;split at a7N;rotate_left
 .cases a7N
 rename_i kb off ys hb hys;split at a7N;rotate_left
 .cases a7N
 rename_i cs hkb;split at a7N;rotate_left
 .cases a7N
 rename_i hcd
 clear a7N
 have hHs:(tl2 st gM e r p xs c).H=st.H:=rfl;rw[hHs]at hkb;have hb':a2.eval (.tmp b)=.pointer (some ⟨μ kb,off,none⟩):=hr2.eO hb;have e9v:ys.length=1:=by
  have:(tl2 st gM e r p xs c).eval G (.tmp r)=.d (.sl (xs++[c])):=by simp[St.eval,finish,List.getD,l1,List.getElem?_set,Ne.symm n3]
  rw[this]at hys;simp only[xQ,D.cells,List.map_cons,List.map_nil,g3w]at hys;rw[<-hys];rfl
 obtain⟨_,_,vs0,T0,hh0,e9w,_⟩:=hr.mL kb _ hkb;obtain⟨hbg,e9x⟩:=e9q kb _ hkb;have hvc:vS.cells=#[vS]:=by rw[<-hvS];rfl
 have hvo:vS.oneCell'=true:=by rw[<-hvS];rfl
 have hob:w1.heap[μ kb]? =some (.cells vs0 T0 (0,0)):=e9x.trans hh0;generalize hX:spl vs0 off [vS]=X;have E0:(execOp a.eval ⟨some r,.call {callee:=.builtin .append,args:=#[.tmp s,.tmp z],argTypes:=#[t,t]},y0,p0,f0,none⟩).run P w=.ok (.value vS) w1:=by simp[execOp,resolve,invoke,builtin,e0]
 have E1:∀w',(execOp a1.eval ⟨some p,.indexAddr t (.tmp r) (.tmp q),y1,p1,f1,none⟩).run P w'=.ok (.value (.pointer (some ⟨g,xs.length*P.cellsOf e,none⟩))) w':=λw'=>a5c rfl hu (v1r.trans hvS.symm) (v1q.trans (hr.zE hq)) (by omega) a2I
 have E2:∀w':World,w'.heap[g]? =some (.cells a4x e (0,0))->(execOp a2.eval ⟨none,.store e (.tmp p) (.tmp x),y2,p2,f2,none⟩).run P w'=.ok .skip (w'.setRow g b3O):=λw' hw'=>by have:=wB (P:=P) (a:=a2) (w:=w') (o:=⟨none,.store e (.tmp p) (.tmp x),y2,p2,f2,none⟩) rfl v2p hw' (by rw[v2x];show pc.size=_;rw[b3N,hc]) (by omega) (by rw[v2x];exact kR);rw[v2x]at this;have qC:(Value.agg pc).cells=pc:=rfl;rw[qC,d7E]at this;exact this
 have E3:∀(ax:Act)(w':World),ax.eval (.tmp b)=.pointer (some ⟨μ kb,off,none⟩)->ax.eval (.tmp r)=vS->w'.heap[μ kb]? =some (.cells vs0 T0 (0,0))->(execOp ax.eval ⟨none,.store t (.tmp b) (.tmp r),y3,p3,f3,none⟩).run P w'=.ok .skip (w'.setRow (μ kb) X):=λax w' hb1 hr1 hw'=>by have:=wB (P:=P) (a:=ax) (w:=w') (o:=⟨none,.store t (.tmp b) (.tmp r),y3,p3,f3,none⟩) rfl hb1 hw' (by rw[hr1,hvc, <- hcd.1,e9v];rfl) (by omega) (by rw[hr1,hvc];simpa using hvo) (by rw[hr1,hvc];show off+1<=_;rw[e9w];omega);rw[hr1,hvc]at this;have:(execOp ax.eval ⟨none,.store t (.tmp b) (.tmp r),y3,p3,f3,none⟩).run P w'=.ok .skip (w'.setRow (μ kb) (spl vs0 off [vS])):=this;rw[hX]at this;exact this
 have hb1:a1.eval (.tmp b)=.pointer (some ⟨μ kb,off,none⟩):=by rw[v1b, <- v2b];exact hb'
 have hgX:(w1.setRow (μ kb) X).heap[g]? =some (.cells a4x e (0,0)):=(setRow_other w1 (μ kb) g _ (Ne.symm hbg)).trans hg;have hbX:(w1.setRow g b3O).heap[μ kb]? =some (.cells vs0 T0 (0,0)):=(setRow_other w1 g (μ kb) _ hbg).trans hob;have c1N:(w1.setRow (μ kb) X).setRow g b3O=(w1.setRow g b3O).setRow (μ kb) X:=b5c w1 hbg X b3O;have a1k:QQ .normal a2 ((w1.setRow g b3O).setRow (μ kb) X):=by
  obtain⟨v,w',R',μ',dG,hr3,_,_,hs3⟩:=a8J (o:=⟨none,.store t (.tmp b) (.tmp r),y3,p3,f3,none⟩) rfl pP base R1 μ a2 _ hr2;rw[E3 a2 _ hb' v2r hbX]at dG;rcases dG with dG|⟨dG,_⟩
  .cases dG
  .cases dG;exact hk out.st a2 _ R' μ' hQ hr3 (hs1.trans hs3)
 refine wpAny_all r0 (by simp) λi hi=>?_;simp only[g3x]at hi;subst hi;refine eG h0 rfl (.inl E0) ha1 ?_;refine wpAny_all r1 (by simp) λj hj=>?_;simp only[g3N,List.not_mem_nil,or_false]at hj;rcases hj with rfl|rfl
 .refine eG h1 rfl (.inl (E1 w1)) ha2 ?_;refine wpAny_all r2 (by simp) λj hj=>?_;simp only[g3N,List.not_mem_nil,or_false]at hj;rcases hj with rfl|rfl
  .refine eG h2 rfl (.inr ⟨E2 w1 hg,rfl⟩) rfl ?_;refine wpAny_all r4 (by simp) λj hj=>?_;simp only[g3x]at hj;subst hj;exact eG h3 rfl (.inr ⟨E3 a2 _ hb' v2r hbX,rfl⟩) rfl (wpAny_done r7 a1k _)
  .refine eG h3 rfl (.inr ⟨E3 a2 _ hb' v2r hob,rfl⟩) rfl ?_;refine wpAny_all r5 (by simp) λj hj=>?_;simp only[g3x]at hj;subst hj;exact eG h2 rfl (.inr ⟨E2 _ hgX,rfl⟩) rfl (wpAny_done r8 (by rw[c1N];exact a1k) _)
 .refine eG h3 rfl (.inr ⟨E3 a1 _ hb1 v1r hob,rfl⟩) rfl ?_;refine wpAny_all r3 (by simp) λj hj=>?_;simp only[g3x]at hj;subst hj;refine eG h1 rfl (.inl (E1 _)) ha2 ?_;refine wpAny_all r6 (by simp) λj hj=>?_;simp only[g3x]at hj;subst hj;exact eG h2 rfl (.inr ⟨E2 _ hgX,rfl⟩) rfl (wpAny_done r9 (by rw[c1N];exact a1k) _)
end
end Go.VM
end
section
namespace Go.VM
open Go Go.RowKit
section
variable {P:Program} {G:GT} {st:St} {Q:Exit->St->Prop}
theorem SW.d0n{id:Nat}{c:Code}(h:SW P G c st λe s=>match e with
  |.exit id'=>if id'=id then Q .normal s else Q (.exit id') s
  |e=>Q e s):SW P G (.block id c) st Q:=λbase R μ a w hr=>wp_block (wp_mono (h base R μ a w hr) λe a1 w1 ⟨s,R1,μ1,q1,q2,q3⟩=>by
   cases e with
   |exit id'=>
    simp only[Exit.inBlock];simp only at q1;by_cases hid:id'=id
    .rw[if_pos hid]at q1|-;exact⟨s,R1,μ1,q1,q2,q3⟩
    .rw[if_neg hid]at q1|-;exact⟨s,R1,μ1,q1,q2,q3⟩
   |_=>exact⟨s,R1,μ1,q1,q2,q3⟩)
theorem d0o{all:Array Oper}{rest:List Oper}{T:St->Prop}(h:VK P G [.ops true all rest] .normal st λ_ s=>T s):vU P G true all rest st T:=by simp only[VK]at h;exact h
def e9z(P:Program)(G:GT)(t e:TypeId)(s z r p q x b:Tmp)(Q:St->Prop)(st:St):Prop:=
 ∃(xs:List (List D))(z0 c:List D)(gM:List (TypeId×List Loc))(out:Out),(r<st.tmps.length/\p<st.tmps.length)/\st.eval G (.tmp s)=.d (.sl xs)/\jW (.t s) st.own=some (e,gM)/\(∀c∈xs,c.length=P.cellsOf e)/\st.eval G (.tmp z)=.d (.sl [z0])/\z0.length=P.cellsOf e/\
  (xs.length+1)*(P.bytesOf e+1)<=140737488355328/\st.eval G (.tmp q)=.d (.int .i64 (xs.length:Int))/\st.eval G (.tmp x)=.d (.agg c)/\c.length=P.cellsOf e/\uF P G t (.tmp b) (.tmp r) (tl2 st gM e r p xs c)=some out/\Q out.st
def c1P(ops:Array Oper)(m:Nat):Bool:=
 let L:=sH m ops.size
 decide (ops.size=m+4)&&(Region.ready .any ops L==[m])&&(Region.ready .any ops (L.setIfInBounds m true)==[m+1,m+3])&&(Region.ready .any ops ((L.setIfInBounds m true).setIfInBounds (m+1) true)==[m+2,m+3])&&(Region.ready .any ops ((L.setIfInBounds m true).setIfInBounds (m+3) true)==[m+1])&&
 (Region.ready .any ops (((L.setIfInBounds m true).setIfInBounds (m+1) true).setIfInBounds (m+2) true)==[m+3])&&(Region.ready .any ops (((L.setIfInBounds m true).setIfInBounds (m+1) true).setIfInBounds (m+3) true)==[m+2])&&(Region.ready .any ops (((L.setIfInBounds m true).setIfInBounds (m+3) true).setIfInBounds (m+1) true)==[m+2])&&
 (Region.ready .any ops ((((L.setIfInBounds m true).setIfInBounds (m+1) true).setIfInBounds (m+2) true).setIfInBounds (m+3) true)==[])&&(Region.ready .any ops ((((L.setIfInBounds m true).setIfInBounds (m+1) true).setIfInBounds (m+3) true).setIfInBounds (m+2) true)==[])&&(Region.ready .any ops ((((L.setIfInBounds m true).setIfInBounds (m+3) true).setIfInBounds (m+1) true).setIfInBounds (m+2) true)==[])
end
end Go.VM
end
section
namespace Go.VM
open Go Go.RowKit
section
variable {P:Program} {G:GT} {st:St}
theorem Rel.alias{base:dU}{R:Nat->Nat->Prop}{μ:Nat->Nat}{a:Act}{w:World}(hr:Rel P G base R μ st a w){t:Tmp}{k off:Nat}(hk:∃o,getKey k st.H=some o)(ht:t<a.tmps.size)(h:∀u,w.cell? ⟨μ k,off,none⟩=some u->u=a.eval (.tmp t)):
  Rel P G base R μ {st with own:=addAlias (.t t) (.c k off) st.own} a w:=by
 obtain⟨vs,tA⟩:=hr.own;refine⟨hr.defers,hr.size,hr.tmps,hr.mL,hr.inj,λc hc k' a7h hl=>?_,⟨vs,by simpa[addAlias]using tA.len,λi c v hc hv=>?_,tA.apart⟩,hr.wY,hr.sB,hr.base,hr.pass⟩
 .obtain⟨i,hi⟩:=g3H hc;obtain⟨c',hc',_,hm⟩:=zB hi;rcases hm _ hl with hx|⟨hx,_⟩
  .exact hr.eU c' (g3v hc') k' a7h hx
  .cases hx;exact hk
 .obtain⟨c',hc',he,hm⟩:=zB hc;have ho:=tA.one i c' v hc' hv;refine⟨λl hl u hu=>?_,by rw[he];exact ho.own,ho.keys⟩;rcases hm l hl with hx|⟨rfl,hx⟩
  .exact ho.eU l hx u hu
  .have h1:=h u hu;have h2:cY a w μ (.t t)=some (a.eval (.tmp t)):=by simp[cY,Act.eval,ht]
   rw[h1];exact ho.eU _ hx _ h2
end
end Go.VM
end
section
namespace Go.VM
open Go Go.RowKit
section
variable {P:Program} {G:GT} {base:dU} {R:Nat->Nat->Prop} {μ:Nat->Nat} {st:St} {a:Act} {w:World}
variable{o:Oper}
theorem c3A{e:TypeId}(ho:o.op=.alloc e){z:Value}(hz:(P.info? e).bind (·.zero)=some z):(execOp a.eval o).run P w=.ok (.value (.pointer (some ⟨w.heap.size,0,none⟩))) (w.alloc (.cells z.cells e)):=by obtain⟨i,hi,hz⟩:=g3E.1 hz;simp[execOp,ho,Instr.alloc,zeroValue,typeInfo,hi,hz,newVar,newRow]
theorem a0z{t u:TypeId}{x:Operand}{i fo:Nat}(ho:o.op=.fieldAddr t x i)(hf:aO P t i=some (fo,u))(gJ:P.cellsOf u≠0){b off:Nat}(hx:a.eval x=.pointer (some ⟨b,off,none⟩)):
  (execOp a.eval o).run P w=.ok (.value (.pointer (some ⟨b,off+fo,none⟩))) w:=by
 obtain⟨fs,f,h1,h2,rfl,rfl⟩:=zF hf;obtain⟨ti,hti⟩:∃i,P.info? f.type=some i:=by
  cases hi:P.info? f.type with
  |none=>simp[Program.cellsOf,hi]at gJ
  |some i=>exact⟨i,rfl⟩
 simp[execOp,ho,hx,Instr.fieldAt,g4g h1,h2,Instr.sureAddr,a2G (w:=w) b off f hti gJ]
end
end Go.VM
end
section
namespace Go.VM
open Go
section
variable {G:GT}
variable{P:Program}{ops:Array Oper}{Q:Exit->St->Prop}{st:St}
theorem e3E{id:Nat}(hm:P.follows .mixedOrders=true)(h:c0h P G ops (λs=>Q .normal s) ops.size (Array.replicate ops.size false) st):SW P G (.region id ops true) st Q:=by intro base R μ a w hr;obtain⟨jG,tL⟩:=hr.drew;exact wp_region_any hm (b6s ops.size _ st h base R μ a w.drew jG λs a' w' R' μ' q1 q2 q3=>⟨s,R',μ',q1,q2,tL.trans q3⟩)
abbrev lst(l:List Nat):Array Bool:=l.foldl (λa i=>a.setIfInBounds i true) (Array.replicate 4 false)
def three(ops:Array Oper):Bool:=decide (ops.size=4)&&(Region.ready .any ops (lst [])==[0,1])&&(Region.ready .any ops (lst [0])==[1,2])&&(Region.ready .any ops (lst [1])==[0])&&(Region.ready .any ops (lst [0,1])==[2])&&(Region.ready .any ops (lst [1,0])==[2])
 &&(Region.ready .any ops (lst [0,2])==[1])&&(Region.ready .any ops (lst [0,1,2])==[3])&&(Region.ready .any ops (lst [1,0,2])==[3])&&(Region.ready .any ops (lst [0,2,1])==[3])
 &&(Region.ready .any ops (lst [0,1,2,3])==[])&&(Region.ready .any ops (lst [1,0,2,3])==[])&&(Region.ready .any ops (lst [0,2,1,3])==[])
theorem c6T{id:Nat}{o0 o1 o2 o3:Oper}(hm:P.follows .mixedOrders=true)(hB:three ops=true)(h0:ops[0]? =some o0)(h1:ops[1]? =some o1)(h2:ops[2]? =some o2)(h3:ops[3]? =some o3)(h:VK P G [.ops true ops [o0]] .normal st (λ_ s=>VK P G [.ops true ops [o1,o2,o3]] .normal s (λ_ s=>Q .normal s)/\VK P G [.ops true ops [o2,o1,o3]] .normal s (λ_ s=>Q .normal s))/\VK P G [.ops true ops [o1,o0,o2,o3]] .normal st (λ_ s=>Q .normal s)):SW P G (.region id ops true) st Q:=by simp only[VK]at h;simp only[three,g3q,g4e,beq_iff_eq,List.foldl_cons,List.foldl_nil]at hB;obtain⟨⟨⟨⟨⟨⟨⟨⟨⟨⟨⟨⟨mQ,r⟩,r0⟩,r1⟩,r01⟩,r10⟩,r02⟩,f6T⟩,f6U⟩,f6V⟩,f2Z⟩,f3a⟩,f3b⟩:=hB;refine e3E hm ?_;rw[mQ];simp only[c0h,r,r0,r1,r01,r10,r02,f6T,f6U,f6V,f2Z,f3a,f3b,h0,h1,h2,h3,List.forall_mem_cons,List.not_mem_nil,false_imp_iff,implies_true,and_true,true_and,reduceCtorEq];exact h
end
end Go.VM
end
section
namespace Go.VM
open Go
section
variable {P:Program} {G:GT} {base:dU} {R:Nat->Nat->Prop} {μ:Nat->Nat} {st:St} {a:Act} {w:World}
def a5d(P:Program)(G:GT)(ops:Array Oper)(c:Nat)(Q:St->Prop):Nat->Array Bool->St->Prop
 |0,listed,st=>Region.ready .any ops listed=[]/\Q st
 |fuel+1,listed,st=>(Region.ready .any ops listed=[]->Q st)/\∀i∈Region.ready .any ops listed,match ops[i]? with
  |none=>a5d P G ops c Q fuel (listed.setIfInBounds i true) st
  |some o=>qO P G (i !=c) ops o (a5d P G ops c Q fuel (listed.setIfInBounds i true)) st
theorem a7O{ops:Array Oper}{c:Nat}{Q:St->Prop}{QQ:Exit->Act->World->Prop}:∀(fuel:Nat)(listed:Array Bool)(st:St),a5d P G ops c Q fuel listed st->∀(base:dU)(R:Nat->Nat->Prop)(μ:Nat->Nat)(a:Act)(w:World),Rel P G base R μ st a w->
  (∀s a' w' R' μ',Q s->Rel P G base R' μ' s a' w'->Step base R w R' w'->QQ .normal a' w')->wpAny P .any ops QQ fuel listed a w
 |0,_,st,h,base,R,μ,a,w,hr,hk=>⟨h.1,hk st a w R μ h.2 hr (.refl _ _ _)⟩
 |fuel+1,listed,st,h,base,R,μ,a,w,hr,hk=>by
  refine⟨λh0=>hk st a w R μ (h.1 h0) hr (.refl _ _ _),λi hi=>?_⟩;have h1:=h.2 i hi;unfold wpOp;split
  .rename_i ho;rw[ho]at h1;exact a7O fuel _ st h1 base R μ a w hr hk
  .rename_i o ho;rw[ho]at h1;exact uL h1 hr λs v w' R' μ' h' jG tL=>a7O fuel _ s h' base R' μ' _ w' jG λs a' w2 R2 μ2 q1 q2 q3=>hk s a' w2 R2 μ2 q1 q2 (tL.trans q3)
variable{ops:Array Oper}{Q:Exit->St->Prop}{c i:Nat}
theorem d7H{id:Nat}(hm:P.follows .mixedOrders=true)(h:a5d P G ops c (λs=>Q .normal s) ops.size (Array.replicate ops.size false) st):SW P G (.region id ops true) st Q:=by intro base R μ a w hr;obtain⟨jG,tL⟩:=hr.drew;exact wp_region_any hm (a7O ops.size _ st h base R μ a w.drew jG λs a' w' R' μ' q1 q2 q3=>⟨s,R',μ',q1,q2,tL.trans q3⟩)
theorem c6U{Q:St->Prop}{oi:Oper}(hA:sC ops)(hi:ops[i]? =some oi)(hic:i≠c)(hsi:(dW oi.op=true/\pQ ops oi=false)\/rU oi=true):
  ∀(fuel:Nat)(listed:Array Bool)(st s:St),gR ops listed->
   (∀j oj,ops[j]? =some oj->j≠i->listed.getD j true=false->kG ops ops.size j i=false->j≠c/\oi.apart ops oj=true/\tB ops oi oj=true)->
   i∈Region.ready .any ops listed->tD ops listed st->Eff P G ops oi st s->
   a5d P G ops c Q fuel (listed.setIfInBounds i true) s->a5d P G ops c Q (fuel+1) listed st:=by
 have qi:(i !=c)=true:=by simpa using hic
 intro fuel
 induction fuel with
 |zero=>
  intro listed st s _ _ hr _ hy H;refine⟨λh=>(by rw[h]at hr;cases hr),λj hj=>?_⟩;by_cases hji:j=i
  .subst hji;rw[hi,qi];exact(eR hsi).2 ⟨s,hy,H⟩
  .have:=ready_mono hj hji;rw[H.1]at this;cases this
 |succ fuel ih=>
  intro listed st s qC a1e hr hI hy H;refine⟨λh=>(by rw[h]at hr;cases hr),λj hj=>?_⟩;by_cases hji:j=i
  .subst hji;rw[hi,qi];exact(eR hsi).2 ⟨s,hy,H⟩
  .have h1:=H.2 j (ready_mono hj hji);obtain⟨a0u,oj,hoj,eQ⟩:=mem_ready.1 hj;rw[hoj]at h1|-;simp only at h1|-;obtain⟨a4m,oi',c3k,b1N⟩:=mem_ready.1 hr;have a6T:kG ops ops.size j i=false:=eC qC a4m _ _ λo ho=>by rw[hoj]at ho;cases ho;exact eQ
   obtain⟨hjc,hap,hpo⟩:=a1e j oj hoj hji a0u a6T;have qj:(j !=c)=true:=by simpa using hjc
   rw[qj]at h1|-;have hsj:(dW oj.op=true/\pQ ops oj=false)\/rU oj=true:=by
    by_cases hs:rU oj=true
    .exact .inr hs
    .refine .inl ⟨?_,?_⟩
     .unfold tB at hpo;simp only[rU,g3C,g3q,g3M]at hpo hs;rcases hpo with((((((h|h)|h)|h)|h)|h)|h)|h
      .exact h.1.2
      .exact absurd (.inl (.inl h.1.2)) hs
      .exact h.1.1.2
      .exact absurd (.inl (.inr h.2)) hs
      .exact h.1.2
      .exact absurd (.inl h.1.2) hs
      .exact absurd (.inr h.2) hs
      .exact(qE (G:=G) (st:=st) h.1.2).1
     .cases hx:pQ ops oj with
      |false=>rfl
      |true=>
       have aG:i<ops.size:=(g3z.1 hi).1;rcases xX hx hoj aG (λe=>hji e.symm)with h'|h'
       .have:=eC qC a0u ops.size i λo ho=>by rw[c3k]at ho;cases ho;exact b1N
        rw[h']at this;cases this
       .rw[a6T]at h';cases h'
   obtain⟨s12,hu,hk⟩:=(eR hsj).1 h1;obtain⟨s2,e1,e2⟩:=b1M hap hpo (λhn d hd=>hI i oi d hi hn a4m hd) (λhn d hd=>hI j oj d hoj hn a0u hd) hy hu;refine(eR hsj).2 ⟨s2,e1,?_⟩;refine ih (listed.setIfInBounds j true) s2 s12 (qC.set hj) (λk ok hk' hki hun vB=>?_) (ready_mono hr (Ne.symm hji)) (hI.step hA hoj λk hf hn=>wZ e1 hf hn) e2 ?_
   .exact a1e k ok hk' hki (vW hun).2 vB
   .rw[Array.setIfInBounds_comm _ _ hji];exact hk
def a6U(P:Program)(G:GT)(ops:Array Oper)(c:Nat):List Nat->St->(St->Prop)->Prop
 |[],st,K=>K st
 |i::r,st,K=>match ops[i]? with
  |some o=>qO P G (i !=c) ops o (λs=>a6U P G ops c r s K) st
  |none=>False
def b7E(ops:Array Oper)(c:Nat)(listed:Array Bool)(i:Nat):Bool:=(Region.ready .any ops listed==[i])||((Region.ready .any ops listed).contains i&&(i !=c)&&(match ops[i]? with
 |none=>false
 |some oi=>((dW oi.op&& !pQ ops oi)||rU oi)&&(List.range ops.size).all λj=>j==i||listed.getD j true||kG ops ops.size j i||(j !=c&&(match ops[j]? with
  |some oj=>oi.apart ops oj&&tB ops oi oj
  |none=>true))))
def cT(l:List Nat)(x:Array Bool):Array Bool:=l.foldl (λx i=>x.setIfInBounds i true) x
def b2c(ops:Array Oper)(c:Nat):List Nat->Array Bool->Bool
 |[],_=>true
 |i::r,listed=>b7E ops c listed i&&b2c ops c r (listed.setIfInBounds i true)
theorem c1Q(h:gY ops=[]){o:Oper}{d:Tmp}(hi:ops[i]? =some o)(hn:gS o=true)(hd:o.dst=some d):False:=by have:d∈gY ops:=g3V.2 ⟨o,by rw[g4o];exact Array.mem_of_getElem? hi,by rw[if_pos hn];exact hd⟩;rw[h]at this;cases this
theorem a5e{ops:Array Oper}{c:Nat}{Q:St->Prop}(hN:gY ops=[]):∀(l:List Nat)(listed:Array Bool)(st:St)(fuel:Nat),gR ops listed->b2c ops c l listed=true->
  a6U P G ops c l st (a5d P G ops c Q fuel (cT l listed))->(gR ops (cT l listed)->True)->a5d P G ops c Q (l.length+fuel) listed st
 |[],listed,st,fuel,_,_,h,_=>by simpa[cT,a6U]using h
 |i::l,listed,st,fuel,qC,hB,h,_=>by
  have hA:sC ops:=λi j oi oj d hi _ hni _ hdi _=>(c1Q hN hi hni hdi).elim;have hI:∀listed st,tD ops listed st:=λ_ _ j oj d hj hn _ hd=>(c1Q hN hj hn hd).elim;simp only[b2c,g3q]at hB;obtain⟨hf,hB'⟩:=hB;simp only[a6U]at h;split at h;rotate_left
  .cases h
  rename_i o ho;have he:(i::l).length+fuel=l.length+fuel+1:=by simp only[List.length_cons];omega
  rw[he];unfold b7E at hf;rw[g3C,beq_iff_eq]at hf;have hri:i∈Region.ready .any ops listed:=by
   rcases hf with hf|hf
   .rw[hf];exact g3x.2 rfl
   .simp only[g3q]at hf;simpa using hf.1.1
  have tN:∀s,a6U P G ops c l s (a5d P G ops c Q fuel (cT (i::l) listed))->a5d P G ops c Q (l.length+fuel) (listed.setIfInBounds i true) s:=λs hs=>a5e hN l _ s fuel (qC.set hri) hB' hs λ_=>trivial;rcases hf with hf|hf
  .refine⟨λh'=>(by rw[h']at hf;cases hf),λj hj=>?_⟩;rw[hf,g3x]at hj;subst hj;rw[ho];exact jQ tN h
  .rw[ho]at hf;simp only[g3q,g3C,g3M,bne_iff_ne,ne_eq]at hf;obtain⟨⟨_,hic⟩,hsi,eQ⟩:=hf;have qi:(i !=c)=true:=by simpa using hic
   rw[qi]at h;obtain⟨s,hd,hk⟩:=(eR hsi).1 h;refine c6U hA ho hic hsi _ listed st s qC (λj oj hj gJ hun vB=>?_) hri (hI _ _) hd (tN s hk);rw[g3t]at eQ;have h1:=eQ j (List.mem_range.2 (g3z.1 hj).1);simp only[hj,g3C,beq_iff_eq,gJ,false_or,hun,g3K,vB,g3q,bne_iff_ne,ne_eq]at h1;exact h1
theorem d0p{Q:St->Prop}{fuel:Nat}{listed:Array Bool}(h:Region.ready .any ops listed=[])(hq:Q st):a5d P G ops c Q fuel listed st:=by
 cases fuel with
 |zero=>exact⟨h,hq⟩
 |succ n=>exact⟨λ_=>hq,λi hi=>by rw[h]at hi;cases hi⟩
theorem tW{ops:Array Oper}{c:Nat}{K K':St->Prop}(hk:∀s,K s->K' s):∀(l:List Nat)(st:St),a6U P G ops c l st K->a6U P G ops c l st K'
 |[],st,h=>hk st h
 |i::r,st,h=>by
  simp only[a6U]at h|-;split at h
  .exact jQ (λs hs=>tW hk r s hs) h
  .cases h
theorem gR.cT{ops:Array Oper}{c:Nat}:∀(l:List Nat)(listed:Array Bool),gR ops listed->b2c ops c l listed=true->gR ops (VM.cT l listed)
 |[],_,hc,_=>hc
 |i::r,listed,hc,hB=>by
  simp only[b2c,g3q]at hB;have hri:i∈Region.ready .any ops listed:=by
   have hf:=hB.1;unfold b7E at hf;rw[g3C,beq_iff_eq]at hf;rcases hf with hf|hf
   .rw[hf];exact g3x.2 rfl
   .simp only[g3q]at hf;simpa using hf.1.1
  exact gR.cT r _ (hc.set hri) hB.2
inductive Ord where
 |none
 |call (rest:List Nat) (more:Ord)
 |op (i:Nat) (next more:Ord)
def sel(ops:Array Oper):List Nat->List Oper
 |[]=>[]
 |i::r=>match ops[i]? with
  |some o=>o::sel ops r
  |none=>sel ops r
def b2d(P:Program)(G:GT)(ops:Array Oper)(c:Nat)(K:St->Prop):Ord->St->Prop
 |.none,_=>True
 |.call rest more,st=>VK P G [.ops false ops (sel ops [c]),.ops true ops (sel ops rest)] .normal st (λ_ s=>K s)/\b2d P G ops c K more st
 |.op i next more,st=>VK P G [.ops true ops (sel ops [i])] .normal st (λ_ s=>b2d P G ops c K next s)/\b2d P G ops c K more st
def a5M(c:Nat):Ord->Nat->Bool
 |.none,_=>false
 |.call _ more,j=>decide (j=c)||a5M c more j
 |.op i _ more,j=>decide (j=i)||a5M c more j
def inB(ops:Array Oper)(c:Nat)(l:List Nat):Bool:=l.all λi=>decide (i<ops.size)&&decide (i≠c)
def b7F(ops:Array Oper)(c:Nat):Ord->Nat->Array Bool->Bool
 |.none,_,_=>true
 |.call rest more,n,listed=>decide (c<ops.size)&&inB ops c rest&&b2c ops c rest (listed.setIfInBounds c true)&&(Region.ready .any ops (cT rest (listed.setIfInBounds c true))).isEmpty&&decide (rest.length+1<=n)&&b7F ops c more n listed
 |.op i next more,n,listed=>inB ops c [i]&&decide (2<=n)&& !(Region.ready .any ops (listed.setIfInBounds i true)).isEmpty&&((Region.ready .any ops (listed.setIfInBounds i true)).all λj=>a5M c next j)&&b7F ops c next (n-1) (listed.setIfInBounds i true)&&b7F ops c more n listed
theorem xE{ops:Array Oper}{c:Nat}{K:St->Prop}:∀(l:List Nat)(st:St),inB ops c l=true->vU P G true ops (sel ops l) st K->a6U P G ops c l st K
 |[],st,_,h=>h
 |i::r,st,hB,h=>by
  simp only[inB,List.all_cons,g3q,g4e]at hB;obtain⟨⟨hi,hic⟩,hr⟩:=hB;have qi:(i !=c)=true:=by simpa using hic
  simp only[sel,g3I hi,vU]at h;simp only[a6U,g3I hi,qi];exact jQ (λs hs=>xE r s hr hs) h
theorem a8Q{ops:Array Oper}{c:Nat}{Q:St->Prop}(hN:gY ops=[]):∀(T:Ord)(n:Nat)(listed:Array Bool)(st:St),gR ops listed->b7F ops c T (n+1) listed=true->b2d P G ops c Q T st->∀i∈Region.ready .any ops listed,a5M c T i=true->
  match ops[i]? with
  |none=>a5d P G ops c Q n (listed.setIfInBounds i true) st
  |some o=>qO P G (i !=c) ops o (a5d P G ops c Q n (listed.setIfInBounds i true)) st
 |.none,_,_,_,_,_,_,_,_,ha=>by cases ha
 |.call rest more,n,listed,st,qC,hB,h,i,hi,ha=>by
  simp only[b7F,g3q,g4e,List.isEmpty_iff]at hB;obtain⟨⟨⟨⟨⟨hc,yL⟩,hs⟩,he⟩,hlen⟩,a7P⟩:=hB;simp only[b2d]at h;simp only[a5M,g3C,g4e]at ha;by_cases hic:i=c
  .subst hic;have h1:=h.1;simp only[VK,sel,g3I hc,vU]at h1;simp only[g3I hc,bne_self_eq_false];refine jQ (λs tL=>?_) h1;obtain⟨k,hk⟩:=Nat.exists_eq_add_of_le (Nat.le_of_succ_le_succ hlen);rw[hk];exact a5e hN rest _ s k (qC.set hi) hs (tW (λs hs=>d0p he hs) _ _ (xE rest s yL tL)) λ_=>trivial
  .exact a8Q hN more n listed st qC a7P h.2 i hi (ha.resolve_left hic)
 |.op x next more,n,listed,st,qC,hB,h,i,hi,ha=>by
  simp only[b7F,g3q,g4e,g3M,g3T,g3t]at hB;obtain⟨⟨⟨⟨⟨yL,hn⟩,gJ⟩,eQ⟩,tN⟩,a7P⟩:=hB;simp only[b2d]at h;simp only[a5M,g3C,g4e]at ha;by_cases hix:i=x
  .subst hix;have h1:=h.1;simp only[inB,List.all_cons,List.all_nil,Bool.and_true,g3q,g4e]at yL;have qi:(i !=c)=true:=by simpa using yL.2
   simp only[VK,sel,g3I yL.1,vU]at h1;simp only[g3I yL.1,qi];refine jQ (λs tL=>?_) h1;obtain⟨m,rfl⟩:∃m,n=m+1:=⟨n-1,by omega⟩;exact⟨λh'=>(gJ h').elim,λj hj=>a8Q hN next m _ s (qC.set hi) tN tL j hj (eQ j hj)⟩
  .exact a8Q hN more n listed st qC a7P h.2 i hi (ha.resolve_left hix)
def d7I(ops:Array Oper)(c:Nat)(rG:List Nat)(T:Ord):Bool:=(gY ops).isEmpty&&decide (rG.length+1<=ops.size)&&inB ops c rG&&b2c ops c rG (Array.replicate ops.size false)&& !(Region.ready .any ops (cT rG (Array.replicate ops.size false))).isEmpty&&((Region.ready .any ops (cT rG (Array.replicate ops.size false))).all λj=>a5M c T j)&&b7F ops c T (ops.size-rG.length) (cT rG (Array.replicate ops.size false))
theorem e9A{id:Nat}(c:Nat)(rG:List Nat)(T:Ord)(hm:P.follows .mixedOrders=true)(hB:d7I ops c rG T=true)(h:VK P G [.ops true ops (sel ops rG)] .normal st λ_ s=>b2d P G ops c (λs=>Q .normal s) T s):SW P G (.region id ops true) st Q:=by
 simp only[d7I,g3q,List.isEmpty_iff,g4e,g3M,g3T,g3t]at hB;obtain⟨⟨⟨⟨⟨⟨hN,hlen⟩,yL⟩,hs⟩,gJ⟩,eQ⟩,ht⟩:=hB;refine d7H (c:=c) hm ?_;obtain⟨k,hk⟩:=Nat.exists_eq_add_of_le hlen;have qC:gR ops (Array.replicate ops.size false):=λk hk=>by
  rcases Nat.lt_or_ge k ops.size with h'|h'
  .simp[h']at hk
  .simp[Nat.not_lt.2 h']at hk
 have e:ops.size-rG.length=k+1:=by omega
 rw[e]at ht;simp only[VK]at h;have:=a5e (P:=P) (G:=G) (c:=c) (Q:=λs=>Q .normal s) hN rG (Array.replicate ops.size false) st (k+1) qC hs (tW (λs tL=>⟨λh'=>(gJ h').elim,λj hj=>a8Q hN T k _ s (gR.cT rG _ qC hs) ht tL j hj (eQ j hj)⟩) _ _ (xE rG st yL h)) λ_=>trivial;rw[show rG.length+(k+1)=ops.size by omega]at this;exact this
attribute [simp] sel b2d
theorem SW.f3d{st:St}{c:Code}{ι:Type}(ws:ι->List (Nat×DV))(H:ι->List (Nat×bG))(own:ι->List (TypeId×List Loc))(m:ι->Nat)(x0:ι)(h0:yY st (mR c st (ws x0) (H x0) (own x0)))(round:∀x,SW P G c (mR c st (ws x) (H x) (own x)) λe s=>match e with
   |.normal=>bE (λy=>mR c st (ws y) (H y) (own y)) m x s
   |e=>Q e s):SW P G (.loop c) st Q:=by
 intro base R μ a w hr;refine wp_loop_ghost (λn a1 w1=>∃x R1 μ1,m x=n/\Rel P G base R1 μ1 (mR c st (ws x) (H x) (own x)) a1 w1/\Step base R w R1 w1) (m x0) ⟨x0,R,μ,rfl,hr.a4n h0,.refl _ _ _⟩ ?_;rintro n a1 w1 ⟨x,R1,μ1,rfl,hr1,hs1⟩;refine wp_mono (round x base R1 μ1 a1 w1 hr1) λe a2 w2 ⟨s,R2,μ2,q,hr2,hs2⟩=>?_;cases e with
 |normal=>simp only at q;unfold bE at q;obtain⟨y,hy,aG⟩:=q;exact⟨m y,aG,y,R2,μ2,rfl,hr2.a4n hy,hs1.trans hs2⟩
 |_=>exact⟨s,R2,μ2,q,hr2,hs1.trans hs2⟩
variable{x y:Code}
theorem SW.a9S{c:Operand}{st:St}(hc:st.eval G c=.d (.bool true))(h:SW P G x st Q):SW P G (.cond c x y) st Q:=λbase R μ a w hr=>wp_cond (hr.a2F hc) (h base R μ a w hr)
theorem SW.b5e{c:Operand}{st:St}(hc:st.eval G c=.d (.bool false))(h:SW P G y st Q):SW P G (.cond c x y) st Q:=λbase R μ a w hr=>wp_cond (hr.a2F hc) (h base R μ a w hr)
theorem SW.f6W{st:St}{st':St}(h1:SW P G x st λe s=>match e with
  |.normal=>yY s st'
  |e=>Q e s)(h2:SW P G y st' Q):SW P G (.seq x y) st Q:=SW.gN λbase R μ a w hr=>
 wp_mono (h1 base R μ a w hr) λe a1 w1 ⟨s,R1,μ1,q1,q2,q3⟩=>by
  cases e with
  |normal=>exact⟨s,R1,μ1,λbase R μ a w hr=>h2 base R μ a w (hr.a4n q1),q2,q3⟩
  |_=>exact⟨s,R1,μ1,q1,q2,q3⟩
theorem SW.a7Q{st:St}(ws:List (Nat×DV))(H:List (Nat×bG))(own:List (TypeId×List Loc))(h1:SW P G x st λe s=>match e with
  |.normal=>yY s (mR x st ws H own)
  |e=>Q e s)(h2:SW P G y (mR x st ws H own) Q):SW P G (.seq x y) st Q:=SW.f6W h1 h2
end
end Go.VM
end
section
namespace Go.VM
open Go Go.RowKit
section
variable {P:Program} {G:GT} {st:St} {base:dU} {R:Nat->Nat->Prop} {μ:Nat->Nat} {a:Act} {w:World}
abbrev a2d(v:Value):List PanicEntry:=[{v:=v,recovered:=false}]
def f3e(base:dU)(R:Nat->Nat->Prop)(w:World)(v:Value)(e:Ending)(w':World):Prop:=∃R',e=.panicked (a2d v)/\Step base R w R' w'/\∀b o,R' b o->b<w'.heap.size
def CPn(P:Program)(G:GT)(f:FuncId)(s0:St)(v:Value):Prop:=
 ∀(base:dU)(R:Nat->Nat->Prop)(μ:Nat->Nat)(args:Array Value)(w:World),Rel P G base R μ s0 {tmps:=args,defers:=[]} w->Calls P f args w (f3e base R w v)
def b2e(P:Program)(G:GT)(f:FuncId)(g3o:List DV)(ls:List (Option Loc))(st:St)(v:Value):Prop:=
 ∀(base:dU)(R:Nat->Nat->Prop)(μ:Nat->Nat)(a:Act)(w:World)(args:Array Value),Rel P G base R μ st a w->args.size=g3o.length->(∀(i:Nat)(d:DV),g3o[i]? =some d->TV R μ w (args.getD i undef) d)->
  (∀(i:Nat)(l:Loc),ls[i]? =some (some l)->∀u,cY a w μ l=some u->u=args.getD i undef)->Calls P f args w (f3e base R w v)
variable{f:FuncId}{v:Value}{g3o:List DV}{s0:St}
theorem b2e.e9B(hch:CPn P G f s0 v)(K:List (Nat×Nat)){ls:List (Option Loc)}{rest:List (TypeId×List Loc)}(mX:aW K s0 .undef s0.H=true)(pJ:WkT g3o (bA K s0.tmps))(hH:WkH st.H (dC K s0.H))(oO:yK st st.own (s0.own.map (sD K ls))=some rest)(kn:a1w st.tmps.length ls s0.own=true):
  b2e P G f g3o ls st v:=by
 simp only[aW,g3q,g4e,g3t]at mX;obtain⟨⟨⟨⟨⟨⟨⟨⟨kf,ks⟩,kp⟩,kt⟩,kh⟩,kl⟩,kr⟩,kd⟩,k1⟩:=mX;intro base R μ a w args hr hl hv a9u;obtain⟨vs,tA⟩:=hr.own;obtain⟨vsT,vsR,t1,t2,t3,t4,t5,t6,t7⟩:=a7F hr _ _ _ vs ⟨tA.len,tA.one,tA.apart⟩ oO;have inK:∀k o,getKey k s0.H=some o->(K.any λp=>p.1==k)=true/\bD K o=true/\(getKey k s0.H).isSome=true:=λk o hk=>by
  have:=kh _ (kK hk)
  try simp only[g3q]at this
  exact⟨this.1.1,this.1.2,this.2⟩
 have inst:∀k o,getKey k s0.H=some o->∃o',getKey (rk K k) st.H=some o'/\WkO o' (dL K o):=λk o hk=>by
  have hm:=kK hk;have:∀{l:List (Nat×bG)},WkH st.H (dC K l)->(k,o)∈l->∃o',getKey (rk K k) st.H=some o'/\WkO o' (dL K o):=by
   intro l
   induction l with
   |nil=>intro _ h;cases h
   |cons p l ih=>
    intro hw hp;obtain⟨h1,h2⟩:=hw;rcases g3N.1 hp with rfl|hp
    .exact h1
    .exact ih h2 hp
  exact this hH hm
 have big:∀k,(K.any λp=>p.1==k)=true->100000<=k:=λk hk=>by obtain⟨p,h1,h2,_⟩:=a2J hk;rw[<-h2];exact kp p h1
 have d7q:∀k k',(K.any λp=>p.1==k)=true->(K.any λp=>p.1==k')=true->rk K k=rk K k'->k=k':=λk k' h h' he=>by
  obtain⟨p,p1,p2,p3⟩:=a2J h;obtain⟨q,q1,q2,q3⟩:=a2J h';have hpq:p.2=q.2:=by rw[<-p3, <- q3,he]
  have:p=q:=pC.b4T.a8K ks p1 q1 hpq;rw[<-p2, <- q2,this]
 have one:∀k,(getKey k s0.H).isSome=true->∃o,getKey k s0.H=some o:=λk hk=>by
  obtain⟨o,ho⟩:=g3S.1 hk;have:=k1 _ (kK ho)
  try simp only[g3q]at this
  exact g3S.1 this.2
 let mV:dU:=⟨λb=>w.heap.size<=b\/(∃k o,getKey k s0.H=some o/\b=μ (rk K k))\/(∃v∈vsT,bR v=some b),λk=>μ (rk K k)⟩
 have sub:∀b,mV b->base b:=λb hb=>by
  rcases hb with hb|⟨k,o,hk,rfl⟩|⟨v,hv,hs⟩
  .exact hr.base b hb
  .obtain⟨o',xS,_⟩:=inst k o hk;exact(hr.mL _ o' xS).1
  .obtain⟨i,hi⟩:=g3H hv;have zC:i<(s0.own.map (sD K ls)).length:=by rw[<-t1];exact(g3r.1 hi).1
   exact(t2 i _ v (g3u zC) hi).own.a3C hs
 have a2Q:Rel P G mV R (λk=>μ (rk K k)) s0 {tmps:=args,defers:=[]} w:=by
  obtain⟨g1,g2⟩:=a1f pJ;rw[tM]at g1 g2;refine⟨rfl,by show args.size=s0.tmps.length;rw[List.length_map]at g1;omega,λi v d hiv hid=>?_,λk o hk=>?_,λk k' o o' hk hk' he=>?_,λc hc k off hl'=>?_,⟨vsT,by simpa using t1,λi c v hc hv'=>?_,t3⟩,hr.wY.up sub,hr.sB,λb hb=>.inl hb,λk hk=>rfl⟩
  .obtain⟨d0,hd0,b7s⟩:=g2 i (bI K d) (by rw[g3A,hid];rfl);have hva:=hv i d0 hd0;have hav:args.getD i undef=v:=by simp only at hiv;simp[g3s,hiv]
   rw[hav]at hva;have d7r:TV R μ w v (bI K d):=by
    rcases b7s with hc|hc|⟨hc1,hc2⟩
    .rw[hc];exact .undef _
    .rw[hc];exact hva
    .rw[hc2];rw[hc1]at hva;obtain⟨ao,rfl⟩:=hva.b1B.mW;exact .d _ _ (.emp _ _)
   exact d7r.ren (μ:=μ) (λ_ _=>rfl) (kt d (g3v hid))
  .obtain⟨q1,q2,_⟩:=inK k o hk;obtain⟨o',xS,hw⟩:=inst k o hk;obtain⟨p1,p2,p3⟩:=hr.mL _ o' xS;exact⟨.inr (.inl ⟨k,o,hk,rfl⟩),p2,(b6t hw p3).ren (λ_ _=>rfl) q2⟩
  .obtain⟨o1,h1,_⟩:=inst k o hk;obtain⟨o2,h2,_⟩:=inst k' o' hk';exact d7q k k' (inK k o hk).1 (inK k' o' hk').1 (hr.inj _ _ o1 o2 h1 h2 he)
  .have:=g3t.1 (g3t.1 kl c hc) _ hl';exact g3S.1 this
  .have ho:=t2 i (sD K ls c) v (by rw[g3A,hc];rfl) hv';refine⟨λl hl' u hu=>?_,?_,λk o hk=>?_⟩
   .have hn:=g3t.1 (g3t.1 kn c (g3v hc)) l hl';cases l with
    |t j=>
     simp only at hn;split at hn
     .rename_i t hj;simp only[g4e]at hn;have ht:t<a.tmps.size:=by rw[hr.size];exact hn
      have hlv:cY a w μ (.t t)=some a.tmps[t]:=by simp[cY,ht]
      have h1:=a9u j _ hj _ hlv;have h2:=ho.eU (.t t) (g3V.2 ⟨.t j,hl',by simp[b7q,hj]⟩) _ hlv;simp only[cY]at hu;have h3:args.getD j undef=u:=by simp[g3s,hu]
      rw[<-h3, <- h1,h2]
     .cases hn
    |c k off=>exact ho.eU (.c (rk K k) off) (g3V.2 ⟨.c k off,hl',rfl⟩) u hu
   .rcases ho.own with h|⟨g,n,cap,cur,h0,h1,h2,h3,h4⟩
    .exact .inl h
    .by_cases hc0:cap=0
     .subst hc0;have:n=0:=by omega
      subst this;exact .inl ⟨_,h0⟩
     .exact .inr ⟨g,n,cap,cur,h0,.inr (.inr ⟨v,g3v hv',by rw[h0];simp[bR,hc0]⟩),h2,h3,h4⟩
   .obtain⟨o',xS,_⟩:=inst k o hk;exact ho.keys _ o' xS
 exact(hch mV R (λk=>μ (rk K k)) args w a2Q).mono λe w' ⟨R',he,hs,hb⟩=>⟨R',he,⟨hs.below.mono sub,hs.mono,λb o h1 h2=>sub b (hs.new b o h1 h2),hs.cells⟩,hb⟩
variable{o:Oper}
theorem b0M(hc:eB G o st=some (f,g3o))(sS:Enters P f/\b2e P G f g3o (oN o) st v)(hr:Rel P G base R μ st a w){K:Act->World->Prop}{Q:Exit->Act->World->Prop}(h:∀R' w',Step base R w R' w'->(∀b o,R' b o->b<w'.heap.size)->Q (.panic (a2d v)) a w'):o.wp P a w K Q:=by
 obtain⟨⟨fn,hf1,hf2,hf3⟩,sS⟩:=sS;have c3d:¬fn.body=none:=λhe=>by simp[he]at hf2
 have c3e:¬fn.name= "runtime.NumGoroutine" :=by simpa using hf3
 have main:∀args:Array Value,(execOp a.eval o).run P w=.ok (.enter f args) w->args.size=g3o.length->(∀(i:Nat)(d:DV),g3o[i]? =some d->TV R μ w (args.getD i undef) d)->
   (∀(i:Nat)(l:Loc),(oN o)[i]? =some (some l)->∀u,cY a w μ l=some u->u=args.getD i undef)->o.wp P a w K Q:=λargs a7l hl hv a9u=>by
  unfold Oper.wp;rw[a7l]
  show Calls P f args w _
  refine(sS base R μ a w args hr hl hv a9u).mono λe w' ⟨R',he,hs,hb⟩=>?_;subst he;exact h R' w' hs hb
 have each:∀(l:List Operand)(i:Nat)(d:DV),(l.map (st.eval G))[i]? =some d->TV R μ w ((l.map a.eval).getD i undef) d:=λl i d hi=>by
  rw[g3A]at hi;obtain⟨x,hx,rfl⟩:=g3p.1 hi;have:(l.map a.eval).getD i undef=a.eval x:=by simp[List.getD,hx]
  rw[this];exact hr.eval x
 have eU:∀(args:Array Operand)(vs:Array Value),oN o=args.toList.map a7b->∀(i:Nat)(l:Loc),(oN o)[i]? =some (some l)->∀u,cY a w μ l=some u->u=(args.map a.eval++vs).getD i undef:=λargs vs qZ i l hi u hu=>by
  rw[qZ,g3A]at hi;obtain⟨x,hx,hxl⟩:=g3p.1 hi;cases x with
  |tmp t=>
   simp only[a7b,g3w]at hxl;subst hxl;simp only[cY]at hu;have aG:i<args.size:=by have:=(g3r.1 hx).1;simpa using this
   have he:args[i]? =some (.tmp t):=by simpa using hx
   rw[g3s,g3Y (by simpa using aG),Array.getElem?_map,he];simp[Act.eval,hu]
  |_=>cases hxl
 unfold eB at hc;split at hc
 .rename_i x args ts qD;have qZ:oN o=args.toList.map a7b:=by simp[oN,qD]
  split at hc
  .rename_i f' hx;simp at hc;obtain⟨rfl,rfl⟩:=hc;refine main (args.map a.eval) ?_ (by simp) (λi d hi=>?_) (by simpa using eU args #[] qZ)
   .simp[execOp,qD,resolve,hr.b6L hx,Deferred.ofValue,invoke,callFunc,hf1,c3d,c3e]
   .have:=each args.toList i d hi;simpa[g3s,List.getD]using this
  .rename_i f' cs hx;simp at hc;obtain⟨rfl,rfl⟩:=hc;obtain⟨vs,he,tA,hvc⟩:=(hr.qR hx).b1D;refine main (args.map a.eval++vs) ?_ (by simp[tA]) (λi d hi=>?_) (eU args vs qZ)
   .simp[execOp,qD,resolve,he,Deferred.ofValue,invoke,callFunc,hf1,c3d,c3e]
   .by_cases aG:i<args.size
    .rw[g3B (by simpa using aG)]at hi;have:=each args.toList i d hi;rw[g3s,g3Y (by simpa using aG)];simpa[g3s,List.getD]using this
    .rw[g3y (by simp;omega)]at hi;simp only[List.length_map,Array.length_toList]at hi;have:=hvc _ d hi;rw[g3s,g4n (by simp;omega)];simpa[g3s]using this
  .cases hc
 .cases hc
abbrev a3R(st:St):St:=⟨List.replicate st.tmps.length .undef,[],[]⟩
theorem Rel.b2f(hr:Rel P G base R μ st a w){R':Nat->Nat->Prop}{w':World}(hs:Step base R w R' w')(hb:∀b o,R' b o->b<w'.heap.size):Rel P G base R' μ (a3R st) a w' where
 defers:=hr.defers
 size:=by simpa using hr.size
 tmps:=λi v d _ hd=>by
  rw[g4i]at hd;split at hd
  .simp at hd;subst hd;exact .undef _
  .cases hd
 mL:=λk o h=>by cases h
 inj:=λk k' o o' h=>by cases h
 eU:=λc hc=>by cases hc
 own:=⟨[],rfl,λi c v h _=>by simp at h,.nil⟩
 wY:=a9t.cD hs hr.wY
 sB:=hb
 base:=λb h=>hr.base b (Nat.le_trans hs.below.size h)
 pass:=hr.pass
def a3S(P:Program)(G:GT)(ops:Array Oper)(c:Nat)(Q:Exit->St->Prop)(st:St):Prop:=match ops[c]? with
 |some o=>gC o ops st.tmps=some true/\∃f g3o v,eB G o st=some (f,g3o)/\(Enters P f/\b2e P G f g3o (oN o) st v)/\Q (.panic (a2d v)) (a3R st)
 |none=>False
variable{ops:Array Oper}{Q:Exit->St->Prop}{c:Nat}
theorem a3S.ok(ho:ops[c]? =some o)(h:a3S P G ops c Q st)(hr:Rel P G base R μ st a w){QQ:Exit->Act->World->Prop}{KK:Act->World->Prop}{KE:Prop}(hk:∀v s w' R',Q (.panic (a2d v)) s->Rel P G base R' μ s a w'->Step base R w R' w'->QQ (.panic (a2d v)) a w'):
  if Region.wanted o (yielded ops a.tmps) then o.wp P a w KK QQ\/(o.asks P a w/\LetsOut QQ) else KE:=by
 unfold a3S at h;rw[ho]at h;obtain⟨hw,f,g3o,v,h1,h2,h3⟩:=h;rw[a4U hr hw,if_pos rfl];exact .inl (b0M h1 h2 hr λR' w' hs hb=>hk v _ w' R' h3 (hr.b2f hs hb) hs)
def a9T(P:Program)(G:GT)(ops:Array Oper)(c:Nat)(Z:St->Prop):Nat->Array Bool->St->Prop
 |0,_,_=>False
 |fuel+1,listed,st=>Region.ready .any ops listed≠[]/\∀i∈Region.ready .any ops listed,if i=c then Z st else match ops[i]? with
  |none=>False
  |some o=>qO P G true ops o (a9T P G ops c Z fuel (listed.setIfInBounds i true)) st
theorem b2g{ops:Array Oper}{c:Nat}{Q:Exit->St->Prop}{QQ:Exit->Act->World->Prop}:∀(fuel:Nat)(listed:Array Bool)(st:St),a9T P G ops c (a3S P G ops c Q) fuel listed st->∀(base:dU)(R:Nat->Nat->Prop)(μ:Nat->Nat)(a:Act)(w:World),Rel P G base R μ st a w->
  (∀v s a' w' R' μ',Q (.panic (a2d v)) s->Rel P G base R' μ' s a' w'->Step base R w R' w'->QQ (.panic (a2d v)) a' w')->wpAny P .any ops QQ fuel listed a w
 |0,_,st,h,base,R,μ,a,w,hr,hk=>h.elim
 |fuel+1,listed,st,h,base,R,μ,a,w,hr,hk=>by
  refine⟨λh0=>(h.1 h0).elim,λi hi=>?_⟩;have h1:=h.2 i hi;unfold wpOp;split
  .rename_i ho;rw[ho]at h1;split at h1
   .rename_i hic;subst hic;unfold a3S at h1;rw[ho]at h1;exact h1.elim
   .exact h1.elim
  .rename_i o ho;rw[ho]at h1;split at h1
   .rename_i hic;subst hic;exact a3S.ok ho h1 hr λv s w' R' q1 q2 q3=>hk v s a w' R' μ q1 q2 q3
   .exact uL h1 hr λs v w' R' μ' h' jG tL=>b2g fuel _ s h' base R' μ' _ w' jG λv s a' w2 R2 μ2 q1 q2 q3=>hk v s a' w2 R2 μ2 q1 q2 (tL.trans q3)
theorem c6W{Z:St->Prop}{i:Nat}{oi:Oper}(hA:sC ops)(hi:ops[i]? =some oi)(hic:i≠c)(hsi:(dW oi.op=true/\pQ ops oi=false)\/rU oi=true):
  ∀(fuel:Nat)(listed:Array Bool)(st s:St),gR ops listed->
   (∀j oj,ops[j]? =some oj->j≠i->listed.getD j true=false->kG ops ops.size j i=false->j≠c/\oi.apart ops oj=true/\tB ops oi oj=true)->
   i∈Region.ready .any ops listed->tD ops listed st->Eff P G ops oi st s->
   a9T P G ops c Z fuel (listed.setIfInBounds i true) s->a9T P G ops c Z (fuel+1) listed st:=by
 intro fuel
 induction fuel with
 |zero=>intro listed st s _ _ hr _ hy H;exact H.elim
 |succ fuel ih=>
  intro listed st s qC a1e hr hI hy H;refine⟨λh=>(by rw[h]at hr;cases hr),λj hj=>?_⟩;by_cases hji:j=i
  .subst hji;rw[if_neg hic,hi];exact(eR hsi).2 ⟨s,hy,H⟩
  .have h1:=H.2 j (ready_mono hj hji);obtain⟨a0u,oj,hoj,eQ⟩:=mem_ready.1 hj;rw[hoj]at h1|-;simp only at h1|-;obtain⟨a4m,oi',c3k,b1N⟩:=mem_ready.1 hr;have a6T:kG ops ops.size j i=false:=eC qC a4m _ _ λo ho=>by rw[hoj]at ho;cases ho;exact eQ
   obtain⟨hjc,hap,hpo⟩:=a1e j oj hoj hji a0u a6T;rw[if_neg hjc]at h1|-;have hsj:(dW oj.op=true/\pQ ops oj=false)\/rU oj=true:=by
    by_cases hs:rU oj=true
    .exact .inr hs
    .refine .inl ⟨?_,?_⟩
     .unfold tB at hpo;simp only[rU,g3C,g3q,g3M]at hpo hs;rcases hpo with((((((h|h)|h)|h)|h)|h)|h)|h
      .exact h.1.2
      .exact absurd (.inl (.inl h.1.2)) hs
      .exact h.1.1.2
      .exact absurd (.inl (.inr h.2)) hs
      .exact h.1.2
      .exact absurd (.inl h.1.2) hs
      .exact absurd (.inr h.2) hs
      .exact(qE (G:=G) (st:=st) h.1.2).1
     .cases hx:pQ ops oj with
      |false=>rfl
      |true=>
       have aG:i<ops.size:=(g3z.1 hi).1;rcases xX hx hoj aG (λe=>hji e.symm)with h'|h'
       .have:=eC qC a0u ops.size i λo ho=>by rw[c3k]at ho;cases ho;exact b1N
        rw[h']at this;cases this
       .rw[a6T]at h';cases h'
   obtain⟨s12,hu,hk⟩:=(eR hsj).1 h1;obtain⟨s2,e1,e2⟩:=b1M hap hpo (λhn d hd=>hI i oi d hi hn a4m hd) (λhn d hd=>hI j oj d hoj hn a0u hd) hy hu;refine(eR hsj).2 ⟨s2,e1,?_⟩;refine ih (listed.setIfInBounds j true) s2 s12 (qC.set hj) (λk ok hk' hki hun vB=>?_) (ready_mono hr (Ne.symm hji)) (hI.step hA hoj λk hf hn=>wZ e1 hf hn) e2 ?_
   .exact a1e k ok hk' hki (vW hun).2 vB
   .rw[Array.setIfInBounds_comm _ _ hji];exact hk
theorem a8R{ops:Array Oper}{c:Nat}{Z:St->Prop}(hN:gY ops=[]):∀(l:List Nat)(listed:Array Bool)(st:St)(fuel:Nat),gR ops listed->inB ops c l=true->b2c ops c l listed=true->
  a6U P G ops c l st (a9T P G ops c Z fuel (cT l listed))->a9T P G ops c Z (l.length+fuel) listed st
 |[],listed,st,fuel,_,_,_,h=>by simpa[cT,a6U]using h
 |i::l,listed,st,fuel,qC,yL,hB,h=>by
  have hA:sC ops:=λi j oi oj d hi _ hni _ hdi _=>(c1Q hN hi hni hdi).elim;have hI:∀listed st,tD ops listed st:=λ_ _ j oj d hj hn _ hd=>(c1Q hN hj hn hd).elim;simp only[b2c,g3q]at hB;obtain⟨hf,hB'⟩:=hB;simp only[inB,List.all_cons,g3q,g4e]at yL;obtain⟨⟨_,hic⟩,f6X⟩:=yL;have qi:(i !=c)=true:=by simpa using hic
  simp only[a6U]at h;split at h;rotate_left
  .cases h
  rename_i o ho;rw[qi]at h;have he:(i::l).length+fuel=l.length+fuel+1:=by simp only[List.length_cons];omega
  rw[he];unfold b7E at hf;rw[g3C,beq_iff_eq]at hf;have hri:i∈Region.ready .any ops listed:=by
   rcases hf with hf|hf
   .rw[hf];exact g3x.2 rfl
   .simp only[g3q]at hf;simpa using hf.1.1
  have tN:∀s,a6U P G ops c l s (a9T P G ops c Z fuel (cT (i::l) listed))->a9T P G ops c Z (l.length+fuel) (listed.setIfInBounds i true) s:=λs hs=>a8R hN l _ s fuel (qC.set hri) f6X hB' hs;rcases hf with hf|hf
  .refine⟨λh'=>(by rw[h']at hf;cases hf),λj hj=>?_⟩;rw[hf,g3x]at hj;subst hj;rw[if_neg hic,ho];exact jQ tN h
  .rw[ho]at hf;simp only[g3q,g3C,g3M,bne_iff_ne,ne_eq]at hf;obtain⟨⟨_,hic⟩,hsi,eQ⟩:=hf;obtain⟨s,hd,hk⟩:=(eR hsi).1 h;refine c6W hA ho hic hsi _ listed st s qC (λj oj hj gJ hun vB=>?_) hri (hI _ _) hd (tN s hk);rw[g3t]at eQ;have h1:=eQ j (List.mem_range.2 (g3z.1 hj).1);simp only[hj,g3C,beq_iff_eq,gJ,false_or,hun,g3K,vB,g3q,bne_iff_ne,ne_eq]at h1;exact h1
def a6E(P:Program)(G:GT)(ops:Array Oper)(Z:St->Prop):Ord->St->Prop
 |.none,_=>True
 |.call _ more,st=>Z st/\a6E P G ops Z more st
 |.op i next more,st=>VK P G [.ops true ops (sel ops [i])] .normal st (λ_ s=>a6E P G ops Z next s)/\a6E P G ops Z more st
theorem a7R{ops:Array Oper}{c:Nat}{Z:St->Prop}:∀(T:Ord)(n:Nat)(listed:Array Bool)(st:St),b7F ops c T (n+1) listed=true->a6E P G ops Z T st->∀i∈Region.ready .any ops listed,a5M c T i=true->
  if i=c then Z st else match ops[i]? with
  |none=>False
  |some o=>qO P G true ops o (a9T P G ops c Z n (listed.setIfInBounds i true)) st
 |.none,_,_,_,_,_,_,_,ha=>by cases ha
 |.call rest more,n,listed,st,hB,h,i,hi,ha=>by
  simp only[b7F,g3q]at hB;simp only[a6E]at h;simp only[a5M,g3C,g4e]at ha;by_cases hic:i=c
  .rw[if_pos hic];exact h.1
  .exact a7R more n listed st hB.2 h.2 i hi (ha.resolve_left hic)
 |.op x next more,n,listed,st,hB,h,i,hi,ha=>by
  simp only[b7F,g3q,g4e,g3M,g3T,g3t]at hB;obtain⟨⟨⟨⟨⟨yL,hn⟩,gJ⟩,eQ⟩,tN⟩,a7P⟩:=hB;simp only[a6E]at h;simp only[a5M,g3C,g4e]at ha;by_cases hix:i=x
  .subst hix;have h1:=h.1;simp only[inB,List.all_cons,List.all_nil,Bool.and_true,g3q,g4e]at yL;simp only[VK,sel,g3I yL.1,vU]at h1;rw[if_neg yL.2];simp only[g3I yL.1];refine jQ (λs tL=>?_) h1;obtain⟨m,rfl⟩:∃m,n=m+1:=⟨n-1,by omega⟩;exact⟨gJ,λj hj=>a7R next m _ s tN tL j hj (eQ j hj)⟩
  .exact a7R more n listed st a7P h.2 i hi (ha.resolve_left hix)
theorem e3F{id:Nat}(c:Nat)(rG:List Nat)(T:Ord)(hm:P.follows .mixedOrders=true)(hB:d7I ops c rG T=true)(h:VK P G [.ops true ops (sel ops rG)] .normal st λ_ s=>a6E P G ops (a3S P G ops c Q) T s):SW P G (.region id ops true) st Q:=by
 simp only[d7I,g3q,List.isEmpty_iff,g4e,g3M,g3T,g3t]at hB;obtain⟨⟨⟨⟨⟨⟨hN,hlen⟩,yL⟩,hs⟩,gJ⟩,eQ⟩,ht⟩:=hB;obtain⟨k,hk⟩:=Nat.exists_eq_add_of_le hlen;have qC:gR ops (Array.replicate ops.size false):=λk hk=>by
  rcases Nat.lt_or_ge k ops.size with h'|h'
  .simp[h']at hk
  .simp[Nat.not_lt.2 h']at hk
 have e:ops.size-rG.length=k+1:=by omega
 rw[e]at ht;simp only[VK]at h;have:=a8R (P:=P) (G:=G) (c:=c) (Z:=a3S P G ops c Q) hN rG (Array.replicate ops.size false) st (k+1) qC yL hs (tW (λs tL=>⟨gJ,λj hj=>a7R T k _ s ht tL j hj (eQ j hj)⟩) _ _ (xE rG st yL h));rw[show rG.length+(k+1)=ops.size by omega]at this;intro base R μ a w hr;obtain⟨jG,tL⟩:=hr.drew;exact wp_region_any hm (b2g ops.size _ st this base R μ a w.drew jG λv s a' w' R' μ' q1 q2 q3=>⟨s,R',μ',q1,q2,tL.trans q3⟩)
theorem CPn.xA{fn:Func}{c:Code}{n:Nat}(hf:P.funcs[f]? =some fn)(hb:fn.body=some c)(hn:fn.ntmps=n)(hT:(s0.own.all λc=>c.2.all λl=>match l with|.t i=>decide (i<s0.tmps.length)|_=>true)=true)(h:SW P G c ⟨s0.tmps++List.replicate (n-s0.tmps.length) (.cX []),s0.H,s0.own⟩ λe _=>e=.panic (a2d v)):CPn P G f s0 v:=by
 intro base R μ args w hr;refine calls_of_wp hf hb ?_;have mQ:args.size=s0.tmps.length:=hr.size;have rT:Rel P G base R μ ⟨s0.tmps++List.replicate (n-s0.tmps.length) (.cX []),s0.H,s0.own⟩ {tmps:=args++Array.replicate (fn.ntmps-args.size) undef,defers:=[]} w:=by
  refine⟨rfl,by simp[mQ,hn],λi v d hiv hid=>?_,hr.mL,hr.inj,hr.eU,?_,hr.wY,hr.sB,hr.base,hr.pass⟩
  .simp only at hid;by_cases hi:i<s0.tmps.length
   .rw[g3B hi]at hid;rw[g3Y (by omega)]at hiv;exact hr.tmps i v d hiv hid
   .rw[g3y (by omega),g4i]at hid;split at hid<;>simp at hid;subst hid;rw[g4n (by omega),Array.getElem?_replicate]at hiv;split at hiv<;>simp at hiv;subst hiv;exact .cX #[] [] rfl (by simp)
  .obtain⟨vs,hl,h1,hap⟩:=hr.own;refine⟨vs,hl,λi c v hc hv=>?_,hap⟩;have ho:=h1 i c v hc hv;refine⟨λl hl u hu=>?_,ho.own,ho.keys⟩;cases l with
   |t j=>have hj:=g3t.1 (g3t.1 hT c (g3v hc)) _ hl;simp only[g4e]at hj;simp only[cY]at hu;rw[g3Y (by omega)]at hu;exact ho.eU _ hl u hu
   |c k off=>exact ho.eU _ hl u hu
 refine wp_mono (h base R μ _ w rT) λe a' w' ⟨s,R',μ',he,jG,hs⟩=>?_;subst he;exact⟨jG.defers,R',rfl,hs,jG.sB⟩
attribute [simp] a6E
end
end Go.VM
end
namespace Go.VM
open Go Go.RowKit
section
variable {P:Program} {G:GT} {st:St} {base:dU} {R:Nat->Nat->Prop} {μ:Nat->Nat} {a:Act} {w:World}
abbrev Ends:=Sum (DV×List (Nat×bG)×List (TypeId×List Loc)) Value
def CX(P:Program)(G:GT)(f:FuncId)(s0:St):Ends->Prop
 |.inl s1=>CH P G f s0 ⟨[s1.1],s1.2.1,s1.2.2⟩
 |.inr v=>CPn P G f s0 v
def tQ(P:Program)(G:GT)(f:FuncId)(g3o:List DV)(ls:List (Option Loc))(dst:Option Tmp)(st:St)(K:St->Prop)(Q:Exit->St->Prop)(x0:Bool):Prop:=
 Enters P f/\(x0=true->∃s',pC P G f g3o ls st dst s'/\K s')/\(x0=false->∃v,b2e P G f g3o ls st v/\Q (.panic (a2d v)) (a3R st))
def a3a(P:Program)(G:GT)(all:Array Oper)(l:List Oper)(K:List Oper->St->Prop)(Q:Exit->St->Prop)(x0:Bool)(st:St):Prop:=match l with
 |[]=>False
 |o::rest=>match gC o all st.tmps,kY G o st,eB G o st with
  |some true,none,some (f,g3o)=>tQ P G f g3o (oN o) o.dst st (K rest) Q x0
  |_,_,_=>False
variable{all ops:Array Oper}{Q:Exit->St->Prop}{K:List Oper->St->Prop}{l rest:List Oper}{o:Oper}
theorem b5f{x0:Bool}(h:a3a P G all (o::rest) K Q x0 st):
  ∃f g3o,gC o all st.tmps=some true/\kY G o st=none/\eB G o st=some (f,g3o)/\tQ P G f g3o (oN o) o.dst st (K rest) Q x0:=by
 unfold a3a at h;simp only at h;split at h
 .rename_i f g3o h1 h2 h3;exact⟨f,g3o,h1,h2,h3,h⟩
 .exact h.elim
variable{c:Nat}
theorem a3a.pan(ho:ops[c]? =some o)(h:a3a P G ops (o::rest) K Q false st):a3S P G ops c Q st:=by obtain⟨f,g3o,h2,_,h4,he,_,h5⟩:=b5f h;obtain⟨v,h6,h7⟩:=h5 rfl;unfold a3S;rw[ho];exact⟨h2,f,g3o,v,h4,⟨he,h6⟩,h7⟩
theorem a3a.ret(h:a3a P G all (o::rest) K Q true st):qO P G false all o (K rest) st:=by obtain⟨f,g3o,h2,h3,h4,he,h5,_⟩:=b5f h;obtain⟨s',h6,h7⟩:=h5 rfl;unfold qO;rw[h2,h3,h4];simp only[uK,Bool.false_and,a3H,g3K,if_false];exact⟨s',⟨he,h6⟩,h7⟩
def LW(P:Program)(G:GT)(all:Array Oper)(l:List Oper)(st:St)(Q:Exit->St->Prop):Prop:=
 ∀(base:dU)(R:Nat->Nat->Prop)(μ:Nat->Nat)(a:Act)(w:World),Rel P G base R μ st a w->∀QQ:Exit->Act->World->Prop,(∀e s a' w' R' μ',Q e s->Rel P G base R' μ' s a' w'->Step base R w R' w'->QQ e a' w')->wpList P all QQ l a w
theorem LW.vk(h:VK P G [.ops false all l] .normal st Q):LW P G all l st Q:=by intro base R μ a w hr QQ hk;simp only[VK]at h;exact c3f all _ l st (λs=>Q .normal s) h base R μ a w hr λs a' w' R' μ' q1 q2 q3=>hk _ s a' w' R' μ' q1 q2 q3
theorem f3f{x0:Bool}(all:Array Oper)(Q:Exit->St->Prop)(l2:List Oper)(hl:x0=false->∃(c:Nat)(o:Oper)(rest:List Oper),l2=o::rest/\all[c]? =some o):∀(l:List Oper)(st:St),vU P G false all l st (λs=>a3a P G all l2 (λr s=>LW P G all r s Q) Q x0 s)->∀(base:dU)(R:Nat->Nat->Prop)(μ:Nat->Nat)(a:Act)(w:World),Rel P G base R μ st a w->
  ∀QQ:Exit->Act->World->Prop,(∀e s a' w' R' μ',Q e s->Rel P G base R' μ' s a' w'->Step base R w R' w'->QQ e a' w')->wpList P all QQ (l++l2) a w
 |[],st,h,base,R,μ,a,w,hr,QQ,hk=>by
  have h:a3a P G all l2 (λr s=>LW P G all r s Q) Q x0 st:=h
  show wpList P all QQ l2 a w
  cases l2 with
  |nil=>exact h.elim
  |cons o rest=>
   unfold wpList;cases x0 with
   |false=>obtain⟨c,o',f9h,he,hc⟩:=hl rfl;cases he;exact a3S.ok hc (h.pan hc) hr λv s w' R' q1 q2 q3=>hk _ s a w' R' μ q1 q2 q3
   |true=>refine uL h.ret hr λs v w' R' μ' h' jG tL=>?_;exact h' base R' μ' _ w' jG QQ λe s2 a2 w2 R2 μ2 q1 q2 q3=>hk e s2 a2 w2 R2 μ2 q1 q2 (tL.trans q3)
 |x::l,st,h,base,R,μ,a,w,hr,QQ,hk=>by
  show wpList P all QQ (x::(l++l2)) a w
  unfold wpList;exact uL h hr λs v w' R' μ' h' jG tL=>f3f all Q l2 hl l s h' base R' μ' _ w' jG QQ λe s a' w2 R2 μ2 q1 q2 q3=>hk e s a' w2 R2 μ2 q1 q2 (tL.trans q3)
theorem LW.at{all:Array Oper}{l:List Oper}{Q:Exit->St->Prop}(c k:Nat)(x0:Bool)(hk:l[c]? =all[k]?)(hk2:∃o,l[c]? =some o)(h:VK P G [.ops false all (l.take c)] .normal st λ_ s=>a3a P G all (l.drop c) (λr s=>LW P G all r s Q) Q x0 s):LW P G all l st Q:=by
 intro base R μ a w hr QQ zD;simp only[VK]at h;rw[<-g4d c l];refine f3f all Q (l.drop c) (λh0=>?_) _ st h base R μ a w hr QQ zD;obtain⟨o,ho⟩:=hk2;refine⟨k,o,l.drop (c+1),?_,by rw[<-hk,ho]⟩;have aG:=(g3r.1 ho).1;rw[g3D aG];rw[g3u aG]at ho;cases ho
 rfl
theorem LW.app(c:Nat)(h:VK P G [.ops false all (l.take c)] .normal st λ_ s=>LW P G all (l.drop c) s Q):LW P G all l st Q:=by
 intro base R μ a w hr QQ hk;simp only[VK]at h;have main:∀(l1:List Oper)(st:St),vU P G false all l1 st (λs=>LW P G all (l.drop c) s Q)->∀(R:Nat->Nat->Prop)(μ:Nat->Nat)(a:Act)(w:World),Rel P G base R μ st a w->
   (∀e s a' w' R' μ',Q e s->Rel P G base R' μ' s a' w'->Step base R w R' w'->QQ e a' w')->wpList P all QQ (l1++l.drop c) a w:=by
  intro l1
  induction l1 with
  |nil=>intro st h R μ a w hr hk;exact h base R μ a w hr QQ hk
  |cons x l1 ih=>
   intro st h R μ a w hr hk
   show wpList P all QQ (x::(l1++l.drop c)) a w
   unfold wpList;exact uL h hr λs v w' R' μ' h' jG tL=>ih s h' R' μ' _ w' jG λe s a' w2 R2 μ2 q1 q2 q3=>hk e s a' w2 R2 μ2 q1 q2 (tL.trans q3)
 have:=main (l.take c) st h R μ a w hr hk
 rwa[g4d]at this
theorem SW.lw{id:Nat}(h:LW P G ops ops.toList st Q):SW P G (.region id ops false) st Q:=λbase R μ a w hr=>wp_region_list (h base R μ a w hr _ λe s a' w' R' μ' q1 q2 q3=>⟨s,R',μ',q1,q2,q3⟩)
theorem LW.d0q{T y1 y2:TypeId}{td:TypeDesc}{d x:Tmp}{p1 p2:String}{f1 f2:Array Edge}{n e:Int}(hu:P.underlying T=some td)(hn:(match td with|.interface _=>false|_=>true)=true)(hd:d<st.tmps.length)(hx:st.eval G (.tmp x)=.d (.agg [.int .i64 n,.int .i64 e]))(h:Q (.panic (a2d (.iface T (.agg #[.int .i64 n,.int .i64 e])))) (a3R st)):
  LW P G all [⟨some d,.makeInterface T (.tmp x),y1,p1,f1,none⟩,⟨none,.panic (.tmp d),y2,p2,f2,none⟩] st Q:=by
 intro base R μ a w hr QQ hk;obtain⟨pc,hpc,b3N,c6S⟩:=(hr.pX hx).a5w;have e0:=(c6S 0 _ rfl).2.a1T;have e1:=(c6S 1 _ rfl).2.a1T;have f6Y:pc=#[.int .i64 n,.int .i64 e]:=by
  have hs:pc.size=2:=by simpa using b3N
  apply Array.ext
  .simpa using hs
  .intro i h1 h2;simp only[g3s]at e0 e1;have h3:i<2:=by omega
   match i,h1,h3 with
   |0,h1,_=>simpa[h1]using e0
   |1,h1,_=>simpa[h1]using e1
 have hda:d<a.tmps.size:=by rw[hr.size];exact hd
 have dG:(Instr.makeInterface T (.agg pc)).run P w=.ok (.iface T (.agg pc)) w:=by
  unfold Instr.makeInterface;rw[g4f,g4g hu];simp only[g4h];split
  .simp at hn
  .rfl
 have hw:∀(o:Oper) y,o.guard=none->Region.wanted o y=true:=λo y hg=>by unfold Region.wanted;rw[hg]
 unfold wpList;rw[if_pos (hw _ _ rfl)];left;unfold Oper.wp;have e2:(execOp a.eval ⟨some d,.makeInterface T (.tmp x),y1,p1,f1,none⟩).run P w=.ok (.value (.iface T (.agg pc))) w:=by simp[execOp,hpc,dG]
 rw[e2]
 show wpList P all QQ _ (a.put (some d) (.iface T (.agg pc))) w
 unfold wpList;rw[if_pos (hw _ _ rfl)];left;unfold Oper.wp;have e3:(execOp (a.put (some d) (.iface T (.agg pc))).eval ⟨none,.panic (.tmp d),y2,p2,f2,none⟩).run P w=.halt (.panic (.iface T (.agg pc))) w:=by simp[execOp,eP hda,Instr.panic,goPanic]
 rw[e3]
 show QQ (.panic [{v:=.iface T (.agg pc),recovered:=false}]) _ w
 rw[f6Y];refine hk _ (a3R st) _ w R μ h ?_ (.refl _ _ _);have h1:=hr.b2f (.refl base R w) hr.sB;have h2:=h1.put (dst:=some d) (v:=.iface T (.agg #[.int .i64 n,.int .i64 e])) (dv:=.undef) (act:=.no) (.undef _) trivial;have h3:finish (a3R st) (some d) .undef .no=a3R st:=by
  simp only[finish,a3R,St.mk.injEq];refine⟨?_,by simp[oW,dH],by simp[dH]⟩;apply List.ext_getElem
  .simp
  .intro i q1 q2;rw[List.getElem_set];split<;>simp
 rw[h3]at h2;exact h2
def cG(P:Program)(G:GT)(ops:Array Oper)(rest:List Nat)(Q:Exit->St->Prop)(s:St):Prop:=VK P G [.ops true ops (sel ops rest)] .normal s Q
theorem cG.mk{rest:List Nat}{s:St}(h:VK P G [.ops true ops (sel ops rest)] .normal s Q):cG P G ops rest Q s:=h
def sI(P:Program)(G:GT)(ops:Array Oper)(c:Nat)(Q:Exit->St->Prop)(x0:Bool):Ord->St->Prop
 |.none,_=>True
 |.call rest more,st=>a3a P G ops (sel ops [c]) (λ_ s=>cG P G ops rest Q s) Q x0 st/\sI P G ops c Q x0 more st
 |.op i next more,st=>VK P G [.ops true ops (sel ops [i])] .normal st (λ_ s=>sI P G ops c Q x0 next s)/\sI P G ops c Q x0 more st
theorem yP{q:Bool}{ops:Array Oper}{K K':St->Prop}(hk:∀s,K s->K' s):∀(l:List Oper)(st:St),vU P G q ops l st K->vU P G q ops l st K'
 |[],st,h=>hk st h
 |o::r,st,h=>jQ (λs hs=>yP hk r s hs) h
theorem d2s:(∃o,ops[c]? =some o/\sel ops [c]=[o])\/sel ops [c]=[]:=by
 simp only[sel];cases h:ops[c]? with
 |none=>right;rfl
 |some o=>left;exact⟨o,rfl,rfl⟩
theorem sI.pan{ops:Array Oper}{c:Nat}{Q:Exit->St->Prop}:∀(T:Ord)(st:St),sI P G ops c Q false T st->a6E P G ops (a3S P G ops c Q) T st
 |.none,_,_=>trivial
 |.call rest more,st,h=>by
  refine⟨?_,sI.pan more st h.2⟩;have h1:=h.1;rcases d2s (ops:=ops) (c:=c)with⟨o,ho,hs⟩|hs
  .rw[hs]at h1;exact h1.pan ho
  .rw[hs]at h1;exact h1.elim
 |.op i next more,st,h=>by refine⟨?_,sI.pan more st h.2⟩;have h1:=h.1;simp only[VK]at h1|-;exact yP (λs hs=>sI.pan next s hs) _ _ h1
theorem sI.ret{ops:Array Oper}{c:Nat}{Q:Exit->St->Prop}:∀(T:Ord)(st:St),sI P G ops c Q true T st->b2d P G ops c (λs=>Q .normal s) T st
 |.none,_,_=>trivial
 |.call rest more,st,h=>by
  refine⟨?_,sI.ret more st h.2⟩;have h1:=h.1;rcases d2s (ops:=ops) (c:=c)with⟨o,ho,hs⟩|hs
  .rw[hs]at h1|-;have h2:=h1.ret;simp only[cG,VK,vU]at h2|-;exact h2
  .rw[hs]at h1;exact h1.elim
 |.op i next more,st,h=>by refine⟨?_,sI.ret more st h.2⟩;have h1:=h.1;simp only[VK]at h1|-;exact yP (λs hs=>sI.ret next s hs) _ _ h1
theorem b5g{q:Bool}{K K':St->Prop}(hk:∀s,K s->K' s)(h:VK P G [.ops q ops l] .normal st λ_ s=>K s):VK P G [.ops q ops l] .normal st λ_ s=>K' s:=by simp only[VK]at h|-;exact yP hk _ _ h
theorem mS{id:Nat}(c:Nat)(rG:List Nat)(T:Ord)(x0:Bool)(hm:P.follows .mixedOrders=true)(hB:d7I ops c rG T=true)(h:VK P G [.ops true ops (sel ops rG)] .normal st λ_ s=>sI P G ops c Q x0 T s):SW P G (.region id ops true) st Q:=by
 cases x0 with
 |false=>exact e3F c rG T hm hB (b5g (λs hs=>sI.pan T s hs) h)
 |true=>exact e9A c rG T hm hB (b5g (λs hs=>sI.ret T s hs) h)
theorem tQ.mk{ls:List (Option Loc)}{f:FuncId}{s0:St}{x:Ends}{g3o:List DV}{dst:Option Tmp}{KK:St->Prop}{rest:List (TypeId×List Loc)}(he:Enters P f)(hx:CX P G f s0 x)(K:List (Nat×Nat))(mX:∀d H1 own1,x=.inl (d,H1,own1)->aW K s0 d H1=true)(c6X:∀v,x=.inr v->aW K s0 .undef s0.H=true)(pJ:WkT g3o (bA K s0.tmps))(hH:WkH st.H (dC K s0.H))(oO:yK st st.own (s0.own.map (sD K ls))=some rest)(c0m:a1w st.tmps.length ls s0.own=true)(pG:∀d H1 own1,x=.inl (d,H1,own1)->KK (bJ K dst st rest d H1 own1))(a4X:∀v,x=.inr v->Q (.panic (a2d v)) (a3R st)):tQ P G f g3o ls dst st KK Q x.isLeft:=by
 refine⟨he,λh0=>?_,λh0=>?_⟩
 .match x,hx,mX,pG,h0 with
  |.inl (d,H1,own1),hx,mX,pG,_=>exact⟨_,pC.b4T hx K (mX d H1 own1 rfl) pJ hH oO c0m,pG d H1 own1 rfl⟩
 .match x,hx,c6X,a4X,h0 with
  |.inr v,hx,c6X,a4X,_=>exact⟨v,b2e.e9B hx K (c6X v rfl) pJ hH oO c0m,a4X v rfl⟩
attribute [simp] sI
end
attribute [irreducible] tQ LW cG
attribute [simp] a3a gC
end Go.VM
namespace Go.VM
open Go Go.RowKit
section
variable {P:Program} {G:GT} {st:St} {base:dU} {R:Nat->Nat->Prop} {μ:Nat->Nat} {a:Act} {w:World}
def a5N(P:Program)(G:GT)(ops:Array Oper)(m c:Nat)(Q:St->Prop):Nat->Array Bool->St->Prop
 |0,listed,st=>listed=sH m ops.size/\Q st
 |fuel+1,listed,st=>Region.ready .any ops listed≠[]/\∀i∈Region.ready .any ops listed,i<m/\match ops[i]? with
  |none=>False
  |some o=>qO P G (i !=c) ops o (a5N P G ops m c Q fuel (listed.setIfInBounds i true)) st
theorem c1R{ops:Array Oper}{m c r:Nat}{Q:St->Prop}{QQ:Exit->Act->World->Prop}:∀(fuel:Nat)(listed:Array Bool)(st:St),a5N P G ops m c Q fuel listed st->∀(base:dU)(R:Nat->Nat->Prop)(μ:Nat->Nat)(a:Act)(w:World),Rel P G base R μ st a w->
  (∀s a' w' R' μ',Q s->Rel P G base R' μ' s a' w'->Step base R w R' w'->wpAny P .any ops QQ r (sH m ops.size) a' w')->wpAny P .any ops QQ (fuel+r) listed a w
 |0,_,st,h,base,R,μ,a,w,hr,hk=>by rw[Nat.zero_add,h.1];exact hk st a w R μ h.2 hr (.refl _ _ _)
 |fuel+1,listed,st,h,base,R,μ,a,w,hr,hk=>by
  rw[show fuel+1+r=(fuel+r)+1 by omega];refine⟨λh0=>absurd h0 h.1,λi hi=>?_⟩;have h1:=(h.2 i hi).2;unfold wpOp;split
  .rename_i ho;rw[ho]at h1;exact h1.elim
  .rename_i o ho;rw[ho]at h1;exact uL h1 hr λs v w' R' μ' h' jG tL=>c1R fuel _ s h' base R' μ' _ w' jG λs a' w2 R2 μ2 q1 q2 q3=>hk s a' w2 R2 μ2 q1 q2 (tL.trans q3)
variable{ops:Array Oper}{i m:Nat}
theorem b7G(him:i<m)(hT:a0T ops m=true)(listed:Array Bool)(qC:gR ops listed)(hr:i∈Region.ready .any ops listed):∀j∈Region.ready .any ops listed,j<m:=λj hj=>by apply Classical.byContradiction;intro hjm;obtain⟨_,oj,hoj,eQ⟩:=mem_ready.1 hj;obtain⟨a4m,_⟩:=mem_ready.1 hr;have h1:=b0L hT (g3Z hjm) hoj him;rw[eC qC a4m ops.size j λo ho=>by rw[hoj]at ho;cases ho;exact eQ]at h1;cases h1
theorem c3B{c:Nat}{Q:St->Prop}{oi:Oper}(him:i<m)(hT:a0T ops m=true)(hA:sC ops)(hi:ops[i]? =some oi)(hic:i≠c)(hsi:(dW oi.op=true/\pQ ops oi=false)\/rU oi=true):
  ∀(fuel:Nat)(listed:Array Bool)(st s:St),gR ops listed->
   (∀j oj,ops[j]? =some oj->j≠i->listed.getD j true=false->kG ops ops.size j i=false->j≠c/\oi.apart ops oj=true/\tB ops oi oj=true)->
   i∈Region.ready .any ops listed->tD ops listed st->Eff P G ops oi st s->
   a5N P G ops m c Q fuel (listed.setIfInBounds i true) s->a5N P G ops m c Q (fuel+1) listed st:=by
 have qi:(i !=c)=true:=by simpa using hic
 intro fuel
 induction fuel with
 |zero=>
  intro listed st s qC _ hr _ hy H;refine⟨λh=>(by rw[h]at hr;cases hr),λj hj=>⟨b7G him hT listed qC hr j hj,?_⟩⟩;by_cases hji:j=i
  .subst hji;rw[hi,qi];exact(eR hsi).2 ⟨s,hy,H⟩
  .exfalso;obtain⟨a0u,oj,hoj,eQ⟩:=mem_ready.1 hj;have h1:=b7B a0u hji;rw[H.1]at h1;have h2:=a9Q h1;have:=b7G him hT listed qC hr j hj;omega
 |succ fuel ih=>
  intro listed st s qC a1e hr hI hy H;refine⟨λh=>(by rw[h]at hr;cases hr),λj hj=>⟨b7G him hT listed qC hr j hj,?_⟩⟩;by_cases hji:j=i
  .subst hji;rw[hi,qi];exact(eR hsi).2 ⟨s,hy,H⟩
  .have h1:=(H.2 j (ready_mono hj hji)).2;obtain⟨a0u,oj,hoj,eQ⟩:=mem_ready.1 hj;rw[hoj]at h1|-;simp only at h1|-;obtain⟨a4m,oi',c3k,b1N⟩:=mem_ready.1 hr;have a6T:kG ops ops.size j i=false:=eC qC a4m _ _ λo ho=>by rw[hoj]at ho;cases ho;exact eQ
   obtain⟨hjc,hap,hpo⟩:=a1e j oj hoj hji a0u a6T;have qj:(j !=c)=true:=by simpa using hjc
   rw[qj]at h1|-;have hsj:(dW oj.op=true/\pQ ops oj=false)\/rU oj=true:=by
    by_cases hs:rU oj=true
    .exact .inr hs
    .refine .inl ⟨?_,?_⟩
     .unfold tB at hpo;simp only[rU,g3C,g3q,g3M]at hpo hs;rcases hpo with((((((h|h)|h)|h)|h)|h)|h)|h
      .exact h.1.2
      .exact absurd (.inl (.inl h.1.2)) hs
      .exact h.1.1.2
      .exact absurd (.inl (.inr h.2)) hs
      .exact h.1.2
      .exact absurd (.inl h.1.2) hs
      .exact absurd (.inr h.2) hs
      .exact(qE (G:=G) (st:=st) h.1.2).1
     .cases hx:pQ ops oj with
      |false=>rfl
      |true=>
       have aG:i<ops.size:=(g3z.1 hi).1;rcases xX hx hoj aG (λe=>hji e.symm)with h'|h'
       .have:=eC qC a0u ops.size i λo ho=>by rw[c3k]at ho;cases ho;exact b1N
        rw[h']at this;cases this
       .rw[a6T]at h';cases h'
   obtain⟨s12,hu,hk⟩:=(eR hsj).1 h1;obtain⟨s2,e1,e2⟩:=b1M hap hpo (λhn d hd=>hI i oi d hi hn a4m hd) (λhn d hd=>hI j oj d hoj hn a0u hd) hy hu;refine(eR hsj).2 ⟨s2,e1,?_⟩;refine ih (listed.setIfInBounds j true) s2 s12 (qC.set hj) (λk ok hk' hki hun vB=>?_) (ready_mono hr (Ne.symm hji)) (hI.step hA hoj λk hf hn=>wZ e1 hf hn) e2 ?_
   .exact a1e k ok hk' hki (vW hun).2 vB
   .rw[Array.setIfInBounds_comm _ _ hji];exact hk
def d7J(m:Nat)(l:List Nat):Bool:=l.all λi=>decide (i<m)
theorem b0N{ops:Array Oper}{m c:Nat}{Q:St->Prop}(hTA:a0T ops m=true)(hN:gY ops=[]):∀(l:List Nat)(listed:Array Bool)(st:St)(fuel:Nat),d7J m l=true->gR ops listed->b2c ops c l listed=true->
  a6U P G ops c l st (a5N P G ops m c Q fuel (cT l listed))->a5N P G ops m c Q (l.length+fuel) listed st
 |[],listed,st,fuel,_,_,_,h=>by simpa[cT,a6U]using h
 |i::l,listed,st,fuel,cM,qC,hB,h=>by
  have hA:sC ops:=λi j oi oj d hi _ hni _ hdi _=>(c1Q hN hi hni hdi).elim;have hI:∀listed st,tD ops listed st:=λ_ _ j oj d hj hn _ hd=>(c1Q hN hj hn hd).elim;simp only[d7J,List.all_cons,g3q,g4e]at cM;obtain⟨him,f3g⟩:=cM;simp only[b2c,g3q]at hB;obtain⟨hf,hB'⟩:=hB;simp only[a6U]at h;split at h;rotate_left
  .cases h
  rename_i o ho;have he:(i::l).length+fuel=l.length+fuel+1:=by simp only[List.length_cons];omega
  rw[he];unfold b7E at hf;rw[g3C,beq_iff_eq]at hf;have hri:i∈Region.ready .any ops listed:=by
   rcases hf with hf|hf
   .rw[hf];exact g3x.2 rfl
   .simp only[g3q]at hf;simpa using hf.1.1
  have tN:∀s,a6U P G ops c l s (a5N P G ops m c Q fuel (cT (i::l) listed))->a5N P G ops m c Q (l.length+fuel) (listed.setIfInBounds i true) s:=λs hs=>b0N hTA hN l _ s fuel f3g (qC.set hri) hB' hs;rcases hf with hf|hf
  .refine⟨λh'=>(by rw[h']at hf;cases hf),λj hj=>?_⟩;rw[hf,g3x]at hj;subst hj;rw[ho];exact⟨him,jQ tN h⟩
  .rw[ho]at hf;simp only[g3q,g3C,g3M,bne_iff_ne,ne_eq]at hf;obtain⟨⟨_,hic⟩,hsi,eQ⟩:=hf;have qi:(i !=c)=true:=by simpa using hic
   rw[qi]at h;obtain⟨s,hd,hk⟩:=(eR hsi).1 h;refine c3B him hTA hA ho hic hsi _ listed st s qC (λj oj hj gJ hun vB=>?_) hri (hI _ _) hd (tN s hk);rw[g3t]at eQ;have h1:=eQ j (List.mem_range.2 (g3z.1 hj).1);simp only[hj,g3C,beq_iff_eq,gJ,false_or,hun,g3K,vB,g3q,bne_iff_ne,ne_eq]at h1;exact h1
def a9U(ops:Array Oper)(m c:Nat):Ord->Nat->Array Bool->Bool
 |.none,_,_=>true
 |.call rest more,n,listed=>decide (c<ops.size)&&decide (c<m)&&d7J m rest&&inB ops c rest&&b2c ops c rest (listed.setIfInBounds c true)&&decide (cT rest (listed.setIfInBounds c true)=sH m ops.size)&&decide (rest.length+1=n)&&a9U ops m c more n listed
 |.op i next more,n,listed=>inB ops c [i]&&decide (i<m)&&decide (2<=n)&& !(Region.ready .any ops (listed.setIfInBounds i true)).isEmpty&&((Region.ready .any ops (listed.setIfInBounds i true)).all λj=>a5M c next j)&&a9U ops m c next (n-1) (listed.setIfInBounds i true)&&a9U ops m c more n listed
theorem b2h{ops:Array Oper}{m c:Nat}{Q:St->Prop}(hTA:a0T ops m=true)(hN:gY ops=[]):∀(T:Ord)(n:Nat)(listed:Array Bool)(st:St),gR ops listed->a9U ops m c T (n+1) listed=true->b2d P G ops c Q T st->∀i∈Region.ready .any ops listed,a5M c T i=true->
  i<m/\match ops[i]? with
  |none=>False
  |some o=>qO P G (i !=c) ops o (a5N P G ops m c Q n (listed.setIfInBounds i true)) st
 |.none,_,_,_,_,_,_,_,_,ha=>by cases ha
 |.call rest more,n,listed,st,qC,hB,h,i,hi,ha=>by
  simp only[a9U,g3q,g4e]at hB;obtain⟨⟨⟨⟨⟨⟨⟨hc,hcm⟩,cM⟩,yL⟩,hs⟩,he⟩,hlen⟩,a7P⟩:=hB;simp only[b2d]at h;simp only[a5M,g3C,g4e]at ha;by_cases hic:i=c
  .subst hic;have h1:=h.1;simp only[VK,sel,g3I hc,vU]at h1;simp only[g3I hc,bne_self_eq_false];refine⟨hcm,jQ (λs tL=>?_) h1⟩;have hn:n=rest.length+0:=by omega
   rw[hn];exact b0N hTA hN rest _ s 0 cM (qC.set hi) hs (tW (λs hs=>⟨he,hs⟩) _ _ (xE rest s yL tL))
  .exact b2h hTA hN more n listed st qC a7P h.2 i hi (ha.resolve_left hic)
 |.op x next more,n,listed,st,qC,hB,h,i,hi,ha=>by
  simp only[a9U,g3q,g4e,g3M,g3T,g3t]at hB;obtain⟨⟨⟨⟨⟨⟨yL,hxm⟩,hn⟩,gJ⟩,eQ⟩,tN⟩,a7P⟩:=hB;simp only[b2d]at h;simp only[a5M,g3C,g4e]at ha;by_cases hix:i=x
  .subst hix;have h1:=h.1;simp only[inB,List.all_cons,List.all_nil,Bool.and_true,g3q,g4e]at yL;have qi:(i !=c)=true:=by simpa using yL.2
   simp only[VK,sel,g3I yL.1,vU]at h1;simp only[g3I yL.1,qi];refine⟨hxm,jQ (λs tL=>?_) h1⟩;obtain⟨k,rfl⟩:∃k,n=k+1:=⟨n-1,by omega⟩;exact⟨gJ,λj hj=>b2h hTA hN next k _ s (qC.set hi) tN tL j hj (eQ j hj)⟩
  .exact b2h hTA hN more n listed st qC a7P h.2 i hi (ha.resolve_left hix)
theorem a8S{ops:Array Oper}{m c:Nat}{Z:St->Prop}:∀(T:Ord)(n n':Nat)(listed:Array Bool)(st:St),n<=n'->a9U ops m c T (n+1) listed=true->a6E P G ops Z T st->∀i∈Region.ready .any ops listed,a5M c T i=true->
  if i=c then Z st else match ops[i]? with
  |none=>False
  |some o=>qO P G true ops o (a9T P G ops c Z n' (listed.setIfInBounds i true)) st
 |.none,_,_,_,_,_,_,_,_,_,ha=>by cases ha
 |.call rest more,n,n',listed,st,hn',hB,h,i,hi,ha=>by
  simp only[a9U,g3q]at hB;simp only[a6E]at h;simp only[a5M,g3C,g4e]at ha;by_cases hic:i=c
  .rw[if_pos hic];exact h.1
  .exact a8S more n n' listed st hn' hB.2 h.2 i hi (ha.resolve_left hic)
 |.op x next more,n,n',listed,st,hn',hB,h,i,hi,ha=>by
  simp only[a9U,g3q,g4e,g3M,g3T,g3t]at hB;obtain⟨⟨⟨⟨⟨⟨yL,hxm⟩,hn⟩,gJ⟩,eQ⟩,tN⟩,a7P⟩:=hB;simp only[a6E]at h;simp only[a5M,g3C,g4e]at ha;by_cases hix:i=x
  .subst hix;have h1:=h.1;simp only[inB,List.all_cons,List.all_nil,Bool.and_true,g3q,g4e]at yL;simp only[VK,sel,g3I yL.1,vU]at h1;rw[if_neg yL.2];simp only[g3I yL.1];refine jQ (λs tL=>?_) h1;obtain⟨k,rfl⟩:∃k,n=k+1:=⟨n-1,by omega⟩;obtain⟨k',rfl⟩:∃k',n'=k'+1:=⟨n'-1,by omega⟩;exact⟨gJ,λj hj=>a8S next k k' _ s (by omega) tN tL j hj (eQ j hj)⟩
  .exact a8S more n n' listed st hn' a7P h.2 i hi (ha.resolve_left hix)
abbrev b7H(TT:St->Prop)(Q:Exit->St->Prop):Exit->St->Prop:=λe s=>match e with
 |.normal=>TT s
 |e=>Q e s
end
end Go.VM
end
