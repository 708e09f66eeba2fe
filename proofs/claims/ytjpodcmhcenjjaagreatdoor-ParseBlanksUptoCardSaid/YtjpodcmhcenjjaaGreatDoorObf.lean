/- Lemmas that the law of this claim needs (ZV VmR). No condition. -/
import Derived.Test.YtjpodcmhcenjjaaGreatDoorOba
import Derived.Test.YtjpodcmhcenjjaaGreatDoorObd
import Derived.Laws.CopyRow
import Derived.Laws.MakeOwn
import Derived.RangeFuncOwn
set_option linter.unusedVariables false
set_option linter.unusedSimpArgs false
set_option linter.unusedSectionVars false
set_option maxRecDepth 100000
set_option maxHeartbeats 64000000
open Go.Proofs.Tryz
section
section
namespace Go.VM
open Go Go.RowKit
section
variable {P:Program} {G:GT} {st:St} {Q:Exit->St->Prop}
theorem SW.qH{x y:Code}(h:SW P G x st λe s=>match e with
  | .normal=>SW P G y s Q
  |e=>Q e s):SW P G (.seq x y) st Q:=λbase R μ a w hr=>
 wp_seq (wp_mono (h base R μ a w hr) λe a1 w1 ⟨s,R1,μ1,q1,q2,q3⟩=>by
  cases e with
  |normal=>exact wp_mono (q1 base R1 μ1 a1 w1 q2) λe2 a2 w2 ⟨s2,R2,μ2,p1,p2,p3⟩=>⟨s2,R2,μ2,p1,p2,q3.trans p3⟩
  |_=>exact⟨s,R1,μ1,q1,q2,q3⟩)
theorem SW.vk{c:Code}(h:VK P G [.code c] .normal st Q):SW P G c st Q:=a2M _ _ _ (b8Z h)
theorem CS.b1V{f:FuncId}{fn:Func}{c:Code}{n:Nat}{ds:List D}{r:DV}{own:Option TypeId}(hf:P.funcs[f]? =some fn)(hb:fn.body=some c)(hn:fn.ntmps=n){rs:List ResultVar}(hrs:fn.results.toList=rs)(h:SW P G c (zI ds n) λe s=>(e=.normal\/e=.ret)/\b8Q (c5m P s rs) r/\b8R s rs own):CS P G f ds r own:=by
 subst hrs;intro w R args hg hR hl hv;refine calls_of_wp hf hb ?_;have jU:=Rel.init (P:=P) (G:=G) fn hg hR hl hv;rw[<-hn]at h;refine wp_mono (h (xC w.heap.size) R _ _ w jU) λe a' w' ⟨s,R',μ',⟨he,kC,kF⟩,eK,hs⟩=>?_;obtain⟨r0,kC,hwk⟩:=b1B kC;obtain⟨v,hv1,hv2⟩:=c3G eK kC;have a3I:a'.defers=[]/\∃v,(results fn a'.tmps).run P w'=.ok v w'/\∃v' R',Ending.returned v=.returned v'/\(∀μ,TV R' μ w' v' r)/\Step (xC w.heap.size) R w R' w'/\(∀b o,R' b o->b<w'.heap.size)/\(∀e,own=some e->oK P (xC w.heap.size) R' w' e v'):=
  ⟨eK.defers,v,hv1,v,R',rfl,λμ=>(hv2 μ).wk hwk,hs,eK.pE,λe he'=>by subst he';exact b8S eK kF hv1⟩
 rcases he with rfl|rfl
 .exact a3I
 .exact a3I
theorem dB(a:Act){d:Nat}(v:Value)(h:d<a.tmps.size):(a.put (some d) v).eval (.tmp d)=v:=by simp[Act.put,Act.eval,h]
theorem bQ(a:Act){d x:Nat}(v:Value)(h:x≠d):(a.put (some d) v).eval (.tmp x)=a.eval (.tmp x):=by simp[Act.put,Act.eval,Array.getElem?_setIfInBounds,Ne.symm h]
theorem size_put(a:Act)(d:Option Tmp)(v:Value):(a.put d v).tmps.size=a.tmps.size:=by cases d<;>simp[Act.put]
theorem b6F(w:World)(z cs:Array Value)(e:TypeId):(w.alloc (.cells z e)).setRow w.heap.size cs=w.alloc (.cells cs e):=by
 unfold World.setRow World.alloc;cases w with
 |mk heap tape drawn os output=>
  simp only;congr 1;apply Array.ext
  .simp
  .intro k h1 h2;simp only[Array.getElem_modify,Array.getElem_push];split
   .rename_i hk;subst hk;simp
   .rename_i hk;have xF:k<heap.size:=by simp at h2;omega
    simp[xF]
end
end Go.VM
end
section
namespace Go.VM
open Go Go.RowKit
def oQ(k n:Nat):Array Bool:=((List.range n).map λj=>decide (j<k)).toArray
def a3T(ops:Array Oper)(m:Nat):Nat->Nat->Array Bool->Bool
 |0,_,listed=>decide (listed=oQ m ops.size)
 |fuel+1,k,listed=>(Region.ready .any ops listed).contains k&&
  (match ops[k]? with
  |none=>false
  |some oi=>
   (List.range ops.size).all λj=>j==k||listed.getD j true||eZ ops ops.size j k||(match ops[j]? with
    |some oj=>oi.apart ops oj&&pI ops oi oj
    |none=>true))&&
  a3T ops m fuel (k+1) (listed.setIfInBounds k true)
def wI(ops:Array Oper)(m:Nat):Bool:=(List.range ops.size).all λj=>decide (j<m)||(List.range m).all λi=>eZ ops ops.size j i
def c8Q(ops:Array Oper)(m:Nat):Bool:=((eA ops).isEmpty||(ops.toList.all (c5d ops)&&decide ((eA ops).Nodup)))&&(decide (m<=ops.size)&&wI ops m)&&a3T ops m m 0 (Array.replicate ops.size false)
section
variable {P:Program} {G:GT} {st:St}
theorem a5B{k n j:Nat}(h:(oQ k n).getD j true=false):k<=j/\j<n:=by
 unfold oQ at h;rw[f2P]at h;by_cases hj:j<n
 .simp[hj]at h;omega
 .simp[hj]at h
theorem a6r{ops:Array Oper}{m j i:Nat}{o:Oper}(h:wI ops m=true)(hj:m<=j)(ho:ops[j]? =some o)(hi:i<m):eZ ops ops.size j i=true:=by
 unfold wI at h;have hjs:=(f2W.1 ho).1;have h1:=f2Q.1 h j (List.mem_range.2 hjs);simp only[f2Z,decide_eq_true_eq]at h1;rcases h1 with h1|h1
 .omega
 .exact f2Q.1 h1 i (List.mem_range.2 hi)
def a9R(P:Program)(G:GT)(ops:Array Oper)(m:Nat)(Q:St->Prop):Nat->Array Bool->St->Prop
 |0,listed,st=>listed=oQ m ops.size/\Q st
 |fuel+1,listed,st=>Region.ready .any ops listed≠[]/\∀i∈Region.ready .any ops listed,i<m/\match ops[i]? with
  |none=>a9R P G ops m Q fuel (listed.setIfInBounds i true) st
  |some o=>mE P G true ops o (a9R P G ops m Q fuel (listed.setIfInBounds i true)) st
theorem b1W{ops:Array Oper}{m r:Nat}{Q:St->Prop}{QQ:Exit->Act->World->Prop}:∀(fuel:Nat) (listed:Array Bool) (st:St),a9R P G ops m Q fuel listed st->∀(base:cN) (R:Nat->Nat->Prop) (μ:Nat->Nat) (a:Act) (w:World),Rel P G base R μ st a w->
  (∀s a' w' R' μ',Q s->Rel P G base R' μ' s a' w'->Step base R w R' w'->wpAny P .any ops QQ r (oQ m ops.size) a' w')->wpAny P .any ops QQ (fuel+r) listed a w
 |0,_,st,h,base,R,μ,a,w,hr,hk=>by rw[Nat.zero_add,h.1];exact hk st a w R μ h.2 hr (.refl _ _ _)
 |fuel+1,listed,st,h,base,R,μ,a,w,hr,hk=>by
  rw[show fuel+1+r=(fuel+r)+1 by omega];refine⟨λh0=>absurd h0 h.1,λi hi=>?_⟩;have h1:=(h.2 i hi).2;unfold wpOp;split
  .rename_i ho;rw[ho]at h1;exact b1W fuel _ st h1 base R μ a w hr hk
  .rename_i o ho;rw[ho]at h1;exact qO h1 hr λs v w' R' μ' h' eK oY=>b1W fuel _ s h' base R' μ' _ w' eK λs a' w2 R2 μ2 q1 q2 q3=>hk s a' w2 R2 μ2 q1 q2 (oY.trans q3)
theorem b1X{listed:Array Bool}{i j:Nat}(hj:listed.getD j true=false)(dX:j≠i):(listed.setIfInBounds i true).getD j true=false:=by rw[getD_set_ne true (Ne.symm dX)];exact hj
theorem b9G{ops:Array Oper}{m:Nat}{Q:St->Prop}{i:Nat}{oi:Oper}(him:i<m)(hT:wI ops m=true)(hA:oM ops)(hi:ops[i]? =some oi)(hsi:(cO oi.op=true/\kI ops oi=false)\/oD oi=true):
  ∀(fuel:Nat) (listed:Array Bool) (st s:St),eB ops listed->
   (∀j oj,ops[j]? =some oj->j≠i->listed.getD j true=false->eZ ops ops.size j i=false->oi.apart ops oj=true/\pI ops oi oj=true)->
   i∈Region.ready .any ops listed->pK ops listed st->Eff P G ops oi st s->
   a9R P G ops m Q fuel (listed.setIfInBounds i true) s->a9R P G ops m Q (fuel+1) listed st:=by
 have low:∀(listed:Array Bool),eB ops listed->i∈Region.ready .any ops listed->∀j∈Region.ready .any ops listed,j<m:=λlisted mO hr j hj=>by apply Classical.byContradiction;intro hjm;obtain⟨_,oj,xI,cY⟩:=mem_ready.1 hj;obtain⟨a0W,_⟩:=mem_ready.1 hr;have h1:=a6r hT (Nat.le_of_not_lt hjm) xI him;rw[cS mO a0W ops.size j λo ho=>by rw[xI]at ho;cases ho;exact cY]at h1;cases h1
 intro fuel
 induction fuel with
 |zero=>
  intro listed st s mO _ hr _ hy H;refine⟨λh=>(by rw[h]at hr;cases hr),λj hj=>⟨low listed mO hr j hj,?_⟩⟩;by_cases yD:j=i
  .subst yD;rw[hi];exact(dC hsi).2 ⟨s,hy,H⟩
  .exfalso;obtain⟨vJ,oj,xI,cY⟩:=mem_ready.1 hj;obtain⟨a0W,_⟩:=mem_ready.1 hr;have h1:=b1X vJ yD;rw[H.1]at h1;have h2:=a5B h1;have:=low listed mO hr j hj;omega
 |succ fuel ih=>
  intro listed st s mO a0r hr hI hy H;refine⟨λh=>(by rw[h]at hr;cases hr),λj hj=>⟨low listed mO hr j hj,?_⟩⟩;by_cases yD:j=i
  .subst yD;rw[hi];exact(dC hsi).2 ⟨s,hy,H⟩
  .have h1:=(H.2 j (ready_mono hj yD)).2;obtain⟨vJ,oj,xI,cY⟩:=mem_ready.1 hj;rw[xI]at h1|-;simp only at h1|-;obtain⟨a0W,oi',b6t,a7i⟩:=mem_ready.1 hr;have a3b:eZ ops ops.size j i=false:=cS mO a0W _ _ λo ho=>by rw[xI]at ho;cases ho;exact cY
   obtain⟨xE,hpo⟩:=a0r j oj xI yD vJ a3b;have hsj:(cO oj.op=true/\kI ops oj=false)\/oD oj=true:=by
    by_cases hs:oD oj=true
    .exact .inr hs
    .refine .inl ⟨?_,?_⟩
     .unfold pI at hpo;simp only[oD,f2Z,f2N,Bool.not_eq_true']at hpo hs;rcases hpo with((((((h|h)|h)|h)|h)|h)|h)|h
      .exact h.1.2
      .exact absurd (.inl (.inl h.1.2)) hs
      .exact h.1.1.2
      .exact absurd (.inl (.inr h.2)) hs
      .exact h.1.2
      .exact absurd (.inl h.1.2) hs
      .exact absurd (.inr h.2) hs
      .exact(mF (G:=G) (st:=st) h.1.2).1
     .cases hx:kI ops oj with
      |false=>rfl
      |true=>
       have aI:i<ops.size:=(f2W.1 hi).1;rcases sZ hx xI aI (λe=>yD e.symm)with h'|h'
       .have:=cS mO vJ ops.size i λo ho=>by rw[b6t]at ho;cases ho;exact a7i
        rw[h']at this;cases this
       .rw[a3b]at h';cases h'
   obtain⟨s12,hu,hk⟩:=(dC hsj).1 h1;obtain⟨s2,e1,e2⟩:=a7h xE hpo (λhn d hd=>hI i oi d hi hn a0W hd) (λhn d hd=>hI j oj d xI hn vJ hd) hy hu;refine(dC hsj).2 ⟨s2,e1,?_⟩;refine ih (listed.setIfInBounds j true) s2 s12 (mO.set hj) (λk ok hk' hki hun sI=>?_) (ready_mono hr (Ne.symm yD)) (hI.step hA xI λk hf hn=>sK e1 hf hn) e2 ?_
   .exact a0r k ok hk' hki (rQ hun).2 sI
   .rw[Array.setIfInBounds_comm _ _ yD];exact hk
theorem b5h{ops:Array Oper}{m:Nat}{Q:St->Prop}(hTA:wI ops m=true)(hA:oM ops)(hT:eA ops=[]\/∀o∈ops.toList,c5d ops o=true):∀(l:List Oper) (k:Nat) (listed:Array Bool) (st:St),k+l.length=m->(∀j,j<l.length->l[j]? =ops[k+j]?)->eB ops listed->pK ops listed st->
  a3T ops m l.length k listed=true->sE P G true ops l st Q->a9R P G ops m Q l.length listed st
 |[],_,_,_,_,_,_,_,hB,h=>⟨by simpa[a3T]using hB,h⟩
 |o::l,k,listed,st,hkm,hl,mO,hI,hB,h=>by
  have e2Z:k<m:=by simp only[List.length_cons]at hkm;omega
  have h0:ops[k]? =some o:=by simpa using (hl 0 (by simp)).symm
  simp only[List.length_cons,a3T,f2N,h0]at hB;obtain⟨⟨hr,hf⟩,hB'⟩:=hB;have hrk:k∈Region.ready .any ops listed:=by simpa using hr
  have sB:∀s,pK ops (listed.setIfInBounds k true) s->sE P G true ops l s Q->a9R P G ops m Q l.length (listed.setIfInBounds k true) s:=λs hs h=>b5h hTA hA hT l (k+1) _ s (by simp only[List.length_cons]at hkm;omega) (λj hj=>by have:=hl (j+1) (by simpa using hj);simpa[Nat.add_assoc,Nat.add_comm 1 j]using this) (mO.set hrk) hs hB' h
  have b1h:∀j oj,ops[j]? =some oj->j≠k->listed.getD j true=false->eZ ops ops.size j k=false->o.apart ops oj=true/\pI ops o oj=true:=by intro j oj hj dX hun sI;rw[f2Q]at hf;have h1:=hf j (List.mem_range.2 (f2W.1 hj).1);simp only[hj,f2Z,beq_iff_eq,dX,false_or,hun,Bool.false_eq_true,sI,f2N]at h1;exact h1
  have only:(∀j oj,ops[j]? =some oj->j≠k->listed.getD j true=false->eZ ops ops.size j k=false->False)->a9R P G ops m Q (l.length+1) listed st:=λsI=>by
   have low:∀j∈Region.ready .any ops listed,j<m:=λj hj=>by apply Classical.byContradiction;intro hjm;obtain⟨_,oj,xI,cY⟩:=mem_ready.1 hj;obtain⟨a0W,_⟩:=mem_ready.1 hrk;have h1:=a6r hTA (Nat.le_of_not_lt hjm) xI e2Z;rw[cS mO a0W ops.size j λo ho=>by rw[xI]at ho;cases ho;exact cY]at h1;cases h1
   refine⟨λh'=>(by rw[h']at hrk;cases hrk),λj hj=>⟨low j hj,?_⟩⟩;by_cases hjk:j=k
   .subst hjk;rw[h0];have b4W:mE P G true ops o (λs=>sE P G true ops l s Q/\pK ops (listed.setIfInBounds j true) s) st:=by
     by_cases hT0:eA ops=[]
     .refine eN (λs hs=>⟨hs,λi oi d hi hn _ hd=>?_⟩) h;have:d∈eA ops:=List.mem_filterMap.2 ⟨oi,by rw[Array.mem_toList_iff];exact Array.mem_of_getElem? hi,by rw[if_pos hn];exact hd⟩;rw[hT0]at this;cases this
     .have hT:=hT.resolve_left hT0;refine eN (λs hs=>⟨hs.1,hI.step hA h0 hs.2⟩) (b4V hT0 (hT o (by rw[Array.mem_toList_iff];exact Array.mem_of_getElem? h0)) h)
    exact eN (λs hs=>sB s hs.2 hs.1) b4W
   .obtain⟨vJ,oj,xI,cY⟩:=mem_ready.1 hj;have a3b:eZ ops ops.size j k=false:=cS mO (mem_ready.1 hrk).1 _ _ λo' sV=>by rw[xI]at sV;cases sV;exact cY
    exact(sI j oj xI hjk vJ a3b).elim
  by_cases hs:(cO o.op=true/\kI ops o=false)\/oD o=true
  .obtain⟨s,hd,hk⟩:=(dC hs).1 h;exact b9G e2Z hTA hA h0 hs l.length listed st s mO (λj oj hj dX hun sI=>b1h j oj hj dX hun sI) hrk hI hd (sB _ (hI.step hA h0 λk hf hn=>sK hd hf hn) hk)
  .refine only λj oj hj dX hun sI=>?_;obtain⟨_,hpo⟩:=b1h j oj hj dX hun sI;cases hal:kI ops o with
   |true=>
    obtain⟨_,ok,rK,c7N⟩:=mem_ready.1 hrk;have c7O:eZ ops ops.size k j=false:=cS mO hun _ _ λo' sV=>by rw[rK]at sV;cases sV;exact c7N
    rcases sZ hal h0 (f2W.1 hj).1 dX with h'|h'
    .rw[sI]at h';cases h'
    .rw[c7O]at h';cases h'
   |false=>
    unfold pI at hpo;simp only[oD,f2Z,f2N,Bool.not_eq_true']at hpo hs;rcases hpo with((((((h'|h')|h')|h')|h')|h')|h')|h'
    .exact hs (.inl ⟨h'.1.1,hal⟩)
    .exact hs (.inl ⟨h'.1.1,hal⟩)
    .exact hs (.inr (.inl (.inl h'.1.1.1)))
    .exact hs (.inl ⟨h'.1,hal⟩)
    .exact hs (.inr (.inl (.inr h'.1.1)))
    .exact hs (.inr (.inl h'.1.1))
    .exact hs (.inl ⟨(mF (G:=G) (st:=st) h'.1.1).1,hal⟩)
    .exact hs (.inr (.inr h'.1.1))
theorem b1Y{id:Nat}{ops:Array Oper}{m:Nat}{T:St->Prop}{Q:Exit->St->Prop}(hm:P.follows .mixedOrders=true)(hB:c8Q ops m=true)(hF:a8z ops st=true)(h:sE P G true ops (ops.toList.take m) st T)(hT:∀s base R μ a w (QQ:Exit->Act->World->Prop),T s->Rel P G base R μ s a w->(∀s' a' w' R' μ',Q .normal s'->Rel P G base R' μ' s' a' w'->Step base R w R' w'->QQ .normal a' w')->wpAny P .any ops QQ (ops.size-m) (oQ m ops.size) a w):SW P G (.region id ops true) st Q:=by
 intro base R μ a w hr;obtain⟨eK,oY⟩:=hr.drew;unfold c8Q at hB;rw[f2N,f2N,f2N,decide_eq_true_eq]at hB;obtain⟨⟨hN,e3a,hTA⟩,hB⟩:=hB;rw[f2Z,List.isEmpty_iff,f2N,f2Q,decide_eq_true_eq]at hN;have mem:∀ {i oi d},ops[i]? =some oi->dV oi=true->oi.dst=some d->d∈eA ops:=λhi hn hd=>List.mem_filterMap.2 ⟨_,by rw[Array.mem_toList_iff];exact Array.mem_of_getElem? hi,by rw[if_pos hn];exact hd⟩;have hA:oM ops:=λi j oi oj d hi hj hni hnj hdi hdj=>by
  rcases hN with hN|⟨_,hN⟩
  .have:=mem hi hni hdi;rw[hN]at this;cases this
  .exact b1w (l:=ops.toList) (f:=λo=>if dV o then o.dst else none) hN i j (by simpa using hi) (by simpa using hj) (by rw[if_pos hni];exact hdi) (by rw[if_pos hnj];exact hdj)
 have hI:pK ops (Array.replicate ops.size false) st:=λj oj d hj hn _ hd=>f2Q.1 hF d (mem hj hn hd);have hlen:(ops.toList.take m).length=m:=by simp;omega
 have h1:=b5h (P:=P) (G:=G) hTA hA (hN.imp (λh=>h) (λh=>h.1)) (ops.toList.take m) 0 (Array.replicate ops.size false) st (by rw[hlen];omega) (λj hj=>by
  rw[hlen]at hj;rw[List.getElem?_take,if_pos hj];simp) (λk hk=>by
  rcases Nat.lt_or_ge k ops.size with h'|h'
  .simp[h']at hk
  .simp[Nat.not_lt.2 h']at hk) hI (by rw[hlen];exact hB) h
 rw[hlen]at h1;refine wp_region_any hm ?_;have h2:=b1W (r:=ops.size-m) (QQ:=λe a' w'=>∃s' R' μ',Q e s'/\Rel P G base R' μ' s' a' w'/\Step base R w R' w') m _ st h1 base R μ a w.drew eK λs a' w' R' μ' q1 q2 q3=>hT s base R' μ' a' w' _ q1 q2 λs2 a2 w2 R2 μ2 p1 p2 p3=>⟨s2,R2,μ2,p1,p2,(oY.trans q3).trans p3⟩
 rw[show m+(ops.size-m)=ops.size by omega]at h2;exact h2
end
end Go.VM
end
section
namespace Go.VM
open Go Go.RowKit
def spl(cur:Array Value)(off:Nat)(l:List Value):Array Value:=(cur.toList.take off++l++cur.toList.drop (off+l.length)).toArray
theorem a7A{cur:Array Value}{off:Nat}{l:List Value}(h:off+l.length<=cur.size)(k:Nat):(spl cur off l)[k]? =if k<off then cur[k]? else if k<off+l.length then l[k-off]? else cur[k]? :=by unfold spl;rw[List.getElem?_toArray,a2a _ _ _ (by simpa using h)];simp
theorem b1Z{cur:Array Value}{off:Nat}{l:List Value}(h:off+l.length<=cur.size):(spl cur off l).size=cur.size:=by unfold spl;simp only[List.size_toArray,List.length_append,List.length_take,List.length_drop,Array.length_toList];omega
theorem d4u{cur:Array Value}{off:Nat}{l l':List Value}(h:off+l.length<=cur.size)(hl:l'.length=l.length):spl (spl cur off l) off l'=spl cur off l':=by
 apply Array.ext_getElem?;intro k;have h1:=b1Z h;rw[a7A (by rw[h1];omega),a7A h,a7A (by omega)];rw[hl];split
 .rfl
 .split
  .rfl
  .rfl
theorem d4v(a b c:List Value)(b':List Value)(h:b'.length=b.length):spl (a.toArray++b.toArray++c.toArray) a.length b'=a.toArray++b'.toArray++c.toArray:=by unfold spl;rw[h];simp
theorem setRow_setRow(w:World)(g:Nat)(a b:Array Value):(w.setRow g a).setRow g b=w.setRow g b:=by
 unfold World.setRow;cases w with
 |mk heap tape drawn os output=>
  simp only;congr 1;apply Array.ext
  .simp
  .intro k h1 h2;simp only[Array.getElem_modify];by_cases hk:g=k
   .simp only[hk,if_true];generalize heap[k]'(by simpa using h1)=o;cases o<;>rfl
   .simp[hk]
theorem a9S(w:World){g b:Nat}(dX:g≠b)(x y:Array Value):(w.setRow g x).setRow b y=(w.setRow b y).setRow g x:=by
 unfold World.setRow;cases w with
 |mk heap tape drawn os output=>
  simp only;congr 1;apply Array.ext
  .simp
  .intro k h1 h2;simp only[Array.getElem_modify];by_cases hk:g=k
   .subst hk;simp[Ne.symm dX]
   .by_cases hb:b=k
    .subst hb;simp[hk]
    .simp[hk,hb]
section
variable {P:Program} {G:GT} {st:St}
theorem rV{a:Act}{w:World}{o:Oper}{t:TypeId}{ad x:Operand}(ho:o.op=.store t ad x){b off:Nat}{cur:Array Value}{T:TypeId}(had:a.eval ad=.pointer (some ⟨b,off,none⟩))(hh:w.heap[b]? =some (.cells cur T (0,0)))(hU:(a.eval x).cells.size=P.cellsOf t)(dX:P.cellsOf t≠0)(gO:∀u∈(a.eval x).cells.toList,u.oneCell'=true)(jB:off+(a.eval x).cells.size<=cur.size):
  (execOp a.eval o).run P w=.ok .skip (w.setRow b (spl cur off (a.eval x).cells.toList)):=by
 have mM:=run_storeCells_at P b off T (a.eval x).cells.toList 0 cur w hh (by simpa using jB) gO;simp only[Nat.add_zero]at mM;have hnn: ¬((a.eval x).cells.size≠P.cellsOf t):=by rw[hU];simp
 unfold spl;simp only[execOp,ho,Sem.run_bind,had,Instr.storeAt,Instr.sureAddr,storeVar,Sem.run_pure,Result.andThen_ok,oH (dM dX) w,if_neg hnn,mM]
theorem a1H{a:Act}{w:World}{o:Oper}{t e:TypeId}{x i:Operand}(ho:o.op=.indexAddr t x i)(hu:P.underlying t=some (.slice e)){b n cap k:Nat}{kd:IntKind}(hx:a.eval x=.slice (some ⟨b,0,none⟩) n cap)(hi:a.eval i=.int kd (k:Int))(hk:k<n)(hs:0<P.cellsOf e):
  (execOp a.eval o).run P w=.ok (.value (.pointer (some ⟨b,k*P.cellsOf e,none⟩))) w:=by
 have hso:=oH (dM (P:=P) (t:=e) (by omega)) w;have hkn: ¬(n<=k):=by omega
 simp[execOp,ho,hx,hi,Instr.indexAt,run_underlying hu,asIntOf,hk,hso,kG]
theorem a9T{base:cN}{R:Nat->Nat->Prop}{μ:Nat->Nat}{a:Act}{w:World}(hr:Rel P G base R μ st a w){t ty e:TypeId}(rK:eY P e=true)(hu:P.underlying t=some (.slice e)){i:Tmp}{x:Operand}{xs:List (List D)}{z0:List D}{dP:List (TypeId×List Loc)}(hsx:st.eval G (.tmp i)=.d (.sl xs))(htk:eV (.t i) st.own=some (e,dP))(hlx:∀c∈xs,c.length=P.cellsOf e)(hx:st.eval G x=.d (.sl [z0]))(hz0:z0.length=P.cellsOf e)(hbd:(xs.length+1)*(P.bytesOf e+1)<=140737488355328):
  ∃g cap a1d w1,(Builtin.append_ #[t,t] ty #[a.eval (.tmp i),a.eval x]).run P w=.ok (.slice (some ⟨g,0,none⟩) (xs.length+1) cap) w1/\w1.heap[g]? =some (.cells a1d e (0,0))/\xs.length*P.cellsOf e+P.cellsOf e<=a1d.size/\
   (∀k o,getKey k st.H=some o->μ k≠g/\w1.heap[μ k]? =w.heap[μ k]?)/\
   ∀(news:List Value) (c:List D),news.length=P.cellsOf e->c.length=P.cellsOf e->(∀u∈news,u.oneCell'=true)->(∀(j:Nat) (d:D),c[j]? =some d->d.one=true/\∃v,news[j]? =some v/\V R w v d)->
    ∃R1,Rel P G base R1 μ {st with own:=dP} a (w1.setRow g (spl a1d (xs.length*P.cellsOf e) news))/\V R1 (w1.setRow g (spl a1d (xs.length*P.cellsOf e) news)) (.slice (some ⟨g,0,none⟩) (xs.length+1) cap) (.sl (xs++[c]))/\
     a3n P base R1 μ {st with own:=dP} a (w1.setRow g (spl a1d (xs.length*P.cellsOf e) news)) (.slice (some ⟨g,0,none⟩) (xs.length+1) cap) (.fresh e)/\Step base R w R1 (w1.setRow g (spl a1d (xs.length*P.cellsOf e) news)):=by
 obtain⟨ti,z,hi,tZ,a6c,a0V,hz,hzs⟩:=wQ rK;have hb1:xs.length+1<=140737488355328:=by rw[Nat.mul_add]at hbd;omega
 have hb2:(xs.length+1)*P.bytesOf e<=140737488355328:=by rw[Nat.mul_add]at hbd;omega
 obtain⟨ao2,d4w,hv2,a5C⟩:=b4M (ys:=[z0]) hr (by rw[hx];rfl);obtain⟨b2,d4x,e3b,rfl,q1,q2,q3⟩:=a5C (by simp);have e6I:e3b=P.cellsOf e:=by rw[<-q2 z0 (.head _),hz0]
 subst e6I;obtain⟨n0,m1,m2,m3,m4⟩:=a7b q2 q3;simp only[List.length_singleton,Nat.one_mul]at m1 hv2;obtain⟨eK,v0,vs,hv0,kF,a1t,pF,xE⟩:=hr.eV htk;have hsv:a.eval (.tmp i)=v0:=by
  refine hv0 _ ?_
  show a.tmps[i]? =some (a.tmps.getD i undef)
  by_cases hs:i<a.tmps.size
  .simp[hs]
  .have h3: ¬i<st.tmps.length:=by rw[<-hr.size];exact hs
   simp[St.eval,List.getD,List.getElem?_eq_none (Nat.le_of_not_lt h3)]at hsx
 have hV:=hr.jI hsx;have aI:∀k o,getKey k st.H=some o->μ k<w.heap.size:=λk o hk=>(hr.gM k o hk).2.2.lt;have b3N:∀(olds:List Value) (old:Nat),olds.length=xs.length*P.cellsOf e->(∀(i j:Nat) (c:List D) (d:D),xs[i]? =some c->c[j]? =some d->d.one=true/\∃v,olds[i*P.cellsOf e+j]? =some v/\V R w v d)->
   (Builtin.append_ #[t,t] ty #[a.eval (.tmp i),a.eval x]).run P w=.ok (.slice (some ⟨w.heap.size,0,none⟩) (xs.length+1) (grownCap w (xs.length+1) old e)) (w.drew.alloc (.cells (olds.toArray++n0.toArray++Builtin.zeroCells z.cells (grownCap w (xs.length+1) old e-(xs.length+1))) e))->
   ∃g cap a1d w1,(Builtin.append_ #[t,t] ty #[a.eval (.tmp i),a.eval x]).run P w=.ok (.slice (some ⟨g,0,none⟩) (xs.length+1) cap) w1/\w1.heap[g]? =some (.cells a1d e (0,0))/\xs.length*P.cellsOf e+P.cellsOf e<=a1d.size/\
   (∀k o,getKey k st.H=some o->μ k≠g/\w1.heap[μ k]? =w.heap[μ k]?)/\
   ∀(news:List Value) (c:List D),news.length=P.cellsOf e->c.length=P.cellsOf e->(∀u∈news,u.oneCell'=true)->(∀(j:Nat) (d:D),c[j]? =some d->d.one=true/\∃v,news[j]? =some v/\V R w v d)->
    ∃R1,Rel P G base R1 μ {st with own:=dP} a (w1.setRow g (spl a1d (xs.length*P.cellsOf e) news))/\V R1 (w1.setRow g (spl a1d (xs.length*P.cellsOf e) news)) (.slice (some ⟨g,0,none⟩) (xs.length+1) cap) (.sl (xs++[c]))/\
     a3n P base R1 μ {st with own:=dP} a (w1.setRow g (spl a1d (xs.length*P.cellsOf e) news)) (.slice (some ⟨g,0,none⟩) (xs.length+1) cap) (.fresh e)/\Step base R w R1 (w1.setRow g (spl a1d (xs.length*P.cellsOf e) news)):=by
  intro olds old ho1 ho2 cD;refine⟨w.heap.size,_,_,_,cD,heap_alloc_new w.drew _,?_,λk o hk=>⟨by have:=aI k o hk;omega,Below.heap_alloc w.drew _ _ (aI k o hk)⟩,?_⟩
  .simp only[Array.size_append,List.size_toArray,ho1,m1];omega
  .intro news c hn hc h1 hcn;have hsp:spl (olds.toArray++n0.toArray++Builtin.zeroCells z.cells (grownCap w (xs.length+1) old e-(xs.length+1))) (xs.length*P.cellsOf e) news=olds.toArray++news.toArray++Builtin.zeroCells z.cells (grownCap w (xs.length+1) old e-(xs.length+1)):=by have:=d4v olds n0 (Builtin.zeroCells z.cells (grownCap w (xs.length+1) old e-(xs.length+1))).toList news (by rw[hn,m1]);rw[ho1]at this;simpa using this
   rw[hsp];have hal:=b6F w.drew (olds.toArray++n0.toArray++Builtin.zeroCells z.cells (grownCap w (xs.length+1) old e-(xs.length+1))) (olds.toArray++news.toArray++Builtin.zeroCells z.cells (grownCap w (xs.length+1) old e-(xs.length+1))) e;have hhs:w.drew.heap.size=w.heap.size:=rfl;rw[hhs]at hal;rw[hal];obtain⟨R',n1,n2,n3,n4⟩:=a6d eK (e:=e) (z:=z) a0V hzs (xs:=xs) (ys:=[c]) (olds:=olds) (news:=news) old (by unfold maxLen;simp;omega) hlx (by simpa using hc) ho1 (by simpa using hn) ho2 (λi j c' d hi hj=>by
    cases i with
    |zero=>simp at hi;subst hi;simpa using hcn j d hj
    |succ i=>simp at hi) _ rfl
   exact⟨R',n1,n3,n4,n2⟩
 have b0l:xs=[]->(∃ao,v0=.slice ao 0 0)->_:=λhx0 ⟨ao,hao⟩=>b3N [] 0 (by rw[hx0];simp) (by rw[hx0];simp) (by
  rw[hsv,hao,hv2,hx0];cases ao with
  |none=>have:=run_append_nil (P:=P) w t ty e ti z hu hi hz ⟨b2,d4x,none⟩ 1 d4w n0 (by rw[m1,tZ,Nat.one_mul]) m2 (by omega) (by omega) (by rw[a6c];rw[hx0]at hb2;simp at hb2;omega);simpa using this
  |some b0=>have:=run_append_grow (P:=P) w t ty e ti z hu hi hz b0 0 0 [] (by simp) (by simp) ⟨b2,d4x,none⟩ 1 d4w n0 (by rw[m1,tZ,Nat.one_mul]) m2 (by omega) (by omega) (by rw[a6c];rw[hx0]at hb2;exact growslice_fits (by omega) (by simpa using hb2));simpa using this)
 rcases kF with⟨ao,rfl⟩|⟨g,n,cap,cur,rfl,hbg,hg,hnc,hcm,pR,hnR⟩
 .have hx0:xs=[]:=by obtain⟨ao',d2w,h1,_⟩:=hV.xH;rw[hsv]at h1;exact List.eq_nil_of_length_eq_zero (Value.slice.inj h1).2.1.symm
  exact b0l hx0 ⟨ao,rfl⟩
 .obtain⟨ao',d2w,h1,_,c7E⟩:=hV.xH;rw[hsv]at h1;cases h1;have holds:∃olds:List Value,olds.length=xs.length*P.cellsOf e/\(∀(j:Nat) (u:Value),olds[j]? =some u->w.cell? ((⟨g,0,none⟩:Addr).add j)=some u)/\
    ∀(i j:Nat) (c:List D) (d:D),xs[i]? =some c->c[j]? =some d->d.one=true/\∃v,olds[i*P.cellsOf e+j]? =some v/\V R w v d:=by
   by_cases hx0:xs=[]
   .subst hx0;exact⟨[],by simp,by simp,by simp⟩
   .obtain⟨b,o',size,hba,q1,q2,q3⟩:=c7E hx0;cases hba;have hU:size=P.cellsOf e:=by
     cases xs with
     |nil=>exact absurd rfl hx0
     |cons c l=>rw[<-q2 c (.head _),hlx c (.head _)]
    subst hU;obtain⟨olds,n1,n2,_,n4⟩:=a7b q2 q3;exact⟨olds,n1,n2,n4⟩
  obtain⟨olds,o1,o2,o3⟩:=holds;by_cases a3w:xs.length+1<=cap
  .have hmul:(xs.length+1)*P.cellsOf e<=cap*P.cellsOf e:=Nat.mul_le_mul_right _ a3w;have d7i:xs.length*P.cellsOf e+P.cellsOf e<=cur.size:=by rw[pR];rw[Nat.add_mul,Nat.one_mul]at hmul;exact hmul
   have jB:xs.length*P.cellsOf e+n0.length<=cur.size:=by rw[m1];exact d7i
   have cD:=run_append_room (P:=P) w t ty e ti hu hi g xs.length cap cur hg ⟨b2,d4x,none⟩ 1 d4w n0 (by rw[m1,tZ,Nat.one_mul]) m2 m3 a3w (by rw[tZ];exact jB);rw[tZ]at cD;have a5C:(Builtin.append_ #[t,t] ty #[a.eval (.tmp i),a.eval x]).run P w=.ok (.slice (some ⟨g,0,none⟩) (xs.length+1) cap) (w.setRow g (spl cur (xs.length*P.cellsOf e) n0)):=by rw[hsv,hv2];exact cD
   have b0m:bF (.slice (some ⟨g,0,none⟩) xs.length cap)=some g:=by simp[bF];omega
   have e3c:∀k o,getKey k st.H=some o->μ k≠g:=λk o hk he=>a1t k o hk (by rw[b0m,he]);refine⟨g,cap,_,_,a5C,setRow_heap w g cur _ e _ hg,?_,λk o hk=>⟨e3c k o hk,setRow_other w g _ _ (e3c k o hk)⟩,?_⟩
   .rw[b1Z jB];exact d7i
   .intro news c hn hc h1n hcn;have hnl:news.length=n0.length:=by rw[hn,m1]
    rw[d4u jB hnl,setRow_setRow];have d7j:xs.length*P.cellsOf e+news.length<=cur.size:=by rw[hnl];exact jB
    generalize b8C:spl cur (xs.length*P.cellsOf e) news=cur';have a2Y:∀k,cur'[k]? =if k<xs.length*P.cellsOf e then cur[k]? else if k<xs.length*P.cellsOf e+news.length then news[k-xs.length*P.cellsOf e]? else cur[k]? :=λk=>by rw[<-b8C];exact a7A d7j k
    obtain⟨p1,p2,p3⟩:=eK.c3z (g:=g) (n:=xs.length) (m:=1) (s:=P.cellsOf e) (cur':=cur') (λk o' hk he=>a1t k o' hk (by rw[b0m,he])) pF (λv' yA hsp=>(xE v' yA).1 g b0m hsp) hbg hg hnR (λoff c4W=>by rw[a2Y,if_pos c4W]);have d7k:(w.setRow g cur').heap[g]? =some (.cells cur' e (0,0)):=setRow_heap w g cur _ e _ hg;have c7C:cur'.size=cap*P.cellsOf e:=by rw[<-b8C,b1Z d7j,pR]
    refine⟨_,p1,?_,?_,p2⟩
    .have hly:∀c'∈[c],c'.length=P.cellsOf e:=by simpa using hc
     have mY:∀(i j:Nat) (c':List D) (d:D),(xs++[c])[i]? =some c'->c'[j]? =some d->d.one=true/\∃v,(w.setRow g cur').cell? ⟨g,0+i*P.cellsOf e+j,none⟩=some v/\V R w v d:=λi j c' d hi' hj=>by
      rw[Nat.zero_add,cell_of_row _ _ _ cur' e (0,0) d7k,a2Y];by_cases tT:i<xs.length
      .rw[f2Y tT]at hi';obtain⟨w1,v,w2,w3⟩:=o3 i j c' d hi' hj;have aI:=(f2O.1 w2).1;have b1o:=o2 _ v w2;rw[kG,Nat.zero_add,cell_of_row _ _ _ cur e (0,0) hg]at b1o;rw[if_pos (by omega)];exact⟨w1,v,b1o,w3⟩
      .rw[f2V (by omega)]at hi';have hi0:i=xs.length:=by have:=(f2O.1 hi').1;simp at this;omega
       subst hi0;simp at hi';subst hi';obtain⟨w1,v,w2,w3⟩:=hcn j d hj;have aI:=(f2O.1 w2).1;rw[if_neg (by omega),if_pos (by omega),Nat.add_sub_cancel_left];exact⟨w1,v,w2,w3⟩
     refine .sl g 0 _ cap (P.cellsOf e) _ (λi j=>((w.setRow g cur').cell? ⟨g,0+i*P.cellsOf e+j,none⟩).getD undef) (by simp) a3w a0V (λc' xA=>by simp at xA;rcases xA with xA|xA;exact hlx c' xA;exact hly c' (by simpa using xA)) (λi j hi' hj=>⟨.inr ⟨rfl,?_⟩,?_⟩) (λi j c' d hi' hj=>(mY i j c' d hi' hj).1) (λi j c' d hi' hj=>?_)
     .have:(i+1)*P.cellsOf e<=(xs.length+1)*P.cellsOf e:=Nat.mul_le_mul_right _ (by omega);rw[Nat.add_mul]at this;omega
     .have tT:i<(xs++[c]).length:=by simp;omega
      have hei:=f2R tT;have xU:j<((xs++[c])[i]).length:=by
       have hm:(xs++[c])[i]∈xs++[c]:=List.getElem_mem tT;rw[List.mem_append]at hm;rcases hm with hm|hm
       .rw[hlx _ hm];exact hj
       .rw[hly _ hm];exact hj
      obtain⟨_,v,hv,_⟩:=mY i j _ _ hei (f2R xU);rw[hv];rfl
     .obtain⟨_,v,hv,hvd⟩:=mY i j c' d hi' hj;rw[hv];exact hvd.bK p2
    .refine⟨.inr ⟨g,_,cap,cur',rfl,hbg,d7k,a3w,hcm,c7C,λoff c4W hR=>?_⟩,λk o' hk=>by have:=a1t k o' hk;rw[b0m]at this;simpa[bF,show cap≠0 by omega]using this,vs,p3,λv' yA=>?_⟩
     .rcases hR with hR|⟨_,hR⟩
      .have:xs.length*P.cellsOf e<=(xs.length+1)*P.cellsOf e:=Nat.mul_le_mul_right _ (by omega);exact hnR off (by omega) hR
      .omega
     .have c7F:bF (.slice (some ⟨g,0,none⟩) (xs.length+1) cap)=some g:=by simp[bF];omega
      exact⟨λg' hg' c1I=>(xE v' yA).1 g' (by rw[b0m, <- c7F];exact hg') c1I,λg' hg' c1I=>(xE v' yA).2 g' hg' (by rw[b0m, <- c7F];exact c1I)⟩
  .refine b3N olds cap o1 o3 ?_;rw[hsv,hv2];exact run_append_grow (P:=P) w t ty e ti z hu hi hz ⟨g,0,none⟩ xs.length cap olds (by rw[o1,tZ]) o2 ⟨b2,d4x,none⟩ 1 d4w n0 (by rw[m1,tZ,Nat.one_mul]) m2 (by omega) (by omega) (by rw[a6c];exact growslice_fits (by omega) hb2)
abbrev tl2(s:St)(dP:List (TypeId×List Loc))(e:TypeId)(r p:Tmp)(xs:List (List D))(c:List D):St:=finish (finish {s with own:=dP} (some r) (.d (.sl (xs++[c]))) (.fresh e)) (some p) .undef .no
theorem cX{ops:Array Oper}{Q:Exit->Act->World->Prop}{i:Nat}{K:Act->World->Prop}{a a':Act}{w w':World}{o:Oper}(ho:ops[i]? =some o)(hg:o.guard=none){v:Value}(cD:(execOp a.eval o).run P w=.ok (.value v) w'\/((execOp a.eval o).run P w=.ok .skip w'/\v=Go.undef))(ha:a.put o.dst v=a')(h:K a' w'):wpOp P ops Q i K a w:=by
 unfold wpOp;rw[ho];have hw:∀y,Region.wanted o y=true:=λy=>by unfold Region.wanted;rw[hg]
 simp only[hw,if_true];left;unfold Oper.wp;rcases cD with h1|⟨h1,rfl⟩
 .rw[h1]
  show K (a.put o.dst v) w'
  rw[ha];exact h
 .rw[h1]
  show K (a.put o.dst Go.undef) w'
  rw[ha];exact h
theorem d4y{ops:Array Oper}{i0 i1 i2 i3:Nat}{L0:Array Bool}{t e:TypeId}{s z r p q x b:Tmp}{y0 y1 y2 y3:TypeId}{p0 p1 p2 p3:String}{f0 f1 f2 f3:Array Edge}{xs:List (List D)}{z0 c:List D}{dP:List (TypeId×List Loc)}{out:Out}{Q:St->Prop}{QQ:Exit->Act->World->Prop}(h0:ops[i0]? =some ⟨some r,.call {callee:=.builtin .append,args:=#[.tmp s,.tmp z],argTypes:=#[t,t]},y0,p0,f0,none⟩)(h1:ops[i1]? =some ⟨some p,.indexAddr t (.tmp r) (.tmp q),y1,p1,f1,none⟩)(h2:ops[i2]? =some ⟨none,.store e (.tmp p) (.tmp x),y2,p2,f2,none⟩)(h3:ops[i3]? =some ⟨none,.store t (.tmp b) (.tmp r),y3,p3,f3,none⟩)(r0:Region.ready .any ops L0=[i0])(r1:Region.ready .any ops (L0.setIfInBounds i0 true)=[i1,i3])(r2:Region.ready .any ops ((L0.setIfInBounds i0 true).setIfInBounds i1 true)=[i2,i3])(r3:Region.ready .any ops ((L0.setIfInBounds i0 true).setIfInBounds i3 true)=[i1])(r4:Region.ready .any ops (((L0.setIfInBounds i0 true).setIfInBounds i1 true).setIfInBounds i2 true)=[i3])(r5:Region.ready .any ops (((L0.setIfInBounds i0 true).setIfInBounds i1 true).setIfInBounds i3 true)=[i2])(r6:Region.ready .any ops (((L0.setIfInBounds i0 true).setIfInBounds i3 true).setIfInBounds i1 true)=[i2])(r7:Region.ready .any ops ((((L0.setIfInBounds i0 true).setIfInBounds i1 true).setIfInBounds i2 true).setIfInBounds i3 true)=[])(r8:Region.ready .any ops ((((L0.setIfInBounds i0 true).setIfInBounds i1 true).setIfInBounds i3 true).setIfInBounds i2 true)=[])(r9:Region.ready .any ops ((((L0.setIfInBounds i0 true).setIfInBounds i3 true).setIfInBounds i1 true).setIfInBounds i2 true)=[])(rK:eY P e=true)(hu:P.underlying t=some (.slice e))(dX:(r≠q/\r≠x/\r≠p/\r≠b)/\p≠x/\p≠b)(aI:r<st.tmps.length/\p<st.tmps.length)(hsx:st.eval G (.tmp s)=.d (.sl xs))(htk:eV (.t s) st.own=some (e,dP))(hlx:∀c∈xs,c.length=P.cellsOf e)(hx:st.eval G (.tmp z)=.d (.sl [z0]))(hz0:z0.length=P.cellsOf e)(hbd:(xs.length+1)*(P.bytesOf e+1)<=140737488355328)(hq:st.eval G (.tmp q)=.d (.int .i64 (xs.length:Int)))(hxv:st.eval G (.tmp x)=.d (.agg c))(hc:c.length=P.cellsOf e)(mM:qE P G t (.tmp b) (.tmp r) (tl2 st dP e r p xs c)=some out)(hQ:Q out.st){base:cN}{R:Nat->Nat->Prop}{μ:Nat->Nat}{a:Act}{w:World}(hr:Rel P G base R μ st a w)(hk:∀s' a' w' R' μ',Q s'->Rel P G base R' μ' s' a' w'->Step base R w R' w'->QQ .normal a' w'):wpAny P .any ops QQ 4 L0 a w:=by
 obtain⟨⟨n1,n2,n3,n4⟩,n5,n6⟩:=dX;obtain⟨l1,l2⟩:=aI;have hU:=hr.size;obtain⟨_,_,_,_,_,a0V,_,_⟩:=wQ rK;obtain⟨g,cap,a1d,w1,e0,hg,jB,d9N,b4N⟩:=a9T (ty:=y0) hr rK hu (x:=.tmp z) hsx htk hlx hx hz0 hbd;obtain⟨pc,hpc,a8J,b9H⟩:=(hr.jI hxv).a1W;have gO:∀u∈pc.toList,u.oneCell'=true:=λu hu=>by
  obtain⟨j,hj⟩:=f3e hu;have xU:j<c.length:=by rw[<-a8J];simpa using (f2O.1 hj).1
  obtain⟨k1,k2⟩:=b9H j c[j] (by simp[xU]);have:pc.getD j Go.undef=u:=by
   have:pc[j]? =some u:=by simpa using hj
   simp[f2P,this]
  rw[this]at k2;exact k2.a6V k1
 obtain⟨R1,hr1,hV1,hA1,hs1⟩:=b4N pc.toList c (by simpa[a8J]using hc) hc gO (λj d hj=>by
  obtain⟨k1,k2⟩:=b9H j d hj;have xU:j<pc.size:=by rw[a8J];exact(f2O.1 hj).1
  refine⟨k1,pc[j],by simp[xU],?_⟩;simpa[f2P,xU]using k2)
 generalize hvS:(Value.slice (some ⟨g,0,none⟩) (xs.length+1) cap)=vS at *;generalize c8R:spl a1d (xs.length*P.cellsOf e) pc.toList=a8K at *;have hra:r<a.tmps.size:=by rw[hU];exact l1
 have hpa:p<a.tmps.size:=by rw[hU];exact l2
 have d9P:=hr1.put (dst:=some r) (.d _ _ hV1) hA1;have hr2:=d9P.put (dst:=some p) (v:=.pointer (some ⟨g,xs.length*P.cellsOf e,none⟩)) (act:=.no) (.undef _) trivial;generalize ha1:a.put (some r) vS=a1 at *;generalize ha2:a1.put (some p) (.pointer (some ⟨g,xs.length*P.cellsOf e,none⟩))=a2 at *;have z1:a1.tmps.size=a.tmps.size:=by rw[<-ha1];exact size_put _ _ _
 have v1r:a1.eval (.tmp r)=vS:=by rw[<-ha1];exact dB _ _ hra
 have v1q:a1.eval (.tmp q)=a.eval (.tmp q):=by rw[<-ha1];exact bQ _ _ (Ne.symm n1)
 have v1x:a1.eval (.tmp x)=a.eval (.tmp x):=by rw[<-ha1];exact bQ _ _ (Ne.symm n2)
 have v1b:a1.eval (.tmp b)=a.eval (.tmp b):=by rw[<-ha1];exact bQ _ _ (Ne.symm n4)
 have v2p:a2.eval (.tmp p)=.pointer (some ⟨g,xs.length*P.cellsOf e,none⟩):=by rw[<-ha2];exact dB _ _ (z1.symm▸hpa)
 have v2x:a2.eval (.tmp x)=.agg pc:=by rw[<-ha2,bQ _ _ (Ne.symm n5),v1x,hpc]
 have v2r:a2.eval (.tmp r)=vS:=by rw[<-ha2,bQ _ _ n3];exact v1r
 have v2b:a2.eval (.tmp b)=a.eval (.tmp b):=by rw[<-ha2,bQ _ _ (Ne.symm n6)];exact v1b
 have a3U:=mM;unfold qE at a3U;split at a3U;rotate_left
 .cases a3U
 rename_i kb off ys hb hys;split at a3U;rotate_left
 .cases a3U
 rename_i cs hkb;split at a3U;rotate_left
 .cases a3U
 rename_i hcd
 clear a3U
 have hHs:(tl2 st dP e r p xs c).H=st.H:=rfl;rw[hHs]at hkb;have hb':a2.eval (.tmp b)=.pointer (some ⟨μ kb,off,none⟩):=hr2.dA hb;have d9S:ys.length=1:=by
  have:(tl2 st dP e r p xs c).eval G (.tmp r)=.d (.sl (xs++[c])):=by simp[St.eval,finish,List.getD,l1,List.getElem?_set,Ne.symm n3]
  rw[this]at hys;simp only[sT,D.cells,List.map_cons,List.map_nil,f2T]at hys;rw[<-hys];rfl
 obtain⟨_,_,vs0,T0,hh0,d9T,_⟩:=hr.gM kb _ hkb;obtain⟨hbg,d9U⟩:=d9N kb _ hkb;have hvc:vS.cells=#[vS]:=by rw[<-hvS];rfl
 have hvo:vS.oneCell'=true:=by rw[<-hvS];rfl
 have hob:w1.heap[μ kb]? =some (.cells vs0 T0 (0,0)):=d9U.trans hh0;generalize hX:spl vs0 off [vS]=X;have E0:(execOp a.eval ⟨some r,.call {callee:=.builtin .append,args:=#[.tmp s,.tmp z],argTypes:=#[t,t]},y0,p0,f0,none⟩).run P w=.ok (.value vS) w1:=by simp[execOp,resolve,invoke,builtin,e0]
 have E1:∀w',(execOp a1.eval ⟨some p,.indexAddr t (.tmp r) (.tmp q),y1,p1,f1,none⟩).run P w'=.ok (.value (.pointer (some ⟨g,xs.length*P.cellsOf e,none⟩))) w':=λw'=>a1H rfl hu (v1r.trans hvS.symm) (v1q.trans (hr.tX hq)) (by omega) a0V
 have E2:∀w':World,w'.heap[g]? =some (.cells a1d e (0,0))->(execOp a2.eval ⟨none,.store e (.tmp p) (.tmp x),y2,p2,f2,none⟩).run P w'=.ok .skip (w'.setRow g a8K):=λw' hw'=>by have:=rV (P:=P) (a:=a2) (w:=w') (o:=⟨none,.store e (.tmp p) (.tmp x),y2,p2,f2,none⟩) rfl v2p hw' (by rw[v2x];show pc.size=_;rw[a8J,hc]) (by omega) (by rw[v2x];exact gO) (by rw[v2x];show _+pc.size<=_;rw[a8J,hc];exact jB);rw[v2x]at this;have mO:(Value.agg pc).cells=pc:=rfl;rw[mO,c8R]at this;exact this
 have E3:∀(ax:Act) (w':World),ax.eval (.tmp b)=.pointer (some ⟨μ kb,off,none⟩)->ax.eval (.tmp r)=vS->w'.heap[μ kb]? =some (.cells vs0 T0 (0,0))->(execOp ax.eval ⟨none,.store t (.tmp b) (.tmp r),y3,p3,f3,none⟩).run P w'=.ok .skip (w'.setRow (μ kb) X):=λax w' hb1 hr1 hw'=>by have:=rV (P:=P) (a:=ax) (w:=w') (o:=⟨none,.store t (.tmp b) (.tmp r),y3,p3,f3,none⟩) rfl hb1 hw' (by rw[hr1,hvc, <- hcd.1,d9S];rfl) (by omega) (by rw[hr1,hvc];simpa using hvo) (by rw[hr1,hvc];show off+1<=_;rw[d9T];omega);rw[hr1,hvc]at this;have:(execOp ax.eval ⟨none,.store t (.tmp b) (.tmp r),y3,p3,f3,none⟩).run P w'=.ok .skip (w'.setRow (μ kb) (spl vs0 off [vS])):=this;rw[hX]at this;exact this
 have hb1:a1.eval (.tmp b)=.pointer (some ⟨μ kb,off,none⟩):=by rw[v1b, <- v2b];exact hb'
 have hgX:(w1.setRow (μ kb) X).heap[g]? =some (.cells a1d e (0,0)):=(setRow_other w1 (μ kb) g _ (Ne.symm hbg)).trans hg;have hbX:(w1.setRow g a8K).heap[μ kb]? =some (.cells vs0 T0 (0,0)):=(setRow_other w1 g (μ kb) _ hbg).trans hob;have b5i:(w1.setRow (μ kb) X).setRow g a8K=(w1.setRow g a8K).setRow (μ kb) X:=a9S w1 hbg X a8K;have yH:QQ .normal a2 ((w1.setRow g a8K).setRow (μ kb) X):=by
  obtain⟨v,w',R',μ',cD,hr3,_,_,hs3⟩:=a4C (o:=⟨none,.store t (.tmp b) (.tmp r),y3,p3,f3,none⟩) rfl mM base R1 μ a2 _ hr2;rw[E3 a2 _ hb' v2r hbX]at cD;rcases cD with cD|⟨cD,_⟩
  .cases cD
  .cases cD;exact hk out.st a2 _ R' μ' hQ hr3 (hs1.trans hs3)
 refine wpAny_all r0 (by simp) λi hi=>?_;simp only[f2U]at hi;subst hi;refine cX h0 rfl (.inl E0) ha1 ?_;refine wpAny_all r1 (by simp) λj hj=>?_;simp only[List.mem_cons,List.not_mem_nil,or_false]at hj;rcases hj with rfl|rfl
 .refine cX h1 rfl (.inl (E1 w1)) ha2 ?_;refine wpAny_all r2 (by simp) λj hj=>?_;simp only[List.mem_cons,List.not_mem_nil,or_false]at hj;rcases hj with rfl|rfl
  .refine cX h2 rfl (.inr ⟨E2 w1 hg,rfl⟩) rfl ?_;refine wpAny_all r4 (by simp) λj hj=>?_;simp only[f2U]at hj;subst hj;exact cX h3 rfl (.inr ⟨E3 a2 _ hb' v2r hbX,rfl⟩) rfl (wpAny_done r7 yH _)
  .refine cX h3 rfl (.inr ⟨E3 a2 _ hb' v2r hob,rfl⟩) rfl ?_;refine wpAny_all r5 (by simp) λj hj=>?_;simp only[f2U]at hj;subst hj;exact cX h2 rfl (.inr ⟨E2 _ hgX,rfl⟩) rfl (wpAny_done r8 (by rw[b5i];exact yH) _)
 .refine cX h3 rfl (.inr ⟨E3 a1 _ hb1 v1r hob,rfl⟩) rfl ?_;refine wpAny_all r3 (by simp) λj hj=>?_;simp only[f2U]at hj;subst hj;refine cX h1 rfl (.inl (E1 _)) ha2 ?_;refine wpAny_all r6 (by simp) λj hj=>?_;simp only[f2U]at hj;subst hj;exact cX h2 rfl (.inr ⟨E2 _ hgX,rfl⟩) rfl (wpAny_done r9 (by rw[b5i];exact yH) _)
end
end Go.VM
end
section
namespace Go.VM
open Go Go.RowKit
section
variable {P:Program} {G:GT} {st:St} {Q:Exit->St->Prop}
theorem SW.d9W{id:Nat}{c:Code}(h:SW P G c st λe s=>match e with
  | .exit id'=>if id'=id then Q .normal s else Q (.exit id') s
  |e=>Q e s):SW P G (.block id c) st Q:=λbase R μ a w hr=>wp_block (wp_mono (h base R μ a w hr) λe a1 w1 ⟨s,R1,μ1,q1,q2,q3⟩=>by
   cases e with
   |exit id'=>
    simp only[Exit.inBlock];simp only at q1;by_cases hid:id'=id
    .rw[if_pos hid]at q1|-;exact⟨s,R1,μ1,q1,q2,q3⟩
    .rw[if_neg hid]at q1|-;exact⟨s,R1,μ1,q1,q2,q3⟩
   |_=>exact⟨s,R1,μ1,q1,q2,q3⟩)
theorem SW.e8H{c:Code}{ι:Type}(ws:ι->List (Nat×DV))(H:ι->List (Nat×aW))(own:ι->List (TypeId×List Loc))(m:ι->Nat)(x0:ι)(h0:yF st (oI c st (ws x0) (H x0) (own x0)))(round:∀x,SW P G c (oI c st (ws x) (H x) (own x)) λe s=>match e with
   | .normal=>bJ (λy=>oI c st (ws y) (H y) (own y)) m x s
   |e=>Q e s):SW P G (.loop c) st Q:=by
 intro base R μ a w hr;refine wp_loop_ghost (λn a1 w1=>∃x R1 μ1,m x=n/\Rel P G base R1 μ1 (oI c st (ws x) (H x) (own x)) a1 w1/\Step base R w R1 w1) (m x0) ⟨x0,R,μ,rfl,hr.a0X h0,.refl _ _ _⟩ ?_;rintro n a1 w1 ⟨x,R1,μ1,rfl,hr1,hs1⟩;refine wp_mono (round x base R1 μ1 a1 w1 hr1) λe a2 w2 ⟨s,R2,μ2,q,hr2,hs2⟩=>?_;cases e with
 |normal=>simp only at q;unfold bJ at q;obtain⟨y,hy,aI⟩:=q;exact⟨m y,aI,y,R2,μ2,rfl,hr2.a0X hy,hs1.trans hs2⟩
 |_=>exact⟨s,R2,μ2,q,hr2,hs1.trans hs2⟩
theorem c2o{all:Array Oper}{rest:List Oper}{T:St->Prop}(h:VK P G [.ops true all rest] .normal st λ_ s=>T s):sE P G true all rest st T:=by simp only[VK]at h;exact h
def d9X(P:Program)(G:GT)(t e:TypeId)(s z r p q x b:Tmp)(Q:St->Prop)(st:St):Prop:=
 ∃(xs:List (List D)) (z0 c:List D) (dP:List (TypeId×List Loc)) (out:Out),(r<st.tmps.length/\p<st.tmps.length)/\st.eval G (.tmp s)=.d (.sl xs)/\eV (.t s) st.own=some (e,dP)/\(∀c∈xs,c.length=P.cellsOf e)/\st.eval G (.tmp z)=.d (.sl [z0])/\z0.length=P.cellsOf e/\
  (xs.length+1)*(P.bytesOf e+1)<=140737488355328/\st.eval G (.tmp q)=.d (.int .i64 (xs.length:Int))/\st.eval G (.tmp x)=.d (.agg c)/\c.length=P.cellsOf e/\qE P G t (.tmp b) (.tmp r) (tl2 st dP e r p xs c)=some out/\Q out.st
def b5k(ops:Array Oper)(m:Nat):Bool:=
 let L:=oQ m ops.size
 decide (ops.size=m+4)&&(Region.ready .any ops L==[m])&&(Region.ready .any ops (L.setIfInBounds m true)==[m+1,m+3])&&(Region.ready .any ops ((L.setIfInBounds m true).setIfInBounds (m+1) true)==[m+2,m+3])&&(Region.ready .any ops ((L.setIfInBounds m true).setIfInBounds (m+3) true)==[m+1])&&
 (Region.ready .any ops (((L.setIfInBounds m true).setIfInBounds (m+1) true).setIfInBounds (m+2) true)==[m+3])&&(Region.ready .any ops (((L.setIfInBounds m true).setIfInBounds (m+1) true).setIfInBounds (m+3) true)==[m+2])&&(Region.ready .any ops (((L.setIfInBounds m true).setIfInBounds (m+3) true).setIfInBounds (m+1) true)==[m+2])&&
 (Region.ready .any ops ((((L.setIfInBounds m true).setIfInBounds (m+1) true).setIfInBounds (m+2) true).setIfInBounds (m+3) true)==[])&&(Region.ready .any ops ((((L.setIfInBounds m true).setIfInBounds (m+1) true).setIfInBounds (m+3) true).setIfInBounds (m+2) true)==[])&&(Region.ready .any ops ((((L.setIfInBounds m true).setIfInBounds (m+3) true).setIfInBounds (m+1) true).setIfInBounds (m+2) true)==[])
end
end Go.VM
end
section
namespace Go.VM
open Go Go.RowKit
section
variable {P:Program} {G:GT} {st:St}
theorem Rel.alias{base:cN}{R:Nat->Nat->Prop}{μ:Nat->Nat}{a:Act}{w:World}(hr:Rel P G base R μ st a w){t:Tmp}{k off:Nat}(hk:∃o,getKey k st.H=some o)(ht:t<a.tmps.size)(h:∀u,w.cell? ⟨μ k,off,none⟩=some u->u=a.eval (.tmp t)):
  Rel P G base R μ {st with own:=addAlias (.t t) (.c k off) st.own} a w:=by
 obtain⟨vs,pF⟩:=hr.own;refine⟨hr.defers,hr.size,hr.tmps,hr.gM,hr.inj,λc hc k' a3t hl=>?_,⟨vs,by simpa[addAlias]using pF.len,λi c v hc hv=>?_,pF.apart⟩,hr.tP,hr.pE,hr.base,hr.pass⟩
 .obtain⟨i,hi⟩:=f3e hc;obtain⟨c',xA,_,hm⟩:=tV hi;rcases hm _ hl with hx|⟨hx,_⟩
  .exact hr.dF c' (f2S xA) k' a3t hx
  .cases hx;exact hk
 .obtain⟨c',xA,he,hm⟩:=tV hc;have ho:=pF.one i c' v xA hv;refine⟨λl hl u hu=>?_,by rw[he];exact ho.own,ho.keys⟩;rcases hm l hl with hx|⟨rfl,hx⟩
  .exact ho.dF l hx u hu
  .have h1:=h u hu;have h2:bZ a w μ (.t t)=some (a.eval (.tmp t)):=by simp[bZ,Act.eval,ht]
   rw[h1];exact ho.dF _ hx _ h2
end
end Go.VM
end
section
namespace Go.VM
open Go Go.RowKit
section
variable {P:Program} {G:GT} {base:cN} {R:Nat->Nat->Prop} {μ:Nat->Nat} {st:St} {a:Act} {w:World}
theorem b6G{o:Oper}{e:TypeId}(ho:o.op=.alloc e){z:Value}(hz:(P.info? e).bind (·.zero)=some z):(execOp a.eval o).run P w=.ok (.value (.pointer (some ⟨w.heap.size,0,none⟩))) (w.alloc (.cells z.cells e)):=by obtain⟨i,hi,hz⟩:=f3b.1 hz;simp[execOp,ho,Instr.alloc,zeroValue,typeInfo,hi,hz,newVar,newRow]
theorem vU{o:Oper}{t u:TypeId}{x:Operand}{i fo:Nat}(ho:o.op=.fieldAddr t x i)(hf:aH P t i=some (fo,u))(dX:P.cellsOf u≠0){b off:Nat}(hx:a.eval x=.pointer (some ⟨b,off,none⟩)):
  (execOp a.eval o).run P w=.ok (.value (.pointer (some ⟨b,off+fo,none⟩))) w:=by
 obtain⟨fs,f,h1,h2,rfl,rfl⟩:=tY hf;obtain⟨ti,hti⟩:∃i,P.info? f.type=some i:=by
  cases hi:P.info? f.type with
  |none=>simp[Program.cellsOf,hi]at dX
  |some i=>exact⟨i,rfl⟩
 simp[execOp,ho,hx,Instr.fieldAt,run_underlying h1,h2,Instr.sureAddr,zC (w:=w) b off f hti dX]
end
end Go.VM
end
section
namespace Go.VM
open Go
section
variable {G:GT}
theorem c3U{P:Program}{id:Nat}{ops:Array Oper}{st:St}{Q:Exit->St->Prop}(hm:P.follows .mixedOrders=true)(h:b1r P G ops (λs=>Q .normal s) ops.size (Array.replicate ops.size false) st):SW P G (.region id ops true) st Q:=by intro base R μ a w hr;obtain⟨eK,oY⟩:=hr.drew;exact wp_region_any hm (b0K ops.size _ st h base R μ a w.drew eK λs a' w' R' μ' q1 q2 q3=>⟨s,R',μ',q1,q2,oY.trans q3⟩)
abbrev lst(l:List Nat):Array Bool:=l.foldl (λa i=>a.setIfInBounds i true) (Array.replicate 4 false)
def four(ops:Array Oper):Bool:=decide (ops.size=4)&&(Region.ready .any ops (lst [])==[0,1])&&(Region.ready .any ops (lst [0])==[1,2])&&(Region.ready .any ops (lst [1])==[0,3])&&(Region.ready .any ops (lst [0,1])==[2,3])&&(Region.ready .any ops (lst [1,0])==[2,3])
 &&(Region.ready .any ops (lst [0,2])==[1])&&(Region.ready .any ops (lst [1,3])==[0])&&(Region.ready .any ops (lst [0,1,2])==[3])&&(Region.ready .any ops (lst [0,1,3])==[2])&&(Region.ready .any ops (lst [1,0,2])==[3])&&(Region.ready .any ops (lst [1,0,3])==[2])&&(Region.ready .any ops (lst [0,2,1])==[3])&&(Region.ready .any ops (lst [1,3,0])==[2])
 &&(Region.ready .any ops (lst [0,1,2,3])==[])&&(Region.ready .any ops (lst [0,1,3,2])==[])&&(Region.ready .any ops (lst [1,0,2,3])==[])&&(Region.ready .any ops (lst [1,0,3,2])==[])&&(Region.ready .any ops (lst [0,2,1,3])==[])&&(Region.ready .any ops (lst [1,3,0,2])==[])
theorem e5j{P:Program}{id:Nat}{ops:Array Oper}{st:St}{Q:Exit->St->Prop}{o0 o1 o2 o3:Oper}(hm:P.follows .mixedOrders=true)(hB:four ops=true)(h0:ops[0]? =some o0)(h1:ops[1]? =some o1)(h2:ops[2]? =some o2)(h3:ops[3]? =some o3)(h:let V:=mE P G true ops
   let F:=λs=>Q .normal s
   V o0 (λs=>V o1 (λs=>V o2 (V o3 F) s/\V o3 (V o2 F) s) s/\V o2 (V o1 (V o3 F)) s) st/\V o1 (λs=>V o0 (λs=>V o2 (V o3 F) s/\V o3 (V o2 F) s) s/\V o3 (V o0 (V o2 F)) s) st):SW P G (.region id ops true) st Q:=by
 simp only[four,f2N,decide_eq_true_eq,beq_iff_eq,List.foldl_cons,List.foldl_nil]at hB;obtain⟨⟨⟨⟨⟨⟨⟨⟨⟨⟨⟨⟨⟨⟨⟨⟨⟨⟨⟨hU,r⟩,r0⟩,r1⟩,r01⟩,r10⟩,r02⟩,r13⟩,d9Y⟩,e6U⟩,d9Z⟩,e6V⟩,e0a⟩,e6W⟩,c8T⟩,e3i⟩,c8U⟩,e3j⟩,c8V⟩,e3k⟩:=hB;refine c3U hm ?_;rw[hU];simp only[b1r,r,r0,r1,r01,r10,r02,r13,d9Y,e6U,d9Z,e6V,e0a,e6W,c8T,e3i,c8U,e3j,c8V,e3k,h0,h1,h2,h3,List.forall_mem_cons,List.not_mem_nil,false_imp_iff,implies_true,and_true,true_and,reduceCtorEq];exact h
def three(ops:Array Oper):Bool:=decide (ops.size=4)&&(Region.ready .any ops (lst [])==[0,1])&&(Region.ready .any ops (lst [0])==[1,2])&&(Region.ready .any ops (lst [1])==[0])&&(Region.ready .any ops (lst [0,1])==[2])&&(Region.ready .any ops (lst [1,0])==[2])
 &&(Region.ready .any ops (lst [0,2])==[1])&&(Region.ready .any ops (lst [0,1,2])==[3])&&(Region.ready .any ops (lst [1,0,2])==[3])&&(Region.ready .any ops (lst [0,2,1])==[3])
 &&(Region.ready .any ops (lst [0,1,2,3])==[])&&(Region.ready .any ops (lst [1,0,2,3])==[])&&(Region.ready .any ops (lst [0,2,1,3])==[])
theorem b9I{P:Program}{id:Nat}{ops:Array Oper}{st:St}{Q:Exit->St->Prop}{o0 o1 o2 o3:Oper}(hm:P.follows .mixedOrders=true)(hB:three ops=true)(h0:ops[0]? =some o0)(h1:ops[1]? =some o1)(h2:ops[2]? =some o2)(h3:ops[3]? =some o3)(h:VK P G [.ops true ops [o0]] .normal st (λ_ s=>VK P G [.ops true ops [o1,o2,o3]] .normal s (λ_ s=>Q .normal s)/\VK P G [.ops true ops [o2,o1,o3]] .normal s (λ_ s=>Q .normal s))/\VK P G [.ops true ops [o1,o0,o2,o3]] .normal st (λ_ s=>Q .normal s)):SW P G (.region id ops true) st Q:=by simp only[VK]at h;simp only[three,f2N,decide_eq_true_eq,beq_iff_eq,List.foldl_cons,List.foldl_nil]at hB;obtain⟨⟨⟨⟨⟨⟨⟨⟨⟨⟨⟨⟨hU,r⟩,r0⟩,r1⟩,r01⟩,r10⟩,r02⟩,d9Y⟩,d9Z⟩,e0a⟩,c8T⟩,c8U⟩,c8V⟩:=hB;refine c3U hm ?_;rw[hU];simp only[b1r,r,r0,r1,r01,r10,r02,d9Y,d9Z,e0a,c8T,c8U,c8V,h0,h1,h2,h3,List.forall_mem_cons,List.not_mem_nil,false_imp_iff,implies_true,and_true,true_and,reduceCtorEq];exact h
end
end Go.VM
end
section
namespace Go.VM
open Go
section
variable {P:Program} {G:GT} {base:cN} {R:Nat->Nat->Prop} {μ:Nat->Nat} {st:St} {a:Act} {w:World}
def a1I(P:Program)(G:GT)(ops:Array Oper)(c:Nat)(Q:St->Prop):Nat->Array Bool->St->Prop
 |0,listed,st=>Region.ready .any ops listed=[]/\Q st
 |fuel+1,listed,st=>(Region.ready .any ops listed=[]->Q st)/\∀i∈Region.ready .any ops listed,match ops[i]? with
  |none=>a1I P G ops c Q fuel (listed.setIfInBounds i true) st
  |some o=>mE P G (i !=c) ops o (a1I P G ops c Q fuel (listed.setIfInBounds i true)) st
theorem a7B{ops:Array Oper}{c:Nat}{Q:St->Prop}{QQ:Exit->Act->World->Prop}:∀(fuel:Nat) (listed:Array Bool) (st:St),a1I P G ops c Q fuel listed st->∀(base:cN) (R:Nat->Nat->Prop) (μ:Nat->Nat) (a:Act) (w:World),Rel P G base R μ st a w->
  (∀s a' w' R' μ',Q s->Rel P G base R' μ' s a' w'->Step base R w R' w'->QQ .normal a' w')->wpAny P .any ops QQ fuel listed a w
 |0,_,st,h,base,R,μ,a,w,hr,hk=>⟨h.1,hk st a w R μ h.2 hr (.refl _ _ _)⟩
 |fuel+1,listed,st,h,base,R,μ,a,w,hr,hk=>by
  refine⟨λh0=>hk st a w R μ (h.1 h0) hr (.refl _ _ _),λi hi=>?_⟩;have h1:=h.2 i hi;unfold wpOp;split
  .rename_i ho;rw[ho]at h1;exact a7B fuel _ st h1 base R μ a w hr hk
  .rename_i o ho;rw[ho]at h1;exact qO h1 hr λs v w' R' μ' h' eK oY=>a7B fuel _ s h' base R' μ' _ w' eK λs a' w2 R2 μ2 q1 q2 q3=>hk s a' w2 R2 μ2 q1 q2 (oY.trans q3)
theorem c8W{id:Nat}{ops:Array Oper}{c:Nat}{Q:Exit->St->Prop}(hm:P.follows .mixedOrders=true)(h:a1I P G ops c (λs=>Q .normal s) ops.size (Array.replicate ops.size false) st):SW P G (.region id ops true) st Q:=by intro base R μ a w hr;obtain⟨eK,oY⟩:=hr.drew;exact wp_region_any hm (a7B ops.size _ st h base R μ a w.drew eK λs a' w' R' μ' q1 q2 q3=>⟨s,R',μ',q1,q2,oY.trans q3⟩)
theorem b9J{ops:Array Oper}{c:Nat}{Q:St->Prop}{i:Nat}{oi:Oper}(hA:oM ops)(hi:ops[i]? =some oi)(hic:i≠c)(hsi:(cO oi.op=true/\kI ops oi=false)\/oD oi=true):
  ∀(fuel:Nat) (listed:Array Bool) (st s:St),eB ops listed->
   (∀j oj,ops[j]? =some oj->j≠i->listed.getD j true=false->eZ ops ops.size j i=false->j≠c/\oi.apart ops oj=true/\pI ops oi oj=true)->
   i∈Region.ready .any ops listed->pK ops listed st->Eff P G ops oi st s->
   a1I P G ops c Q fuel (listed.setIfInBounds i true) s->a1I P G ops c Q (fuel+1) listed st:=by
 have qi:(i !=c)=true:=by simpa using hic
 intro fuel
 induction fuel with
 |zero=>
  intro listed st s _ _ hr _ hy H;refine⟨λh=>(by rw[h]at hr;cases hr),λj hj=>?_⟩;by_cases yD:j=i
  .subst yD;rw[hi,qi];exact(dC hsi).2 ⟨s,hy,H⟩
  .have:=ready_mono hj yD;rw[H.1]at this;cases this
 |succ fuel ih=>
  intro listed st s mO a0r hr hI hy H;refine⟨λh=>(by rw[h]at hr;cases hr),λj hj=>?_⟩;by_cases yD:j=i
  .subst yD;rw[hi,qi];exact(dC hsi).2 ⟨s,hy,H⟩
  .have h1:=H.2 j (ready_mono hj yD);obtain⟨vJ,oj,xI,cY⟩:=mem_ready.1 hj;rw[xI]at h1|-;simp only at h1|-;obtain⟨a0W,oi',b6t,a7i⟩:=mem_ready.1 hr;have a3b:eZ ops ops.size j i=false:=cS mO a0W _ _ λo ho=>by rw[xI]at ho;cases ho;exact cY
   obtain⟨hjc,xE,hpo⟩:=a0r j oj xI yD vJ a3b;have qj:(j !=c)=true:=by simpa using hjc
   rw[qj]at h1|-;have hsj:(cO oj.op=true/\kI ops oj=false)\/oD oj=true:=by
    by_cases hs:oD oj=true
    .exact .inr hs
    .refine .inl ⟨?_,?_⟩
     .unfold pI at hpo;simp only[oD,f2Z,f2N,Bool.not_eq_true']at hpo hs;rcases hpo with((((((h|h)|h)|h)|h)|h)|h)|h
      .exact h.1.2
      .exact absurd (.inl (.inl h.1.2)) hs
      .exact h.1.1.2
      .exact absurd (.inl (.inr h.2)) hs
      .exact h.1.2
      .exact absurd (.inl h.1.2) hs
      .exact absurd (.inr h.2) hs
      .exact(mF (G:=G) (st:=st) h.1.2).1
     .cases hx:kI ops oj with
      |false=>rfl
      |true=>
       have aI:i<ops.size:=(f2W.1 hi).1;rcases sZ hx xI aI (λe=>yD e.symm)with h'|h'
       .have:=cS mO vJ ops.size i λo ho=>by rw[b6t]at ho;cases ho;exact a7i
        rw[h']at this;cases this
       .rw[a3b]at h';cases h'
   obtain⟨s12,hu,hk⟩:=(dC hsj).1 h1;obtain⟨s2,e1,e2⟩:=a7h xE hpo (λhn d hd=>hI i oi d hi hn a0W hd) (λhn d hd=>hI j oj d xI hn vJ hd) hy hu;refine(dC hsj).2 ⟨s2,e1,?_⟩;refine ih (listed.setIfInBounds j true) s2 s12 (mO.set hj) (λk ok hk' hki hun sI=>?_) (ready_mono hr (Ne.symm yD)) (hI.step hA xI λk hf hn=>sK e1 hf hn) e2 ?_
   .exact a0r k ok hk' hki (rQ hun).2 sI
   .rw[Array.setIfInBounds_comm _ _ yD];exact hk
def a3f(P:Program)(G:GT)(ops:Array Oper)(c:Nat):List Nat->St->(St->Prop)->Prop
 |[],st,K=>K st
 |i::r,st,K=>match ops[i]? with
  |some o=>mE P G (i !=c) ops o (λs=>a3f P G ops c r s K) st
  |none=>False
def b2a(ops:Array Oper)(c:Nat)(listed:Array Bool)(i:Nat):Bool:=(Region.ready .any ops listed==[i])||((Region.ready .any ops listed).contains i&&(i !=c)&&(match ops[i]? with
 |none=>false
 |some oi=>((cO oi.op&& !kI ops oi)||oD oi)&&(List.range ops.size).all λj=>j==i||listed.getD j true||eZ ops ops.size j i||(j !=c&&(match ops[j]? with
  |some oj=>oi.apart ops oj&&pI ops oi oj
  |none=>true))))
def bY(l:List Nat)(x:Array Bool):Array Bool:=l.foldl (λx i=>x.setIfInBounds i true) x
def a7C(ops:Array Oper)(c:Nat):List Nat->Array Bool->Bool
 |[],_=>true
 |i::r,listed=>b2a ops c listed i&&a7C ops c r (listed.setIfInBounds i true)
theorem b5l{ops:Array Oper}(h:eA ops=[]){i:Nat}{o:Oper}{d:Tmp}(hi:ops[i]? =some o)(hn:dV o=true)(hd:o.dst=some d):False:=by have:d∈eA ops:=List.mem_filterMap.2 ⟨o,by rw[Array.mem_toList_iff];exact Array.mem_of_getElem? hi,by rw[if_pos hn];exact hd⟩;rw[h]at this;cases this
theorem a4L{ops:Array Oper}{c:Nat}{Q:St->Prop}(hN:eA ops=[]):∀(l:List Nat) (listed:Array Bool) (st:St) (fuel:Nat),eB ops listed->a7C ops c l listed=true->
  a3f P G ops c l st (a1I P G ops c Q fuel (bY l listed))->(eB ops (bY l listed)->True)->a1I P G ops c Q (l.length+fuel) listed st
 |[],listed,st,fuel,_,_,h,_=>by simpa[bY,a3f]using h
 |i::l,listed,st,fuel,mO,hB,h,_=>by
  have hA:oM ops:=λi j oi oj d hi _ hni _ hdi _=>(b5l hN hi hni hdi).elim;have hI:∀listed st,pK ops listed st:=λ_ _ j oj d hj hn _ hd=>(b5l hN hj hn hd).elim;simp only[a7C,f2N]at hB;obtain⟨hf,hB'⟩:=hB;simp only[a3f]at h;split at h;rotate_left
  .cases h
  rename_i o ho;have he:(i::l).length+fuel=l.length+fuel+1:=by simp only[List.length_cons];omega
  rw[he];unfold b2a at hf;rw[f2Z,beq_iff_eq]at hf;have hri:i∈Region.ready .any ops listed:=by
   rcases hf with hf|hf
   .rw[hf];exact f2U.2 rfl
   .simp only[f2N]at hf;simpa using hf.1.1
  have sB:∀s,a3f P G ops c l s (a1I P G ops c Q fuel (bY (i::l) listed))->a1I P G ops c Q (l.length+fuel) (listed.setIfInBounds i true) s:=λs hs=>a4L hN l _ s fuel (mO.set hri) hB' hs λ_=>trivial;rcases hf with hf|hf
  .refine⟨λh'=>(by rw[h']at hf;cases hf),λj hj=>?_⟩;rw[hf,f2U]at hj;subst hj;rw[ho];exact eN sB h
  .rw[ho]at hf;simp only[f2N,f2Z,Bool.not_eq_true',bne_iff_ne,ne_eq]at hf;obtain⟨⟨_,hic⟩,hsi,cY⟩:=hf;have qi:(i !=c)=true:=by simpa using hic
   rw[qi]at h;obtain⟨s,hd,hk⟩:=(dC hsi).1 h;refine b9J hA ho hic hsi _ listed st s mO (λj oj hj dX hun sI=>?_) hri (hI _ _) hd (sB s hk);rw[f2Q]at cY;have h1:=cY j (List.mem_range.2 (f2W.1 hj).1);simp only[hj,f2Z,beq_iff_eq,dX,false_or,hun,Bool.false_eq_true,sI,f2N,bne_iff_ne,ne_eq]at h1;exact h1
theorem c2p{ops:Array Oper}{c:Nat}{Q:St->Prop}{fuel:Nat}{listed:Array Bool}(h:Region.ready .any ops listed=[])(hq:Q st):a1I P G ops c Q fuel listed st:=by
 cases fuel with
 |zero=>exact⟨h,hq⟩
 |succ n=>exact⟨λ_=>hq,λi hi=>by rw[h]at hi;cases hi⟩
theorem rW{ops:Array Oper}{c:Nat}{K K':St->Prop}(hk:∀s,K s->K' s):∀(l:List Nat) (st:St),a3f P G ops c l st K->a3f P G ops c l st K'
 |[],st,h=>hk st h
 |i::r,st,h=>by
  simp only[a3f]at h|-;split at h
  .exact eN (λs hs=>rW hk r s hs) h
  .cases h
theorem eB.bY{ops:Array Oper}{c:Nat}:∀(l:List Nat) (listed:Array Bool),eB ops listed->a7C ops c l listed=true->eB ops (VM.bY l listed)
 |[],_,hc,_=>hc
 |i::r,listed,hc,hB=>by
  simp only[a7C,f2N]at hB;have hri:i∈Region.ready .any ops listed:=by
   have hf:=hB.1;unfold b2a at hf;rw[f2Z,beq_iff_eq]at hf;rcases hf with hf|hf
   .rw[hf];exact f2U.2 rfl
   .simp only[f2N]at hf;simpa using hf.1.1
  exact eB.bY r _ (hc.set hri) hB.2
inductive Ord where
 |none
 |call (rest:List Nat) (more:Ord)
 |op (i:Nat) (next more:Ord)
def sel(ops:Array Oper):List Nat->List Oper
 |[]=>[]
 |i::r=>match ops[i]? with
  |some o=>o::sel ops r
  |none=>sel ops r
def b0s(P:Program)(G:GT)(ops:Array Oper)(c:Nat)(K:St->Prop):Ord->St->Prop
 | .none,_=>True
 | .call rest more,st=>VK P G [.ops false ops (sel ops [c]),.ops true ops (sel ops rest)] .normal st (λ_ s=>K s)/\b0s P G ops c K more st
 | .op i next more,st=>VK P G [.ops true ops (sel ops [i])] .normal st (λ_ s=>b0s P G ops c K next s)/\b0s P G ops c K more st
def a2k(c:Nat):Ord->Nat->Bool
 | .none,_=>false
 | .call _ more,j=>decide (j=c)||a2k c more j
 | .op i _ more,j=>decide (j=i)||a2k c more j
def inB(ops:Array Oper)(c:Nat)(l:List Nat):Bool:=l.all λi=>decide (i<ops.size)&&decide (i≠c)
def b2b(ops:Array Oper)(c:Nat):Ord->Nat->Array Bool->Bool
 | .none,_,_=>true
 | .call rest more,n,listed=>decide (c<ops.size)&&inB ops c rest&&a7C ops c rest (listed.setIfInBounds c true)&&(Region.ready .any ops (bY rest (listed.setIfInBounds c true))).isEmpty&&decide (rest.length+1<=n)&&b2b ops c more n listed
 | .op i next more,n,listed=>inB ops c [i]&&decide (2<=n)&& !(Region.ready .any ops (listed.setIfInBounds i true)).isEmpty&&((Region.ready .any ops (listed.setIfInBounds i true)).all λj=>a2k c next j)&&b2b ops c next (n-1) (listed.setIfInBounds i true)&&b2b ops c more n listed
theorem uM{ops:Array Oper}{c:Nat}{K:St->Prop}:∀(l:List Nat) (st:St),inB ops c l=true->sE P G true ops (sel ops l) st K->a3f P G ops c l st K
 |[],st,_,h=>h
 |i::r,st,hB,h=>by
  simp only[inB,List.all_cons,f2N,decide_eq_true_eq]at hB;obtain⟨⟨hi,hic⟩,hr⟩:=hB;have qi:(i !=c)=true:=by simpa using hic
  simp only[sel,f3f hi,sE]at h;simp only[a3f,f3f hi,qi];exact eN (λs hs=>uM r s hr hs) h
theorem a7D{ops:Array Oper}{c:Nat}{Q:St->Prop}(hN:eA ops=[]):∀(T:Ord) (n:Nat) (listed:Array Bool) (st:St),eB ops listed->b2b ops c T (n+1) listed=true->b0s P G ops c Q T st->∀i∈Region.ready .any ops listed,a2k c T i=true->
  match ops[i]? with
  |none=>a1I P G ops c Q n (listed.setIfInBounds i true) st
  |some o=>mE P G (i !=c) ops o (a1I P G ops c Q n (listed.setIfInBounds i true)) st
 | .none,_,_,_,_,_,_,_,_,ha=>by cases ha
 | .call rest more,n,listed,st,mO,hB,h,i,hi,ha=>by
  simp only[b2b,f2N,decide_eq_true_eq,List.isEmpty_iff]at hB;obtain⟨⟨⟨⟨⟨hc,hin⟩,hs⟩,he⟩,hlen⟩,a3V⟩:=hB;simp only[b0s]at h;simp only[a2k,f2Z,decide_eq_true_eq]at ha;by_cases hic:i=c
  .subst hic;have h1:=h.1;simp only[VK,sel,f3f hc,sE]at h1;simp only[f3f hc,bne_self_eq_false];refine eN (λs oY=>?_) h1;obtain⟨k,hk⟩:=Nat.exists_eq_add_of_le (Nat.le_of_succ_le_succ hlen);rw[hk];exact a4L hN rest _ s k (mO.set hi) hs (rW (λs hs=>c2p he hs) _ _ (uM rest s hin oY)) λ_=>trivial
  .exact a7D hN more n listed st mO a3V h.2 i hi (ha.resolve_left hic)
 | .op x next more,n,listed,st,mO,hB,h,i,hi,ha=>by
  simp only[b2b,f2N,decide_eq_true_eq,Bool.not_eq_true',List.isEmpty_eq_false_iff,f2Q]at hB;obtain⟨⟨⟨⟨⟨hin,hn⟩,dX⟩,cY⟩,sB⟩,a3V⟩:=hB;simp only[b0s]at h;simp only[a2k,f2Z,decide_eq_true_eq]at ha;by_cases hix:i=x
  .subst hix;have h1:=h.1;simp only[inB,List.all_cons,List.all_nil,Bool.and_true,f2N,decide_eq_true_eq]at hin;have qi:(i !=c)=true:=by simpa using hin.2
   simp only[VK,sel,f3f hin.1,sE]at h1;simp only[f3f hin.1,qi];refine eN (λs oY=>?_) h1;obtain⟨m,rfl⟩:∃m,n=m+1:=⟨n-1,by omega⟩;exact⟨λh'=>(dX h').elim,λj hj=>a7D hN next m _ s (mO.set hi) sB oY j hj (cY j hj)⟩
  .exact a7D hN more n listed st mO a3V h.2 i hi (ha.resolve_left hix)
def c8X(ops:Array Oper)(c:Nat)(pS:List Nat)(T:Ord):Bool:=(eA ops).isEmpty&&decide (pS.length+1<=ops.size)&&inB ops c pS&&a7C ops c pS (Array.replicate ops.size false)&& !(Region.ready .any ops (bY pS (Array.replicate ops.size false))).isEmpty&&((Region.ready .any ops (bY pS (Array.replicate ops.size false))).all λj=>a2k c T j)&&b2b ops c T (ops.size-pS.length) (bY pS (Array.replicate ops.size false))
theorem e0b{id:Nat}{ops:Array Oper}{Q:Exit->St->Prop}(c:Nat)(pS:List Nat)(T:Ord)(hm:P.follows .mixedOrders=true)(hB:c8X ops c pS T=true)(h:VK P G [.ops true ops (sel ops pS)] .normal st λ_ s=>b0s P G ops c (λs=>Q .normal s) T s):SW P G (.region id ops true) st Q:=by
 simp only[c8X,f2N,List.isEmpty_iff,decide_eq_true_eq,Bool.not_eq_true',List.isEmpty_eq_false_iff,f2Q]at hB;obtain⟨⟨⟨⟨⟨⟨hN,hlen⟩,hin⟩,hs⟩,dX⟩,cY⟩,ht⟩:=hB;refine c8W (c:=c) hm ?_;obtain⟨k,hk⟩:=Nat.exists_eq_add_of_le hlen;have mO:eB ops (Array.replicate ops.size false):=λk hk=>by
  rcases Nat.lt_or_ge k ops.size with h'|h'
  .simp[h']at hk
  .simp[Nat.not_lt.2 h']at hk
 have e:ops.size-pS.length=k+1:=by omega
 rw[e]at ht;simp only[VK]at h;have:=a4L (P:=P) (G:=G) (c:=c) (Q:=λs=>Q .normal s) hN pS (Array.replicate ops.size false) st (k+1) mO hs (rW (λs oY=>⟨λh'=>(dX h').elim,λj hj=>a7D hN T k _ s (eB.bY pS _ mO hs) ht oY j hj (cY j hj)⟩) _ _ (uM pS st hin h)) λ_=>trivial;rw[show pS.length+(k+1)=ops.size by omega]at this;exact this
attribute [simp] sel b0s
theorem SW.e3m{st:St}{Q:Exit->St->Prop}{c:Code}{ι:Type}(ws:ι->List (Nat×DV))(H:ι->List (Nat×aW))(own:ι->List (TypeId×List Loc))(m:ι->Nat)(x0:ι)(h0:yF st (oI c st (ws x0) (H x0) (own x0)))(round:∀x,SW P G c (oI c st (ws x) (H x) (own x)) λe s=>match e with
   | .normal=>bJ (λy=>oI c st (ws y) (H y) (own y)) m x s
   |e=>Q e s):SW P G (.loop c) st Q:=by
 intro base R μ a w hr;refine wp_loop_ghost (λn a1 w1=>∃x R1 μ1,m x=n/\Rel P G base R1 μ1 (oI c st (ws x) (H x) (own x)) a1 w1/\Step base R w R1 w1) (m x0) ⟨x0,R,μ,rfl,hr.a0X h0,.refl _ _ _⟩ ?_;rintro n a1 w1 ⟨x,R1,μ1,rfl,hr1,hs1⟩;refine wp_mono (round x base R1 μ1 a1 w1 hr1) λe a2 w2 ⟨s,R2,μ2,q,hr2,hs2⟩=>?_;cases e with
 |normal=>simp only at q;unfold bJ at q;obtain⟨y,hy,aI⟩:=q;exact⟨m y,aI,y,R2,μ2,rfl,hr2.a0X hy,hs1.trans hs2⟩
 |_=>exact⟨s,R2,μ2,q,hr2,hs1.trans hs2⟩
theorem SW.a5D{c:Operand}{x y:Code}{st:St}{Q:Exit->St->Prop}(hc:st.eval G c=.d (.bool true))(h:SW P G x st Q):SW P G (.cond c x y) st Q:=λbase R μ a w hr=>wp_cond (hr.a1w hc) (h base R μ a w hr)
theorem SW.a9U{c:Operand}{x y:Code}{st:St}{Q:Exit->St->Prop}(hc:st.eval G c=.d (.bool false))(h:SW P G y st Q):SW P G (.cond c x y) st Q:=λbase R μ a w hr=>wp_cond (hr.a1w hc) (h base R μ a w hr)
end
end Go.VM
end
section
namespace Go.VM
open Go Go.RowKit
section
variable {P:Program} {G:GT} {st:St} {base:cN} {R:Nat->Nat->Prop} {μ:Nat->Nat} {a:Act} {w:World}
abbrev yI(v:Value):List PanicEntry:=[{v:=v,recovered:=false}]
def e3n(base:cN)(R:Nat->Nat->Prop)(w:World)(v:Value)(e:Ending)(w':World):Prop:=∃R',e=.panicked (yI v)/\Step base R w R' w'/\∀b o,R' b o->b<w'.heap.size
def CPn(P:Program)(G:GT)(f:FuncId)(s0:St)(v:Value):Prop:=
 ∀(base:cN) (R:Nat->Nat->Prop) (μ:Nat->Nat) (args:Array Value) (w:World),Rel P G base R μ s0 {tmps:=args,defers:=[]} w->Calls P f args w (e3n base R w v)
def a7E(P:Program)(G:GT)(f:FuncId)(f2L:List DV)(ls:List (Option Loc))(st:St)(v:Value):Prop:=
 ∀(base:cN) (R:Nat->Nat->Prop) (μ:Nat->Nat) (a:Act) (w:World) (args:Array Value),Rel P G base R μ st a w->args.size=f2L.length->(∀(i:Nat) (d:DV),f2L[i]? =some d->TV R μ w (args.getD i undef) d)->
  (∀(i:Nat) (l:Loc),ls[i]? =some (some l)->∀u,bZ a w μ l=some u->u=args.getD i undef)->Calls P f args w (e3n base R w v)
theorem a7E.e0c{f:FuncId}{s0:St}{v:Value}(hch:CPn P G f s0 v)(K:List (Nat×Nat)){f2L:List DV}{ls:List (Option Loc)}{rest:List (TypeId×List Loc)}(jB:aK K s0 .undef s0.H=true)(kR:WkT f2L (aO K s0.tmps))(hH:WkH st.H (cI K s0.H))(kF:tH st st.own (s0.own.map (oN K ls))=some rest)(kn:xJ st.tmps.length ls s0.own=true):
  a7E P G f f2L ls st v:=by
 simp only[aK,f2N,decide_eq_true_eq,f2Q]at jB;obtain⟨⟨⟨⟨⟨⟨⟨⟨kf,ks⟩,kp⟩,kt⟩,kh⟩,kl⟩,kr⟩,kd⟩,k1⟩:=jB;intro base R μ a w args hr hl hv a6a;obtain⟨vs,pF⟩:=hr.own;obtain⟨vsT,vsR,t1,t2,t3,t4,t5,t6,t7⟩:=a3O hr _ _ _ vs ⟨pF.len,pF.one,pF.apart⟩ kF;have inK:∀k o,getKey k s0.H=some o->(K.any λp=>p.1==k)=true/\aM K o=true/\(getKey k s0.H).isSome=true:=λk o hk=>by
  have:=kh _ (gQ hk)
  try simp only[f2N]at this
  exact⟨this.1.1,this.1.2,this.2⟩
 have inst:∀k o,getKey k s0.H=some o->∃o',getKey (rk K k) st.H=some o'/\WkO o' (cQ K o):=λk o hk=>by
  have hm:=gQ hk;have:∀ {l:List (Nat×aW)},WkH st.H (cI K l)->(k,o)∈l->∃o',getKey (rk K k) st.H=some o'/\WkO o' (cQ K o):=by
   intro l
   induction l with
   |nil=>intro _ h;cases h
   |cons p l ih=>
    intro hw hp;obtain⟨h1,h2⟩:=hw;rcases List.mem_cons.1 hp with rfl|hp
    .exact h1
    .exact ih h2 hp
  exact this hH hm
 have big:∀k,(K.any λp=>p.1==k)=true->100000<=k:=λk hk=>by obtain⟨p,h1,h2,_⟩:=zF hk;rw[<-h2];exact kp p h1
 have c8A:∀k k',(K.any λp=>p.1==k)=true->(K.any λp=>p.1==k')=true->rk K k=rk K k'->k=k':=λk k' h h' he=>by
  obtain⟨p,p1,p2,p3⟩:=zF h;obtain⟨q,q1,q2,q3⟩:=zF h';have hpq:p.2=q.2:=by rw[<-p3, <- q3,he]
  have:p=q:=mP.a9K.a4G ks p1 q1 hpq;rw[<-p2, <- q2,this]
 have one:∀k,(getKey k s0.H).isSome=true->∃o,getKey k s0.H=some o:=λk hk=>by
  obtain⟨o,ho⟩:=Option.isSome_iff_exists.1 hk;have:=k1 _ (gQ ho)
  try simp only[f2N]at this
  exact Option.isSome_iff_exists.1 this.2
 let mC:cN:=⟨λb=>w.heap.size<=b\/(∃k o,getKey k s0.H=some o/\b=μ (rk K k))\/(∃v∈vsT,bF v=some b),λk=>μ (rk K k)⟩
 have sub:∀b,mC b->base b:=λb hb=>by
  rcases hb with hb|⟨k,o,hk,rfl⟩|⟨v,hv,hs⟩
  .exact hr.base b hb
  .obtain⟨o',sV,_⟩:=inst k o hk;exact(hr.gM _ o' sV).1
  .obtain⟨i,hi⟩:=f3e hv;have tT:i<(s0.own.map (oN K ls)).length:=by rw[<-t1];exact(f2O.1 hi).1
   exact(t2 i _ v (f2R tT) hi).own.a0l hs
 have a1C:Rel P G mC R (λk=>μ (rk K k)) s0 {tmps:=args,defers:=[]} w:=by
  obtain⟨g1,g2⟩:=zH kR;rw[pT]at g1 g2;refine⟨rfl,by show args.size=s0.tmps.length;rw[List.length_map]at g1;omega,λi v d hiv hid=>?_,λk o hk=>?_,λk k' o o' hk hk' he=>?_,λc hc k off hl'=>?_,⟨vsT,by simpa using t1,λi c v hc yA=>?_,t3⟩,hr.tP.up sub,hr.pE,λb hb=>.inl hb,λk hk=>rfl⟩
  .obtain⟨d0,hd0,b9q⟩:=g2 i (bD K d) (by rw[f2X,hid];rfl);have hva:=hv i d0 hd0;have hav:args.getD i undef=v:=by simp only at hiv;simp[f2P,hiv]
   rw[hav]at hva;have c8B:TV R μ w v (bD K d):=by
    rcases b9q with hc|hc|⟨hc1,hc2⟩
    .rw[hc];exact .undef _
    .rw[hc];exact hva
    .rw[hc2];rw[hc1]at hva;obtain⟨ao,rfl⟩:=hva.a6W.jM;exact .d _ _ (.emp _ _)
   exact c8B.ren (μ:=μ) (λ_ _=>rfl) (kt d (f2S hid))
  .obtain⟨q1,q2,_⟩:=inK k o hk;obtain⟨o',sV,hw⟩:=inst k o hk;obtain⟨p1,p2,p3⟩:=hr.gM _ o' sV;exact⟨.inr (.inl ⟨k,o,hk,rfl⟩),p2,(b0L hw p3).ren (λ_ _=>rfl) q2⟩
  .obtain⟨o1,h1,_⟩:=inst k o hk;obtain⟨o2,h2,_⟩:=inst k' o' hk';exact c8A k k' (inK k o hk).1 (inK k' o' hk').1 (hr.inj _ _ o1 o2 h1 h2 he)
  .have:=f2Q.1 (f2Q.1 kl c hc) _ hl';exact Option.isSome_iff_exists.1 this
  .have ho:=t2 i (oN K ls c) v (by rw[f2X,hc];rfl) yA;refine⟨λl hl' u hu=>?_,?_,λk o hk=>?_⟩
   .have hn:=f2Q.1 (f2Q.1 kn c (f2S hc)) l hl';cases l with
    |t j=>
     simp only at hn;split at hn
     .rename_i t hj;simp only[decide_eq_true_eq]at hn;have ht:t<a.tmps.size:=by rw[hr.size];exact hn
      have hlv:bZ a w μ (.t t)=some a.tmps[t]:=by simp[bZ,ht]
      have h1:=a6a j _ hj _ hlv;have h2:=ho.dF (.t t) (List.mem_filterMap.2 ⟨.t j,hl',by simp[b1J,hj]⟩) _ hlv;simp only[bZ]at hu;have h3:args.getD j undef=u:=by simp[f2P,hu]
      rw[<-h3, <- h1,h2]
     .cases hn
    |c k off=>exact ho.dF (.c (rk K k) off) (List.mem_filterMap.2 ⟨.c k off,hl',rfl⟩) u hu
   .rcases ho.own with h|⟨g,n,cap,cur,h0,h1,h2,h3,h4⟩
    .exact .inl h
    .by_cases xZ:cap=0
     .subst xZ;have:n=0:=by omega
      subst this;exact .inl ⟨_,h0⟩
     .exact .inr ⟨g,n,cap,cur,h0,.inr (.inr ⟨v,f2S yA,by rw[h0];simp[bF,xZ]⟩),h2,h3,h4⟩
   .obtain⟨o',sV,_⟩:=inst k o hk;exact ho.keys _ o' sV
 exact(hch mC R (λk=>μ (rk K k)) args w a1C).mono λe w' ⟨R',he,hs,hb⟩=>⟨R',he,⟨hs.below.mono sub,hs.mono,λb o h1 h2=>sub b (hs.new b o h1 h2),hs.cells⟩,hb⟩
theorem a6t{o:Oper}{f:FuncId}{f2L:List DV}{v:Value}(hc:cR G o st=some (f,f2L))(pR:Enters P f/\a7E P G f f2L (jL o) st v)(hr:Rel P G base R μ st a w){K:Act->World->Prop}{Q:Exit->Act->World->Prop}(h:∀R' w',Step base R w R' w'->(∀b o,R' b o->b<w'.heap.size)->Q (.panic (yI v)) a w'):o.wp P a w K Q:=by
 obtain⟨⟨fn,hf1,hf2,hf3⟩,pR⟩:=pR;have b6m: ¬fn.body=none:=λhe=>by simp[he]at hf2
 have b6n: ¬fn.name= "runtime.NumGoroutine" :=by simpa using hf3
 have main:∀args:Array Value,(execOp a.eval o).run P w=.ok (.enter f args) w->args.size=f2L.length->(∀(i:Nat) (d:DV),f2L[i]? =some d->TV R μ w (args.getD i undef) d)->
   (∀(i:Nat) (l:Loc),(jL o)[i]? =some (some l)->∀u,bZ a w μ l=some u->u=args.getD i undef)->o.wp P a w K Q:=λargs a3x hl hv a6a=>by
  unfold Oper.wp;rw[a3x]
  show Calls P f args w _
  refine(pR base R μ a w args hr hl hv a6a).mono λe w' ⟨R',he,hs,hb⟩=>?_;subst he;exact h R' w' hs hb
 have each:∀(l:List Operand) (i:Nat) (d:DV),(l.map (st.eval G))[i]? =some d->TV R μ w ((l.map a.eval).getD i undef) d:=λl i d hi=>by
  rw[f2X]at hi;obtain⟨x,hx,rfl⟩:=f2M.1 hi;have:(l.map a.eval).getD i undef=a.eval x:=by simp[List.getD,hx]
  rw[this];exact hr.eval x
 have dF:∀(args:Array Operand) (vs:Array Value),jL o=args.toList.map a3m->∀(i:Nat) (l:Loc),(jL o)[i]? =some (some l)->∀u,bZ a w μ l=some u->u=(args.map a.eval++vs).getD i undef:=λargs vs tQ i l hi u hu=>by
  rw[tQ,f2X]at hi;obtain⟨x,hx,hxl⟩:=f2M.1 hi;cases x with
  |tmp t=>
   simp only[a3m,f2T]at hxl;subst hxl;simp only[bZ]at hu;have aI:i<args.size:=by have:=(f2O.1 hx).1;simpa using this
   have he:args[i]? =some (.tmp t):=by simpa using hx
   rw[f2P,Array.getElem?_append_left (by simpa using aI),Array.getElem?_map,he];simp[Act.eval,hu]
  |_=>cases hxl
 unfold cR at hc;split at hc
 .rename_i x args ts mV;have tQ:jL o=args.toList.map a3m:=by simp[jL,mV]
  split at hc
  .rename_i f' hx;simp at hc;obtain⟨rfl,rfl⟩:=hc;refine main (args.map a.eval) ?_ (by simp) (λi d hi=>?_) (by simpa using dF args #[] tQ)
   .simp[execOp,mV,resolve,hr.b1b hx,Deferred.ofValue,invoke,callFunc,hf1,b6m,b6n]
   .have:=each args.toList i d hi;simpa[f2P,List.getD]using this
  .rename_i f' cs hx;simp at hc;obtain⟨rfl,rfl⟩:=hc;obtain⟨vs,he,pF,hvc⟩:=(hr.mD hx).a6Y;refine main (args.map a.eval++vs) ?_ (by simp[pF]) (λi d hi=>?_) (dF args vs tQ)
   .simp[execOp,mV,resolve,he,Deferred.ofValue,invoke,callFunc,hf1,b6m,b6n]
   .by_cases aI:i<args.size
    .rw[f2Y (by simpa using aI)]at hi;have:=each args.toList i d hi;rw[f2P,Array.getElem?_append_left (by simpa using aI)];simpa[f2P,List.getD]using this
    .rw[f2V (by simp;omega)]at hi;simp only[List.length_map,Array.length_toList]at hi;have:=hvc _ d hi;rw[f2P,Array.getElem?_append_right (by simp;omega)];simpa[f2P]using this
  .cases hc
 .cases hc
abbrev a0F(st:St):St:=⟨List.replicate st.tmps.length .undef,[],[]⟩
theorem Rel.a7F(hr:Rel P G base R μ st a w){R':Nat->Nat->Prop}{w':World}(hs:Step base R w R' w')(hb:∀b o,R' b o->b<w'.heap.size):Rel P G base R' μ (a0F st) a w' where
 defers:=hr.defers
 size:=by simpa using hr.size
 tmps:=λi v d _ hd=>by
  rw[List.getElem?_replicate]at hd;split at hd
  .simp at hd;subst hd;exact .undef _
  .cases hd
 gM:=λk o h=>by cases h
 inj:=λk k' o o' h=>by cases h
 dF:=λc hc=>by cases hc
 own:=⟨[],rfl,λi c v h _=>by simp at h,.nil⟩
 tP:=a5c.bK hs hr.tP
 pE:=hb
 base:=λb h=>hr.base b (Nat.le_trans hs.below.size h)
 pass:=hr.pass
def a0G(P:Program)(G:GT)(ops:Array Oper)(c:Nat)(Q:Exit->St->Prop)(st:St):Prop:=match ops[c]? with
 |some o=>dJ o ops st.tmps=some true/\∃f f2L v,cR G o st=some (f,f2L)/\(Enters P f/\a7E P G f f2L (jL o) st v)/\Q (.panic (yI v)) (a0F st)
 |none=>False
theorem a0G.ok{ops:Array Oper}{c:Nat}{Q:Exit->St->Prop}{o:Oper}(ho:ops[c]? =some o)(h:a0G P G ops c Q st)(hr:Rel P G base R μ st a w){QQ:Exit->Act->World->Prop}{KK:Act->World->Prop}{KE:Prop}(hk:∀v s w' R',Q (.panic (yI v)) s->Rel P G base R' μ s a w'->Step base R w R' w'->QQ (.panic (yI v)) a w'):
  if Region.wanted o (yielded ops a.tmps) then o.wp P a w KK QQ\/(o.asks P a w/\LetsOut QQ) else KE:=by
 unfold a0G at h;rw[ho]at h;obtain⟨hw,f,f2L,v,h1,h2,h3⟩:=h;rw[a1x hr hw,if_pos rfl];exact .inl (a6t h1 h2 hr λR' w' hs hb=>hk v _ w' R' h3 (hr.a7F hs hb) hs)
def a5E(P:Program)(G:GT)(ops:Array Oper)(c:Nat)(Z:St->Prop):Nat->Array Bool->St->Prop
 |0,_,_=>False
 |fuel+1,listed,st=>Region.ready .any ops listed≠[]/\∀i∈Region.ready .any ops listed,if i=c then Z st else match ops[i]? with
  |none=>False
  |some o=>mE P G true ops o (a5E P G ops c Z fuel (listed.setIfInBounds i true)) st
theorem a7G{ops:Array Oper}{c:Nat}{Q:Exit->St->Prop}{QQ:Exit->Act->World->Prop}:∀(fuel:Nat) (listed:Array Bool) (st:St),a5E P G ops c (a0G P G ops c Q) fuel listed st->∀(base:cN) (R:Nat->Nat->Prop) (μ:Nat->Nat) (a:Act) (w:World),Rel P G base R μ st a w->
  (∀v s a' w' R' μ',Q (.panic (yI v)) s->Rel P G base R' μ' s a' w'->Step base R w R' w'->QQ (.panic (yI v)) a' w')->wpAny P .any ops QQ fuel listed a w
 |0,_,st,h,base,R,μ,a,w,hr,hk=>h.elim
 |fuel+1,listed,st,h,base,R,μ,a,w,hr,hk=>by
  refine⟨λh0=>(h.1 h0).elim,λi hi=>?_⟩;have h1:=h.2 i hi;unfold wpOp;split
  .rename_i ho;rw[ho]at h1;split at h1
   .rename_i hic;subst hic;unfold a0G at h1;rw[ho]at h1;exact h1.elim
   .exact h1.elim
  .rename_i o ho;rw[ho]at h1;split at h1
   .rename_i hic;subst hic;exact a0G.ok ho h1 hr λv s w' R' q1 q2 q3=>hk v s a w' R' μ q1 q2 q3
   .exact qO h1 hr λs v w' R' μ' h' eK oY=>a7G fuel _ s h' base R' μ' _ w' eK λv s a' w2 R2 μ2 q1 q2 q3=>hk v s a' w2 R2 μ2 q1 q2 (oY.trans q3)
theorem b9L{ops:Array Oper}{c:Nat}{Z:St->Prop}{i:Nat}{oi:Oper}(hA:oM ops)(hi:ops[i]? =some oi)(hic:i≠c)(hsi:(cO oi.op=true/\kI ops oi=false)\/oD oi=true):
  ∀(fuel:Nat) (listed:Array Bool) (st s:St),eB ops listed->
   (∀j oj,ops[j]? =some oj->j≠i->listed.getD j true=false->eZ ops ops.size j i=false->j≠c/\oi.apart ops oj=true/\pI ops oi oj=true)->
   i∈Region.ready .any ops listed->pK ops listed st->Eff P G ops oi st s->
   a5E P G ops c Z fuel (listed.setIfInBounds i true) s->a5E P G ops c Z (fuel+1) listed st:=by
 intro fuel
 induction fuel with
 |zero=>intro listed st s _ _ hr _ hy H;exact H.elim
 |succ fuel ih=>
  intro listed st s mO a0r hr hI hy H;refine⟨λh=>(by rw[h]at hr;cases hr),λj hj=>?_⟩;by_cases yD:j=i
  .subst yD;rw[if_neg hic,hi];exact(dC hsi).2 ⟨s,hy,H⟩
  .have h1:=H.2 j (ready_mono hj yD);obtain⟨vJ,oj,xI,cY⟩:=mem_ready.1 hj;rw[xI]at h1|-;simp only at h1|-;obtain⟨a0W,oi',b6t,a7i⟩:=mem_ready.1 hr;have a3b:eZ ops ops.size j i=false:=cS mO a0W _ _ λo ho=>by rw[xI]at ho;cases ho;exact cY
   obtain⟨hjc,xE,hpo⟩:=a0r j oj xI yD vJ a3b;rw[if_neg hjc]at h1|-;have hsj:(cO oj.op=true/\kI ops oj=false)\/oD oj=true:=by
    by_cases hs:oD oj=true
    .exact .inr hs
    .refine .inl ⟨?_,?_⟩
     .unfold pI at hpo;simp only[oD,f2Z,f2N,Bool.not_eq_true']at hpo hs;rcases hpo with((((((h|h)|h)|h)|h)|h)|h)|h
      .exact h.1.2
      .exact absurd (.inl (.inl h.1.2)) hs
      .exact h.1.1.2
      .exact absurd (.inl (.inr h.2)) hs
      .exact h.1.2
      .exact absurd (.inl h.1.2) hs
      .exact absurd (.inr h.2) hs
      .exact(mF (G:=G) (st:=st) h.1.2).1
     .cases hx:kI ops oj with
      |false=>rfl
      |true=>
       have aI:i<ops.size:=(f2W.1 hi).1;rcases sZ hx xI aI (λe=>yD e.symm)with h'|h'
       .have:=cS mO vJ ops.size i λo ho=>by rw[b6t]at ho;cases ho;exact a7i
        rw[h']at this;cases this
       .rw[a3b]at h';cases h'
   obtain⟨s12,hu,hk⟩:=(dC hsj).1 h1;obtain⟨s2,e1,e2⟩:=a7h xE hpo (λhn d hd=>hI i oi d hi hn a0W hd) (λhn d hd=>hI j oj d xI hn vJ hd) hy hu;refine(dC hsj).2 ⟨s2,e1,?_⟩;refine ih (listed.setIfInBounds j true) s2 s12 (mO.set hj) (λk ok hk' hki hun sI=>?_) (ready_mono hr (Ne.symm yD)) (hI.step hA xI λk hf hn=>sK e1 hf hn) e2 ?_
   .exact a0r k ok hk' hki (rQ hun).2 sI
   .rw[Array.setIfInBounds_comm _ _ yD];exact hk
theorem a4M{ops:Array Oper}{c:Nat}{Z:St->Prop}(hN:eA ops=[]):∀(l:List Nat) (listed:Array Bool) (st:St) (fuel:Nat),eB ops listed->inB ops c l=true->a7C ops c l listed=true->
  a3f P G ops c l st (a5E P G ops c Z fuel (bY l listed))->a5E P G ops c Z (l.length+fuel) listed st
 |[],listed,st,fuel,_,_,_,h=>by simpa[bY,a3f]using h
 |i::l,listed,st,fuel,mO,hin,hB,h=>by
  have hA:oM ops:=λi j oi oj d hi _ hni _ hdi _=>(b5l hN hi hni hdi).elim;have hI:∀listed st,pK ops listed st:=λ_ _ j oj d hj hn _ hd=>(b5l hN hj hn hd).elim;simp only[a7C,f2N]at hB;obtain⟨hf,hB'⟩:=hB;simp only[inB,List.all_cons,f2N,decide_eq_true_eq]at hin;obtain⟨⟨_,hic⟩,e6X⟩:=hin;have qi:(i !=c)=true:=by simpa using hic
  simp only[a3f]at h;split at h;rotate_left
  .cases h
  rename_i o ho;rw[qi]at h;have he:(i::l).length+fuel=l.length+fuel+1:=by simp only[List.length_cons];omega
  rw[he];unfold b2a at hf;rw[f2Z,beq_iff_eq]at hf;have hri:i∈Region.ready .any ops listed:=by
   rcases hf with hf|hf
   .rw[hf];exact f2U.2 rfl
   .simp only[f2N]at hf;simpa using hf.1.1
  have sB:∀s,a3f P G ops c l s (a5E P G ops c Z fuel (bY (i::l) listed))->a5E P G ops c Z (l.length+fuel) (listed.setIfInBounds i true) s:=λs hs=>a4M hN l _ s fuel (mO.set hri) e6X hB' hs;rcases hf with hf|hf
  .refine⟨λh'=>(by rw[h']at hf;cases hf),λj hj=>?_⟩;rw[hf,f2U]at hj;subst hj;rw[if_neg hic,ho];exact eN sB h
  .rw[ho]at hf;simp only[f2N,f2Z,Bool.not_eq_true',bne_iff_ne,ne_eq]at hf;obtain⟨⟨_,hic⟩,hsi,cY⟩:=hf;obtain⟨s,hd,hk⟩:=(dC hsi).1 h;refine b9L hA ho hic hsi _ listed st s mO (λj oj hj dX hun sI=>?_) hri (hI _ _) hd (sB s hk);rw[f2Q]at cY;have h1:=cY j (List.mem_range.2 (f2W.1 hj).1);simp only[hj,f2Z,beq_iff_eq,dX,false_or,hun,Bool.false_eq_true,sI,f2N,bne_iff_ne,ne_eq]at h1;exact h1
def a2P(P:Program)(G:GT)(ops:Array Oper)(Z:St->Prop):Ord->St->Prop
 | .none,_=>True
 | .call _ more,st=>Z st/\a2P P G ops Z more st
 | .op i next more,st=>VK P G [.ops true ops (sel ops [i])] .normal st (λ_ s=>a2P P G ops Z next s)/\a2P P G ops Z more st
theorem a3W{ops:Array Oper}{c:Nat}{Z:St->Prop}:∀(T:Ord) (n:Nat) (listed:Array Bool) (st:St),b2b ops c T (n+1) listed=true->a2P P G ops Z T st->∀i∈Region.ready .any ops listed,a2k c T i=true->
  if i=c then Z st else match ops[i]? with
  |none=>False
  |some o=>mE P G true ops o (a5E P G ops c Z n (listed.setIfInBounds i true)) st
 | .none,_,_,_,_,_,_,_,ha=>by cases ha
 | .call rest more,n,listed,st,hB,h,i,hi,ha=>by
  simp only[b2b,f2N]at hB;simp only[a2P]at h;simp only[a2k,f2Z,decide_eq_true_eq]at ha;by_cases hic:i=c
  .rw[if_pos hic];exact h.1
  .exact a3W more n listed st hB.2 h.2 i hi (ha.resolve_left hic)
 | .op x next more,n,listed,st,hB,h,i,hi,ha=>by
  simp only[b2b,f2N,decide_eq_true_eq,Bool.not_eq_true',List.isEmpty_eq_false_iff,f2Q]at hB;obtain⟨⟨⟨⟨⟨hin,hn⟩,dX⟩,cY⟩,sB⟩,a3V⟩:=hB;simp only[a2P]at h;simp only[a2k,f2Z,decide_eq_true_eq]at ha;by_cases hix:i=x
  .subst hix;have h1:=h.1;simp only[inB,List.all_cons,List.all_nil,Bool.and_true,f2N,decide_eq_true_eq]at hin;simp only[VK,sel,f3f hin.1,sE]at h1;rw[if_neg hin.2];simp only[f3f hin.1];refine eN (λs oY=>?_) h1;obtain⟨m,rfl⟩:∃m,n=m+1:=⟨n-1,by omega⟩;exact⟨dX,λj hj=>a3W next m _ s sB oY j hj (cY j hj)⟩
  .exact a3W more n listed st a3V h.2 i hi (ha.resolve_left hix)
theorem d4B{id:Nat}{ops:Array Oper}{Q:Exit->St->Prop}(c:Nat)(pS:List Nat)(T:Ord)(hm:P.follows .mixedOrders=true)(hB:c8X ops c pS T=true)(h:VK P G [.ops true ops (sel ops pS)] .normal st λ_ s=>a2P P G ops (a0G P G ops c Q) T s):SW P G (.region id ops true) st Q:=by
 simp only[c8X,f2N,List.isEmpty_iff,decide_eq_true_eq,Bool.not_eq_true',List.isEmpty_eq_false_iff,f2Q]at hB;obtain⟨⟨⟨⟨⟨⟨hN,hlen⟩,hin⟩,hs⟩,dX⟩,cY⟩,ht⟩:=hB;obtain⟨k,hk⟩:=Nat.exists_eq_add_of_le hlen;have mO:eB ops (Array.replicate ops.size false):=λk hk=>by
  rcases Nat.lt_or_ge k ops.size with h'|h'
  .simp[h']at hk
  .simp[Nat.not_lt.2 h']at hk
 have e:ops.size-pS.length=k+1:=by omega
 rw[e]at ht;simp only[VK]at h;have:=a4M (P:=P) (G:=G) (c:=c) (Z:=a0G P G ops c Q) hN pS (Array.replicate ops.size false) st (k+1) mO hin hs (rW (λs oY=>⟨dX,λj hj=>a3W T k _ s ht oY j hj (cY j hj)⟩) _ _ (uM pS st hin h));rw[show pS.length+(k+1)=ops.size by omega]at this;intro base R μ a w hr;obtain⟨eK,oY⟩:=hr.drew;exact wp_region_any hm (a7G ops.size _ st this base R μ a w.drew eK λv s a' w' R' μ' q1 q2 q3=>⟨s,R',μ',q1,q2,oY.trans q3⟩)
theorem CPn.a5w{f:FuncId}{fn:Func}{c:Code}{n:Nat}{s0:St}{v:Value}(hf:P.funcs[f]? =some fn)(hb:fn.body=some c)(hn:fn.ntmps=n)(hT:(s0.own.all λc=>c.2.all λl=>match l with| .t i=>decide (i<s0.tmps.length)|_=>true)=true)(h:SW P G c ⟨s0.tmps++List.replicate (n-s0.tmps.length) (.cJ []),s0.H,s0.own⟩ λe _=>e=.panic (yI v)):CPn P G f s0 v:=by
 intro base R μ args w hr;refine calls_of_wp hf hb ?_;have hU:args.size=s0.tmps.length:=hr.size;have jU:Rel P G base R μ ⟨s0.tmps++List.replicate (n-s0.tmps.length) (.cJ []),s0.H,s0.own⟩ {tmps:=args++Array.replicate (fn.ntmps-args.size) undef,defers:=[]} w:=by
  refine⟨rfl,by simp[hU,hn],λi v d hiv hid=>?_,hr.gM,hr.inj,hr.dF,?_,hr.tP,hr.pE,hr.base,hr.pass⟩
  .simp only at hid;by_cases hi:i<s0.tmps.length
   .rw[f2Y hi]at hid;rw[Array.getElem?_append_left (by omega)]at hiv;exact hr.tmps i v d hiv hid
   .rw[f2V (by omega),List.getElem?_replicate]at hid;split at hid<;>simp at hid;subst hid;rw[Array.getElem?_append_right (by omega),Array.getElem?_replicate]at hiv;split at hiv<;>simp at hiv;subst hiv;exact .cJ #[] [] rfl (by simp)
  .obtain⟨vs,hl,h1,xE⟩:=hr.own;refine⟨vs,hl,λi c v hc hv=>?_,xE⟩;have ho:=h1 i c v hc hv;refine⟨λl hl u hu=>?_,ho.own,ho.keys⟩;cases l with
   |t j=>have hj:=f2Q.1 (f2Q.1 hT c (f2S hc)) _ hl;simp only[decide_eq_true_eq]at hj;simp only[bZ]at hu;rw[Array.getElem?_append_left (by omega)]at hu;exact ho.dF _ hl u hu
   |c k off=>exact ho.dF _ hl u hu
 refine wp_mono (h base R μ _ w jU) λe a' w' ⟨s,R',μ',he,eK,hs⟩=>?_;subst he;exact⟨eK.defers,R',rfl,hs,eK.pE⟩
attribute [simp] a2P
end
end Go.VM
end
end
section
namespace Go.VM
open Go Go.RowKit
section
variable {P:Program} {G:GT} {st:St} {base:cN} {R:Nat->Nat->Prop} {μ:Nat->Nat} {a:Act} {w:World}
abbrev Ends:=Sum (DV×List (Nat×aW)×List (TypeId×List Loc)) Value
def CX(P:Program)(G:GT)(f:FuncId)(s0:St):Ends->Prop
 | .inl s1=>CH P G f s0 ⟨[s1.1],s1.2.1,s1.2.2⟩
 | .inr v=>CPn P G f s0 v
def uN(P:Program)(G:GT)(f:FuncId)(f2L:List DV)(ls:List (Option Loc))(dst:Option Tmp)(st:St)(K:St->Prop)(Q:Exit->St->Prop)(x0:Bool):Prop:=
 Enters P f/\(x0=true->∃s',mP P G f f2L ls st dst s'/\K s')/\(x0=false->∃v,a7E P G f f2L ls st v/\Q (.panic (yI v)) (a0F st))
def zT(P:Program)(G:GT)(all:Array Oper)(l:List Oper)(K:List Oper->St->Prop)(Q:Exit->St->Prop)(x0:Bool)(st:St):Prop:=match l with
 |[]=>False
 |o::rest=>match dJ o all st.tmps,gJ G o st,cR G o st with
  |some true,none,some (f,f2L)=>uN P G f f2L (jL o) o.dst st (K rest) Q x0
  |_,_,_=>False
theorem a9V{all:Array Oper}{o:Oper}{rest:List Oper}{K:List Oper->St->Prop}{Q:Exit->St->Prop}{x0:Bool}(h:zT P G all (o::rest) K Q x0 st):
  ∃f f2L,dJ o all st.tmps=some true/\gJ G o st=none/\cR G o st=some (f,f2L)/\uN P G f f2L (jL o) o.dst st (K rest) Q x0:=by
 unfold zT at h;simp only at h;split at h
 .rename_i f f2L h1 h2 h3;exact⟨f,f2L,h1,h2,h3,h⟩
 .exact h.elim
theorem zT.pan{ops:Array Oper}{c:Nat}{o:Oper}{rest:List Oper}{K:List Oper->St->Prop}{Q:Exit->St->Prop}(ho:ops[c]? =some o)(h:zT P G ops (o::rest) K Q false st):a0G P G ops c Q st:=by obtain⟨f,f2L,h2,_,h4,he,_,h5⟩:=a9V h;obtain⟨v,h6,h7⟩:=h5 rfl;unfold a0G;rw[ho];exact⟨h2,f,f2L,v,h4,⟨he,h6⟩,h7⟩
theorem zT.ret{all:Array Oper}{o:Oper}{rest:List Oper}{K:List Oper->St->Prop}{Q:Exit->St->Prop}(h:zT P G all (o::rest) K Q true st):mE P G false all o (K rest) st:=by obtain⟨f,f2L,h2,h3,h4,he,h5,_⟩:=a9V h;obtain⟨s',h6,h7⟩:=h5 rfl;unfold mE;rw[h2,h3,h4];simp only[qN,Bool.false_and,a0p,Bool.false_eq_true,if_false];exact⟨s',⟨he,h6⟩,h7⟩
def LW(P:Program)(G:GT)(all:Array Oper)(l:List Oper)(st:St)(Q:Exit->St->Prop):Prop:=
 ∀(base:cN) (R:Nat->Nat->Prop) (μ:Nat->Nat) (a:Act) (w:World),Rel P G base R μ st a w->∀QQ:Exit->Act->World->Prop,(∀e s a' w' R' μ',Q e s->Rel P G base R' μ' s a' w'->Step base R w R' w'->QQ e a' w')->wpList P all QQ l a w
theorem LW.vk{all:Array Oper}{l:List Oper}{Q:Exit->St->Prop}(h:VK P G [.ops false all l] .normal st Q):LW P G all l st Q:=by intro base R μ a w hr QQ hk;simp only[VK]at h;exact b6o all _ l st (λs=>Q .normal s) h base R μ a w hr λs a' w' R' μ' q1 q2 q3=>hk _ s a' w' R' μ' q1 q2 q3
theorem e3o{x0:Bool}(all:Array Oper)(Q:Exit->St->Prop)(l2:List Oper)(hl:x0=false->∃(c:Nat) (o:Oper) (rest:List Oper),l2=o::rest/\all[c]? =some o):∀(l:List Oper) (st:St),sE P G false all l st (λs=>zT P G all l2 (λr s=>LW P G all r s Q) Q x0 s)->∀(base:cN) (R:Nat->Nat->Prop) (μ:Nat->Nat) (a:Act) (w:World),Rel P G base R μ st a w->
  ∀QQ:Exit->Act->World->Prop,(∀e s a' w' R' μ',Q e s->Rel P G base R' μ' s a' w'->Step base R w R' w'->QQ e a' w')->wpList P all QQ (l++l2) a w
 |[],st,h,base,R,μ,a,w,hr,QQ,hk=>by
  have h:zT P G all l2 (λr s=>LW P G all r s Q) Q x0 st:=h
  show wpList P all QQ l2 a w
  cases l2 with
  |nil=>exact h.elim
  |cons o rest=>
   unfold wpList;cases x0 with
   |false=>obtain⟨c,o',e8I,he,hc⟩:=hl rfl;cases he;exact a0G.ok hc (h.pan hc) hr λv s w' R' q1 q2 q3=>hk _ s a w' R' μ q1 q2 q3
   |true=>refine qO h.ret hr λs v w' R' μ' h' eK oY=>?_;exact h' base R' μ' _ w' eK QQ λe s2 a2 w2 R2 μ2 q1 q2 q3=>hk e s2 a2 w2 R2 μ2 q1 q2 (oY.trans q3)
 |x::l,st,h,base,R,μ,a,w,hr,QQ,hk=>by
  show wpList P all QQ (x::(l++l2)) a w
  unfold wpList;exact qO h hr λs v w' R' μ' h' eK oY=>e3o all Q l2 hl l s h' base R' μ' _ w' eK QQ λe s a' w2 R2 μ2 q1 q2 q3=>hk e s a' w2 R2 μ2 q1 q2 (oY.trans q3)
theorem LW.at{all:Array Oper}{l:List Oper}{Q:Exit->St->Prop}(c k:Nat)(x0:Bool)(hk:l[c]? =all[k]?)(xF:∃o,l[c]? =some o)(h:VK P G [.ops false all (l.take c)] .normal st λ_ s=>zT P G all (l.drop c) (λr s=>LW P G all r s Q) Q x0 s):LW P G all l st Q:=by
 intro base R μ a w hr QQ sW;simp only[VK]at h;rw[<-List.take_append_drop c l];refine e3o all Q (l.drop c) (λh0=>?_) _ st h base R μ a w hr QQ sW;obtain⟨o,ho⟩:=xF;refine⟨k,o,l.drop (c+1),?_,by rw[<-hk,ho]⟩;have aI:=(f2O.1 ho).1;rw[f3a aI];rw[f2R aI]at ho;cases ho
 rfl
theorem LW.app{all:Array Oper}{l:List Oper}{Q:Exit->St->Prop}(c:Nat)(h:VK P G [.ops false all (l.take c)] .normal st λ_ s=>LW P G all (l.drop c) s Q):LW P G all l st Q:=by
 intro base R μ a w hr QQ hk;simp only[VK]at h;have main:∀(l1:List Oper) (st:St),sE P G false all l1 st (λs=>LW P G all (l.drop c) s Q)->∀(R:Nat->Nat->Prop) (μ:Nat->Nat) (a:Act) (w:World),Rel P G base R μ st a w->
   (∀e s a' w' R' μ',Q e s->Rel P G base R' μ' s a' w'->Step base R w R' w'->QQ e a' w')->wpList P all QQ (l1++l.drop c) a w:=by
  intro l1
  induction l1 with
  |nil=>intro st h R μ a w hr hk;exact h base R μ a w hr QQ hk
  |cons x l1 ih=>
   intro st h R μ a w hr hk
   show wpList P all QQ (x::(l1++l.drop c)) a w
   unfold wpList;exact qO h hr λs v w' R' μ' h' eK oY=>ih s h' R' μ' _ w' eK λe s a' w2 R2 μ2 q1 q2 q3=>hk e s a' w2 R2 μ2 q1 q2 (oY.trans q3)
 have:=main (l.take c) st h R μ a w hr hk
 rwa[List.take_append_drop]at this
theorem SW.lw{id:Nat}{ops:Array Oper}{Q:Exit->St->Prop}(h:LW P G ops ops.toList st Q):SW P G (.region id ops false) st Q:=λbase R μ a w hr=>wp_region_list (h base R μ a w hr _ λe s a' w' R' μ' q1 q2 q3=>⟨s,R',μ',q1,q2,q3⟩)
theorem LW.c2q{all:Array Oper}{T y1 y2:TypeId}{td:TypeDesc}{d x:Tmp}{p1 p2:String}{f1 f2:Array Edge}{n e:Int}{Q:Exit->St->Prop}(hu:P.underlying T=some td)(hn:(match td with| .interface _=>false|_=>true)=true)(hd:d<st.tmps.length)(hx:st.eval G (.tmp x)=.d (.agg [.int .i64 n,.int .i64 e]))(h:Q (.panic (yI (.iface T (.agg #[.int .i64 n,.int .i64 e])))) (a0F st)):
  LW P G all [⟨some d,.makeInterface T (.tmp x),y1,p1,f1,none⟩,⟨none,.panic (.tmp d),y2,p2,f2,none⟩] st Q:=by
 intro base R μ a w hr QQ hk;obtain⟨pc,hpc,a8J,b9H⟩:=(hr.jI hx).a1W;have e0:=(b9H 0 _ rfl).2.rM;have e1:=(b9H 1 _ rfl).2.rM;have e6Y:pc=#[.int .i64 n,.int .i64 e]:=by
  have hs:pc.size=2:=by simpa using a8J
  apply Array.ext
  .simpa using hs
  .intro i h1 h2;simp only[f2P]at e0 e1;have h3:i<2:=by omega
   match i,h1,h3 with
   |0,h1,_=>simpa[h1]using e0
   |1,h1,_=>simpa[h1]using e1
 have hda:d<a.tmps.size:=by rw[hr.size];exact hd
 have cD:(Instr.makeInterface T (.agg pc)).run P w=.ok (.iface T (.agg pc)) w:=by
  unfold Instr.makeInterface;rw[Sem.run_bind,run_underlying hu];simp only[Result.andThen_ok];split
  .simp at hn
  .rfl
 have hw:∀(o:Oper) y,o.guard=none->Region.wanted o y=true:=λo y hg=>by unfold Region.wanted;rw[hg]
 unfold wpList;rw[if_pos (hw _ _ rfl)];left;unfold Oper.wp;have e2:(execOp a.eval ⟨some d,.makeInterface T (.tmp x),y1,p1,f1,none⟩).run P w=.ok (.value (.iface T (.agg pc))) w:=by simp[execOp,hpc,cD]
 rw[e2]
 show wpList P all QQ _ (a.put (some d) (.iface T (.agg pc))) w
 unfold wpList;rw[if_pos (hw _ _ rfl)];left;unfold Oper.wp;have e3:(execOp (a.put (some d) (.iface T (.agg pc))).eval ⟨none,.panic (.tmp d),y2,p2,f2,none⟩).run P w=.halt (.panic (.iface T (.agg pc))) w:=by simp[execOp,dB _ _ hda,Instr.panic,goPanic]
 rw[e3]
 show QQ (.panic [{v:=.iface T (.agg pc),recovered:=false}]) _ w
 rw[e6Y];refine hk _ (a0F st) _ w R μ h ?_ (.refl _ _ _);have h1:=hr.a7F (.refl base R w) hr.pE;have h2:=h1.put (dst:=some d) (v:=.iface T (.agg #[.int .i64 n,.int .i64 e])) (dv:=.undef) (act:=.no) (.undef _) trivial;have h3:finish (a0F st) (some d) .undef .no=a0F st:=by
  simp only[finish,a0F,St.mk.injEq];refine⟨?_,by simp[jV,cE],by simp[cE]⟩;apply List.ext_getElem
  .simp
  .intro i q1 q2;rw[List.getElem_set];split<;>simp
 rw[h3]at h2;exact h2
def cT(P:Program)(G:GT)(ops:Array Oper)(rest:List Nat)(Q:Exit->St->Prop)(s:St):Prop:=VK P G [.ops true ops (sel ops rest)] .normal s Q
theorem cT.mk{ops:Array Oper}{rest:List Nat}{Q:Exit->St->Prop}{s:St}(h:VK P G [.ops true ops (sel ops rest)] .normal s Q):cT P G ops rest Q s:=h
def oR(P:Program)(G:GT)(ops:Array Oper)(c:Nat)(Q:Exit->St->Prop)(x0:Bool):Ord->St->Prop
 | .none,_=>True
 | .call rest more,st=>zT P G ops (sel ops [c]) (λ_ s=>cT P G ops rest Q s) Q x0 st/\oR P G ops c Q x0 more st
 | .op i next more,st=>VK P G [.ops true ops (sel ops [i])] .normal st (λ_ s=>oR P G ops c Q x0 next s)/\oR P G ops c Q x0 more st
theorem tL{q:Bool}{ops:Array Oper}{K K':St->Prop}(hk:∀s,K s->K' s):∀(l:List Oper) (st:St),sE P G q ops l st K->sE P G q ops l st K'
 |[],st,h=>hk st h
 |o::r,st,h=>eN (λs hs=>tL hk r s hs) h
theorem c3V{ops:Array Oper}{c:Nat}:(∃o,ops[c]? =some o/\sel ops [c]=[o])\/sel ops [c]=[]:=by
 simp only[sel];cases h:ops[c]? with
 |none=>right;rfl
 |some o=>left;exact⟨o,rfl,rfl⟩
theorem oR.pan{ops:Array Oper}{c:Nat}{Q:Exit->St->Prop}:∀(T:Ord) (st:St),oR P G ops c Q false T st->a2P P G ops (a0G P G ops c Q) T st
 | .none,_,_=>trivial
 | .call rest more,st,h=>by
  refine⟨?_,oR.pan more st h.2⟩;have h1:=h.1;rcases c3V (ops:=ops) (c:=c)with⟨o,ho,hs⟩|hs
  .rw[hs]at h1;exact h1.pan ho
  .rw[hs]at h1;exact h1.elim
 | .op i next more,st,h=>by refine⟨?_,oR.pan more st h.2⟩;have h1:=h.1;simp only[VK]at h1|-;exact tL (λs hs=>oR.pan next s hs) _ _ h1
theorem oR.ret{ops:Array Oper}{c:Nat}{Q:Exit->St->Prop}:∀(T:Ord) (st:St),oR P G ops c Q true T st->b0s P G ops c (λs=>Q .normal s) T st
 | .none,_,_=>trivial
 | .call rest more,st,h=>by
  refine⟨?_,oR.ret more st h.2⟩;have h1:=h.1;rcases c3V (ops:=ops) (c:=c)with⟨o,ho,hs⟩|hs
  .rw[hs]at h1|-;have h2:=h1.ret;simp only[cT,VK,sE]at h2|-;exact h2
  .rw[hs]at h1;exact h1.elim
 | .op i next more,st,h=>by refine⟨?_,oR.ret more st h.2⟩;have h1:=h.1;simp only[VK]at h1|-;exact tL (λs hs=>oR.ret next s hs) _ _ h1
theorem a9W{q:Bool}{ops:Array Oper}{l:List Oper}{K K':St->Prop}(hk:∀s,K s->K' s)(h:VK P G [.ops q ops l] .normal st λ_ s=>K s):VK P G [.ops q ops l] .normal st λ_ s=>K' s:=by simp only[VK]at h|-;exact tL hk _ _ h
theorem mK{id:Nat}{ops:Array Oper}{Q:Exit->St->Prop}(c:Nat)(pS:List Nat)(T:Ord)(x0:Bool)(hm:P.follows .mixedOrders=true)(hB:c8X ops c pS T=true)(h:VK P G [.ops true ops (sel ops pS)] .normal st λ_ s=>oR P G ops c Q x0 T s):SW P G (.region id ops true) st Q:=by
 cases x0 with
 |false=>exact d4B c pS T hm hB (a9W (λs hs=>oR.pan T s hs) h)
 |true=>exact e0b c pS T hm hB (a9W (λs hs=>oR.ret T s hs) h)
theorem uN.mk{ls:List (Option Loc)}{f:FuncId}{s0:St}{x:Ends}{f2L:List DV}{dst:Option Tmp}{KK:St->Prop}{Q:Exit->St->Prop}{rest:List (TypeId×List Loc)}(he:Enters P f)(hx:CX P G f s0 x)(K:List (Nat×Nat))(jB:∀d H1 dZ,x=.inl (d,H1,dZ)->aK K s0 d H1=true)(b9M:∀v,x=.inr v->aK K s0 .undef s0.H=true)(kR:WkT f2L (aO K s0.tmps))(hH:WkH st.H (cI K s0.H))(kF:tH st st.own (s0.own.map (oN K ls))=some rest)(b3V:xJ st.tmps.length ls s0.own=true)(rK:∀d H1 dZ,x=.inl (d,H1,dZ)->KK (bE K dst st rest d H1 dZ))(a1D:∀v,x=.inr v->Q (.panic (yI v)) (a0F st)):uN P G f f2L ls dst st KK Q x.isLeft:=by
 refine⟨he,λh0=>?_,λh0=>?_⟩
 .match x,hx,jB,rK,h0 with
  | .inl (d,H1,dZ),hx,jB,rK,_=>exact⟨_,mP.a9K hx K (jB d H1 dZ rfl) kR hH kF b3V,rK d H1 dZ rfl⟩
 .match x,hx,b9M,a1D,h0 with
  | .inr v,hx,b9M,a1D,_=>exact⟨v,a7E.e0c hx K (b9M v rfl) kR hH kF b3V,a1D v rfl⟩
attribute [simp] oR
end
attribute [irreducible] uN LW cT
attribute [simp] zT dJ
end Go.VM
end
