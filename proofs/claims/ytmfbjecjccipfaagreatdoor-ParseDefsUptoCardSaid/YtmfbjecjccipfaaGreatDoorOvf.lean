/- Lemmas. No condition. -/
import Derived.Test.YtmfbjecjccipfaaGreatDoorOvd
import Derived.Laws.CopyRow
import Derived.Laws.MakeOwn
import Derived.RangeFuncOwn
set_option linter.unusedVariables false
set_option linter.unusedSimpArgs false
set_option linter.unusedSectionVars false
set_option maxRecDepth 100000
set_option maxHeartbeats 64000000
open Go.Proofs.Tryz
section
section
namespace Go.VM
open Go Go.RowKit
section
variable {P:Program} {G:GT} {st:St} {Q:Exit->St->Prop}
theorem SW.jC{x y:Code}(h:SW P G x st λe s=>match e with
  |.normal=>SW P G y s Q
  |e=>Q e s):SW P G (.seq x y) st Q:=λbase R μ a w hr=>
 wp_seq (wp_mono (h base R μ a w hr) λe a1 w1 ⟨s,R1,μ1,q1,q2,q3⟩=>by
  cases e with
  |normal=>exact wp_mono (q1 base R1 μ1 a1 w1 q2) λe2 a2 w2 ⟨s2,R2,μ2,p1,p2,p3⟩=>⟨s2,R2,μ2,p1,p2,q3.trans p3⟩
  |_=>exact⟨s,R1,μ1,q1,q2,q3⟩)
variable{c:Code}
theorem SW.vk(h:VK P G [.code c] .normal st Q):SW P G c st Q:=a6g _ _ _ (c5F h)
theorem CS.a3U{f:FuncId}{fn:Func}{n:Nat}{ds:List D}{r:DV}{own:Option TypeId}(hf:P.funcs[f]? =some fn)(hb:fn.body=some c)(hn:fn.ntmps=n){rs:List ResultVar}(hrs:fn.results.toList=rs)(h:SW P G c (a2l ds n) λe s=>(e=.normal\/e=.ret)/\c5w (d3c P s rs) r/\c5x s rs own):CS P G f ds r own:=by
 subst hrs;intro w R args hg hR hl hv;refine calls_of_wp hf hb ?_;have hrel:=Rel.init (P:=P) (G:=G) fn hg hR hl hv;rw[<-hn]at h;refine wp_mono (h (a0X w.heap.size) R _ _ w hrel) λe a' w' ⟨s,R',μ',⟨he,kX,oG⟩,jD,hs⟩=>?_;obtain⟨r0,kX,hwk⟩:=b6x kX;obtain⟨v,hv1,hv2⟩:=d1w jD kX;have a6Z:a'.defers=[]/\∃v,(results fn a'.tmps).run P w'=.ok v w'/\∃v' R',Ending.returned v=.returned v'/\(∀μ,TV R' μ w' v' r)/\Step (a0X w.heap.size) R w R' w'/\(∀b o,R' b o->b<w'.heap.size)/\(∀e,own=some e->rX P (a0X w.heap.size) R' w' e v'):=
  ⟨jD.defers,v,hv1,v,R',rfl,λμ=>(hv2 μ).wk hwk,hs,jD.rY,λe he'=>by subst he';exact c5y jD oG hv1⟩
 rcases he with rfl|rfl
 .exact a6Z
 .exact a6Z
variable{d:Nat}{v:Value}{a:Act}
theorem eM(h:d<a.tmps.size):(a.put (some d) v).eval (.tmp d)=v:=by simp[Act.put,Act.eval,h]
theorem cK{x:Nat}(h:x≠d):(a.put (some d) v).eval (.tmp x)=a.eval (.tmp x):=by simp[Act.put,Act.eval,Array.getElem?_setIfInBounds,Ne.symm h]
theorem size_put{d:Option Tmp}:(a.put d v).tmps.size=a.tmps.size:=by cases d<;>simp[Act.put]
theorem c2S(w:World)(z cs:Array Value)(e:TypeId):(w.alloc (.cells z e)).setRow w.heap.size cs=w.alloc (.cells cs e):=by
 unfold World.setRow World.alloc;cases w with
 |mk heap tape drawn os output=>
  simp only;congr 1;apply Array.ext
  .simp
  .intro k h1 h2;simp only[Array.getElem_modify,Array.getElem_push];split
   .rename_i hk;subst hk;simp
   .rename_i hk;have hk2:k<heap.size:=by simp at h2;omega
    simp[hk2]
end
end Go.VM
end
section
namespace Go.VM
open Go Go.RowKit
def sE(k n:Nat):Array Bool:=((List.range n).map λj=>decide (j<k)).toArray
def a7o(ops:Array Oper)(m:Nat):Nat->Nat->Array Bool->Bool
 |0,_,listed=>decide (listed=sE m ops.size)
 |fuel+1,k,listed=>(Region.ready .any ops listed).contains k&&
  (match ops[k]? with
  |none=>false
  |some oi=>
   (List.range ops.size).all λj=>j==k||listed.getD j true||kE ops ops.size j k||(match ops[j]? with
    |some oj=>oi.apart ops oj&&sV ops oi oj
    |none=>true))&&
  a7o ops m fuel (k+1) (listed.setIfInBounds k true)
def a0z(ops:Array Oper)(m:Nat):Bool:=(List.range ops.size).all λj=>decide (j<m)||(List.range m).all λi=>kE ops ops.size j i
def d6X(ops:Array Oper)(m:Nat):Bool:=((gW ops).isEmpty||(ops.toList.all (d2T ops)&&decide ((gW ops).Nodup)))&&(decide (m<=ops.size)&&a0z ops m)&&a7o ops m m 0 (Array.replicate ops.size false)
section
variable {P:Program} {G:GT} {st:St}
variable{i j m:Nat}
theorem a9w{k n:Nat}(h:(sE k n).getD j true=false):k<=j/\j<n:=by
 unfold sE at h;rw[g3b]at h;by_cases hj:j<n
 .simp[hj]at h;omega
 .simp[hj]at h
variable{ops:Array Oper}
theorem b0q{o:Oper}(h:a0z ops m=true)(hj:m<=j)(ho:ops[j]? =some o)(hi:i<m):kE ops ops.size j i=true:=by
 unfold a0z at h;have hjs:=(g3i.1 ho).1;have h1:=g3c.1 h j (List.mem_range.2 hjs);simp only[g3l,g3N]at h1;rcases h1 with h1|h1
 .omega
 .exact g3c.1 h1 i (List.mem_range.2 hi)
def b4y(P:Program)(G:GT)(ops:Array Oper)(m:Nat)(Q:St->Prop):Nat->Array Bool->St->Prop
 |0,listed,st=>listed=sE m ops.size/\Q st
 |fuel+1,listed,st=>Region.ready .any ops listed≠[]/\∀i∈Region.ready .any ops listed,i<m/\match ops[i]? with
  |none=>b4y P G ops m Q fuel (listed.setIfInBounds i true) st
  |some o=>qN P G true ops o (b4y P G ops m Q fuel (listed.setIfInBounds i true)) st
theorem b7c{ops:Array Oper}{m r:Nat}{Q:St->Prop}{QQ:Exit->Act->World->Prop}:∀(fuel:Nat)(listed:Array Bool)(st:St),b4y P G ops m Q fuel listed st->∀(base:dU)(R:Nat->Nat->Prop)(μ:Nat->Nat)(a:Act)(w:World),Rel P G base R μ st a w->
  (∀s a' w' R' μ',Q s->Rel P G base R' μ' s a' w'->Step base R w R' w'->wpAny P .any ops QQ r (sE m ops.size) a' w')->wpAny P .any ops QQ (fuel+r) listed a w
 |0,_,st,h,base,R,μ,a,w,hr,hk=>by rw[Nat.zero_add,h.1];exact hk st a w R μ h.2 hr (.refl _ _ _)
 |fuel+1,listed,st,h,base,R,μ,a,w,hr,hk=>by
  rw[show fuel+1+r=(fuel+r)+1 by omega];refine⟨λh0=>absurd h0 h.1,λi hi=>?_⟩;have h1:=(h.2 i hi).2;unfold wpOp;split
  .rename_i ho;rw[ho]at h1;exact b7c fuel _ st h1 base R μ a w hr hk
  .rename_i o ho;rw[ho]at h1;exact uE h1 hr λs v w' R' μ' h' jD uO=>b7c fuel _ s h' base R' μ' _ w' jD λs a' w2 R2 μ2 q1 q2 q3=>hk s a' w2 R2 μ2 q1 q2 (uO.trans q3)
theorem b7d{listed:Array Bool}(hj:listed.getD j true=false)(gK:j≠i):(listed.setIfInBounds i true).getD j true=false:=by rw[getD_set_ne true (Ne.symm gK)];exact hj
theorem c6p{Q:St->Prop}{oi:Oper}(him:i<m)(hT:a0z ops m=true)(hA:sA ops)(hi:ops[i]? =some oi)(hsi:(dW oi.op=true/\pH ops oi=false)\/rR oi=true):
  ∀(fuel:Nat)(listed:Array Bool)(st s:St),gX ops listed->
   (∀j oj,ops[j]? =some oj->j≠i->listed.getD j true=false->kE ops ops.size j i=false->oi.apart ops oj=true/\sV ops oi oj=true)->
   i∈Region.ready .any ops listed->sX ops listed st->Eff P G ops oi st s->
   b4y P G ops m Q fuel (listed.setIfInBounds i true) s->b4y P G ops m Q (fuel+1) listed st:=by
 have low:∀(listed:Array Bool),gX ops listed->i∈Region.ready .any ops listed->∀j∈Region.ready .any ops listed,j<m:=λlisted qM hr j hj=>by apply Classical.byContradiction;intro hjm;obtain⟨_,oj,hoj,eS⟩:=mem_ready.1 hj;obtain⟨a3M,_⟩:=mem_ready.1 hr;have h1:=b0q hT (g3I hjm) hoj him;rw[dZ qM a3M ops.size j λo ho=>by rw[hoj]at ho;cases ho;exact eS]at h1;cases h1
 intro fuel
 induction fuel with
 |zero=>
  intro listed st s qM _ hr _ hy H;refine⟨λh=>(by rw[h]at hr;cases hr),λj hj=>⟨low listed qM hr j hj,?_⟩⟩;by_cases hji:j=i
  .subst hji;rw[hi];exact(eO hsi).2 ⟨s,hy,H⟩
  .exfalso;obtain⟨a0b,oj,hoj,eS⟩:=mem_ready.1 hj;obtain⟨a3M,_⟩:=mem_ready.1 hr;have h1:=b7d a0b hji;rw[H.1]at h1;have h2:=a9w h1;have:=low listed qM hr j hj;omega
 |succ fuel ih=>
  intro listed st s qM a0M hr hI hy H;refine⟨λh=>(by rw[h]at hr;cases hr),λj hj=>⟨low listed qM hr j hj,?_⟩⟩;by_cases hji:j=i
  .subst hji;rw[hi];exact(eO hsi).2 ⟨s,hy,H⟩
  .have h1:=(H.2 j (ready_mono hj hji)).2;obtain⟨a0b,oj,hoj,eS⟩:=mem_ready.1 hj;rw[hoj]at h1|-;simp only at h1|-;obtain⟨a3M,oi',c2y,b1v⟩:=mem_ready.1 hr;have a6v:kE ops ops.size j i=false:=dZ qM a3M _ _ λo ho=>by rw[hoj]at ho;cases ho;exact eS
   obtain⟨hap,hpo⟩:=a0M j oj hoj hji a0b a6v;have hsj:(dW oj.op=true/\pH ops oj=false)\/rR oj=true:=by
    by_cases hs:rR oj=true
    .exact .inr hs
    .refine .inl ⟨?_,?_⟩
     .unfold sV at hpo;simp only[rR,g3l,g2Z,g3v]at hpo hs;rcases hpo with((((((h|h)|h)|h)|h)|h)|h)|h
      .exact h.1.2
      .exact absurd (.inl (.inl h.1.2)) hs
      .exact h.1.1.2
      .exact absurd (.inl (.inr h.2)) hs
      .exact h.1.2
      .exact absurd (.inl h.1.2) hs
      .exact absurd (.inr h.2) hs
      .exact(qB (G:=G) (st:=st) h.1.2).1
     .cases hx:pH ops oj with
      |false=>rfl
      |true=>
       have aG:i<ops.size:=(g3i.1 hi).1;rcases xI hx hoj aG (λe=>hji e.symm)with h'|h'
       .have:=dZ qM a0b ops.size i λo ho=>by rw[c2y]at ho;cases ho;exact b1v
        rw[h']at this;cases this
       .rw[a6v]at h';cases h'
   obtain⟨s12,hu,hk⟩:=(eO hsj).1 h1;obtain⟨s2,e1,e2⟩:=b1u hap hpo (λhn d hd=>hI i oi d hi hn a3M hd) (λhn d hd=>hI j oj d hoj hn a0b hd) hy hu;refine(eO hsj).2 ⟨s2,e1,?_⟩;refine ih (listed.setIfInBounds j true) s2 s12 (qM.set hj) (λk ok hk' hki hun uV=>?_) (ready_mono hr (Ne.symm hji)) (hI.step hA hoj λk hf hn=>wT e1 hf hn) e2 ?_
   .exact a0M k ok hk' hki (vV hun).2 uV
   .rw[Array.setIfInBounds_comm _ _ hji];exact hk
theorem c0X{ops:Array Oper}{m:Nat}{Q:St->Prop}(hTA:a0z ops m=true)(hA:sA ops)(hT:gW ops=[]\/∀o∈ops.toList,d2T ops o=true):∀(l:List Oper)(k:Nat)(listed:Array Bool)(st:St),k+l.length=m->(∀j,j<l.length->l[j]? =ops[k+j]?)->gX ops listed->sX ops listed st->
  a7o ops m l.length k listed=true->wN P G true ops l st Q->b4y P G ops m Q l.length listed st
 |[],_,_,_,_,_,_,_,hB,h=>⟨by simpa[a7o]using hB,h⟩
 |o::l,k,listed,st,hkm,hl,qM,hI,hB,h=>by
  have f2s:k<m:=by simp only[List.length_cons]at hkm;omega
  have h0:ops[k]? =some o:=by simpa using (hl 0 (by simp)).symm
  simp only[List.length_cons,a7o,g2Z,h0]at hB;obtain⟨⟨hr,hf⟩,hB'⟩:=hB;have hrk:k∈Region.ready .any ops listed:=by simpa using hr
  have tI:∀s,sX ops (listed.setIfInBounds k true) s->wN P G true ops l s Q->b4y P G ops m Q l.length (listed.setIfInBounds k true) s:=λs hs h=>c0X hTA hA hT l (k+1) _ s (by simp only[List.length_cons]at hkm;omega) (λj hj=>by have:=hl (j+1) (by simpa using hj);simpa[Nat.add_assoc,Nat.add_comm 1 j]using this) (qM.set hrk) hs hB' h
  have b6h:∀j oj,ops[j]? =some oj->j≠k->listed.getD j true=false->kE ops ops.size j k=false->o.apart ops oj=true/\sV ops o oj=true:=by intro j oj hj gK hun uV;rw[g3c]at hf;have h1:=hf j (List.mem_range.2 (g3i.1 hj).1);simp only[hj,g3l,beq_iff_eq,gK,false_or,hun,g3t,uV,g2Z]at h1;exact h1
  have only:(∀j oj,ops[j]? =some oj->j≠k->listed.getD j true=false->kE ops ops.size j k=false->False)->b4y P G ops m Q (l.length+1) listed st:=λuV=>by
   have low:∀j∈Region.ready .any ops listed,j<m:=λj hj=>by apply Classical.byContradiction;intro hjm;obtain⟨_,oj,hoj,eS⟩:=mem_ready.1 hj;obtain⟨a3M,_⟩:=mem_ready.1 hrk;have h1:=b0q hTA (g3I hjm) hoj f2s;rw[dZ qM a3M ops.size j λo ho=>by rw[hoj]at ho;cases ho;exact eS]at h1;cases h1
   refine⟨λh'=>(by rw[h']at hrk;cases hrk),λj hj=>⟨low j hj,?_⟩⟩;by_cases hjk:j=k
   .subst hjk;rw[h0];have c0I:qN P G true ops o (λs=>wN P G true ops l s Q/\sX ops (listed.setIfInBounds j true) s) st:=by
     by_cases hT0:gW ops=[]
     .refine jM (λs hs=>⟨hs,λi oi d hi hn _ hd=>?_⟩) h;have:d∈gW ops:=g3E.2 ⟨oi,by rw[g3X];exact Array.mem_of_getElem? hi,by rw[if_pos hn];exact hd⟩;rw[hT0]at this;cases this
     .have hT:=hT.resolve_left hT0;refine jM (λs hs=>⟨hs.1,hI.step hA h0 hs.2⟩) (c0H hT0 (hT o (by rw[g3X];exact Array.mem_of_getElem? h0)) h)
    exact jM (λs hs=>tI s hs.2 hs.1) c0I
   .obtain⟨a0b,oj,hoj,eS⟩:=mem_ready.1 hj;have a6v:kE ops ops.size j k=false:=dZ qM (mem_ready.1 hrk).1 _ _ λo' xF=>by rw[hoj]at xF;cases xF;exact eS
    exact(uV j oj hoj hjk a0b a6v).elim
  by_cases hs:(dW o.op=true/\pH ops o=false)\/rR o=true
  .obtain⟨s,hd,hk⟩:=(eO hs).1 h;exact c6p f2s hTA hA h0 hs l.length listed st s qM (λj oj hj gK hun uV=>b6h j oj hj gK hun uV) hrk hI hd (tI _ (hI.step hA h0 λk hf hn=>wT hd hf hn) hk)
  .refine only λj oj hj gK hun uV=>?_;obtain⟨_,hpo⟩:=b6h j oj hj gK hun uV;cases hal:pH ops o with
   |true=>
    obtain⟨_,ok,oB,d5T⟩:=mem_ready.1 hrk;have d5U:kE ops ops.size k j=false:=dZ qM hun _ _ λo' xF=>by rw[oB]at xF;cases xF;exact d5T
    rcases xI hal h0 (g3i.1 hj).1 gK with h'|h'
    .rw[uV]at h';cases h'
    .rw[d5U]at h';cases h'
   |false=>
    unfold sV at hpo;simp only[rR,g3l,g2Z,g3v]at hpo hs;rcases hpo with((((((h'|h')|h')|h')|h')|h')|h')|h'
    .exact hs (.inl ⟨h'.1.1,hal⟩)
    .exact hs (.inl ⟨h'.1.1,hal⟩)
    .exact hs (.inr (.inl (.inl h'.1.1.1)))
    .exact hs (.inl ⟨h'.1,hal⟩)
    .exact hs (.inr (.inl (.inr h'.1.1)))
    .exact hs (.inr (.inl h'.1.1))
    .exact hs (.inl ⟨(qB (G:=G) (st:=st) h'.1.1).1,hal⟩)
    .exact hs (.inr (.inr h'.1.1))
theorem b7e{id:Nat}{T:St->Prop}{Q:Exit->St->Prop}(hm:P.follows .mixedOrders=true)(hB:d6X ops m=true)(hF:b3g ops st=true)(h:wN P G true ops (ops.toList.take m) st T)(hT:∀s base R μ a w (QQ:Exit->Act->World->Prop),T s->Rel P G base R μ s a w->(∀s' a' w' R' μ',Q .normal s'->Rel P G base R' μ' s' a' w'->Step base R w R' w'->QQ .normal a' w')->wpAny P .any ops QQ (ops.size-m) (sE m ops.size) a w):SW P G (.region id ops true) st Q:=by
 intro base R μ a w hr;obtain⟨jD,uO⟩:=hr.drew;unfold d6X at hB;rw[g2Z,g2Z,g2Z,g3N]at hB;obtain⟨⟨hN,f2t,hTA⟩,hB⟩:=hB;rw[g3l,List.isEmpty_iff,g2Z,g3c,g3N]at hN;have mem:∀{i oi d},ops[i]? =some oi->gP oi=true->oi.dst=some d->d∈gW ops:=λhi hn hd=>g3E.2 ⟨_,by rw[g3X];exact Array.mem_of_getElem? hi,by rw[if_pos hn];exact hd⟩;have hA:sA ops:=λi j oi oj d hi hj hni hnj hdi hdj=>by
  rcases hN with hN|⟨_,hN⟩
  .have:=mem hi hni hdi;rw[hN]at this;cases this
  .exact b6s (l:=ops.toList) (f:=λo=>if gP o then o.dst else none) hN i j (by simpa using hi) (by simpa using hj) (by rw[if_pos hni];exact hdi) (by rw[if_pos hnj];exact hdj)
 have hI:sX ops (Array.replicate ops.size false) st:=λj oj d hj hn _ hd=>g3c.1 hF d (mem hj hn hd);have hlen:(ops.toList.take m).length=m:=by simp;omega
 have h1:=c0X (P:=P) (G:=G) hTA hA (hN.imp (λh=>h) (λh=>h.1)) (ops.toList.take m) 0 (Array.replicate ops.size false) st (by rw[hlen];omega) (λj hj=>by
  rw[hlen]at hj;rw[g3F,if_pos hj];simp) (λk hk=>by
  rcases Nat.lt_or_ge k ops.size with h'|h'
  .simp[h']at hk
  .simp[Nat.not_lt.2 h']at hk) hI (by rw[hlen];exact hB) h
 rw[hlen]at h1;refine wp_region_any hm ?_;have h2:=b7c (r:=ops.size-m) (QQ:=λe a' w'=>∃s' R' μ',Q e s'/\Rel P G base R' μ' s' a' w'/\Step base R w R' w') m _ st h1 base R μ a w.drew jD λs a' w' R' μ' q1 q2 q3=>hT s base R' μ' a' w' _ q1 q2 λs2 a2 w2 R2 μ2 p1 p2 p3=>⟨s2,R2,μ2,p1,p2,(uO.trans q3).trans p3⟩
 rw[show m+(ops.size-m)=ops.size by omega]at h2;exact h2
end
end Go.VM
end
section
namespace Go.VM
open Go Go.RowKit
def spl(cur:Array Value)(off:Nat)(l:List Value):Array Value:=(cur.toList.take off++l++cur.toList.drop (off+l.length)).toArray
variable{cur:Array Value}{off:Nat}{l:List Value}
theorem b1M(h:off+l.length<=cur.size)(k:Nat):(spl cur off l)[k]? =if k<off then cur[k]? else if k<off+l.length then l[k-off]? else cur[k]? :=by unfold spl;rw[List.getElem?_toArray,a5g (by simpa using h)];simp
theorem b7f(h:off+l.length<=cur.size):(spl cur off l).size=cur.size:=by unfold spl;simp only[List.size_toArray,g3K,g3L,g3Y,Array.length_toList];omega
theorem e3b{l':List Value}(h:off+l.length<=cur.size)(hl:l'.length=l.length):spl (spl cur off l) off l'=spl cur off l':=by
 apply Array.ext_getElem?;intro k;have h1:=b7f h;rw[b1M (by rw[h1];omega),b1M h,b1M (by omega)];rw[hl];split
 .rfl
 .split
  .rfl
  .rfl
theorem e3c(a b c:List Value)(b':List Value)(h:b'.length=b.length:=by rw[hn,m1]):spl (a.toArray++b.toArray++c.toArray) a.length b'=a.toArray++b'.toArray++c.toArray:=by unfold spl;rw[h];simp
theorem setRow_setRow(w:World)(g:Nat)(a b:Array Value):(w.setRow g a).setRow g b=w.setRow g b:=by
 unfold World.setRow;cases w with
 |mk heap tape drawn os output=>
  simp only;congr 1;apply Array.ext
  .simp
  .intro k h1 h2;simp only[Array.getElem_modify];by_cases hk:g=k
   .simp only[hk,if_true];generalize heap[k]'(by simpa using h1)=o;cases o<;>rfl
   .simp[hk]
theorem b4z(w:World){g b:Nat}(gK:g≠b)(x y:Array Value):(w.setRow g x).setRow b y=(w.setRow b y).setRow g x:=by
 unfold World.setRow;cases w with
 |mk heap tape drawn os output=>
  simp only;congr 1;apply Array.ext
  .simp
  .intro k h1 h2;simp only[Array.getElem_modify];by_cases hk:g=k
   .subst hk;simp[Ne.symm gK]
   .by_cases hb:b=k
    .subst hb;simp[hk]
    .simp[hk,hb]
section
variable {P:Program} {G:GT} {st:St}
variable{o:Oper}{a:Act}{x:Operand}{w:World}{b:Nat}{e t:TypeId}
theorem vX{ad:Operand}(ho:o.op=.store t ad x){off:Nat}{cur:Array Value}{T:TypeId}(had:a.eval ad=.pointer (some ⟨b,off,none⟩))(hh:w.heap[b]? =some (.cells cur T (0,0)))(mI:(a.eval x).cells.size=P.cellsOf t)(gK:P.cellsOf t≠0)(kK:∀u∈(a.eval x).cells.toList,u.oneCell'=true)(mO:off+(a.eval x).cells.size<=cur.size:=by rw[v2x];show _+pc.size<=_;rw[b3q,hc];exact mO):
  (execOp a.eval o).run P w=.ok .skip (w.setRow b (spl cur off (a.eval x).cells.toList)):=by
 have pZ:=run_storeCells_at P b off T (a.eval x).cells.toList 0 cur w hh (by simpa using mO) kK;simp only[Nat.add_zero]at pZ;have hnn:¬((a.eval x).cells.size≠P.cellsOf t):=by rw[mI];simp
 unfold spl;simp only[execOp,ho,g3O,had,Instr.storeAt,Instr.sureAddr,storeVar,Sem.run_pure,g3Q,rU (gE gK) w,if_neg hnn,pZ]
theorem a4A{i:Operand}(ho:o.op=.indexAddr t x i)(hu:P.underlying t=some (.slice e)){n cap k:Nat}{kd:IntKind}(hx:a.eval x=.slice (some ⟨b,0,none⟩) n cap)(hi:a.eval i=.int kd (k:Int))(hk:k<n)(hs:0<P.cellsOf e):
  (execOp a.eval o).run P w=.ok (.value (.pointer (some ⟨b,k*P.cellsOf e,none⟩))) w:=by
 have hso:=rU (gE (P:=P) (t:=e) (by omega)) w;have hkn:¬(n<=k):=by omega
 simp[execOp,ho,hx,hi,Instr.indexAt,g3P hu,asIntOf,hk,hso,pC]
variable{μ:Nat->Nat}{gI:List (TypeId×List Loc)}{xs:List (List D)}{R:Nat->Nat->Prop}{z0:List D}{base:dU}
theorem b4A(hr:Rel P G base R μ st a w){ty:TypeId}(oB:kD P e=true)(hu:P.underlying t=some (.slice e)){i:Tmp}(hsx:st.eval G (.tmp i)=.d (.sl xs))(htk:jV (.t i) st.own=some (e,gI))(hlx:∀c∈xs,c.length=P.cellsOf e)(hx:st.eval G x=.d (.sl [z0]))(hz0:z0.length=P.cellsOf e)(hbd:(xs.length+1)*(P.bytesOf e+1)<=140737488355328):
  ∃g cap a3V w1,(Builtin.append_ #[t,t] ty #[a.eval (.tmp i),a.eval x]).run P w=.ok (.slice (some ⟨g,0,none⟩) (xs.length+1) cap) w1/\w1.heap[g]? =some (.cells a3V e (0,0))/\xs.length*P.cellsOf e+P.cellsOf e<=a3V.size/\
   (∀k o,getKey k st.H=some o->μ k≠g/\w1.heap[μ k]? =w.heap[μ k]?)/\
   ∀(news:List Value)(c:List D),news.length=P.cellsOf e->c.length=P.cellsOf e->(∀u∈news,u.oneCell'=true)->(∀(j:Nat)(d:D),c[j]? =some d->d.one=true/\∃v,news[j]? =some v/\V R w v d)->
    ∃R1,Rel P G base R1 μ {st with own:=gI} a (w1.setRow g (spl a3V (xs.length*P.cellsOf e) news))/\V R1 (w1.setRow g (spl a3V (xs.length*P.cellsOf e) news)) (.slice (some ⟨g,0,none⟩) (xs.length+1) cap) (.sl (xs++[c]))/\
     a6F P base R1 μ {st with own:=gI} a (w1.setRow g (spl a3V (xs.length*P.cellsOf e) news)) (.slice (some ⟨g,0,none⟩) (xs.length+1) cap) (.fresh e)/\Step base R w R1 (w1.setRow g (spl a3V (xs.length*P.cellsOf e) news)):=by
 obtain⟨ti,z,hi,yN,b0c,a2i,hz,hzs⟩:=a0J oB;have hb1:xs.length+1<=140737488355328:=by rw[Nat.mul_add]at hbd;omega
 have hb2:(xs.length+1)*P.bytesOf e<=140737488355328:=by rw[Nat.mul_add]at hbd;omega
 obtain⟨ao2,e3d,hv2,a9x⟩:=c0w (ys:=[z0]) hr (by rw[hx];rfl);obtain⟨b2,e3e,f2v,rfl,q1,q2,q3⟩:=a9x (by simp);have f6s:f2v=P.cellsOf e:=by rw[<-q2 z0 (.head _),hz0]
 subst f6s;obtain⟨n0,m1,m2,m3,m4⟩:=b1n q2 q3;simp only[List.length_singleton,Nat.one_mul]at m1 hv2;obtain⟨jD,v0,vs,hv0,oG,a4q,sU,hap⟩:=hr.jV htk;have hsv:a.eval (.tmp i)=v0:=by
  refine hv0 _ ?_
  show a.tmps[i]? =some (a.tmps.getD i undef)
  by_cases hs:i<a.tmps.size
  .simp[hs]
  .have h3:¬i<st.tmps.length:=by rw[<-hr.size];exact hs
   simp[St.eval,List.getD,g3G (g3I h3)]at hsx
 have hV:=hr.pQ hsx;have aG:∀k o,getKey k st.H=some o->μ k<w.heap.size:=λk o hk=>(hr.mE k o hk).2.2.lt;have b9t:∀(olds:List Value)(old:Nat),olds.length=xs.length*P.cellsOf e->(∀(i j:Nat)(c:List D)(d:D),xs[i]? =some c->c[j]? =some d->d.one=true/\∃v,olds[i*P.cellsOf e+j]? =some v/\V R w v d)->
   (Builtin.append_ #[t,t] ty #[a.eval (.tmp i),a.eval x]).run P w=.ok (.slice (some ⟨w.heap.size,0,none⟩) (xs.length+1) (grownCap w (xs.length+1) old e)) (w.drew.alloc (.cells (olds.toArray++n0.toArray++Builtin.zeroCells z.cells (grownCap w (xs.length+1) old e-(xs.length+1))) e))->
   ∃g cap a3V w1,(Builtin.append_ #[t,t] ty #[a.eval (.tmp i),a.eval x]).run P w=.ok (.slice (some ⟨g,0,none⟩) (xs.length+1) cap) w1/\w1.heap[g]? =some (.cells a3V e (0,0))/\xs.length*P.cellsOf e+P.cellsOf e<=a3V.size/\
   (∀k o,getKey k st.H=some o->μ k≠g/\w1.heap[μ k]? =w.heap[μ k]?)/\
   ∀(news:List Value)(c:List D),news.length=P.cellsOf e->c.length=P.cellsOf e->(∀u∈news,u.oneCell'=true)->(∀(j:Nat)(d:D),c[j]? =some d->d.one=true/\∃v,news[j]? =some v/\V R w v d)->
    ∃R1,Rel P G base R1 μ {st with own:=gI} a (w1.setRow g (spl a3V (xs.length*P.cellsOf e) news))/\V R1 (w1.setRow g (spl a3V (xs.length*P.cellsOf e) news)) (.slice (some ⟨g,0,none⟩) (xs.length+1) cap) (.sl (xs++[c]))/\
     a6F P base R1 μ {st with own:=gI} a (w1.setRow g (spl a3V (xs.length*P.cellsOf e) news)) (.slice (some ⟨g,0,none⟩) (xs.length+1) cap) (.fresh e)/\Step base R w R1 (w1.setRow g (spl a3V (xs.length*P.cellsOf e) news)):=by
  intro olds old ho1 ho2 dD;refine⟨w.heap.size,_,_,_,dD,heap_alloc_new w.drew _,?_,λk o hk=>⟨by have:=aG k o hk;omega,Below.heap_alloc w.drew _ _ (aG k o hk)⟩,?_⟩
  .simp only[Array.size_append,List.size_toArray,ho1,m1];omega
  .intro news c hn hc h1 hcn;have hsp:spl (olds.toArray++n0.toArray++Builtin.zeroCells z.cells (grownCap w (xs.length+1) old e-(xs.length+1))) (xs.length*P.cellsOf e) news=olds.toArray++news.toArray++Builtin.zeroCells z.cells (grownCap w (xs.length+1) old e-(xs.length+1)):=by have:=e3c olds n0 (Builtin.zeroCells z.cells (grownCap w (xs.length+1) old e-(xs.length+1))).toList news;rw[ho1]at this;simpa using this
   rw[hsp];have hal:=c2S w.drew (olds.toArray++n0.toArray++Builtin.zeroCells z.cells (grownCap w (xs.length+1) old e-(xs.length+1))) (olds.toArray++news.toArray++Builtin.zeroCells z.cells (grownCap w (xs.length+1) old e-(xs.length+1))) e;have hhs:w.drew.heap.size=w.heap.size:=rfl;rw[hhs]at hal;rw[hal];obtain⟨R',n1,n2,n3,n4⟩:=b0d jD (e:=e) (z:=z) a2i hzs (xs:=xs) (ys:=[c]) (olds:=olds) (news:=news) old (by unfold maxLen;simp;omega) hlx (by simpa using hc) ho1 (by simpa using hn) ho2 (λi j c' d hi hj=>by
    cases i with
    |zero=>simp at hi;subst hi;simpa using hcn j d hj
    |succ i=>simp at hi) rfl
   exact⟨R',n1,n3,n4,n2⟩
 have b5g:xs=[]->(∃ao,v0=.slice ao 0 0)->_:=λhx0 ⟨ao,hao⟩=>b9t [] 0 (by rw[hx0];simp) (by rw[hx0];simp) (by
  rw[hsv,hao,hv2,hx0];cases ao with
  |none=>have:=run_append_nil (P:=P) w t ty e ti z hu hi hz ⟨b2,e3e,none⟩ 1 e3d n0 (by rw[m1,yN,Nat.one_mul]) m2 (by omega) (by omega) (by rw[b0c];rw[hx0]at hb2;simp at hb2;omega);simpa using this
  |some b0=>have:=run_append_grow (P:=P) w t ty e ti z hu hi hz b0 0 0 [] (by simp) (by simp) ⟨b2,e3e,none⟩ 1 e3d n0 (by rw[m1,yN,Nat.one_mul]) m2 (by omega) (by omega) (by rw[b0c];rw[hx0]at hb2;exact growslice_fits (by omega) (by simpa using hb2));simpa using this)
 rcases oG with⟨ao,rfl⟩|⟨g,n,cap,cur,rfl,hbg,hg,hnc,hcm,sN,hnR⟩
 .have hx0:xs=[]:=by obtain⟨ao',e0Y,h1,_⟩:=hV.a1a;rw[hsv]at h1;exact g3J (Value.slice.inj h1).2.1.symm
  exact b5g hx0 ⟨ao,rfl⟩
 .obtain⟨ao',e0Y,h1,_,d5L⟩:=hV.a1a;rw[hsv]at h1;cases h1;have holds:∃olds:List Value,olds.length=xs.length*P.cellsOf e/\(∀(j:Nat)(u:Value),olds[j]? =some u->w.cell? ((⟨g,0,none⟩:Addr).add j)=some u)/\
    ∀(i j:Nat)(c:List D)(d:D),xs[i]? =some c->c[j]? =some d->d.one=true/\∃v,olds[i*P.cellsOf e+j]? =some v/\V R w v d:=by
   by_cases hx0:xs=[]
   .subst hx0;exact⟨[],by simp,by simp,by simp⟩
   .obtain⟨b,o',size,hba,q1,q2,q3⟩:=d5L hx0;cases hba;have mI:size=P.cellsOf e:=by
     cases xs with
     |nil=>exact absurd rfl hx0
     |cons c l=>rw[<-q2 c (.head _),hlx c (.head _)]
    subst mI;obtain⟨olds,n1,n2,_,n4⟩:=b1n q2 q3;exact⟨olds,n1,n2,n4⟩
  obtain⟨olds,o1,o2,o3⟩:=holds;by_cases a6N:xs.length+1<=cap
  .have hmul:(xs.length+1)*P.cellsOf e<=cap*P.cellsOf e:=g3T _ a6N;have e6c:xs.length*P.cellsOf e+P.cellsOf e<=cur.size:=by rw[sN];rw[Nat.add_mul,Nat.one_mul]at hmul;exact hmul
   have mO:xs.length*P.cellsOf e+n0.length<=cur.size:=by rw[m1];exact e6c
   have dD:=run_append_room (P:=P) w t ty e ti hu hi g xs.length cap cur hg ⟨b2,e3e,none⟩ 1 e3d n0 (by rw[m1,yN,Nat.one_mul]) m2 m3 a6N (by rw[yN];exact mO);rw[yN]at dD;have a9x:(Builtin.append_ #[t,t] ty #[a.eval (.tmp i),a.eval x]).run P w=.ok (.slice (some ⟨g,0,none⟩) (xs.length+1) cap) (w.setRow g (spl cur (xs.length*P.cellsOf e) n0)):=by rw[hsv,hv2];exact dD
   have b5h:bQ (.slice (some ⟨g,0,none⟩) xs.length cap)=some g:=by simp[bQ];omega
   have f2w:∀k o,getKey k st.H=some o->μ k≠g:=λk o hk he=>a4q k o hk (by rw[b5h,he]);refine⟨g,cap,_,_,a9x,setRow_heap w g cur _ e _ hg,?_,λk o hk=>⟨f2w k o hk,setRow_other w g _ _ (f2w k o hk)⟩,?_⟩
   .rw[b7f mO];exact e6c
   .intro news c hn hc h1n hcn;have hnl:news.length=n0.length:=by rw[hn,m1]
    rw[e3b mO hnl,setRow_setRow];have e6d:xs.length*P.cellsOf e+news.length<=cur.size:=by rw[hnl];exact mO
    generalize c5i:spl cur (xs.length*P.cellsOf e) news=cur';have a6s:∀k,cur'[k]? =if k<xs.length*P.cellsOf e then cur[k]? else if k<xs.length*P.cellsOf e+news.length then news[k-xs.length*P.cellsOf e]? else cur[k]? :=λk=>by rw[<-c5i];exact b1M e6d k
    obtain⟨p1,p2,p3⟩:=jD.d1p (g:=g) (n:=xs.length) (m:=1) (s:=P.cellsOf e) (cur':=cur') (λk o' hk he=>a4q k o' hk (by rw[b5h,he])) sU (λv' hv' hsp=>(hap v' hv').1 g b5h hsp) hbg hg hnR (λoff d2N=>by rw[a6s,if_pos d2N]);have e6e:(w.setRow g cur').heap[g]? =some (.cells cur' e (0,0)):=setRow_heap w g cur _ e _ hg;have d5K:cur'.size=cap*P.cellsOf e:=by rw[<-c5i,b7f e6d,sN]
    refine⟨_,p1,?_,?_,p2⟩
    .have hly:∀c'∈[c],c'.length=P.cellsOf e:=by simpa using hc
     have rL:∀(i j:Nat)(c':List D)(d:D),(xs++[c])[i]? =some c'->c'[j]? =some d->d.one=true/\∃v,(w.setRow g cur').cell? ⟨g,0+i*P.cellsOf e+j,none⟩=some v/\V R w v d:=λi j c' d hi' hj=>by
      rw[Nat.zero_add,cell_of_row _ _ _ cur' e (0,0) e6e,a6s];by_cases yJ:i<xs.length
      .rw[g3k yJ]at hi';obtain⟨w1,v,w2,w3⟩:=o3 i j c' d hi' hj;have aG:=(g3a.1 w2).1;have b6l:=o2 _ v w2;rw[pC,Nat.zero_add,cell_of_row _ _ _ cur e (0,0) hg]at b6l;rw[if_pos (by omega)];exact⟨w1,v,b6l,w3⟩
      .rw[g3h (by omega)]at hi';have hi0:i=xs.length:=by have:=(g3a.1 hi').1;simp at this;omega
       subst hi0;simp at hi';subst hi';obtain⟨w1,v,w2,w3⟩:=hcn j d hj;have aG:=(g3a.1 w2).1;rw[if_neg (by omega),if_pos (by omega),Nat.add_sub_cancel_left];exact⟨w1,v,w2,w3⟩
     refine .sl g 0 _ cap (P.cellsOf e) _ (λi j=>((w.setRow g cur').cell? ⟨g,0+i*P.cellsOf e+j,none⟩).getD undef) (by simp) a6N a2i (λc' zM=>by simp at zM;rcases zM with zM|zM;exact hlx c' zM;exact hly c' (by simpa using zM)) (λi j hi' hj=>⟨.inr ⟨rfl,?_⟩,?_⟩) (λi j c' d hi' hj=>(rL i j c' d hi' hj).1) (λi j c' d hi' hj=>?_)
     .have:(i+1)*P.cellsOf e<=(xs.length+1)*P.cellsOf e:=g3T _ (by omega);rw[Nat.add_mul]at this;omega
     .have yJ:i<(xs++[c]).length:=by simp;omega
      have hei:=g3d yJ;have hjl:j<((xs++[c])[i]).length:=by
       have hm:(xs++[c])[i]∈xs++[c]:=g3y yJ;rw[g3z]at hm;rcases hm with hm|hm
       .rw[hlx _ hm];exact hj
       .rw[hly _ hm];exact hj
      obtain⟨_,v,hv,_⟩:=rL i j _ _ hei (g3d hjl);rw[hv];rfl
     .obtain⟨_,v,hv,hvd⟩:=rL i j c' d hi' hj;rw[hv];exact hvd.cA p2
    .refine⟨.inr ⟨g,_,cap,cur',rfl,hbg,e6e,a6N,hcm,d5K,λoff d2N hR=>?_⟩,λk o' hk=>by have:=a4q k o' hk;rw[b5h]at this;simpa[bQ,show cap≠0 by omega]using this,vs,p3,λv' hv'=>?_⟩
     .rcases hR with hR|⟨_,hR⟩
      .have:xs.length*P.cellsOf e<=(xs.length+1)*P.cellsOf e:=g3T _ (by omega);exact hnR off (by omega) hR
      .omega
     .have d5M:bQ (.slice (some ⟨g,0,none⟩) (xs.length+1) cap)=some g:=by simp[bQ];omega
      exact⟨λg' hg' c9a=>(hap v' hv').1 g' (by rw[b5h, <- d5M];exact hg') c9a,λg' hg' c9a=>(hap v' hv').2 g' hg' (by rw[b5h, <- d5M];exact c9a)⟩
  .refine b9t olds cap o1 o3 ?_;rw[hsv,hv2];exact run_append_grow (P:=P) w t ty e ti z hu hi hz ⟨g,0,none⟩ xs.length cap olds (by rw[o1,yN]) o2 ⟨b2,e3e,none⟩ 1 e3d n0 (by rw[m1,yN,Nat.one_mul]) m2 (by omega) (by omega) (by rw[b0c];exact growslice_fits (by omega) hb2)
abbrev tl2(s:St)(gI:List (TypeId×List Loc))(e:TypeId)(r p:Tmp)(xs:List (List D))(c:List D):St:=finish (finish {s with own:=gI} (some r) (.d (.sl (xs++[c]))) (.fresh e)) (some p) .undef .no
variable{ops:Array Oper}
theorem eF{Q:Exit->Act->World->Prop}{i:Nat}{K:Act->World->Prop}{a':Act}{w':World}(ho:ops[i]? =some o)(hg:o.guard=none){v:Value}(dD:(execOp a.eval o).run P w=.ok (.value v) w'\/((execOp a.eval o).run P w=.ok .skip w'/\v=Go.undef))(ha:a.put o.dst v=a')(h:K a' w'):wpOp P ops Q i K a w:=by
 unfold wpOp;rw[ho];have hw:∀y,Region.wanted o y=true:=λy=>by unfold Region.wanted;rw[hg]
 simp only[hw,if_true];left;unfold Oper.wp;rcases dD with h1|⟨h1,rfl⟩
 .rw[h1]
  show K (a.put o.dst v) w'
  rw[ha];exact h
 .rw[h1]
  show K (a.put o.dst Go.undef) w'
  rw[ha];exact h
theorem e3f{i0 i1 i2 i3:Nat}{L0:Array Bool}{s z r p q x b:Tmp}{y0 y1 y2 y3:TypeId}{p0 p1 p2 p3:String}{f0 f1 f2 f3:Array Edge}{c:List D}{out:Out}{Q:St->Prop}{QQ:Exit->Act->World->Prop}(h0:ops[i0]? =some ⟨some r,.call {callee:=.builtin .append,args:=#[.tmp s,.tmp z],argTypes:=#[t,t]},y0,p0,f0,none⟩)(h1:ops[i1]? =some ⟨some p,.indexAddr t (.tmp r) (.tmp q),y1,p1,f1,none⟩)(h2:ops[i2]? =some ⟨none,.store e (.tmp p) (.tmp x),y2,p2,f2,none⟩)(h3:ops[i3]? =some ⟨none,.store t (.tmp b) (.tmp r),y3,p3,f3,none⟩)(r0:Region.ready .any ops L0=[i0])(r1:Region.ready .any ops (L0.setIfInBounds i0 true)=[i1,i3])(r2:Region.ready .any ops ((L0.setIfInBounds i0 true).setIfInBounds i1 true)=[i2,i3])(r3:Region.ready .any ops ((L0.setIfInBounds i0 true).setIfInBounds i3 true)=[i1])(r4:Region.ready .any ops (((L0.setIfInBounds i0 true).setIfInBounds i1 true).setIfInBounds i2 true)=[i3])(r5:Region.ready .any ops (((L0.setIfInBounds i0 true).setIfInBounds i1 true).setIfInBounds i3 true)=[i2])(r6:Region.ready .any ops (((L0.setIfInBounds i0 true).setIfInBounds i3 true).setIfInBounds i1 true)=[i2])(r7:Region.ready .any ops ((((L0.setIfInBounds i0 true).setIfInBounds i1 true).setIfInBounds i2 true).setIfInBounds i3 true)=[])(r8:Region.ready .any ops ((((L0.setIfInBounds i0 true).setIfInBounds i1 true).setIfInBounds i3 true).setIfInBounds i2 true)=[])(r9:Region.ready .any ops ((((L0.setIfInBounds i0 true).setIfInBounds i3 true).setIfInBounds i1 true).setIfInBounds i2 true)=[])(oB:kD P e=true)(hu:P.underlying t=some (.slice e))(gK:(r≠q/\r≠x/\r≠p/\r≠b)/\p≠x/\p≠b)(aG:r<st.tmps.length/\p<st.tmps.length)(hsx:st.eval G (.tmp s)=.d (.sl xs))(htk:jV (.t s) st.own=some (e,gI))(hlx:∀c∈xs,c.length=P.cellsOf e)(hx:st.eval G (.tmp z)=.d (.sl [z0]))(hz0:z0.length=P.cellsOf e)(hbd:(xs.length+1)*(P.bytesOf e+1)<=140737488355328)(hq:st.eval G (.tmp q)=.d (.int .i64 (xs.length:Int)))(hxv:st.eval G (.tmp x)=.d (.agg c))(hc:c.length=P.cellsOf e)(pZ:tY P G t (.tmp b) (.tmp r) (tl2 st gI e r p xs c)=some out)(hQ:Q out.st)(hr:Rel P G base R μ st a w)(hk:∀s' a' w' R' μ',Q s'->Rel P G base R' μ' s' a' w'->Step base R w R' w'->QQ .normal a' w'):wpAny P .any ops QQ 4 L0 a w:=by
 obtain⟨⟨n1,n2,n3,n4⟩,n5,n6⟩:=gK;obtain⟨l1,l2⟩:=aG;have mI:=hr.size;obtain⟨_,_,_,_,_,a2i,_,_⟩:=a0J oB;obtain⟨g,cap,a3V,w1,e0,hg,mO,e8S,c0x⟩:=b4A (ty:=y0) hr oB hu (x:=.tmp z) hsx htk hlx hx hz0 hbd;obtain⟨pc,hpc,b3q,c6r⟩:=(hr.pQ hxv).a5d;have kK:∀u∈pc.toList,u.oneCell'=true:=λu hu=>by
  obtain⟨j,hj⟩:=g3q hu;have hjl:j<c.length:=by rw[<-b3q];simpa using (g3a.1 hj).1
  obtain⟨k1,k2⟩:=c6r j c[j] (by simp[hjl]);have:pc.getD j Go.undef=u:=by
   have:pc[j]? =some u:=by simpa using hj
   simp[g3b,this]
  rw[this]at k2;exact k2.b1i k1
 obtain⟨R1,hr1,hV1,hA1,hs1⟩:=c0x pc.toList c (by simpa[b3q]using hc) hc kK (λj d hj=>by
  obtain⟨k1,k2⟩:=c6r j d hj;have hjl:j<pc.size:=by rw[b3q];exact(g3a.1 hj).1
  refine⟨k1,pc[j],by simp[hjl],?_⟩;simpa[g3b,hjl]using k2)
 generalize hvS:(Value.slice (some ⟨g,0,none⟩) (xs.length+1) cap)=vS at *;generalize d6Y:spl a3V (xs.length*P.cellsOf e) pc.toList=b3r at *;have hra:r<a.tmps.size:=by rw[mI];exact l1
 have hpa:p<a.tmps.size:=by rw[mI];exact l2
 have e8U:=hr1.put (dst:=some r) (.d _ _ hV1) hA1;have hr2:=e8U.put (dst:=some p) (v:=.pointer (some ⟨g,xs.length*P.cellsOf e,none⟩)) (act:=.no) (.undef _) trivial;generalize ha1:a.put (some r) vS=a1 at *;generalize ha2:a1.put (some p) (.pointer (some ⟨g,xs.length*P.cellsOf e,none⟩))=a2 at *;have z1:a1.tmps.size=a.tmps.size:=by rw[<-ha1];exact size_put
 have v1r:a1.eval (.tmp r)=vS:=by rw[<-ha1];exact eM hra
 have v1q:a1.eval (.tmp q)=a.eval (.tmp q):=by rw[<-ha1];exact cK (Ne.symm n1)
 have v1x:a1.eval (.tmp x)=a.eval (.tmp x):=by rw[<-ha1];exact cK (Ne.symm n2)
 have v1b:a1.eval (.tmp b)=a.eval (.tmp b):=by rw[<-ha1];exact cK (Ne.symm n4)
 have v2p:a2.eval (.tmp p)=.pointer (some ⟨g,xs.length*P.cellsOf e,none⟩):=by rw[<-ha2];exact eM (z1.symm▸hpa)
 have v2x:a2.eval (.tmp x)=.agg pc:=by rw[<-ha2,cK (Ne.symm n5),v1x,hpc]
 have v2r:a2.eval (.tmp r)=vS:=by rw[<-ha2,cK n3];exact v1r
 have v2b:a2.eval (.tmp b)=a.eval (.tmp b):=by rw[<-ha2,cK (Ne.symm n6)];exact v1b
 have a7p:=pZ;unfold tY at a7p;split at a7p;rotate_left
 .cases a7p
 rename_i kb off ys hb hys;split at a7p;rotate_left
 .cases a7p
 rename_i cs hkb;split at a7p;rotate_left
 .cases a7p
 rename_i hcd
 clear a7p
 have hHs:(tl2 st gI e r p xs c).H=st.H:=rfl;rw[hHs]at hkb;have hb':a2.eval (.tmp b)=.pointer (some ⟨μ kb,off,none⟩):=hr2.eJ hb;have e8X:ys.length=1:=by
  have:(tl2 st gI e r p xs c).eval G (.tmp r)=.d (.sl (xs++[c])):=by simp[St.eval,finish,List.getD,l1,List.getElem?_set,Ne.symm n3]
  rw[this]at hys;simp only[xD,D.cells,List.map_cons,List.map_nil,g3f]at hys;rw[<-hys];rfl
 obtain⟨_,_,vs0,T0,hh0,e8Y,_⟩:=hr.mE kb _ hkb;obtain⟨hbg,e8Z⟩:=e8S kb _ hkb;have hvc:vS.cells=#[vS]:=by rw[<-hvS];rfl
 have hvo:vS.oneCell'=true:=by rw[<-hvS];rfl
 have hob:w1.heap[μ kb]? =some (.cells vs0 T0 (0,0)):=e8Z.trans hh0;generalize hX:spl vs0 off [vS]=X;have E0:(execOp a.eval ⟨some r,.call {callee:=.builtin .append,args:=#[.tmp s,.tmp z],argTypes:=#[t,t]},y0,p0,f0,none⟩).run P w=.ok (.value vS) w1:=by simp[execOp,resolve,invoke,builtin,e0]
 have E1:∀w',(execOp a1.eval ⟨some p,.indexAddr t (.tmp r) (.tmp q),y1,p1,f1,none⟩).run P w'=.ok (.value (.pointer (some ⟨g,xs.length*P.cellsOf e,none⟩))) w':=λw'=>a4A rfl hu (v1r.trans hvS.symm) (v1q.trans (hr.yL hq)) (by omega) a2i
 have E2:∀w':World,w'.heap[g]? =some (.cells a3V e (0,0))->(execOp a2.eval ⟨none,.store e (.tmp p) (.tmp x),y2,p2,f2,none⟩).run P w'=.ok .skip (w'.setRow g b3r):=λw' hw'=>by have:=vX (P:=P) (a:=a2) (w:=w') (o:=⟨none,.store e (.tmp p) (.tmp x),y2,p2,f2,none⟩) rfl v2p hw' (by rw[v2x];show pc.size=_;rw[b3q,hc]) (by omega) (by rw[v2x];exact kK);rw[v2x]at this;have qM:(Value.agg pc).cells=pc:=rfl;rw[qM,d6Y]at this;exact this
 have E3:∀(ax:Act)(w':World),ax.eval (.tmp b)=.pointer (some ⟨μ kb,off,none⟩)->ax.eval (.tmp r)=vS->w'.heap[μ kb]? =some (.cells vs0 T0 (0,0))->(execOp ax.eval ⟨none,.store t (.tmp b) (.tmp r),y3,p3,f3,none⟩).run P w'=.ok .skip (w'.setRow (μ kb) X):=λax w' hb1 hr1 hw'=>by have:=vX (P:=P) (a:=ax) (w:=w') (o:=⟨none,.store t (.tmp b) (.tmp r),y3,p3,f3,none⟩) rfl hb1 hw' (by rw[hr1,hvc, <- hcd.1,e8X];rfl) (by omega) (by rw[hr1,hvc];simpa using hvo) (by rw[hr1,hvc];show off+1<=_;rw[e8Y];omega);rw[hr1,hvc]at this;have:(execOp ax.eval ⟨none,.store t (.tmp b) (.tmp r),y3,p3,f3,none⟩).run P w'=.ok .skip (w'.setRow (μ kb) (spl vs0 off [vS])):=this;rw[hX]at this;exact this
 have hb1:a1.eval (.tmp b)=.pointer (some ⟨μ kb,off,none⟩):=by rw[v1b, <- v2b];exact hb'
 have hgX:(w1.setRow (μ kb) X).heap[g]? =some (.cells a3V e (0,0)):=(setRow_other w1 (μ kb) g _ (Ne.symm hbg)).trans hg;have hbX:(w1.setRow g b3r).heap[μ kb]? =some (.cells vs0 T0 (0,0)):=(setRow_other w1 g (μ kb) _ hbg).trans hob;have c0Y:(w1.setRow (μ kb) X).setRow g b3r=(w1.setRow g b3r).setRow (μ kb) X:=b4z w1 hbg X b3r;have a0Q:QQ .normal a2 ((w1.setRow g b3r).setRow (μ kb) X):=by
  obtain⟨v,w',R',μ',dD,hr3,_,_,hs3⟩:=a8m (o:=⟨none,.store t (.tmp b) (.tmp r),y3,p3,f3,none⟩) rfl pZ base R1 μ a2 _ hr2;rw[E3 a2 _ hb' v2r hbX]at dD;rcases dD with dD|⟨dD,_⟩
  .cases dD
  .cases dD;exact hk out.st a2 _ R' μ' hQ hr3 (hs1.trans hs3)
 refine wpAny_all r0 (by simp) λi hi=>?_;simp only[g3g]at hi;subst hi;refine eF h0 rfl (.inl E0) ha1 ?_;refine wpAny_all r1 (by simp) λj hj=>?_;simp only[g3w,List.not_mem_nil,or_false]at hj;rcases hj with rfl|rfl
 .refine eF h1 rfl (.inl (E1 w1)) ha2 ?_;refine wpAny_all r2 (by simp) λj hj=>?_;simp only[g3w,List.not_mem_nil,or_false]at hj;rcases hj with rfl|rfl
  .refine eF h2 rfl (.inr ⟨E2 w1 hg,rfl⟩) rfl ?_;refine wpAny_all r4 (by simp) λj hj=>?_;simp only[g3g]at hj;subst hj;exact eF h3 rfl (.inr ⟨E3 a2 _ hb' v2r hbX,rfl⟩) rfl (wpAny_done r7 a0Q _)
  .refine eF h3 rfl (.inr ⟨E3 a2 _ hb' v2r hob,rfl⟩) rfl ?_;refine wpAny_all r5 (by simp) λj hj=>?_;simp only[g3g]at hj;subst hj;exact eF h2 rfl (.inr ⟨E2 _ hgX,rfl⟩) rfl (wpAny_done r8 (by rw[c0Y];exact a0Q) _)
 .refine eF h3 rfl (.inr ⟨E3 a1 _ hb1 v1r hob,rfl⟩) rfl ?_;refine wpAny_all r3 (by simp) λj hj=>?_;simp only[g3g]at hj;subst hj;refine eF h1 rfl (.inl (E1 _)) ha2 ?_;refine wpAny_all r6 (by simp) λj hj=>?_;simp only[g3g]at hj;subst hj;exact eF h2 rfl (.inr ⟨E2 _ hgX,rfl⟩) rfl (wpAny_done r9 (by rw[c0Y];exact a0Q) _)
end
end Go.VM
end
section
namespace Go.VM
open Go Go.RowKit
section
variable {P:Program} {G:GT} {st:St} {Q:Exit->St->Prop}
theorem SW.c9E{id:Nat}{c:Code}(h:SW P G c st λe s=>match e with
  |.exit id'=>if id'=id then Q .normal s else Q (.exit id') s
  |e=>Q e s):SW P G (.block id c) st Q:=λbase R μ a w hr=>wp_block (wp_mono (h base R μ a w hr) λe a1 w1 ⟨s,R1,μ1,q1,q2,q3⟩=>by
   cases e with
   |exit id'=>
    simp only[Exit.inBlock];simp only at q1;by_cases hid:id'=id
    .rw[if_pos hid]at q1|-;exact⟨s,R1,μ1,q1,q2,q3⟩
    .rw[if_neg hid]at q1|-;exact⟨s,R1,μ1,q1,q2,q3⟩
   |_=>exact⟨s,R1,μ1,q1,q2,q3⟩)
theorem c9F{all:Array Oper}{rest:List Oper}{T:St->Prop}(h:VK P G [.ops true all rest] .normal st λ_ s=>T s):wN P G true all rest st T:=by simp only[VK]at h;exact h
def e9b(P:Program)(G:GT)(t e:TypeId)(s z r p q x b:Tmp)(Q:St->Prop)(st:St):Prop:=
 ∃(xs:List (List D))(z0 c:List D)(gI:List (TypeId×List Loc))(out:Out),(r<st.tmps.length/\p<st.tmps.length)/\st.eval G (.tmp s)=.d (.sl xs)/\jV (.t s) st.own=some (e,gI)/\(∀c∈xs,c.length=P.cellsOf e)/\st.eval G (.tmp z)=.d (.sl [z0])/\z0.length=P.cellsOf e/\
  (xs.length+1)*(P.bytesOf e+1)<=140737488355328/\st.eval G (.tmp q)=.d (.int .i64 (xs.length:Int))/\st.eval G (.tmp x)=.d (.agg c)/\c.length=P.cellsOf e/\tY P G t (.tmp b) (.tmp r) (tl2 st gI e r p xs c)=some out/\Q out.st
def c1a(ops:Array Oper)(m:Nat):Bool:=
 let L:=sE m ops.size
 decide (ops.size=m+4)&&(Region.ready .any ops L==[m])&&(Region.ready .any ops (L.setIfInBounds m true)==[m+1,m+3])&&(Region.ready .any ops ((L.setIfInBounds m true).setIfInBounds (m+1) true)==[m+2,m+3])&&(Region.ready .any ops ((L.setIfInBounds m true).setIfInBounds (m+3) true)==[m+1])&&
 (Region.ready .any ops (((L.setIfInBounds m true).setIfInBounds (m+1) true).setIfInBounds (m+2) true)==[m+3])&&(Region.ready .any ops (((L.setIfInBounds m true).setIfInBounds (m+1) true).setIfInBounds (m+3) true)==[m+2])&&(Region.ready .any ops (((L.setIfInBounds m true).setIfInBounds (m+3) true).setIfInBounds (m+1) true)==[m+2])&&
 (Region.ready .any ops ((((L.setIfInBounds m true).setIfInBounds (m+1) true).setIfInBounds (m+2) true).setIfInBounds (m+3) true)==[])&&(Region.ready .any ops ((((L.setIfInBounds m true).setIfInBounds (m+1) true).setIfInBounds (m+3) true).setIfInBounds (m+2) true)==[])&&(Region.ready .any ops ((((L.setIfInBounds m true).setIfInBounds (m+3) true).setIfInBounds (m+1) true).setIfInBounds (m+2) true)==[])
end
end Go.VM
end
section
namespace Go.VM
open Go Go.RowKit
section
variable {P:Program} {G:GT} {st:St}
theorem Rel.alias{base:dU}{R:Nat->Nat->Prop}{μ:Nat->Nat}{a:Act}{w:World}(hr:Rel P G base R μ st a w){t:Tmp}{k off:Nat}(hk:∃o,getKey k st.H=some o)(ht:t<a.tmps.size)(h:∀u,w.cell? ⟨μ k,off,none⟩=some u->u=a.eval (.tmp t)):
  Rel P G base R μ {st with own:=addAlias (.t t) (.c k off) st.own} a w:=by
 obtain⟨vs,sU⟩:=hr.own;refine⟨hr.defers,hr.size,hr.tmps,hr.mE,hr.inj,λc hc k' a6K hl=>?_,⟨vs,by simpa[addAlias]using sU.len,λi c v hc hv=>?_,sU.apart⟩,hr.wS,hr.rY,hr.base,hr.pass⟩
 .obtain⟨i,hi⟩:=g3q hc;obtain⟨c',zM,_,hm⟩:=yI hi;rcases hm _ hl with hx|⟨hx,_⟩
  .exact hr.eR c' (g3e zM) k' a6K hx
  .cases hx;exact hk
 .obtain⟨c',zM,he,hm⟩:=yI hc;have ho:=sU.one i c' v zM hv;refine⟨λl hl u hu=>?_,by rw[he];exact ho.own,ho.keys⟩;rcases hm l hl with hx|⟨rfl,hx⟩
  .exact ho.eR l hx u hu
  .have h1:=h u hu;have h2:cX a w μ (.t t)=some (a.eval (.tmp t)):=by simp[cX,Act.eval,ht]
   rw[h1];exact ho.eR _ hx _ h2
end
end Go.VM
end
section
namespace Go.VM
open Go Go.RowKit
section
variable {P:Program} {G:GT} {base:dU} {R:Nat->Nat->Prop} {μ:Nat->Nat} {st:St} {a:Act} {w:World}
variable{o:Oper}
theorem c2T{e:TypeId}(ho:o.op=.alloc e){z:Value}(hz:(P.info? e).bind (·.zero)=some z):(execOp a.eval o).run P w=.ok (.value (.pointer (some ⟨w.heap.size,0,none⟩))) (w.alloc (.cells z.cells e)):=by obtain⟨i,hi,hz⟩:=g3n.1 hz;simp[execOp,ho,Instr.alloc,zeroValue,typeInfo,hi,hz,newVar,newRow]
theorem a0h{t u:TypeId}{x:Operand}{i fo:Nat}(ho:o.op=.fieldAddr t x i)(hf:aO P t i=some (fo,u))(gK:P.cellsOf u≠0){b off:Nat}(hx:a.eval x=.pointer (some ⟨b,off,none⟩)):
  (execOp a.eval o).run P w=.ok (.value (.pointer (some ⟨b,off+fo,none⟩))) w:=by
 obtain⟨fs,f,h1,h2,rfl,rfl⟩:=yM hf;obtain⟨ti,hti⟩:∃i,P.info? f.type=some i:=by
  cases hi:P.info? f.type with
  |none=>simp[Program.cellsOf,hi]at gK
  |some i=>exact⟨i,rfl⟩
 simp[execOp,ho,hx,Instr.fieldAt,g3P h1,h2,Instr.sureAddr,a2g (w:=w) b off f hti gK]
end
end Go.VM
end
section
namespace Go.VM
open Go
section
variable {G:GT}
variable{P:Program}{st:St}{ops:Array Oper}{Q:Exit->St->Prop}
theorem e3h{id:Nat}(hm:P.follows .mixedOrders=true)(h:b9w P G ops (λs=>Q .normal s) ops.size (Array.replicate ops.size false) st):SW P G (.region id ops true) st Q:=by intro base R μ a w hr;obtain⟨jD,uO⟩:=hr.drew;exact wp_region_any hm (b5N ops.size _ st h base R μ a w.drew jD λs a' w' R' μ' q1 q2 q3=>⟨s,R',μ',q1,q2,uO.trans q3⟩)
abbrev lst(l:List Nat):Array Bool:=l.foldl (λa i=>a.setIfInBounds i true) (Array.replicate 4 false)
def three(ops:Array Oper):Bool:=decide (ops.size=4)&&(Region.ready .any ops (lst [])==[0,1])&&(Region.ready .any ops (lst [0])==[1,2])&&(Region.ready .any ops (lst [1])==[0])&&(Region.ready .any ops (lst [0,1])==[2])&&(Region.ready .any ops (lst [1,0])==[2])
 &&(Region.ready .any ops (lst [0,2])==[1])&&(Region.ready .any ops (lst [0,1,2])==[3])&&(Region.ready .any ops (lst [1,0,2])==[3])&&(Region.ready .any ops (lst [0,2,1])==[3])
 &&(Region.ready .any ops (lst [0,1,2,3])==[])&&(Region.ready .any ops (lst [1,0,2,3])==[])&&(Region.ready .any ops (lst [0,2,1,3])==[])
theorem c6s{id:Nat}{o0 o1 o2 o3:Oper}(hm:P.follows .mixedOrders=true)(hB:three ops=true)(h0:ops[0]? =some o0)(h1:ops[1]? =some o1)(h2:ops[2]? =some o2)(h3:ops[3]? =some o3)(h:VK P G [.ops true ops [o0]] .normal st (λ_ s=>VK P G [.ops true ops [o1,o2,o3]] .normal s (λ_ s=>Q .normal s)/\VK P G [.ops true ops [o2,o1,o3]] .normal s (λ_ s=>Q .normal s))/\VK P G [.ops true ops [o1,o0,o2,o3]] .normal st (λ_ s=>Q .normal s)):SW P G (.region id ops true) st Q:=by simp only[VK]at h;simp only[three,g2Z,g3N,beq_iff_eq,List.foldl_cons,List.foldl_nil]at hB;obtain⟨⟨⟨⟨⟨⟨⟨⟨⟨⟨⟨⟨mI,r⟩,r0⟩,r1⟩,r01⟩,r10⟩,r02⟩,f6A⟩,f6B⟩,f6C⟩,f2D⟩,f2E⟩,f2F⟩:=hB;refine e3h hm ?_;rw[mI];simp only[b9w,r,r0,r1,r01,r10,r02,f6A,f6B,f6C,f2D,f2E,f2F,h0,h1,h2,h3,List.forall_mem_cons,List.not_mem_nil,false_imp_iff,implies_true,and_true,true_and,reduceCtorEq];exact h
end
end Go.VM
end
section
namespace Go.VM
open Go
section
variable {P:Program} {G:GT} {base:dU} {R:Nat->Nat->Prop} {μ:Nat->Nat} {st:St} {a:Act} {w:World}
def a4B(P:Program)(G:GT)(ops:Array Oper)(c:Nat)(Q:St->Prop):Nat->Array Bool->St->Prop
 |0,listed,st=>Region.ready .any ops listed=[]/\Q st
 |fuel+1,listed,st=>(Region.ready .any ops listed=[]->Q st)/\∀i∈Region.ready .any ops listed,match ops[i]? with
  |none=>a4B P G ops c Q fuel (listed.setIfInBounds i true) st
  |some o=>qN P G (i !=c) ops o (a4B P G ops c Q fuel (listed.setIfInBounds i true)) st
theorem b1N{ops:Array Oper}{c:Nat}{Q:St->Prop}{QQ:Exit->Act->World->Prop}:∀(fuel:Nat)(listed:Array Bool)(st:St),a4B P G ops c Q fuel listed st->∀(base:dU)(R:Nat->Nat->Prop)(μ:Nat->Nat)(a:Act)(w:World),Rel P G base R μ st a w->
  (∀s a' w' R' μ',Q s->Rel P G base R' μ' s a' w'->Step base R w R' w'->QQ .normal a' w')->wpAny P .any ops QQ fuel listed a w
 |0,_,st,h,base,R,μ,a,w,hr,hk=>⟨h.1,hk st a w R μ h.2 hr (.refl _ _ _)⟩
 |fuel+1,listed,st,h,base,R,μ,a,w,hr,hk=>by
  refine⟨λh0=>hk st a w R μ (h.1 h0) hr (.refl _ _ _),λi hi=>?_⟩;have h1:=h.2 i hi;unfold wpOp;split
  .rename_i ho;rw[ho]at h1;exact b1N fuel _ st h1 base R μ a w hr hk
  .rename_i o ho;rw[ho]at h1;exact uE h1 hr λs v w' R' μ' h' jD uO=>b1N fuel _ s h' base R' μ' _ w' jD λs a' w2 R2 μ2 q1 q2 q3=>hk s a' w2 R2 μ2 q1 q2 (uO.trans q3)
variable{c i:Nat}{Q:Exit->St->Prop}{ops:Array Oper}
theorem d7b{id:Nat}(hm:P.follows .mixedOrders=true)(h:a4B P G ops c (λs=>Q .normal s) ops.size (Array.replicate ops.size false) st):SW P G (.region id ops true) st Q:=by intro base R μ a w hr;obtain⟨jD,uO⟩:=hr.drew;exact wp_region_any hm (b1N ops.size _ st h base R μ a w.drew jD λs a' w' R' μ' q1 q2 q3=>⟨s,R',μ',q1,q2,uO.trans q3⟩)
theorem c6t{Q:St->Prop}{oi:Oper}(hA:sA ops)(hi:ops[i]? =some oi)(hic:i≠c)(hsi:(dW oi.op=true/\pH ops oi=false)\/rR oi=true):
  ∀(fuel:Nat)(listed:Array Bool)(st s:St),gX ops listed->
   (∀j oj,ops[j]? =some oj->j≠i->listed.getD j true=false->kE ops ops.size j i=false->j≠c/\oi.apart ops oj=true/\sV ops oi oj=true)->
   i∈Region.ready .any ops listed->sX ops listed st->Eff P G ops oi st s->
   a4B P G ops c Q fuel (listed.setIfInBounds i true) s->a4B P G ops c Q (fuel+1) listed st:=by
 have qi:(i !=c)=true:=by simpa using hic
 intro fuel
 induction fuel with
 |zero=>
  intro listed st s _ _ hr _ hy H;refine⟨λh=>(by rw[h]at hr;cases hr),λj hj=>?_⟩;by_cases hji:j=i
  .subst hji;rw[hi,qi];exact(eO hsi).2 ⟨s,hy,H⟩
  .have:=ready_mono hj hji;rw[H.1]at this;cases this
 |succ fuel ih=>
  intro listed st s qM a0M hr hI hy H;refine⟨λh=>(by rw[h]at hr;cases hr),λj hj=>?_⟩;by_cases hji:j=i
  .subst hji;rw[hi,qi];exact(eO hsi).2 ⟨s,hy,H⟩
  .have h1:=H.2 j (ready_mono hj hji);obtain⟨a0b,oj,hoj,eS⟩:=mem_ready.1 hj;rw[hoj]at h1|-;simp only at h1|-;obtain⟨a3M,oi',c2y,b1v⟩:=mem_ready.1 hr;have a6v:kE ops ops.size j i=false:=dZ qM a3M _ _ λo ho=>by rw[hoj]at ho;cases ho;exact eS
   obtain⟨hjc,hap,hpo⟩:=a0M j oj hoj hji a0b a6v;have qj:(j !=c)=true:=by simpa using hjc
   rw[qj]at h1|-;have hsj:(dW oj.op=true/\pH ops oj=false)\/rR oj=true:=by
    by_cases hs:rR oj=true
    .exact .inr hs
    .refine .inl ⟨?_,?_⟩
     .unfold sV at hpo;simp only[rR,g3l,g2Z,g3v]at hpo hs;rcases hpo with((((((h|h)|h)|h)|h)|h)|h)|h
      .exact h.1.2
      .exact absurd (.inl (.inl h.1.2)) hs
      .exact h.1.1.2
      .exact absurd (.inl (.inr h.2)) hs
      .exact h.1.2
      .exact absurd (.inl h.1.2) hs
      .exact absurd (.inr h.2) hs
      .exact(qB (G:=G) (st:=st) h.1.2).1
     .cases hx:pH ops oj with
      |false=>rfl
      |true=>
       have aG:i<ops.size:=(g3i.1 hi).1;rcases xI hx hoj aG (λe=>hji e.symm)with h'|h'
       .have:=dZ qM a0b ops.size i λo ho=>by rw[c2y]at ho;cases ho;exact b1v
        rw[h']at this;cases this
       .rw[a6v]at h';cases h'
   obtain⟨s12,hu,hk⟩:=(eO hsj).1 h1;obtain⟨s2,e1,e2⟩:=b1u hap hpo (λhn d hd=>hI i oi d hi hn a3M hd) (λhn d hd=>hI j oj d hoj hn a0b hd) hy hu;refine(eO hsj).2 ⟨s2,e1,?_⟩;refine ih (listed.setIfInBounds j true) s2 s12 (qM.set hj) (λk ok hk' hki hun uV=>?_) (ready_mono hr (Ne.symm hji)) (hI.step hA hoj λk hf hn=>wT e1 hf hn) e2 ?_
   .exact a0M k ok hk' hki (vV hun).2 uV
   .rw[Array.setIfInBounds_comm _ _ hji];exact hk
def a6x(P:Program)(G:GT)(ops:Array Oper)(c:Nat):List Nat->St->(St->Prop)->Prop
 |[],st,K=>K st
 |i::r,st,K=>match ops[i]? with
  |some o=>qN P G (i !=c) ops o (λs=>a6x P G ops c r s K) st
  |none=>False
def b7g(ops:Array Oper)(c:Nat)(listed:Array Bool)(i:Nat):Bool:=(Region.ready .any ops listed==[i])||((Region.ready .any ops listed).contains i&&(i !=c)&&(match ops[i]? with
 |none=>false
 |some oi=>((dW oi.op&& !pH ops oi)||rR oi)&&(List.range ops.size).all λj=>j==i||listed.getD j true||kE ops ops.size j i||(j !=c&&(match ops[j]? with
  |some oj=>oi.apart ops oj&&sV ops oi oj
  |none=>true))))
def cW(l:List Nat)(x:Array Bool):Array Bool:=l.foldl (λx i=>x.setIfInBounds i true) x
def b1O(ops:Array Oper)(c:Nat):List Nat->Array Bool->Bool
 |[],_=>true
 |i::r,listed=>b7g ops c listed i&&b1O ops c r (listed.setIfInBounds i true)
theorem c1b(h:gW ops=[]){o:Oper}{d:Tmp}(hi:ops[i]? =some o)(hn:gP o=true)(hd:o.dst=some d):False:=by have:d∈gW ops:=g3E.2 ⟨o,by rw[g3X];exact Array.mem_of_getElem? hi,by rw[if_pos hn];exact hd⟩;rw[h]at this;cases this
theorem a8t{ops:Array Oper}{c:Nat}{Q:St->Prop}(hN:gW ops=[]):∀(l:List Nat)(listed:Array Bool)(st:St)(fuel:Nat),gX ops listed->b1O ops c l listed=true->
  a6x P G ops c l st (a4B P G ops c Q fuel (cW l listed))->(gX ops (cW l listed)->True)->a4B P G ops c Q (l.length+fuel) listed st
 |[],listed,st,fuel,_,_,h,_=>by simpa[cW,a6x]using h
 |i::l,listed,st,fuel,qM,hB,h,_=>by
  have hA:sA ops:=λi j oi oj d hi _ hni _ hdi _=>(c1b hN hi hni hdi).elim;have hI:∀listed st,sX ops listed st:=λ_ _ j oj d hj hn _ hd=>(c1b hN hj hn hd).elim;simp only[b1O,g2Z]at hB;obtain⟨hf,hB'⟩:=hB;simp only[a6x]at h;split at h;rotate_left
  .cases h
  rename_i o ho;have he:(i::l).length+fuel=l.length+fuel+1:=by simp only[List.length_cons];omega
  rw[he];unfold b7g at hf;rw[g3l,beq_iff_eq]at hf;have hri:i∈Region.ready .any ops listed:=by
   rcases hf with hf|hf
   .rw[hf];exact g3g.2 rfl
   .simp only[g2Z]at hf;simpa using hf.1.1
  have tI:∀s,a6x P G ops c l s (a4B P G ops c Q fuel (cW (i::l) listed))->a4B P G ops c Q (l.length+fuel) (listed.setIfInBounds i true) s:=λs hs=>a8t hN l _ s fuel (qM.set hri) hB' hs λ_=>trivial;rcases hf with hf|hf
  .refine⟨λh'=>(by rw[h']at hf;cases hf),λj hj=>?_⟩;rw[hf,g3g]at hj;subst hj;rw[ho];exact jM tI h
  .rw[ho]at hf;simp only[g2Z,g3l,g3v,bne_iff_ne,ne_eq]at hf;obtain⟨⟨_,hic⟩,hsi,eS⟩:=hf;have qi:(i !=c)=true:=by simpa using hic
   rw[qi]at h;obtain⟨s,hd,hk⟩:=(eO hsi).1 h;refine c6t hA ho hic hsi _ listed st s qM (λj oj hj gK hun uV=>?_) hri (hI _ _) hd (tI s hk);rw[g3c]at eS;have h1:=eS j (List.mem_range.2 (g3i.1 hj).1);simp only[hj,g3l,beq_iff_eq,gK,false_or,hun,g3t,uV,g2Z,bne_iff_ne,ne_eq]at h1;exact h1
theorem c9G{Q:St->Prop}{fuel:Nat}{listed:Array Bool}(h:Region.ready .any ops listed=[])(hq:Q st):a4B P G ops c Q fuel listed st:=by
 cases fuel with
 |zero=>exact⟨h,hq⟩
 |succ n=>exact⟨λ_=>hq,λi hi=>by rw[h]at hi;cases hi⟩
theorem vY{ops:Array Oper}{c:Nat}{K K':St->Prop}(hk:∀s,K s->K' s):∀(l:List Nat)(st:St),a6x P G ops c l st K->a6x P G ops c l st K'
 |[],st,h=>hk st h
 |i::r,st,h=>by
  simp only[a6x]at h|-;split at h
  .exact jM (λs hs=>vY hk r s hs) h
  .cases h
theorem gX.cW{ops:Array Oper}{c:Nat}:∀(l:List Nat)(listed:Array Bool),gX ops listed->b1O ops c l listed=true->gX ops (VM.cW l listed)
 |[],_,hc,_=>hc
 |i::r,listed,hc,hB=>by
  simp only[b1O,g2Z]at hB;have hri:i∈Region.ready .any ops listed:=by
   have hf:=hB.1;unfold b7g at hf;rw[g3l,beq_iff_eq]at hf;rcases hf with hf|hf
   .rw[hf];exact g3g.2 rfl
   .simp only[g2Z]at hf;simpa using hf.1.1
  exact gX.cW r _ (hc.set hri) hB.2
inductive Ord where
 |none
 |call (rest:List Nat) (more:Ord)
 |op (i:Nat) (next more:Ord)
def sel(ops:Array Oper):List Nat->List Oper
 |[]=>[]
 |i::r=>match ops[i]? with
  |some o=>o::sel ops r
  |none=>sel ops r
def b5q(P:Program)(G:GT)(ops:Array Oper)(c:Nat)(K:St->Prop):Ord->St->Prop
 |.none,_=>True
 |.call rest more,st=>VK P G [.ops false ops (sel ops [c]),.ops true ops (sel ops rest)] .normal st (λ_ s=>K s)/\b5q P G ops c K more st
 |.op i next more,st=>VK P G [.ops true ops (sel ops [i])] .normal st (λ_ s=>b5q P G ops c K next s)/\b5q P G ops c K more st
def a5u(c:Nat):Ord->Nat->Bool
 |.none,_=>false
 |.call _ more,j=>decide (j=c)||a5u c more j
 |.op i _ more,j=>decide (j=i)||a5u c more j
def inB(ops:Array Oper)(c:Nat)(l:List Nat):Bool:=l.all λi=>decide (i<ops.size)&&decide (i≠c)
def b7h(ops:Array Oper)(c:Nat):Ord->Nat->Array Bool->Bool
 |.none,_,_=>true
 |.call rest more,n,listed=>decide (c<ops.size)&&inB ops c rest&&b1O ops c rest (listed.setIfInBounds c true)&&(Region.ready .any ops (cW rest (listed.setIfInBounds c true))).isEmpty&&decide (rest.length+1<=n)&&b7h ops c more n listed
 |.op i next more,n,listed=>inB ops c [i]&&decide (2<=n)&& !(Region.ready .any ops (listed.setIfInBounds i true)).isEmpty&&((Region.ready .any ops (listed.setIfInBounds i true)).all λj=>a5u c next j)&&b7h ops c next (n-1) (listed.setIfInBounds i true)&&b7h ops c more n listed
theorem yY{ops:Array Oper}{c:Nat}{K:St->Prop}:∀(l:List Nat)(st:St),inB ops c l=true->wN P G true ops (sel ops l) st K->a6x P G ops c l st K
 |[],st,_,h=>h
 |i::r,st,hB,h=>by
  simp only[inB,List.all_cons,g2Z,g3N]at hB;obtain⟨⟨hi,hic⟩,hr⟩:=hB;have qi:(i !=c)=true:=by simpa using hic
  simp only[sel,g3r hi,wN]at h;simp only[a6x,g3r hi,qi];exact jM (λs hs=>yY r s hr hs) h
theorem b1P{ops:Array Oper}{c:Nat}{Q:St->Prop}(hN:gW ops=[]):∀(T:Ord)(n:Nat)(listed:Array Bool)(st:St),gX ops listed->b7h ops c T (n+1) listed=true->b5q P G ops c Q T st->∀i∈Region.ready .any ops listed,a5u c T i=true->
  match ops[i]? with
  |none=>a4B P G ops c Q n (listed.setIfInBounds i true) st
  |some o=>qN P G (i !=c) ops o (a4B P G ops c Q n (listed.setIfInBounds i true)) st
 |.none,_,_,_,_,_,_,_,_,ha=>by cases ha
 |.call rest more,n,listed,st,qM,hB,h,i,hi,ha=>by
  simp only[b7h,g2Z,g3N,List.isEmpty_iff]at hB;obtain⟨⟨⟨⟨⟨hc,wJ⟩,hs⟩,he⟩,hlen⟩,a7q⟩:=hB;simp only[b5q]at h;simp only[a5u,g3l,g3N]at ha;by_cases hic:i=c
  .subst hic;have h1:=h.1;simp only[VK,sel,g3r hc,wN]at h1;simp only[g3r hc,bne_self_eq_false];refine jM (λs uO=>?_) h1;obtain⟨k,hk⟩:=Nat.exists_eq_add_of_le (Nat.le_of_succ_le_succ hlen);rw[hk];exact a8t hN rest _ s k (qM.set hi) hs (vY (λs hs=>c9G he hs) _ _ (yY rest s wJ uO)) λ_=>trivial
  .exact b1P hN more n listed st qM a7q h.2 i hi (ha.resolve_left hic)
 |.op x next more,n,listed,st,qM,hB,h,i,hi,ha=>by
  simp only[b7h,g2Z,g3N,g3v,g3C,g3c]at hB;obtain⟨⟨⟨⟨⟨wJ,hn⟩,gK⟩,eS⟩,tI⟩,a7q⟩:=hB;simp only[b5q]at h;simp only[a5u,g3l,g3N]at ha;by_cases hix:i=x
  .subst hix;have h1:=h.1;simp only[inB,List.all_cons,List.all_nil,Bool.and_true,g2Z,g3N]at wJ;have qi:(i !=c)=true:=by simpa using wJ.2
   simp only[VK,sel,g3r wJ.1,wN]at h1;simp only[g3r wJ.1,qi];refine jM (λs uO=>?_) h1;obtain⟨m,rfl⟩:∃m,n=m+1:=⟨n-1,by omega⟩;exact⟨λh'=>(gK h').elim,λj hj=>b1P hN next m _ s (qM.set hi) tI uO j hj (eS j hj)⟩
  .exact b1P hN more n listed st qM a7q h.2 i hi (ha.resolve_left hix)
def d7c(ops:Array Oper)(c:Nat)(tG:List Nat)(T:Ord):Bool:=(gW ops).isEmpty&&decide (tG.length+1<=ops.size)&&inB ops c tG&&b1O ops c tG (Array.replicate ops.size false)&& !(Region.ready .any ops (cW tG (Array.replicate ops.size false))).isEmpty&&((Region.ready .any ops (cW tG (Array.replicate ops.size false))).all λj=>a5u c T j)&&b7h ops c T (ops.size-tG.length) (cW tG (Array.replicate ops.size false))
theorem d7d{id:Nat}(c:Nat)(tG:List Nat)(T:Ord)(hm:P.follows .mixedOrders=true)(hB:d7c ops c tG T=true)(h:VK P G [.ops true ops (sel ops tG)] .normal st λ_ s=>b5q P G ops c (λs=>Q .normal s) T s):SW P G (.region id ops true) st Q:=by
 simp only[d7c,g2Z,List.isEmpty_iff,g3N,g3v,g3C,g3c]at hB;obtain⟨⟨⟨⟨⟨⟨hN,hlen⟩,wJ⟩,hs⟩,gK⟩,eS⟩,ht⟩:=hB;refine d7b (c:=c) hm ?_;obtain⟨k,hk⟩:=Nat.exists_eq_add_of_le hlen;have qM:gX ops (Array.replicate ops.size false):=λk hk=>by
  rcases Nat.lt_or_ge k ops.size with h'|h'
  .simp[h']at hk
  .simp[Nat.not_lt.2 h']at hk
 have e:ops.size-tG.length=k+1:=by omega
 rw[e]at ht;simp only[VK]at h;have:=a8t (P:=P) (G:=G) (c:=c) (Q:=λs=>Q .normal s) hN tG (Array.replicate ops.size false) st (k+1) qM hs (vY (λs uO=>⟨λh'=>(gK h').elim,λj hj=>b1P hN T k _ s (gX.cW tG _ qM hs) ht uO j hj (eS j hj)⟩) _ _ (yY tG st wJ h)) λ_=>trivial;rw[show tG.length+(k+1)=ops.size by omega]at this;exact this
attribute [simp] sel b5q
theorem SW.f2H{st:St}{c:Code}{ι:Type}(ws:ι->List (Nat×DV))(H:ι->List (Nat×bH))(own:ι->List (TypeId×List Loc))(m:ι->Nat)(x0:ι)(h0:yE st (mJ c st (ws x0) (H x0) (own x0)))(round:∀x,SW P G c (mJ c st (ws x) (H x) (own x)) λe s=>match e with
   |.normal=>bD (λy=>mJ c st (ws y) (H y) (own y)) m x s
   |e=>Q e s):SW P G (.loop c) st Q:=by
 intro base R μ a w hr;refine wp_loop_ghost (λn a1 w1=>∃x R1 μ1,m x=n/\Rel P G base R1 μ1 (mJ c st (ws x) (H x) (own x)) a1 w1/\Step base R w R1 w1) (m x0) ⟨x0,R,μ,rfl,hr.a3N h0,.refl _ _ _⟩ ?_;rintro n a1 w1 ⟨x,R1,μ1,rfl,hr1,hs1⟩;refine wp_mono (round x base R1 μ1 a1 w1 hr1) λe a2 w2 ⟨s,R2,μ2,q,hr2,hs2⟩=>?_;cases e with
 |normal=>simp only at q;unfold bD at q;obtain⟨y,hy,aG⟩:=q;exact⟨m y,aG,y,R2,μ2,rfl,hr2.a3N hy,hs1.trans hs2⟩
 |_=>exact⟨s,R2,μ2,q,hr2,hs1.trans hs2⟩
variable{x y:Code}
theorem SW.a9y{c:Operand}{st:St}(hc:st.eval G c=.d (.bool true))(h:SW P G x st Q):SW P G (.cond c x y) st Q:=λbase R μ a w hr=>wp_cond (hr.a2f hc) (h base R μ a w hr)
theorem SW.b4B{c:Operand}{st:St}(hc:st.eval G c=.d (.bool false))(h:SW P G y st Q):SW P G (.cond c x y) st Q:=λbase R μ a w hr=>wp_cond (hr.a2f hc) (h base R μ a w hr)
theorem SW.f6D{st:St}{st':St}(h1:SW P G x st λe s=>match e with
  |.normal=>yE s st'
  |e=>Q e s)(h2:SW P G y st' Q):SW P G (.seq x y) st Q:=SW.jC λbase R μ a w hr=>
 wp_mono (h1 base R μ a w hr) λe a1 w1 ⟨s,R1,μ1,q1,q2,q3⟩=>by
  cases e with
  |normal=>exact⟨s,R1,μ1,λbase R μ a w hr=>h2 base R μ a w (hr.a3N q1),q2,q3⟩
  |_=>exact⟨s,R1,μ1,q1,q2,q3⟩
theorem SW.b1Q{st:St}(ws:List (Nat×DV))(H:List (Nat×bH))(own:List (TypeId×List Loc))(h1:SW P G x st λe s=>match e with
  |.normal=>yE s (mJ x st ws H own)
  |e=>Q e s)(h2:SW P G y (mJ x st ws H own) Q):SW P G (.seq x y) st Q:=SW.f6D h1 h2
end
end Go.VM
end
section
namespace Go.VM
open Go Go.RowKit
section
variable {P:Program} {G:GT} {st:St} {base:dU} {R:Nat->Nat->Prop} {μ:Nat->Nat} {a:Act} {w:World}
abbrev a1C(v:Value):List PanicEntry:=[{v:=v,recovered:=false}]
def f2I(base:dU)(R:Nat->Nat->Prop)(w:World)(v:Value)(e:Ending)(w':World):Prop:=∃R',e=.panicked (a1C v)/\Step base R w R' w'/\∀b o,R' b o->b<w'.heap.size
def CPn(P:Program)(G:GT)(f:FuncId)(s0:St)(v:Value):Prop:=
 ∀(base:dU)(R:Nat->Nat->Prop)(μ:Nat->Nat)(args:Array Value)(w:World),Rel P G base R μ s0 {tmps:=args,defers:=[]} w->Calls P f args w (f2I base R w v)
def b1R(P:Program)(G:GT)(f:FuncId)(g2X:List DV)(ls:List (Option Loc))(st:St)(v:Value):Prop:=
 ∀(base:dU)(R:Nat->Nat->Prop)(μ:Nat->Nat)(a:Act)(w:World)(args:Array Value),Rel P G base R μ st a w->args.size=g2X.length->(∀(i:Nat)(d:DV),g2X[i]? =some d->TV R μ w (args.getD i undef) d)->
  (∀(i:Nat)(l:Loc),ls[i]? =some (some l)->∀u,cX a w μ l=some u->u=args.getD i undef)->Calls P f args w (f2I base R w v)
variable{s0:St}{f:FuncId}{v:Value}{g2X:List DV}
theorem b1R.e9c(zN:CPn P G f s0 v)(K:List (Nat×Nat)){ls:List (Option Loc)}{rest:List (TypeId×List Loc)}(mO:aR K s0 .undef s0.H=true)(pD:WkT g2X (aZ K s0.tmps))(hH:WkH st.H (dE K s0.H))(oG:xW st st.own (s0.own.map (sB K ls))=some rest)(kn:a1d st.tmps.length ls s0.own=true):
  b1R P G f g2X ls st v:=by
 simp only[aR,g2Z,g3N,g3c]at mO;obtain⟨⟨⟨⟨⟨⟨⟨⟨kf,ks⟩,kp⟩,kt⟩,kh⟩,kl⟩,kr⟩,kd⟩,k1⟩:=mO;intro base R μ a w args hr hl hv a8V;obtain⟨vs,sU⟩:=hr.own;obtain⟨vsT,vsR,t1,t2,t3,t4,t5,t6,t7⟩:=a7i hr _ _ _ vs ⟨sU.len,sU.one,sU.apart⟩ oG;have inK:∀k o,getKey k s0.H=some o->(K.any λp=>p.1==k)=true/\bB K o=true/\(getKey k s0.H).isSome=true:=λk o hk=>by
  have:=kh _ (kH hk)
  try simp only[g2Z]at this
  exact⟨this.1.1,this.1.2,this.2⟩
 have inst:∀k o,getKey k s0.H=some o->∃o',getKey (rk K k) st.H=some o'/\WkO o' (dM K o):=λk o hk=>by
  have hm:=kH hk;have:∀{l:List (Nat×bH)},WkH st.H (dE K l)->(k,o)∈l->∃o',getKey (rk K k) st.H=some o'/\WkO o' (dM K o):=by
   intro l
   induction l with
   |nil=>intro _ h;cases h
   |cons p l ih=>
    intro hw hp;obtain⟨h1,h2⟩:=hw;rcases g3w.1 hp with rfl|hp
    .exact h1
    .exact ih h2 hp
  exact this hH hm
 have big:∀k,(K.any λp=>p.1==k)=true->100000<=k:=λk hk=>by obtain⟨p,h1,h2,_⟩:=a2j hk;rw[<-h2];exact kp p h1
 have d6H:∀k k',(K.any λp=>p.1==k)=true->(K.any λp=>p.1==k')=true->rk K k=rk K k'->k=k':=λk k' h h' he=>by
  obtain⟨p,p1,p2,p3⟩:=a2j h;obtain⟨q,q1,q2,q3⟩:=a2j h';have hpq:p.2=q.2:=by rw[<-p3, <- q3,he]
  have:p=q:=oR.b4r.a8n ks p1 q1 hpq;rw[<-p2, <- q2,this]
 have one:∀k,(getKey k s0.H).isSome=true->∃o,getKey k s0.H=some o:=λk hk=>by
  obtain⟨o,ho⟩:=g3B.1 hk;have:=k1 _ (kH ho)
  try simp only[g2Z]at this
  exact g3B.1 this.2
 let mM:dU:=⟨λb=>w.heap.size<=b\/(∃k o,getKey k s0.H=some o/\b=μ (rk K k))\/(∃v∈vsT,bQ v=some b),λk=>μ (rk K k)⟩
 have sub:∀b,mM b->base b:=λb hb=>by
  rcases hb with hb|⟨k,o,hk,rfl⟩|⟨v,hv,hs⟩
  .exact hr.base b hb
  .obtain⟨o',xF,_⟩:=inst k o hk;exact(hr.mE _ o' xF).1
  .obtain⟨i,hi⟩:=g3q hv;have yJ:i<(s0.own.map (sB K ls)).length:=by rw[<-t1];exact(g3a.1 hi).1
   exact(t2 i _ v (g3d yJ) hi).own.a2X hs
 have a2q:Rel P G mM R (λk=>μ (rk K k)) s0 {tmps:=args,defers:=[]} w:=by
  obtain⟨g1,g2⟩:=a0N pD;rw[tH]at g1 g2;refine⟨rfl,by show args.size=s0.tmps.length;rw[List.length_map]at g1;omega,λi v d hiv hid=>?_,λk o hk=>?_,λk k' o o' hk hk' he=>?_,λc hc k off hl'=>?_,⟨vsT,by simpa using t1,λi c v hc hv'=>?_,t3⟩,hr.wS.up sub,hr.rY,λb hb=>.inl hb,λk hk=>rfl⟩
  .obtain⟨d0,hd0,b6J⟩:=g2 i (bI K d) (by rw[g3j,hid];rfl);have hva:=hv i d0 hd0;have hav:args.getD i undef=v:=by simp only at hiv;simp[g3b,hiv]
   rw[hav]at hva;have d6I:TV R μ w v (bI K d):=by
    rcases b6J with hc|hc|⟨hc1,hc2⟩
    .rw[hc];exact .undef _
    .rw[hc];exact hva
    .rw[hc2];rw[hc1]at hva;obtain⟨ao,rfl⟩:=hva.b1j.mN;exact .d _ _ (.emp _ _)
   exact d6I.ren (μ:=μ) (λ_ _=>rfl) (kt d (g3e hid))
  .obtain⟨q1,q2,_⟩:=inK k o hk;obtain⟨o',xF,hw⟩:=inst k o hk;obtain⟨p1,p2,p3⟩:=hr.mE _ o' xF;exact⟨.inr (.inl ⟨k,o,hk,rfl⟩),p2,(b5O hw p3).ren (λ_ _=>rfl) q2⟩
  .obtain⟨o1,h1,_⟩:=inst k o hk;obtain⟨o2,h2,_⟩:=inst k' o' hk';exact d6H k k' (inK k o hk).1 (inK k' o' hk').1 (hr.inj _ _ o1 o2 h1 h2 he)
  .have:=g3c.1 (g3c.1 kl c hc) _ hl';exact g3B.1 this
  .have ho:=t2 i (sB K ls c) v (by rw[g3j,hc];rfl) hv';refine⟨λl hl' u hu=>?_,?_,λk o hk=>?_⟩
   .have hn:=g3c.1 (g3c.1 kn c (g3e hc)) l hl';cases l with
    |t j=>
     simp only at hn;split at hn
     .rename_i t hj;simp only[g3N]at hn;have ht:t<a.tmps.size:=by rw[hr.size];exact hn
      have hlv:cX a w μ (.t t)=some a.tmps[t]:=by simp[cX,ht]
      have h1:=a8V j _ hj _ hlv;have h2:=ho.eR (.t t) (g3E.2 ⟨.t j,hl',by simp[b6H,hj]⟩) _ hlv;simp only[cX]at hu;have h3:args.getD j undef=u:=by simp[g3b,hu]
      rw[<-h3, <- h1,h2]
     .cases hn
    |c k off=>exact ho.eR (.c (rk K k) off) (g3E.2 ⟨.c k off,hl',rfl⟩) u hu
   .rcases ho.own with h|⟨g,n,cap,cur,h0,h1,h2,h3,h4⟩
    .exact .inl h
    .by_cases zO:cap=0
     .subst zO;have:n=0:=by omega
      subst this;exact .inl ⟨_,h0⟩
     .exact .inr ⟨g,n,cap,cur,h0,.inr (.inr ⟨v,g3e hv',by rw[h0];simp[bQ,zO]⟩),h2,h3,h4⟩
   .obtain⟨o',xF,_⟩:=inst k o hk;exact ho.keys _ o' xF
 exact(zN mM R (λk=>μ (rk K k)) args w a2q).mono λe w' ⟨R',he,hs,hb⟩=>⟨R',he,⟨hs.below.mono sub,hs.mono,λb o h1 h2=>sub b (hs.new b o h1 h2),hs.cells⟩,hb⟩
variable{o:Oper}
theorem b0r(hc:dY G o st=some (f,g2X))(sN:Enters P f/\b1R P G f g2X (oF o) st v)(hr:Rel P G base R μ st a w){K:Act->World->Prop}{Q:Exit->Act->World->Prop}(h:∀R' w',Step base R w R' w'->(∀b o,R' b o->b<w'.heap.size)->Q (.panic (a1C v)) a w'):o.wp P a w K Q:=by
 obtain⟨⟨fn,hf1,hf2,hf3⟩,sN⟩:=sN;have c2q:¬fn.body=none:=λhe=>by simp[he]at hf2
 have c2r:¬fn.name= "runtime.NumGoroutine" :=by simpa using hf3
 have main:∀args:Array Value,(execOp a.eval o).run P w=.ok (.enter f args) w->args.size=g2X.length->(∀(i:Nat)(d:DV),g2X[i]? =some d->TV R μ w (args.getD i undef) d)->
   (∀(i:Nat)(l:Loc),(oF o)[i]? =some (some l)->∀u,cX a w μ l=some u->u=args.getD i undef)->o.wp P a w K Q:=λargs a6O hl hv a8V=>by
  unfold Oper.wp;rw[a6O]
  show Calls P f args w _
  refine(sN base R μ a w args hr hl hv a8V).mono λe w' ⟨R',he,hs,hb⟩=>?_;subst he;exact h R' w' hs hb
 have each:∀(l:List Operand)(i:Nat)(d:DV),(l.map (st.eval G))[i]? =some d->TV R μ w ((l.map a.eval).getD i undef) d:=λl i d hi=>by
  rw[g3j]at hi;obtain⟨x,hx,rfl⟩:=g2Y.1 hi;have:(l.map a.eval).getD i undef=a.eval x:=by simp[List.getD,hx]
  rw[this];exact hr.eval x
 have eR:∀(args:Array Operand)(vs:Array Value),oF o=args.toList.map a6E->∀(i:Nat)(l:Loc),(oF o)[i]? =some (some l)->∀u,cX a w μ l=some u->u=(args.map a.eval++vs).getD i undef:=λargs vs rZ i l hi u hu=>by
  rw[rZ,g3j]at hi;obtain⟨x,hx,hxl⟩:=g2Y.1 hi;cases x with
  |tmp t=>
   simp only[a6E,g3f]at hxl;subst hxl;simp only[cX]at hu;have aG:i<args.size:=by have:=(g3a.1 hx).1;simpa using this
   have he:args[i]? =some (.tmp t):=by simpa using hx
   rw[g3b,g3H (by simpa using aG),Array.getElem?_map,he];simp[Act.eval,hu]
  |_=>cases hxl
 unfold dY at hc;split at hc
 .rename_i x args ts qA;have rZ:oF o=args.toList.map a6E:=by simp[oF,qA]
  split at hc
  .rename_i f' hx;simp at hc;obtain⟨rfl,rfl⟩:=hc;refine main (args.map a.eval) ?_ (by simp) (λi d hi=>?_) (by simpa using eR args #[] rZ)
   .simp[execOp,qA,resolve,hr.b6c hx,Deferred.ofValue,invoke,callFunc,hf1,c2q,c2r]
   .have:=each args.toList i d hi;simpa[g3b,List.getD]using this
  .rename_i f' cs hx;simp at hc;obtain⟨rfl,rfl⟩:=hc;obtain⟨vs,he,sU,hvc⟩:=(hr.qQ hx).b1l;refine main (args.map a.eval++vs) ?_ (by simp[sU]) (λi d hi=>?_) (eR args vs rZ)
   .simp[execOp,qA,resolve,he,Deferred.ofValue,invoke,callFunc,hf1,c2q,c2r]
   .by_cases aG:i<args.size
    .rw[g3k (by simpa using aG)]at hi;have:=each args.toList i d hi;rw[g3b,g3H (by simpa using aG)];simpa[g3b,List.getD]using this
    .rw[g3h (by simp;omega)]at hi;simp only[List.length_map,Array.length_toList]at hi;have:=hvc _ d hi;rw[g3b,g3W (by simp;omega)];simpa[g3b]using this
  .cases hc
 .cases hc
abbrev a3o(st:St):St:=⟨List.replicate st.tmps.length .undef,[],[]⟩
theorem Rel.b1S(hr:Rel P G base R μ st a w){R':Nat->Nat->Prop}{w':World}(hs:Step base R w R' w')(hb:∀b o,R' b o->b<w'.heap.size):Rel P G base R' μ (a3o st) a w' where
 defers:=hr.defers
 size:=by simpa using hr.size
 tmps:=λi v d _ hd=>by
  rw[g3R]at hd;split at hd
  .simp at hd;subst hd;exact .undef _
  .cases hd
 mE:=λk o h=>by cases h
 inj:=λk k' o o' h=>by cases h
 eR:=λc hc=>by cases hc
 own:=⟨[],rfl,λi c v h _=>by simp at h,.nil⟩
 wS:=a8U.cA hs hr.wS
 rY:=hb
 base:=λb h=>hr.base b (Nat.le_trans hs.below.size h)
 pass:=hr.pass
def a3p(P:Program)(G:GT)(ops:Array Oper)(c:Nat)(Q:Exit->St->Prop)(st:St):Prop:=match ops[c]? with
 |some o=>gB o ops st.tmps=some true/\∃f g2X v,dY G o st=some (f,g2X)/\(Enters P f/\b1R P G f g2X (oF o) st v)/\Q (.panic (a1C v)) (a3o st)
 |none=>False
variable{c:Nat}{Q:Exit->St->Prop}{ops:Array Oper}
theorem a3p.ok(ho:ops[c]? =some o)(h:a3p P G ops c Q st)(hr:Rel P G base R μ st a w){QQ:Exit->Act->World->Prop}{KK:Act->World->Prop}{KE:Prop}(hk:∀v s w' R',Q (.panic (a1C v)) s->Rel P G base R' μ s a w'->Step base R w R' w'->QQ (.panic (a1C v)) a w'):
  if Region.wanted o (yielded ops a.tmps) then o.wp P a w KK QQ\/(o.asks P a w/\LetsOut QQ) else KE:=by
 unfold a3p at h;rw[ho]at h;obtain⟨hw,f,g2X,v,h1,h2,h3⟩:=h;rw[a4v hr hw,if_pos rfl];exact .inl (b0r h1 h2 hr λR' w' hs hb=>hk v _ w' R' h3 (hr.b1S hs hb) hs)
def a9z(P:Program)(G:GT)(ops:Array Oper)(c:Nat)(Z:St->Prop):Nat->Array Bool->St->Prop
 |0,_,_=>False
 |fuel+1,listed,st=>Region.ready .any ops listed≠[]/\∀i∈Region.ready .any ops listed,if i=c then Z st else match ops[i]? with
  |none=>False
  |some o=>qN P G true ops o (a9z P G ops c Z fuel (listed.setIfInBounds i true)) st
theorem b1T{ops:Array Oper}{c:Nat}{Q:Exit->St->Prop}{QQ:Exit->Act->World->Prop}:∀(fuel:Nat)(listed:Array Bool)(st:St),a9z P G ops c (a3p P G ops c Q) fuel listed st->∀(base:dU)(R:Nat->Nat->Prop)(μ:Nat->Nat)(a:Act)(w:World),Rel P G base R μ st a w->
  (∀v s a' w' R' μ',Q (.panic (a1C v)) s->Rel P G base R' μ' s a' w'->Step base R w R' w'->QQ (.panic (a1C v)) a' w')->wpAny P .any ops QQ fuel listed a w
 |0,_,st,h,base,R,μ,a,w,hr,hk=>h.elim
 |fuel+1,listed,st,h,base,R,μ,a,w,hr,hk=>by
  refine⟨λh0=>(h.1 h0).elim,λi hi=>?_⟩;have h1:=h.2 i hi;unfold wpOp;split
  .rename_i ho;rw[ho]at h1;split at h1
   .rename_i hic;subst hic;unfold a3p at h1;rw[ho]at h1;exact h1.elim
   .exact h1.elim
  .rename_i o ho;rw[ho]at h1;split at h1
   .rename_i hic;subst hic;exact a3p.ok ho h1 hr λv s w' R' q1 q2 q3=>hk v s a w' R' μ q1 q2 q3
   .exact uE h1 hr λs v w' R' μ' h' jD uO=>b1T fuel _ s h' base R' μ' _ w' jD λv s a' w2 R2 μ2 q1 q2 q3=>hk v s a' w2 R2 μ2 q1 q2 (uO.trans q3)
theorem c6v{Z:St->Prop}{i:Nat}{oi:Oper}(hA:sA ops)(hi:ops[i]? =some oi)(hic:i≠c)(hsi:(dW oi.op=true/\pH ops oi=false)\/rR oi=true):
  ∀(fuel:Nat)(listed:Array Bool)(st s:St),gX ops listed->
   (∀j oj,ops[j]? =some oj->j≠i->listed.getD j true=false->kE ops ops.size j i=false->j≠c/\oi.apart ops oj=true/\sV ops oi oj=true)->
   i∈Region.ready .any ops listed->sX ops listed st->Eff P G ops oi st s->
   a9z P G ops c Z fuel (listed.setIfInBounds i true) s->a9z P G ops c Z (fuel+1) listed st:=by
 intro fuel
 induction fuel with
 |zero=>intro listed st s _ _ hr _ hy H;exact H.elim
 |succ fuel ih=>
  intro listed st s qM a0M hr hI hy H;refine⟨λh=>(by rw[h]at hr;cases hr),λj hj=>?_⟩;by_cases hji:j=i
  .subst hji;rw[if_neg hic,hi];exact(eO hsi).2 ⟨s,hy,H⟩
  .have h1:=H.2 j (ready_mono hj hji);obtain⟨a0b,oj,hoj,eS⟩:=mem_ready.1 hj;rw[hoj]at h1|-;simp only at h1|-;obtain⟨a3M,oi',c2y,b1v⟩:=mem_ready.1 hr;have a6v:kE ops ops.size j i=false:=dZ qM a3M _ _ λo ho=>by rw[hoj]at ho;cases ho;exact eS
   obtain⟨hjc,hap,hpo⟩:=a0M j oj hoj hji a0b a6v;rw[if_neg hjc]at h1|-;have hsj:(dW oj.op=true/\pH ops oj=false)\/rR oj=true:=by
    by_cases hs:rR oj=true
    .exact .inr hs
    .refine .inl ⟨?_,?_⟩
     .unfold sV at hpo;simp only[rR,g3l,g2Z,g3v]at hpo hs;rcases hpo with((((((h|h)|h)|h)|h)|h)|h)|h
      .exact h.1.2
      .exact absurd (.inl (.inl h.1.2)) hs
      .exact h.1.1.2
      .exact absurd (.inl (.inr h.2)) hs
      .exact h.1.2
      .exact absurd (.inl h.1.2) hs
      .exact absurd (.inr h.2) hs
      .exact(qB (G:=G) (st:=st) h.1.2).1
     .cases hx:pH ops oj with
      |false=>rfl
      |true=>
       have aG:i<ops.size:=(g3i.1 hi).1;rcases xI hx hoj aG (λe=>hji e.symm)with h'|h'
       .have:=dZ qM a0b ops.size i λo ho=>by rw[c2y]at ho;cases ho;exact b1v
        rw[h']at this;cases this
       .rw[a6v]at h';cases h'
   obtain⟨s12,hu,hk⟩:=(eO hsj).1 h1;obtain⟨s2,e1,e2⟩:=b1u hap hpo (λhn d hd=>hI i oi d hi hn a3M hd) (λhn d hd=>hI j oj d hoj hn a0b hd) hy hu;refine(eO hsj).2 ⟨s2,e1,?_⟩;refine ih (listed.setIfInBounds j true) s2 s12 (qM.set hj) (λk ok hk' hki hun uV=>?_) (ready_mono hr (Ne.symm hji)) (hI.step hA hoj λk hf hn=>wT e1 hf hn) e2 ?_
   .exact a0M k ok hk' hki (vV hun).2 uV
   .rw[Array.setIfInBounds_comm _ _ hji];exact hk
theorem a8u{ops:Array Oper}{c:Nat}{Z:St->Prop}(hN:gW ops=[]):∀(l:List Nat)(listed:Array Bool)(st:St)(fuel:Nat),gX ops listed->inB ops c l=true->b1O ops c l listed=true->
  a6x P G ops c l st (a9z P G ops c Z fuel (cW l listed))->a9z P G ops c Z (l.length+fuel) listed st
 |[],listed,st,fuel,_,_,_,h=>by simpa[cW,a6x]using h
 |i::l,listed,st,fuel,qM,wJ,hB,h=>by
  have hA:sA ops:=λi j oi oj d hi _ hni _ hdi _=>(c1b hN hi hni hdi).elim;have hI:∀listed st,sX ops listed st:=λ_ _ j oj d hj hn _ hd=>(c1b hN hj hn hd).elim;simp only[b1O,g2Z]at hB;obtain⟨hf,hB'⟩:=hB;simp only[inB,List.all_cons,g2Z,g3N]at wJ;obtain⟨⟨_,hic⟩,f6E⟩:=wJ;have qi:(i !=c)=true:=by simpa using hic
  simp only[a6x]at h;split at h;rotate_left
  .cases h
  rename_i o ho;rw[qi]at h;have he:(i::l).length+fuel=l.length+fuel+1:=by simp only[List.length_cons];omega
  rw[he];unfold b7g at hf;rw[g3l,beq_iff_eq]at hf;have hri:i∈Region.ready .any ops listed:=by
   rcases hf with hf|hf
   .rw[hf];exact g3g.2 rfl
   .simp only[g2Z]at hf;simpa using hf.1.1
  have tI:∀s,a6x P G ops c l s (a9z P G ops c Z fuel (cW (i::l) listed))->a9z P G ops c Z (l.length+fuel) (listed.setIfInBounds i true) s:=λs hs=>a8u hN l _ s fuel (qM.set hri) f6E hB' hs;rcases hf with hf|hf
  .refine⟨λh'=>(by rw[h']at hf;cases hf),λj hj=>?_⟩;rw[hf,g3g]at hj;subst hj;rw[if_neg hic,ho];exact jM tI h
  .rw[ho]at hf;simp only[g2Z,g3l,g3v,bne_iff_ne,ne_eq]at hf;obtain⟨⟨_,hic⟩,hsi,eS⟩:=hf;obtain⟨s,hd,hk⟩:=(eO hsi).1 h;refine c6v hA ho hic hsi _ listed st s qM (λj oj hj gK hun uV=>?_) hri (hI _ _) hd (tI s hk);rw[g3c]at eS;have h1:=eS j (List.mem_range.2 (g3i.1 hj).1);simp only[hj,g3l,beq_iff_eq,gK,false_or,hun,g3t,uV,g2Z,bne_iff_ne,ne_eq]at h1;exact h1
def a6i(P:Program)(G:GT)(ops:Array Oper)(Z:St->Prop):Ord->St->Prop
 |.none,_=>True
 |.call _ more,st=>Z st/\a6i P G ops Z more st
 |.op i next more,st=>VK P G [.ops true ops (sel ops [i])] .normal st (λ_ s=>a6i P G ops Z next s)/\a6i P G ops Z more st
theorem a7r{ops:Array Oper}{c:Nat}{Z:St->Prop}:∀(T:Ord)(n:Nat)(listed:Array Bool)(st:St),b7h ops c T (n+1) listed=true->a6i P G ops Z T st->∀i∈Region.ready .any ops listed,a5u c T i=true->
  if i=c then Z st else match ops[i]? with
  |none=>False
  |some o=>qN P G true ops o (a9z P G ops c Z n (listed.setIfInBounds i true)) st
 |.none,_,_,_,_,_,_,_,ha=>by cases ha
 |.call rest more,n,listed,st,hB,h,i,hi,ha=>by
  simp only[b7h,g2Z]at hB;simp only[a6i]at h;simp only[a5u,g3l,g3N]at ha;by_cases hic:i=c
  .rw[if_pos hic];exact h.1
  .exact a7r more n listed st hB.2 h.2 i hi (ha.resolve_left hic)
 |.op x next more,n,listed,st,hB,h,i,hi,ha=>by
  simp only[b7h,g2Z,g3N,g3v,g3C,g3c]at hB;obtain⟨⟨⟨⟨⟨wJ,hn⟩,gK⟩,eS⟩,tI⟩,a7q⟩:=hB;simp only[a6i]at h;simp only[a5u,g3l,g3N]at ha;by_cases hix:i=x
  .subst hix;have h1:=h.1;simp only[inB,List.all_cons,List.all_nil,Bool.and_true,g2Z,g3N]at wJ;simp only[VK,sel,g3r wJ.1,wN]at h1;rw[if_neg wJ.2];simp only[g3r wJ.1];refine jM (λs uO=>?_) h1;obtain⟨m,rfl⟩:∃m,n=m+1:=⟨n-1,by omega⟩;exact⟨gK,λj hj=>a7r next m _ s tI uO j hj (eS j hj)⟩
  .exact a7r more n listed st a7q h.2 i hi (ha.resolve_left hix)
theorem e3i{id:Nat}(c:Nat)(tG:List Nat)(T:Ord)(hm:P.follows .mixedOrders=true)(hB:d7c ops c tG T=true)(h:VK P G [.ops true ops (sel ops tG)] .normal st λ_ s=>a6i P G ops (a3p P G ops c Q) T s):SW P G (.region id ops true) st Q:=by
 simp only[d7c,g2Z,List.isEmpty_iff,g3N,g3v,g3C,g3c]at hB;obtain⟨⟨⟨⟨⟨⟨hN,hlen⟩,wJ⟩,hs⟩,gK⟩,eS⟩,ht⟩:=hB;obtain⟨k,hk⟩:=Nat.exists_eq_add_of_le hlen;have qM:gX ops (Array.replicate ops.size false):=λk hk=>by
  rcases Nat.lt_or_ge k ops.size with h'|h'
  .simp[h']at hk
  .simp[Nat.not_lt.2 h']at hk
 have e:ops.size-tG.length=k+1:=by omega
 rw[e]at ht;simp only[VK]at h;have:=a8u (P:=P) (G:=G) (c:=c) (Z:=a3p P G ops c Q) hN tG (Array.replicate ops.size false) st (k+1) qM wJ hs (vY (λs uO=>⟨gK,λj hj=>a7r T k _ s ht uO j hj (eS j hj)⟩) _ _ (yY tG st wJ h));rw[show tG.length+(k+1)=ops.size by omega]at this;intro base R μ a w hr;obtain⟨jD,uO⟩:=hr.drew;exact wp_region_any hm (b1T ops.size _ st this base R μ a w.drew jD λv s a' w' R' μ' q1 q2 q3=>⟨s,R',μ',q1,q2,uO.trans q3⟩)
theorem CPn.xV{fn:Func}{c:Code}{n:Nat}(hf:P.funcs[f]? =some fn)(hb:fn.body=some c)(hn:fn.ntmps=n)(hT:(s0.own.all λc=>c.2.all λl=>match l with|.t i=>decide (i<s0.tmps.length)|_=>true)=true)(h:SW P G c ⟨s0.tmps++List.replicate (n-s0.tmps.length) (.cY []),s0.H,s0.own⟩ λe _=>e=.panic (a1C v)):CPn P G f s0 v:=by
 intro base R μ args w hr;refine calls_of_wp hf hb ?_;have mI:args.size=s0.tmps.length:=hr.size;have hrel:Rel P G base R μ ⟨s0.tmps++List.replicate (n-s0.tmps.length) (.cY []),s0.H,s0.own⟩ {tmps:=args++Array.replicate (fn.ntmps-args.size) undef,defers:=[]} w:=by
  refine⟨rfl,by simp[mI,hn],λi v d hiv hid=>?_,hr.mE,hr.inj,hr.eR,?_,hr.wS,hr.rY,hr.base,hr.pass⟩
  .simp only at hid;by_cases hi:i<s0.tmps.length
   .rw[g3k hi]at hid;rw[g3H (by omega)]at hiv;exact hr.tmps i v d hiv hid
   .rw[g3h (by omega),g3R]at hid;split at hid<;>simp at hid;subst hid;rw[g3W (by omega),Array.getElem?_replicate]at hiv;split at hiv<;>simp at hiv;subst hiv;exact .cY #[] [] rfl (by simp)
  .obtain⟨vs,hl,h1,hap⟩:=hr.own;refine⟨vs,hl,λi c v hc hv=>?_,hap⟩;have ho:=h1 i c v hc hv;refine⟨λl hl u hu=>?_,ho.own,ho.keys⟩;cases l with
   |t j=>have hj:=g3c.1 (g3c.1 hT c (g3e hc)) _ hl;simp only[g3N]at hj;simp only[cX]at hu;rw[g3H (by omega)]at hu;exact ho.eR _ hl u hu
   |c k off=>exact ho.eR _ hl u hu
 refine wp_mono (h base R μ _ w hrel) λe a' w' ⟨s,R',μ',he,jD,hs⟩=>?_;subst he;exact⟨jD.defers,R',rfl,hs,jD.rY⟩
attribute [simp] a6i
end
end Go.VM
end
namespace Go.VM
open Go Go.RowKit
section
variable {P:Program} {G:GT} {st:St} {base:dU} {R:Nat->Nat->Prop} {μ:Nat->Nat} {a:Act} {w:World}
abbrev Ends:=Sum (DV×List (Nat×bH)×List (TypeId×List Loc)) Value
def CX(P:Program)(G:GT)(f:FuncId)(s0:St):Ends->Prop
 |.inl s1=>CH P G f s0 ⟨[s1.1],s1.2.1,s1.2.2⟩
 |.inr v=>CPn P G f s0 v
def uI(P:Program)(G:GT)(f:FuncId)(g2X:List DV)(ls:List (Option Loc))(dst:Option Tmp)(st:St)(K:St->Prop)(Q:Exit->St->Prop)(x0:Bool):Prop:=
 Enters P f/\(x0=true->∃s',oR P G f g2X ls st dst s'/\K s')/\(x0=false->∃v,b1R P G f g2X ls st v/\Q (.panic (a1C v)) (a3o st))
def a2w(P:Program)(G:GT)(all:Array Oper)(l:List Oper)(K:List Oper->St->Prop)(Q:Exit->St->Prop)(x0:Bool)(st:St):Prop:=match l with
 |[]=>False
 |o::rest=>match gB o all st.tmps,kT G o st,dY G o st with
  |some true,none,some (f,g2X)=>uI P G f g2X (oF o) o.dst st (K rest) Q x0
  |_,_,_=>False
variable{all ops:Array Oper}{o:Oper}{Q:Exit->St->Prop}{K:List Oper->St->Prop}{l rest:List Oper}
theorem b4C{x0:Bool}(h:a2w P G all (o::rest) K Q x0 st):
  ∃f g2X,gB o all st.tmps=some true/\kT G o st=none/\dY G o st=some (f,g2X)/\uI P G f g2X (oF o) o.dst st (K rest) Q x0:=by
 unfold a2w at h;simp only at h;split at h
 .rename_i f g2X h1 h2 h3;exact⟨f,g2X,h1,h2,h3,h⟩
 .exact h.elim
variable{c:Nat}
theorem a2w.pan(ho:ops[c]? =some o)(h:a2w P G ops (o::rest) K Q false st):a3p P G ops c Q st:=by obtain⟨f,g2X,h2,_,h4,he,_,h5⟩:=b4C h;obtain⟨v,h6,h7⟩:=h5 rfl;unfold a3p;rw[ho];exact⟨h2,f,g2X,v,h4,⟨he,h6⟩,h7⟩
theorem a2w.ret(h:a2w P G all (o::rest) K Q true st):qN P G false all o (K rest) st:=by obtain⟨f,g2X,h2,h3,h4,he,h5,_⟩:=b4C h;obtain⟨s',h6,h7⟩:=h5 rfl;unfold qN;rw[h2,h3,h4];simp only[uD,Bool.false_and,a3d,g3t,if_false];exact⟨s',⟨he,h6⟩,h7⟩
def LW(P:Program)(G:GT)(all:Array Oper)(l:List Oper)(st:St)(Q:Exit->St->Prop):Prop:=
 ∀(base:dU)(R:Nat->Nat->Prop)(μ:Nat->Nat)(a:Act)(w:World),Rel P G base R μ st a w->∀QQ:Exit->Act->World->Prop,(∀e s a' w' R' μ',Q e s->Rel P G base R' μ' s a' w'->Step base R w R' w'->QQ e a' w')->wpList P all QQ l a w
theorem LW.vk(h:VK P G [.ops false all l] .normal st Q):LW P G all l st Q:=by intro base R μ a w hr QQ hk;simp only[VK]at h;exact c2s all _ l st (λs=>Q .normal s) h base R μ a w hr λs a' w' R' μ' q1 q2 q3=>hk _ s a' w' R' μ' q1 q2 q3
theorem f2J{x0:Bool}(all:Array Oper)(Q:Exit->St->Prop)(l2:List Oper)(hl:x0=false->∃(c:Nat)(o:Oper)(rest:List Oper),l2=o::rest/\all[c]? =some o):∀(l:List Oper)(st:St),wN P G false all l st (λs=>a2w P G all l2 (λr s=>LW P G all r s Q) Q x0 s)->∀(base:dU)(R:Nat->Nat->Prop)(μ:Nat->Nat)(a:Act)(w:World),Rel P G base R μ st a w->
  ∀QQ:Exit->Act->World->Prop,(∀e s a' w' R' μ',Q e s->Rel P G base R' μ' s a' w'->Step base R w R' w'->QQ e a' w')->wpList P all QQ (l++l2) a w
 |[],st,h,base,R,μ,a,w,hr,QQ,hk=>by
  have h:a2w P G all l2 (λr s=>LW P G all r s Q) Q x0 st:=h
  show wpList P all QQ l2 a w
  cases l2 with
  |nil=>exact h.elim
  |cons o rest=>
   unfold wpList;cases x0 with
   |false=>obtain⟨c,o',f8M,he,hc⟩:=hl rfl;cases he;exact a3p.ok hc (h.pan hc) hr λv s w' R' q1 q2 q3=>hk _ s a w' R' μ q1 q2 q3
   |true=>refine uE h.ret hr λs v w' R' μ' h' jD uO=>?_;exact h' base R' μ' _ w' jD QQ λe s2 a2 w2 R2 μ2 q1 q2 q3=>hk e s2 a2 w2 R2 μ2 q1 q2 (uO.trans q3)
 |x::l,st,h,base,R,μ,a,w,hr,QQ,hk=>by
  show wpList P all QQ (x::(l++l2)) a w
  unfold wpList;exact uE h hr λs v w' R' μ' h' jD uO=>f2J all Q l2 hl l s h' base R' μ' _ w' jD QQ λe s a' w2 R2 μ2 q1 q2 q3=>hk e s a' w2 R2 μ2 q1 q2 (uO.trans q3)
theorem LW.at{all:Array Oper}{l:List Oper}{Q:Exit->St->Prop}(c k:Nat)(x0:Bool)(hk:l[c]? =all[k]?)(hk2:∃o,l[c]? =some o)(h:VK P G [.ops false all (l.take c)] .normal st λ_ s=>a2w P G all (l.drop c) (λr s=>LW P G all r s Q) Q x0 s):LW P G all l st Q:=by
 intro base R μ a w hr QQ yK;simp only[VK]at h;rw[<-g3M c l];refine f2J all Q (l.drop c) (λh0=>?_) _ st h base R μ a w hr QQ yK;obtain⟨o,ho⟩:=hk2;refine⟨k,o,l.drop (c+1),?_,by rw[<-hk,ho]⟩;have aG:=(g3a.1 ho).1;rw[g3m aG];rw[g3d aG]at ho;cases ho
 rfl
theorem LW.app(c:Nat)(h:VK P G [.ops false all (l.take c)] .normal st λ_ s=>LW P G all (l.drop c) s Q):LW P G all l st Q:=by
 intro base R μ a w hr QQ hk;simp only[VK]at h;have main:∀(l1:List Oper)(st:St),wN P G false all l1 st (λs=>LW P G all (l.drop c) s Q)->∀(R:Nat->Nat->Prop)(μ:Nat->Nat)(a:Act)(w:World),Rel P G base R μ st a w->
   (∀e s a' w' R' μ',Q e s->Rel P G base R' μ' s a' w'->Step base R w R' w'->QQ e a' w')->wpList P all QQ (l1++l.drop c) a w:=by
  intro l1
  induction l1 with
  |nil=>intro st h R μ a w hr hk;exact h base R μ a w hr QQ hk
  |cons x l1 ih=>
   intro st h R μ a w hr hk
   show wpList P all QQ (x::(l1++l.drop c)) a w
   unfold wpList;exact uE h hr λs v w' R' μ' h' jD uO=>ih s h' R' μ' _ w' jD λe s a' w2 R2 μ2 q1 q2 q3=>hk e s a' w2 R2 μ2 q1 q2 (uO.trans q3)
 have:=main (l.take c) st h R μ a w hr hk
 rwa[g3M]at this
theorem SW.lw{id:Nat}(h:LW P G ops ops.toList st Q):SW P G (.region id ops false) st Q:=λbase R μ a w hr=>wp_region_list (h base R μ a w hr _ λe s a' w' R' μ' q1 q2 q3=>⟨s,R',μ',q1,q2,q3⟩)
theorem LW.c9H{T y1 y2:TypeId}{td:TypeDesc}{d x:Tmp}{p1 p2:String}{f1 f2:Array Edge}{n e:Int}(hu:P.underlying T=some td)(hn:(match td with|.interface _=>false|_=>true)=true)(hd:d<st.tmps.length)(hx:st.eval G (.tmp x)=.d (.agg [.int .i64 n,.int .i64 e]))(h:Q (.panic (a1C (.iface T (.agg #[.int .i64 n,.int .i64 e])))) (a3o st)):
  LW P G all [⟨some d,.makeInterface T (.tmp x),y1,p1,f1,none⟩,⟨none,.panic (.tmp d),y2,p2,f2,none⟩] st Q:=by
 intro base R μ a w hr QQ hk;obtain⟨pc,hpc,b3q,c6r⟩:=(hr.pQ hx).a5d;have e0:=(c6r 0 _ rfl).2.a1t;have e1:=(c6r 1 _ rfl).2.a1t;have f6F:pc=#[.int .i64 n,.int .i64 e]:=by
  have hs:pc.size=2:=by simpa using b3q
  apply Array.ext
  .simpa using hs
  .intro i h1 h2;simp only[g3b]at e0 e1;have h3:i<2:=by omega
   match i,h1,h3 with
   |0,h1,_=>simpa[h1]using e0
   |1,h1,_=>simpa[h1]using e1
 have hda:d<a.tmps.size:=by rw[hr.size];exact hd
 have dD:(Instr.makeInterface T (.agg pc)).run P w=.ok (.iface T (.agg pc)) w:=by
  unfold Instr.makeInterface;rw[g3O,g3P hu];simp only[g3Q];split
  .simp at hn
  .rfl
 have hw:∀(o:Oper) y,o.guard=none->Region.wanted o y=true:=λo y hg=>by unfold Region.wanted;rw[hg]
 unfold wpList;rw[if_pos (hw _ _ rfl)];left;unfold Oper.wp;have e2:(execOp a.eval ⟨some d,.makeInterface T (.tmp x),y1,p1,f1,none⟩).run P w=.ok (.value (.iface T (.agg pc))) w:=by simp[execOp,hpc,dD]
 rw[e2]
 show wpList P all QQ _ (a.put (some d) (.iface T (.agg pc))) w
 unfold wpList;rw[if_pos (hw _ _ rfl)];left;unfold Oper.wp;have e3:(execOp (a.put (some d) (.iface T (.agg pc))).eval ⟨none,.panic (.tmp d),y2,p2,f2,none⟩).run P w=.halt (.panic (.iface T (.agg pc))) w:=by simp[execOp,eM hda,Instr.panic,goPanic]
 rw[e3]
 show QQ (.panic [{v:=.iface T (.agg pc),recovered:=false}]) _ w
 rw[f6F];refine hk _ (a3o st) _ w R μ h ?_ (.refl _ _ _);have h1:=hr.b1S (.refl base R w) hr.rY;have h2:=h1.put (dst:=some d) (v:=.iface T (.agg #[.int .i64 n,.int .i64 e])) (dv:=.undef) (act:=.no) (.undef _) trivial;have h3:finish (a3o st) (some d) .undef .no=a3o st:=by
  simp only[finish,a3o,St.mk.injEq];refine⟨?_,by simp[oL,dF],by simp[dF]⟩;apply List.ext_getElem
  .simp
  .intro i q1 q2;rw[List.getElem_set];split<;>simp
 rw[h3]at h2;exact h2
def cS(P:Program)(G:GT)(ops:Array Oper)(rest:List Nat)(Q:Exit->St->Prop)(s:St):Prop:=VK P G [.ops true ops (sel ops rest)] .normal s Q
theorem cS.mk{rest:List Nat}{s:St}(h:VK P G [.ops true ops (sel ops rest)] .normal s Q):cS P G ops rest Q s:=h
def sF(P:Program)(G:GT)(ops:Array Oper)(c:Nat)(Q:Exit->St->Prop)(x0:Bool):Ord->St->Prop
 |.none,_=>True
 |.call rest more,st=>a2w P G ops (sel ops [c]) (λ_ s=>cS P G ops rest Q s) Q x0 st/\sF P G ops c Q x0 more st
 |.op i next more,st=>VK P G [.ops true ops (sel ops [i])] .normal st (λ_ s=>sF P G ops c Q x0 next s)/\sF P G ops c Q x0 more st
theorem xY{q:Bool}{ops:Array Oper}{K K':St->Prop}(hk:∀s,K s->K' s):∀(l:List Oper)(st:St),wN P G q ops l st K->wN P G q ops l st K'
 |[],st,h=>hk st h
 |o::r,st,h=>jM (λs hs=>xY hk r s hs) h
theorem d1L:(∃o,ops[c]? =some o/\sel ops [c]=[o])\/sel ops [c]=[]:=by
 simp only[sel];cases h:ops[c]? with
 |none=>right;rfl
 |some o=>left;exact⟨o,rfl,rfl⟩
theorem sF.pan{ops:Array Oper}{c:Nat}{Q:Exit->St->Prop}:∀(T:Ord)(st:St),sF P G ops c Q false T st->a6i P G ops (a3p P G ops c Q) T st
 |.none,_,_=>trivial
 |.call rest more,st,h=>by
  refine⟨?_,sF.pan more st h.2⟩;have h1:=h.1;rcases d1L (ops:=ops) (c:=c)with⟨o,ho,hs⟩|hs
  .rw[hs]at h1;exact h1.pan ho
  .rw[hs]at h1;exact h1.elim
 |.op i next more,st,h=>by refine⟨?_,sF.pan more st h.2⟩;have h1:=h.1;simp only[VK]at h1|-;exact xY (λs hs=>sF.pan next s hs) _ _ h1
theorem sF.ret{ops:Array Oper}{c:Nat}{Q:Exit->St->Prop}:∀(T:Ord)(st:St),sF P G ops c Q true T st->b5q P G ops c (λs=>Q .normal s) T st
 |.none,_,_=>trivial
 |.call rest more,st,h=>by
  refine⟨?_,sF.ret more st h.2⟩;have h1:=h.1;rcases d1L (ops:=ops) (c:=c)with⟨o,ho,hs⟩|hs
  .rw[hs]at h1|-;have h2:=h1.ret;simp only[cS,VK,wN]at h2|-;exact h2
  .rw[hs]at h1;exact h1.elim
 |.op i next more,st,h=>by refine⟨?_,sF.ret more st h.2⟩;have h1:=h.1;simp only[VK]at h1|-;exact xY (λs hs=>sF.ret next s hs) _ _ h1
theorem b4D{q:Bool}{K K':St->Prop}(hk:∀s,K s->K' s)(h:VK P G [.ops q ops l] .normal st λ_ s=>K s):VK P G [.ops q ops l] .normal st λ_ s=>K' s:=by simp only[VK]at h|-;exact xY hk _ _ h
theorem mK{id:Nat}(c:Nat)(tG:List Nat)(T:Ord)(x0:Bool)(hm:P.follows .mixedOrders=true)(hB:d7c ops c tG T=true)(h:VK P G [.ops true ops (sel ops tG)] .normal st λ_ s=>sF P G ops c Q x0 T s):SW P G (.region id ops true) st Q:=by
 cases x0 with
 |false=>exact e3i c tG T hm hB (b4D (λs hs=>sF.pan T s hs) h)
 |true=>exact d7d c tG T hm hB (b4D (λs hs=>sF.ret T s hs) h)
theorem uI.mk{ls:List (Option Loc)}{f:FuncId}{s0:St}{x:Ends}{g2X:List DV}{dst:Option Tmp}{KK:St->Prop}{rest:List (TypeId×List Loc)}(he:Enters P f)(hx:CX P G f s0 x)(K:List (Nat×Nat))(mO:∀d H1 own1,x=.inl (d,H1,own1)->aR K s0 d H1=true)(c6w:∀v,x=.inr v->aR K s0 .undef s0.H=true)(pD:WkT g2X (aZ K s0.tmps))(hH:WkH st.H (dE K s0.H))(oG:xW st st.own (s0.own.map (sB K ls))=some rest)(b9A:a1d st.tmps.length ls s0.own=true)(oB:∀d H1 own1,x=.inl (d,H1,own1)->KK (bJ K dst st rest d H1 own1))(a4y:∀v,x=.inr v->Q (.panic (a1C v)) (a3o st)):uI P G f g2X ls dst st KK Q x.isLeft:=by
 refine⟨he,λh0=>?_,λh0=>?_⟩
 .match x,hx,mO,oB,h0 with
  |.inl (d,H1,own1),hx,mO,oB,_=>exact⟨_,oR.b4r hx K (mO d H1 own1 rfl) pD hH oG b9A,oB d H1 own1 rfl⟩
 .match x,hx,c6w,a4y,h0 with
  |.inr v,hx,c6w,a4y,_=>exact⟨v,b1R.e9c hx K (c6w v rfl) pD hH oG b9A,a4y v rfl⟩
attribute [simp] sF
end
attribute [irreducible] uI LW cS
attribute [simp] a2w gB
end Go.VM
namespace Go.VM
open Go Go.RowKit
section
variable {P:Program} {G:GT} {st:St} {base:dU} {R:Nat->Nat->Prop} {μ:Nat->Nat} {a:Act} {w:World}
def a5v(P:Program)(G:GT)(ops:Array Oper)(m c:Nat)(Q:St->Prop):Nat->Array Bool->St->Prop
 |0,listed,st=>listed=sE m ops.size/\Q st
 |fuel+1,listed,st=>Region.ready .any ops listed≠[]/\∀i∈Region.ready .any ops listed,i<m/\match ops[i]? with
  |none=>False
  |some o=>qN P G (i !=c) ops o (a5v P G ops m c Q fuel (listed.setIfInBounds i true)) st
theorem c1c{ops:Array Oper}{m c r:Nat}{Q:St->Prop}{QQ:Exit->Act->World->Prop}:∀(fuel:Nat)(listed:Array Bool)(st:St),a5v P G ops m c Q fuel listed st->∀(base:dU)(R:Nat->Nat->Prop)(μ:Nat->Nat)(a:Act)(w:World),Rel P G base R μ st a w->
  (∀s a' w' R' μ',Q s->Rel P G base R' μ' s a' w'->Step base R w R' w'->wpAny P .any ops QQ r (sE m ops.size) a' w')->wpAny P .any ops QQ (fuel+r) listed a w
 |0,_,st,h,base,R,μ,a,w,hr,hk=>by rw[Nat.zero_add,h.1];exact hk st a w R μ h.2 hr (.refl _ _ _)
 |fuel+1,listed,st,h,base,R,μ,a,w,hr,hk=>by
  rw[show fuel+1+r=(fuel+r)+1 by omega];refine⟨λh0=>absurd h0 h.1,λi hi=>?_⟩;have h1:=(h.2 i hi).2;unfold wpOp;split
  .rename_i ho;rw[ho]at h1;exact h1.elim
  .rename_i o ho;rw[ho]at h1;exact uE h1 hr λs v w' R' μ' h' jD uO=>c1c fuel _ s h' base R' μ' _ w' jD λs a' w2 R2 μ2 q1 q2 q3=>hk s a' w2 R2 μ2 q1 q2 (uO.trans q3)
variable{i m:Nat}{ops:Array Oper}
theorem b7i(him:i<m)(hT:a0z ops m=true)(listed:Array Bool)(qM:gX ops listed)(hr:i∈Region.ready .any ops listed):∀j∈Region.ready .any ops listed,j<m:=λj hj=>by apply Classical.byContradiction;intro hjm;obtain⟨_,oj,hoj,eS⟩:=mem_ready.1 hj;obtain⟨a3M,_⟩:=mem_ready.1 hr;have h1:=b0q hT (g3I hjm) hoj him;rw[dZ qM a3M ops.size j λo ho=>by rw[hoj]at ho;cases ho;exact eS]at h1;cases h1
theorem c2U{c:Nat}{Q:St->Prop}{oi:Oper}(him:i<m)(hT:a0z ops m=true)(hA:sA ops)(hi:ops[i]? =some oi)(hic:i≠c)(hsi:(dW oi.op=true/\pH ops oi=false)\/rR oi=true):
  ∀(fuel:Nat)(listed:Array Bool)(st s:St),gX ops listed->
   (∀j oj,ops[j]? =some oj->j≠i->listed.getD j true=false->kE ops ops.size j i=false->j≠c/\oi.apart ops oj=true/\sV ops oi oj=true)->
   i∈Region.ready .any ops listed->sX ops listed st->Eff P G ops oi st s->
   a5v P G ops m c Q fuel (listed.setIfInBounds i true) s->a5v P G ops m c Q (fuel+1) listed st:=by
 have qi:(i !=c)=true:=by simpa using hic
 intro fuel
 induction fuel with
 |zero=>
  intro listed st s qM _ hr _ hy H;refine⟨λh=>(by rw[h]at hr;cases hr),λj hj=>⟨b7i him hT listed qM hr j hj,?_⟩⟩;by_cases hji:j=i
  .subst hji;rw[hi,qi];exact(eO hsi).2 ⟨s,hy,H⟩
  .exfalso;obtain⟨a0b,oj,hoj,eS⟩:=mem_ready.1 hj;have h1:=b7d a0b hji;rw[H.1]at h1;have h2:=a9w h1;have:=b7i him hT listed qM hr j hj;omega
 |succ fuel ih=>
  intro listed st s qM a0M hr hI hy H;refine⟨λh=>(by rw[h]at hr;cases hr),λj hj=>⟨b7i him hT listed qM hr j hj,?_⟩⟩;by_cases hji:j=i
  .subst hji;rw[hi,qi];exact(eO hsi).2 ⟨s,hy,H⟩
  .have h1:=(H.2 j (ready_mono hj hji)).2;obtain⟨a0b,oj,hoj,eS⟩:=mem_ready.1 hj;rw[hoj]at h1|-;simp only at h1|-;obtain⟨a3M,oi',c2y,b1v⟩:=mem_ready.1 hr;have a6v:kE ops ops.size j i=false:=dZ qM a3M _ _ λo ho=>by rw[hoj]at ho;cases ho;exact eS
   obtain⟨hjc,hap,hpo⟩:=a0M j oj hoj hji a0b a6v;have qj:(j !=c)=true:=by simpa using hjc
   rw[qj]at h1|-;have hsj:(dW oj.op=true/\pH ops oj=false)\/rR oj=true:=by
    by_cases hs:rR oj=true
    .exact .inr hs
    .refine .inl ⟨?_,?_⟩
     .unfold sV at hpo;simp only[rR,g3l,g2Z,g3v]at hpo hs;rcases hpo with((((((h|h)|h)|h)|h)|h)|h)|h
      .exact h.1.2
      .exact absurd (.inl (.inl h.1.2)) hs
      .exact h.1.1.2
      .exact absurd (.inl (.inr h.2)) hs
      .exact h.1.2
      .exact absurd (.inl h.1.2) hs
      .exact absurd (.inr h.2) hs
      .exact(qB (G:=G) (st:=st) h.1.2).1
     .cases hx:pH ops oj with
      |false=>rfl
      |true=>
       have aG:i<ops.size:=(g3i.1 hi).1;rcases xI hx hoj aG (λe=>hji e.symm)with h'|h'
       .have:=dZ qM a0b ops.size i λo ho=>by rw[c2y]at ho;cases ho;exact b1v
        rw[h']at this;cases this
       .rw[a6v]at h';cases h'
   obtain⟨s12,hu,hk⟩:=(eO hsj).1 h1;obtain⟨s2,e1,e2⟩:=b1u hap hpo (λhn d hd=>hI i oi d hi hn a3M hd) (λhn d hd=>hI j oj d hoj hn a0b hd) hy hu;refine(eO hsj).2 ⟨s2,e1,?_⟩;refine ih (listed.setIfInBounds j true) s2 s12 (qM.set hj) (λk ok hk' hki hun uV=>?_) (ready_mono hr (Ne.symm hji)) (hI.step hA hoj λk hf hn=>wT e1 hf hn) e2 ?_
   .exact a0M k ok hk' hki (vV hun).2 uV
   .rw[Array.setIfInBounds_comm _ _ hji];exact hk
def d7e(m:Nat)(l:List Nat):Bool:=l.all λi=>decide (i<m)
theorem b0s{ops:Array Oper}{m c:Nat}{Q:St->Prop}(hTA:a0z ops m=true)(hN:gW ops=[]):∀(l:List Nat)(listed:Array Bool)(st:St)(fuel:Nat),d7e m l=true->gX ops listed->b1O ops c l listed=true->
  a6x P G ops c l st (a5v P G ops m c Q fuel (cW l listed))->a5v P G ops m c Q (l.length+fuel) listed st
 |[],listed,st,fuel,_,_,_,h=>by simpa[cW,a6x]using h
 |i::l,listed,st,fuel,cN,qM,hB,h=>by
  have hA:sA ops:=λi j oi oj d hi _ hni _ hdi _=>(c1b hN hi hni hdi).elim;have hI:∀listed st,sX ops listed st:=λ_ _ j oj d hj hn _ hd=>(c1b hN hj hn hd).elim;simp only[d7e,List.all_cons,g2Z,g3N]at cN;obtain⟨him,f2K⟩:=cN;simp only[b1O,g2Z]at hB;obtain⟨hf,hB'⟩:=hB;simp only[a6x]at h;split at h;rotate_left
  .cases h
  rename_i o ho;have he:(i::l).length+fuel=l.length+fuel+1:=by simp only[List.length_cons];omega
  rw[he];unfold b7g at hf;rw[g3l,beq_iff_eq]at hf;have hri:i∈Region.ready .any ops listed:=by
   rcases hf with hf|hf
   .rw[hf];exact g3g.2 rfl
   .simp only[g2Z]at hf;simpa using hf.1.1
  have tI:∀s,a6x P G ops c l s (a5v P G ops m c Q fuel (cW (i::l) listed))->a5v P G ops m c Q (l.length+fuel) (listed.setIfInBounds i true) s:=λs hs=>b0s hTA hN l _ s fuel f2K (qM.set hri) hB' hs;rcases hf with hf|hf
  .refine⟨λh'=>(by rw[h']at hf;cases hf),λj hj=>?_⟩;rw[hf,g3g]at hj;subst hj;rw[ho];exact⟨him,jM tI h⟩
  .rw[ho]at hf;simp only[g2Z,g3l,g3v,bne_iff_ne,ne_eq]at hf;obtain⟨⟨_,hic⟩,hsi,eS⟩:=hf;have qi:(i !=c)=true:=by simpa using hic
   rw[qi]at h;obtain⟨s,hd,hk⟩:=(eO hsi).1 h;refine c2U him hTA hA ho hic hsi _ listed st s qM (λj oj hj gK hun uV=>?_) hri (hI _ _) hd (tI s hk);rw[g3c]at eS;have h1:=eS j (List.mem_range.2 (g3i.1 hj).1);simp only[hj,g3l,beq_iff_eq,gK,false_or,hun,g3t,uV,g2Z,bne_iff_ne,ne_eq]at h1;exact h1
def a9A(ops:Array Oper)(m c:Nat):Ord->Nat->Array Bool->Bool
 |.none,_,_=>true
 |.call rest more,n,listed=>decide (c<ops.size)&&decide (c<m)&&d7e m rest&&inB ops c rest&&b1O ops c rest (listed.setIfInBounds c true)&&decide (cW rest (listed.setIfInBounds c true)=sE m ops.size)&&decide (rest.length+1=n)&&a9A ops m c more n listed
 |.op i next more,n,listed=>inB ops c [i]&&decide (i<m)&&decide (2<=n)&& !(Region.ready .any ops (listed.setIfInBounds i true)).isEmpty&&((Region.ready .any ops (listed.setIfInBounds i true)).all λj=>a5u c next j)&&a9A ops m c next (n-1) (listed.setIfInBounds i true)&&a9A ops m c more n listed
theorem b1U{ops:Array Oper}{m c:Nat}{Q:St->Prop}(hTA:a0z ops m=true)(hN:gW ops=[]):∀(T:Ord)(n:Nat)(listed:Array Bool)(st:St),gX ops listed->a9A ops m c T (n+1) listed=true->b5q P G ops c Q T st->∀i∈Region.ready .any ops listed,a5u c T i=true->
  i<m/\match ops[i]? with
  |none=>False
  |some o=>qN P G (i !=c) ops o (a5v P G ops m c Q n (listed.setIfInBounds i true)) st
 |.none,_,_,_,_,_,_,_,_,ha=>by cases ha
 |.call rest more,n,listed,st,qM,hB,h,i,hi,ha=>by
  simp only[a9A,g2Z,g3N]at hB;obtain⟨⟨⟨⟨⟨⟨⟨hc,hcm⟩,cN⟩,wJ⟩,hs⟩,he⟩,hlen⟩,a7q⟩:=hB;simp only[b5q]at h;simp only[a5u,g3l,g3N]at ha;by_cases hic:i=c
  .subst hic;have h1:=h.1;simp only[VK,sel,g3r hc,wN]at h1;simp only[g3r hc,bne_self_eq_false];refine⟨hcm,jM (λs uO=>?_) h1⟩;have hn:n=rest.length+0:=by omega
   rw[hn];exact b0s hTA hN rest _ s 0 cN (qM.set hi) hs (vY (λs hs=>⟨he,hs⟩) _ _ (yY rest s wJ uO))
  .exact b1U hTA hN more n listed st qM a7q h.2 i hi (ha.resolve_left hic)
 |.op x next more,n,listed,st,qM,hB,h,i,hi,ha=>by
  simp only[a9A,g2Z,g3N,g3v,g3C,g3c]at hB;obtain⟨⟨⟨⟨⟨⟨wJ,hxm⟩,hn⟩,gK⟩,eS⟩,tI⟩,a7q⟩:=hB;simp only[b5q]at h;simp only[a5u,g3l,g3N]at ha;by_cases hix:i=x
  .subst hix;have h1:=h.1;simp only[inB,List.all_cons,List.all_nil,Bool.and_true,g2Z,g3N]at wJ;have qi:(i !=c)=true:=by simpa using wJ.2
   simp only[VK,sel,g3r wJ.1,wN]at h1;simp only[g3r wJ.1,qi];refine⟨hxm,jM (λs uO=>?_) h1⟩;obtain⟨k,rfl⟩:∃k,n=k+1:=⟨n-1,by omega⟩;exact⟨gK,λj hj=>b1U hTA hN next k _ s (qM.set hi) tI uO j hj (eS j hj)⟩
  .exact b1U hTA hN more n listed st qM a7q h.2 i hi (ha.resolve_left hix)
theorem a8v{ops:Array Oper}{m c:Nat}{Z:St->Prop}:∀(T:Ord)(n n':Nat)(listed:Array Bool)(st:St),n<=n'->a9A ops m c T (n+1) listed=true->a6i P G ops Z T st->∀i∈Region.ready .any ops listed,a5u c T i=true->
  if i=c then Z st else match ops[i]? with
  |none=>False
  |some o=>qN P G true ops o (a9z P G ops c Z n' (listed.setIfInBounds i true)) st
 |.none,_,_,_,_,_,_,_,_,_,ha=>by cases ha
 |.call rest more,n,n',listed,st,hn',hB,h,i,hi,ha=>by
  simp only[a9A,g2Z]at hB;simp only[a6i]at h;simp only[a5u,g3l,g3N]at ha;by_cases hic:i=c
  .rw[if_pos hic];exact h.1
  .exact a8v more n n' listed st hn' hB.2 h.2 i hi (ha.resolve_left hic)
 |.op x next more,n,n',listed,st,hn',hB,h,i,hi,ha=>by
  simp only[a9A,g2Z,g3N,g3v,g3C,g3c]at hB;obtain⟨⟨⟨⟨⟨⟨wJ,hxm⟩,hn⟩,gK⟩,eS⟩,tI⟩,a7q⟩:=hB;simp only[a6i]at h;simp only[a5u,g3l,g3N]at ha;by_cases hix:i=x
  .subst hix;have h1:=h.1;simp only[inB,List.all_cons,List.all_nil,Bool.and_true,g2Z,g3N]at wJ;simp only[VK,sel,g3r wJ.1,wN]at h1;rw[if_neg wJ.2];simp only[g3r wJ.1];refine jM (λs uO=>?_) h1;obtain⟨k,rfl⟩:∃k,n=k+1:=⟨n-1,by omega⟩;obtain⟨k',rfl⟩:∃k',n'=k'+1:=⟨n'-1,by omega⟩;exact⟨gK,λj hj=>a8v next k k' _ s (by omega) tI uO j hj (eS j hj)⟩
  .exact a8v more n n' listed st hn' a7q h.2 i hi (ha.resolve_left hix)
abbrev b7j(TT:St->Prop)(Q:Exit->St->Prop):Exit->St->Prop:=λe s=>match e with
 |.normal=>TT s
 |e=>Q e s
end
end Go.VM
end
