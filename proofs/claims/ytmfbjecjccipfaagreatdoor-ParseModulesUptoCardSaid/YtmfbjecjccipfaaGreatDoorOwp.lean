/- Lemmas. No condition. -/
import Derived.Test.YtmfbjecjccipfaaGreatDoorOwo
import Derived.OrdersHeld
set_option linter.unusedVariables false
set_option linter.unusedSimpArgs false
set_option linter.unusedSectionVars false
set_option maxRecDepth 100000
set_option maxHeartbeats 64000000
open Go.Proofs.Tryz
section
namespace Go.VM
open Go Go.RowKit
section
variable {P:Program} {G:GT} {st:St} {base:dU} {R:Nat->Nat->Prop} {μ:Nat->Nat} {a:Act} {w w':World}
variable{T t:TypeId}{fr:Nat×Nat}{w1:World}{c:Array Value}{v:Value}
theorem c9d{ad:Addr}(h1:w.heap[ad.block]? =some (.cells c T fr))(h2:w'.heap[ad.block]? =some (.cells c T fr))(h:(load ad).run P w=.ok v w1):(load ad).run P w'=.ok v w':=by
 rw[run_load]at h|-;have e:w'.cell? ad=w.cell? ad:=by unfold World.cell?;rw[h1,h2]
 rw[e];cases hc:w.cell? ad with
 |some u=>rw[hc]at h;cases h;rfl
 |none=>
  rw[hc]at h;have:∃x,w.farLoad P ad (Mode.plain==Mode.atomic)=.error x:=by unfold World.farLoad;rw[h1];exact⟨_,rfl⟩
  obtain⟨x,hx⟩:=this;rw[hx]at h;cases h
theorem b0o{c:Array Value}{T:TypeId}{fr:Nat×Nat}{b off:Nat}(h1:w.heap[b]? =some (.cells c T fr))(h2:w'.heap[b]? =some (.cells c T fr)):∀(n i:Nat)(acc vs:Array Value)(w1:World),(loadCellsFrom ⟨b,off,none⟩ i n acc).run P w=.ok vs w1->(loadCellsFrom ⟨b,off,none⟩ i n acc).run P w'=.ok vs w'
 |0,i,acc,vs,w1,h=>by
  simp only[loadCellsFrom,Sem.run_pure]at h|-;cases h
  rfl
 |n+1,i,acc,vs,w1,h=>by
  simp only[loadCellsFrom,g4f]at h|-;have hb:(Addr.add ⟨b,off,none⟩ i).block=b:=by rw[pI]
  cases hl:(load (Addr.add ⟨b,off,none⟩ i)).run P w with
  |halt x w2=>rw[hl]at h;cases h
  |ok v w2=>
   have hw2:w2=w:=by
    rw[run_load]at hl;split at hl
    .cases hl;rfl
    .split at hl
     .cases hl;rfl
     .cases hl
   rw[hw2]at hl;rw[hl]at h;rw[c9d (by rw[hb];exact h1) (by rw[hb];exact h2) hl];simp only[g4h]at h|-;exact b0o h1 h2 n (i+1) _ vs w1 h
theorem c9e{b off:Nat}(h1:w.heap[b]? =some (.cells c T fr))(h2:w'.heap[b]? =some (.cells c T fr))(h:(loadVar t ⟨b,off,none⟩).run P w=.ok v w1):(loadVar t ⟨b,off,none⟩).run P w'=.ok v w':=by
 unfold loadVar at h|-;cases hu:P.underlying t with
 |none=>
  have:∀w:World,∃x,(isAgg t).run P w=.halt x w:=λw=>by unfold isAgg;simp[underlying,hu]
  obtain⟨x,hx⟩:=this w;rw[g4f,hx]at h;cases h
 |some d=>
  simp only[g4f,tV hu,g4h]at h|-;cases hd:qX d with
  |false=>simp only[hd,g3K,if_false]at h|-;exact c9d h1 h2 h
  |true=>
   simp only[hd,if_true,g4f]at h|-;cases hi:P.info? t with
   |none=>
    have:∃x,(sizeOf t).run P w=.halt x w:=by simp[sizeOf,typeInfo,hi]
    obtain⟨x,hx⟩:=this;rw[hx]at h;cases h
   |some i=>
    have hs:∀w,(sizeOf t).run P w=.ok (P.cellsOf t) w:=rY (by rw[hi];rfl);simp only[hs,g4h]at h|-;cases hl:(loadCells ⟨b,off,none⟩ (P.cellsOf t)).run P w with
    |halt x w2=>rw[hl]at h;cases h
    |ok vs w2=>
     rw[hl]at h;rw[show(loadCells ⟨b,off,none⟩ (P.cellsOf t)).run P w'=.ok vs w' from b0o h1 h2 _ _ _ _ _ hl];simp only[g4h,Sem.run_pure]at h|-;cases h
     rfl
def a9A(w w':World):Prop:=∀b,b<w.heap.size->w'.heap[b]? =w.heap[b]?
def d2S:Op->Bool
 |.load _ _=>true
 |.indexAddr _ _ _=>true
 |o=>a8T o
variable{all:Array Oper}{K:St->Prop}{o:Oper}
theorem d9H(hg:o.guard=none)(hk:d2S o.op=true)(h:qO P G true all o K st)(hr:Rel P G base R μ st a w):∃v,∀w',a9A w w'->(execOp a.eval o).run P w'=.ok (.value v) w':=by
 by_cases pP:a8T o.op=true
 .obtain⟨v,hv⟩:=b7J hg pP h hr;exact⟨v,λw' _=>hv w'⟩
 unfold qO at h;rw[show gC o all st.tmps=some true from by unfold gC;rw[hg]]at h;cases qD:o.op with
 |load t x=>
  simp only[kY,eB,qD,pH]at h;split at h;rotate_left
  .exact h.elim
  rename_i out ho;obtain⟨v,w1,_,_,dG,_⟩:=c5C qD ho base R μ a w hr;have key:∀{b off:Nat}{c:Array Value}{T:TypeId}{fr:Nat×Nat},a.eval x=.pointer (some ⟨b,off,none⟩)->w.heap[b]? =some (.cells c T fr)->∃v,∀w',a9A w w'->(execOp a.eval o).run P w'=.ok (.value v) w':=λ{b off c T fr} hx hb=>by
   have aG:b<w.heap.size:=(g3z.1 hb).1;have e:∀w,(execOp a.eval o).run P w=((loadVar t ⟨b,off,none⟩).run P w).andThen λv w=>.ok (.value v) w:=λw=>by simp[execOp,qD,hx,Instr.loadAt,Instr.sureAddr]
   cases hl:(loadVar t ⟨b,off,none⟩).run P w with
   |halt y w2=>rw[e,hl]at dG;rcases dG with dG|⟨dG,_⟩<;>cases dG
   |ok u w2=>
    refine⟨u,λw' hw'=>?_⟩;rw[e,c9e hb ((hw' b aG).trans hb) hl]
    rfl
  unfold b4y at ho;split at ho
  .rename_i k off hx;split at ho
   .rename_i cs zD;obtain⟨_,_,vs,T,hh,_⟩:=hr.mL k _ zD;exact key (hr.eO hx) hh
   .cases ho
  .rename_i cs hx;obtain⟨b,off,he,f4P⟩:=(hr.qR hx).a7f;simp only[g3p]at ho;obtain⟨y,hy,_⟩:=ho;cases cs with
   |nil=>
    unfold takeD at hy;split at hy
    .rename_i d hd;split at hy
     .rename_i b0v;split at hy
      .rename_i hle;have h0:P.cellsOf t=0:=by simpa using hle
       have hv0:∀w',(loadVar t ⟨b,off,none⟩).run P w'=.ok (.agg #[]) w':=λw'=>by
        unfold loadVar;simp only[g4f,tV hd,g4h,b0v,if_true,run_sizeOf hd,h0]
        rfl
       exact⟨.agg #[],λw' _=>by simp[execOp,qD,he,Instr.loadAt,Instr.sureAddr,hv0]⟩
      .cases hy
     .cases hy
    .cases hy
   |cons d r=>
    obtain⟨_,_,u,hu,_⟩:=f4P 0 d rfl;unfold World.cell? at hu;split at hu
    .rename_i c T fr hb;exact key he hb
    .cases hu
  .cases ho
 |indexAddr t x i=>
  simp only[kY,eB,qD,pH]at h;split at h;rotate_left
  .exact h.elim
  rename_i out ho;unfold uX at ho;split at ho
  .rename_i e es n hu hx hi;simp only[g3E]at ho;obtain⟨j,hj,cs,sS,ho⟩:=ho;split at ho<;>simp at ho;rename_i hlen;obtain⟨k,hk,hjl⟩:=b3A hr hi hj;obtain⟨ao,cap,hv,b6O,gJ⟩:=(hr.pX hx).a1t;obtain⟨b,off,size,rfl,hs0,hs1,dG⟩:=gJ (by rintro rfl;simp at sS);have mQ:size=P.cellsOf e:=by rw[<-hlen,hs1 cs (g3v sS)]
   refine⟨.pointer (some ⟨b,off+j*size,none⟩),λw' _=>?_⟩;have hso:=rY (gF (P:=P) (t:=e) (by omega)) w';simp[execOp,qD,hv,hk,Instr.indexAt,g4g hu,asIntOf,hjl,hso,pI,mQ]
  .rename_i len e k off n hu hx hi;split at ho
   .cases ho
   .rename_i gJ;simp only[g3p]at ho;obtain⟨j,hj,_⟩:=ho;obtain⟨q,hq,hjl⟩:=b3A hr hi hj;exact⟨.pointer (some ⟨μ k,off+j*P.cellsOf e,none⟩),λw' _=>by simp[execOp,qD,hr.eO hx,hq,Instr.indexAt,g4g hu,asIntOf,Instr.sureAddr,hjl,rY (gF gJ) w',pI]⟩
  .rename_i len e cs n hu hx hi;split at ho
   .cases ho
   .rename_i gJ;simp only[g3p]at ho;obtain⟨j,hj,_⟩:=ho;obtain⟨q,hq,hjl⟩:=b3A hr hi hj;obtain⟨b,off,he,dG⟩:=(hr.qR hx).a7f;exact⟨.pointer (some ⟨b,off+j*P.cellsOf e,none⟩),λw' _=>by simp[execOp,qD,he,hq,Instr.indexAt,g4g hu,asIntOf,Instr.sureAddr,hjl,rY (gF gJ) w',pI]⟩
  .cases ho
 |_=>simp[d2S,qD]at hk<;>simp[qD,hk]at pP
theorem a9A.refl(w:World):a9A w w:=λ_ _=>rfl
theorem d5B(hg:o.guard=none)(hk:d2S o.op=true)(h:qO P G true all o K st)(hr:Rel P G base R μ st a w):
  ∃v s R' μ',(∀w',a9A w w'->(execOp a.eval o).run P w'=.ok (.value v) w')/\K s/\Rel P G base R' μ' s (a.put o.dst v) w/\Step base R w R' w:=by
 obtain⟨v,hv⟩:=d9H hg hk h hr;have h1:=uL (Q:=λ_ _ _=>False) (KK:=λa' w'=>∃s R' μ',K s/\Rel P G base R' μ' s a' w'/\Step base R w R' w') h hr (λs v w' R' μ' q1 q2 q3=>⟨s,R',μ',q1,q2,q3⟩);rw[if_pos (by unfold Region.wanted;rw[hg])]at h1;rcases h1 with h1|⟨_,_,_,h2⟩
 .unfold Oper.wp at h1;rw[hv w (a9A.refl w)]at h1;obtain⟨s,R',μ',q1,q2,q3⟩:=h1;exact⟨v,s,R',μ',hv,q1,q2,q3⟩
 .exact h2.elim
def d2T(ops:Array Oper):List Nat->Array Bool->Bool
 |[],_=>true
 |i::r,listed=>(match ops[i]? with
  |some o=>d2S o.op&&(o.guard==none)&&o.dst.isSome
  |none=>false)&&Region.noSelect ops&&Region.free .any ops listed i&&(Region.ready .any ops listed).contains i&&d2T ops r (listed.setIfInBounds i true)
theorem d2U{ops:Array Oper}{K:St->Prop}{QQ:Exit->Act->World->Prop}(hQ:∀c a a' w,a.defers=a'.defers->a.tmps.size=a'.tmps.size->QQ (.panic c) a w->QQ (.panic c) a' w):∀(l:List Nat)(listed:Array Bool)(fuel:Nat)(st:St),d2T ops l listed=true->vU P G true ops (sel ops l) st K->
  ∀(base:dU)(R:Nat->Nat->Prop)(μ:Nat->Nat)(a:Act)(w:World),Rel P G base R μ st a w->(∀s a' R' μ',K s->a'.tmps.size=a.tmps.size->Rel P G base R' μ' s a' w->Step base R w R' w->wpAnyH P .any ops QQ (a9A w) fuel (cT l listed) a' w)->wpAnyH P .any ops QQ (a9A w) (l.length+fuel) listed a w
 |[],listed,fuel,st,_,h,base,R,μ,a,w,hr,hk=>by simpa[cT]using hk st a R μ h rfl hr (.refl _ _ _)
 |i::l,listed,fuel,st,hB,h,base,R,μ,a,w,hr,hk=>by
  simp only[d2T,g3q]at hB;obtain⟨⟨⟨⟨ho,d7O⟩,hf⟩,hrd⟩,hB'⟩:=hB;split at ho;rotate_left
  .cases ho
  rename_i o hoi;simp only[g3q,beq_iff_eq]at ho;obtain⟨⟨hsk,hg⟩,hd⟩:=ho;simp only[sel,hoi,vU]at h;obtain⟨v,s,R',μ',hv,hK,jG,tL⟩:=d5B hg hsk h hr;rw[show(i::l).length+fuel=(l.length+fuel)+1 by simp only[List.length_cons];omega];refine wpAnyH_take (v:=v) hoi d7O hf hrd (λc a w h=>hQ c _ _ w ?_ ?_ h) (.inl ⟨by unfold Region.wanted;rw[hg],hv⟩) (a9A.refl w) ?_
  .cases o.dst<;>rfl
  .cases o.dst<;>simp[Act.put]
  .exact d2U hQ l _ fuel s hB' hK base R' μ' _ w jG λs2 a2 R2 μ2 q1 q0 q2 q3=>hk s2 a2 R2 μ2 q1 (q0.trans (size_put)) q2 (tL.trans q3)
theorem c5e{e:TypeId}{ev:Operand->Value}(ho:o.op=.alloc e)(h:(execOp ev o).run P w=.ok (.value v) w1):v=.pointer (some ⟨w.heap.size,0,none⟩)/\∀b,b<w.heap.size->w1.heap[b]? =w.heap[b]? :=by
 cases hz:(P.info? e).bind (·.zero)with
 |none=>
  exfalso;cases hi:P.info? e with
  |none=>simp[execOp,ho,Instr.alloc,zeroValue,typeInfo,hi]at h
  |some i=>rw[hi]at hz;simp at hz;simp[execOp,ho,Instr.alloc,zeroValue,typeInfo,hi,hz]at h
 |some z=>
  obtain⟨i,hi,hz⟩:=g3E.1 hz;have hr:(execOp ev o).run P w=.ok (.value (.pointer (some ⟨w.heap.size,0,none⟩))) (w.alloc (.cells z.cells e)):=by simp[execOp,ho,Instr.alloc,zeroValue,typeInfo,hi,hz,newVar,newRow]
  rw[hr]at h;cases h;refine⟨rfl,λb hb=>?_⟩
  show(w.heap.push _)[b]? =w.heap[b]?
  rw[Array.getElem?_push,if_neg (Nat.ne_of_lt hb)]
theorem c5f{ad x:Operand}{out:Out}(ho:o.op=.store t ad x)(h:uF P G t ad x st=some out)(hr:Rel P G base R μ st a w):∃w1 b off,a.eval ad=.pointer (some ⟨b,off,none⟩)/\(execOp a.eval o).run P w=.ok .skip w1/\∀j,j≠b->w1.heap[j]? =w.heap[j]? :=by
 unfold uF at h;split at h
 .rename_i k off ys ha hx;split at h
  .rename_i cs hk;split at h
   .rename_i hc;obtain⟨hlen,gJ,hle⟩:=hc;obtain⟨hbk,hnR,cur,T,hh,mQ,d6m,b5K⟩:=hr.mL k _ hk;have hv:=hr.eval x;obtain⟨tA,hvc⟩:=a4R hv hx;have kR:∀u∈(a.eval x).cells.toList,u.oneCell'=true:=λu hu=>by
     obtain⟨i,hi⟩:=g3H hu;have zC:i<ys.length:=by rw[<-tA];simpa using (g3r.1 hi).1
     obtain⟨_,_,h2⟩:=hvc i ys[i] (by simp[zC]);have:(a.eval x).cells.getD i undef=u:=by
      have:(a.eval x).cells[i]? =some u:=by simpa using hi
      simp[g3s,this]
     rw[this]at h2;exact h2
    exact⟨_,μ k,off,hr.eO ha,wB ho (hr.eO ha) hh (by rw[tA,hlen]) gJ kR (by rw[tA,mQ];omega),λj hj=>setRow_other w (μ k) j _ hj⟩
   .cases h
  .cases h
 .cases h
def b3i(ops:Array Oper)(m:Nat):OT->List Tmp->Bool
 |.stop,_=>true
 |.none,_=>true
 |.op i next more,D=>(match ops[i]? with
  |some o=>(o.guard==none)&&(match o.op,o.dst with
   |.alloc _,some k=> !D.contains k&&decide (k<m)&&b3i ops m next (k::D)
   |.store _ (.tmp k) _,none=>D.contains k&&b3i ops m next D
   |_,_=>false)
  |none=>false)&&b3i ops m more D
def f4Q(w0:World)(a:Act)(D:List Tmp):Prop:=∀k∈D,∃b,a.eval (.tmp k)=.pointer (some ⟨b,0,none⟩)/\w0.heap.size<=b
theorem c9f{ops:Array Oper}{Q:Exit->St->Prop}{i n m:Nat}{listed:Array Bool}{D:List Tmp}:∀(T:OT),a4g ops T (n+1) listed=true->b3i ops m T D=true->b2S i T=true->VT P G ops Q T st->∃next more,okT ops next (listed.setIfInBounds i true)=true/\a4g ops next n (listed.setIfInBounds i true)=true/\b3i ops m (.op i next more) D=true/\∃o,ops[i]? =some o/\a8r P G ops o st (VT P G ops Q next) Q
 |.stop,_,_,h,_=>by simp[b2S]at h
 |.none,_,_,h,_=>by simp[b2S]at h
 |.op j next more,ht,hf,ha,hv=>by
  simp only[a4g,g3q]at ht;simp only[b2S,g3C,beq_iff_eq]at ha;simp only[VT]at hv;rcases ha with rfl|ha
  .refine⟨next,more,ht.1.1,ht.1.2,hf,?_⟩;have:=hv.1;split at this
   .rename_i o ho;exact⟨o,ho,this⟩
   .exact this.elim
  .simp only[b3i,g3q]at hf;exact c9f more ht.2 hf.2 ha hv.2
theorem b9R{ops:Array Oper}{Q:Exit->St->Prop}{m:Nat}(w0:World):∀(n:Nat)(T:OT)(D:List Tmp)(listed:Array Bool)(st:St),okT ops T listed=true->a4g ops T n listed=true->b3i ops m T D=true->VT P G ops Q T st->∀(base:dU)(R:Nat->Nat->Prop)(μ:Nat->Nat)(a:Act)(w:World),Rel P G base R μ st a w->a9A w0 w->w0.heap.size<=w.heap.size->f4Q w0 a D->m<=a.tmps.size->
  ∀QQ:Exit->Act->World->Prop,(∀e s a' w' R' μ',Q e s->Rel P G base R' μ' s a' w'->Step base R w R' w'->QQ e a' w')->wpAnyH P .any ops QQ (a9A w0) n listed a w
 |0,T,D,listed,st,ho,ht,hf,hv,base,R,μ,a,w,hr,hH,mQ,hF,hD,QQ,hk=>by
  cases T with
  |stop=>exact⟨by simpa[okT]using ho,hk _ st a w R μ hv hr (.refl _ _ _)⟩
  |none=>simp only[okT,g3q,g3M,g3T,g3t]at ho;obtain⟨h1,h2⟩:=ho;obtain⟨x,hx⟩:=List.exists_mem_of_ne_nil _ h1;have:=h2 x hx;simp[b2S]at this
  |op i next more=>simp[a4g]at ht
 |n+1,T,D,listed,st,ho,ht,hf,hv,base,R,μ,a,w,hr,hH,mQ,hF,hD,QQ,hk=>by
  cases T with
  |stop=>
   have hrd:Region.ready .any ops listed=[]:=by simpa[okT]using ho
   refine⟨λ_=>hk _ st a w R μ hv hr (.refl _ _ _),λi hi=>?_⟩;rw[hrd]at hi;cases hi
  |none=>simp only[okT,g3q,g3M,g3T,g3t]at ho;obtain⟨h1,h2⟩:=ho;obtain⟨x,hx⟩:=List.exists_mem_of_ne_nil _ h1;have:=h2 x hx;simp[b2S]at this
  |op i0 f4k f4l=>
   simp only[okT,g3q,g3M,g3T,g3t]at ho;refine⟨λh=>(ho.1 h).elim,λi hi=>?_⟩;obtain⟨next,more,q1,q2,q0,o,q3,q4⟩:=c9f _ ht hf (ho.2 i hi) hv;simp only[b3i,q3,g3q,beq_iff_eq]at q0;obtain⟨⟨hg,q0⟩,_⟩:=q0;have hw:Region.wanted o (yielded ops a.tmps)=true:=by unfold Region.wanted;rw[hg]
   have hgD:gC o ops st.tmps=some true:=by unfold gC;rw[hg]
   unfold wpOp;rw[q3];simp only;rw[if_pos hw];left;have kR:∀out,kY G o st=none->eB G o st=none->pH P G o st=some out->o.wp P a w (λa' w'=>∃s R' μ',VT P G ops Q next s/\Rel P G base R' μ' s a' w'/\Step base R w R' w') λ_ _ _=>False:=λout c1 c2 c3=>by
    have h1:qO P G false ops o (VT P G ops Q next) st:=by unfold a8r at q4;unfold qO;rw[hgD,c1,c2,c3]at q4;rw[hgD,c1,c2,c3];exact q4
    have h2:=uL (Q:=λ_ _ _=>False) (KK:=λa' w'=>∃s R' μ',VT P G ops Q next s/\Rel P G base R' μ' s a' w'/\Step base R w R' w') h1 hr (λs v w' R' μ' p1 p2 p3=>⟨s,R',μ',p1,p2,p3⟩);rw[if_pos hw]at h2;rcases h2 with h2|⟨_,_,_,h2⟩
    .exact h2
    .exact h2.elim
   split at q0
   ·
    rename_i e k qD d9I;simp only[g3q,g3M]at q0;have c1:kY G o st=none:=by simp only[kY,qD]
    have c2:eB G o st=none:=by simp only[eB,qD]
    have vT:∃out,pH P G o st=some out:=by
     unfold a8r at q4;rw[hgD,c1,c2]at q4;simp only at q4;split at q4
     .rename_i out ho2;exact⟨out,ho2⟩
     .exact q4.elim
    obtain⟨out,vT⟩:=vT;have hx:=kR out c1 c2 vT;unfold Oper.wp at hx|-;have dG:∃v w1,(execOp a.eval o).run P w=.ok (.value v) w1:=by
     cases hz:(P.info? e).bind (·.zero)with
     |none=>
      exfalso;cases hi:P.info? e with
      |none=>simp[execOp,qD,Instr.alloc,zeroValue,typeInfo,hi,Oper.upon]at hx
      |some i=>rw[hi]at hz;simp at hz;simp[execOp,qD,Instr.alloc,zeroValue,typeInfo,hi,hz,Oper.upon]at hx
     |some z=>exact⟨_,_,c3A qD hz⟩
    obtain⟨v,w1,dG⟩:=dG;obtain⟨e1,e2⟩:=c5e qD dG;rw[dG]at hx|-;obtain⟨s,R',μ',p1,p2,p3⟩:=hx;have hH1:a9A w0 w1:=λb hb=>(e2 b (by omega)).trans (hH b hb);have f8w:w.heap.size<=w1.heap.size:=p3.below.size;refine⟨hH1,b9R w0 n next (k::D) _ s q1 q2 q0.2 p1 base R' μ' _ w1 p2 hH1 (by omega) (λk' hk'=>?_) (by rw[d9I,size_put];exact hD) QQ λe s a' w2 R2 μ2 k1 k2 k3=>hk e s a' w2 R2 μ2 k1 k2 (p3.trans k3)⟩;obtain⟨⟨q5,q6⟩,_⟩:=q0;simp only[g4e]at q6;rw[d9I];by_cases zD:k'=k
    .subst zD;refine⟨w.heap.size,?_,mQ⟩;have aG:k'<a.tmps.size:=Nat.lt_of_lt_of_le q6 hD;rw[eP aG,e1]
    .have hk2:k'∈D:=by
      rcases g3N.1 hk' with h|h
      .exact absurd h zD
      .exact h
     obtain⟨b,g1,g2⟩:=hF k' hk2;exact⟨b,by rw[cK zD];exact g1,g2⟩
   ·
    rename_i t k x qD d9I;simp only[g3q]at q0;have c1:kY G o st=none:=by simp only[kY,qD]
    have c2:eB G o st=none:=by simp only[eB,qD]
    have vT:∃out,pH P G o st=some out:=by
     unfold a8r at q4;rw[hgD,c1,c2]at q4;simp only at q4;split at q4
     .rename_i out ho2;exact⟨out,ho2⟩
     .exact q4.elim
    obtain⟨out,vT⟩:=vT;have hx:=kR out c1 c2 vT;have pP:uF P G t (.tmp k) x st=some out:=by unfold pH at vT;rw[qD]at vT;exact vT
    obtain⟨w1,b,off,r1,r2,r3⟩:=c5f qD pP hr;obtain⟨b',g1,g2⟩:=hF k (by simpa using q0.1);rw[g1]at r1;cases r1;unfold Oper.wp at hx|-;rw[r2]at hx|-;obtain⟨s,R',μ',p1,p2,p3⟩:=hx;have hH1:a9A w0 w1:=λj hj=>(r3 j (by omega)).trans (hH j hj);have f8w:w.heap.size<=w1.heap.size:=p3.below.size;refine⟨hH1,b9R w0 n next D _ s q1 q2 q0.2 p1 base R' μ' _ w1 p2 hH1 (by omega) (λk' hk'=>?_) (by rw[d9I];exact hD) QQ λe s a' w2 R2 μ2 k1 k2 k3=>hk e s a' w2 R2 μ2 k1 k2 (p3.trans k3)⟩;rw[d9I];exact hF k' hk'
   .cases q0
theorem d2V{id:Nat}{ops:Array Oper}{Q:Exit->St->Prop}(L:List Nat)(T:OT)(m:Nat)(hm:P.follows .mixedOrders=true)(hB:(d2T ops L (Array.replicate ops.size false)&&decide (L.length<=ops.size)&&okT ops T (cT L (Array.replicate ops.size false))&&a4g ops T (ops.size-L.length) (cT L (Array.replicate ops.size false))&&b3i ops m T [])=true)(hl:m<=st.tmps.length)(h:VK P G [.ops true ops (sel ops L)] .normal st λ_ s=>VT P G ops (xF Q) T s):SW P G (.region id ops true) st Q:=by
 simp only[g3q,g4e]at hB;obtain⟨⟨⟨⟨h1,h2⟩,h3⟩,h4⟩,h5⟩:=hB;obtain⟨k,hk⟩:=Nat.exists_eq_add_of_le h2;have e:ops.size-L.length=k:=by omega
 rw[e]at h4;refine SW.mono (λe s=>b2k) ?_;intro base R μ a w hr;obtain⟨jG,tL⟩:=hr.drew;simp only[VK]at h;refine wp_region_held (S:=a9A w.drew) hm ?_;have key:wpAnyH P .any ops (λe a' w'=>∃st' R' μ',xF Q e st'/\Rel P G base R' μ' st' a' w'/\Step base R w R' w') (a9A w.drew) (L.length+k) (Array.replicate ops.size false) a w.drew:=by
  refine d2U (λc a a' w' e1 e2 hq=>?_) L _ k st h1 h base R μ a w.drew jG λs a' R' μ' q1 q0 q2 q3=>?_
  .obtain⟨s,R',μ',q1,q2,q3⟩:=hq;have hd:a'.defers=[]:=by rw[<-e1];exact q2.defers
   rw[a7U]at q1;exact⟨_,R',μ',by rw[a7U];exact q1,q2.b2l a' hd,q3⟩
  .exact b9R w.drew k T [] _ s h3 h4 h5 q1 base R' μ' a' w.drew q2 (a9A.refl _) (g3G _) (λk hk=>by cases hk) (by rw[q0,hr.size];exact hl) _ λe s a' w' R2 μ2 k1 k2 k3=>⟨s,R2,μ2,k1,k2,(tL.trans q3).trans k3⟩
 rw[<-hk]at key;exact key
end
end Go.VM
end
namespace Go.Proofs.YtmfbjecjccipfaaGreatDoor
section
open Go Go.VM
variable {G:GT}
mutual
theorem yX:∀p:Pr,a2g p p=true
 |⟨op,nm,n,l⟩=>by simp[a2g,b9S l]
theorem b9S:∀l:List Pr,yT l l=true
 |[]=>by simp[yT]
 |a::r=>by simp[yT,yX a,b9S r]
end
inductive WB (B:Nat):Ty->Prop
 |mk (op:Int) (nm:Nm) (l:List Ty) (ns:List Nm) (p:Pr) (ps:List Pr):l.length<=B->ns.length<=B->bN p<=B->ps.length<=B->(∀q∈ps,bN q<=B)->(∀k∈l,WB B k)->WB B ⟨op,nm,l,ns,p,ps⟩
inductive WE (B:Nat):cP->Prop
 |mk (e:cP):e.kids.length<=B->e.params.length<=B->e.alts.length<=B->e.types.length<=B->(∀k∈e.kids,WE B k)->(∀p∈e.params,WB B p.2)->(∀a∈e.alts,a.2.1.length<=B)->(∀a∈e.alts,WE B a.2.2)->(∀t∈e.types,WB B t)->WE B e
theorem mJ:VM.Enters prog 37:=.mk func37 rfl
theorem kQ(l:List Nm)(hl:l.length<=900000000):CS prog G 37 [.sl (strs l),.sl (strs l)] (.d (.bool true)) none:=by
 refine CS.aY func37 rfl ntmps37 rfl ?_;simp;refine SW.eA (ι:={i:Nat//i<=l.length}) (λi=>[(5,.d (.int .i64 i.1))]) (λ_=>[]) (λ_=>[]) (λi=>l.length-i.1) ⟨0,by simp⟩ (by simp) ?_;rintro⟨i,hi⟩;by_cases aG:i<l.length
 .have hg:=b7k aG;have hw:=aX (show i<9223372036854775807 by omega);simp[aG,hg];refine⟨.mk,?_⟩;exact bE.mk ⟨i+1,aG⟩ (by simp[hw]) (by simp;omega)
 .have hie:i=l.length:=by omega
  subst hie;simp
theorem sP:VM.Enters prog 63:=.mk func63 rfl
theorem a0O(l:List Ty)(hl:l.length<=900000000)(ih:∀k∈l,CS prog G 63 [.agg (tyD k),.agg (tyD k)] (.d (.bool true)) none):CS prog G 62 [.sl (l.map tyC),.sl (l.map tyC)] (.d (.bool true)) none:=by
 refine CS.aY func62 rfl ntmps62 rfl ?_;simp;refine SW.eA (ι:={i:Nat//i<=l.length}) (λi=>[(5,.d (.int .i64 i.1))]) (λ_=>[]) (λ_=>[]) (λi=>l.length-i.1) ⟨0,by simp⟩ (by simp) ?_;rintro⟨i,hi⟩;by_cases aG:i<l.length
 .have hg:=e3u aG;have hw:=aX (show i<9223372036854775807 by omega);simp[aG,hg];refine⟨.mk,?_⟩;refine aC.mk sP (ih l[i] (g3P aG)) ?_;simp;exact bE.mk ⟨i+1,aG⟩ (by simp[hw]) (by simp;omega)
 .have hie:i=l.length:=by omega
  subst hie;simp
theorem pA:∀t:Ty,WB 900000000 t->CS prog G 63 [.agg (tyD t),.agg (tyD t)] (.d (.bool true)) none:=by
 refine Ty.ind λt ih=>?_;obtain⟨op,nm,l,ns,p,ps⟩:=t;simp only at ih;intro hw;cases hw with
 |mk _ _ _ _ _ _ w1 w2 w3 w4 w5 w6=>
 have hts:=a0O (G:=G) l w1 λk hk=>ih k hk (w6 k hk);have hns:=kQ (G:=G) ns w2;have hsp:=qJ (G:=G) p p w3;rw[yX]at hsp;refine CS.aY func63 rfl ntmps63 rfl ?_;simp;refine aC.mk mJ hns ?_;simp;refine aC.mk mO hsp ?_;simp;refine SW.eA (ι:={i:Nat//i<=ps.length}) (λi=>[(5,.d (.int .i64 i.1))]) (λ_=>[(2,.cells [.d (.int .i64 op),.d (.str nm),.d (.sl (l.map tyC)),.d (.sl (strs ns)),.d (.int .i64 p.op),.d (.str p.name),.d (.int .i64 p.n),.d (.sl (p.kids.map qF)),.d (.sl (ps.map qF))]),(3,.cells [.d (.int .i64 op),.d (.str nm),.d (.sl (l.map tyC)),.d (.sl (strs ns)),.d (.int .i64 p.op),.d (.str p.name),.d (.int .i64 p.n),.d (.sl (p.kids.map qF)),.d (.sl (ps.map qF))])]) (λ_=>[]) (λi=>ps.length-i.1) ⟨0,by simp⟩ (by simp) ?_;rintro⟨i,hi⟩;by_cases aG:i<ps.length
 .have hg:=xJ aG;have hw:=aX (show i<9223372036854775807 by omega);have hsi:=qJ (G:=G) ps[i] ps[i] (w5 _ (g3P aG));rw[yX]at hsi;simp[aG,hg];refine⟨.mk,?_⟩;refine aC.mk mO hsi ?_;simp;exact bE.mk ⟨i+1,aG⟩ (by simp[hw]) (by simp;omega)
 .have hie:i=ps.length:=by omega
  subst hie;simp;refine aC.mk (.mk func62 rfl) hts ?_;simp
theorem a9B(l:List (Nm×Ty))(hl:l.length<=900000000)(ht:∀p∈l,WB 900000000 p.2):CS prog G 75 [.sl (l.map a0y),.sl (l.map a0y)] (.d (.bool true)) none:=by
 refine CS.aY func75 rfl ntmps75 rfl ?_;simp;refine SW.eA (ι:={i:Nat//i<=l.length}) (λi=>[(5,.d (.int .i64 i.1))]) (λ_=>[]) (λ_=>[]) (λi=>l.length-i.1) ⟨0,by simp⟩ (by simp) ?_;rintro⟨i,hi⟩;by_cases aG:i<l.length
 .have hg:=zW l[i];have hw:=aX (show i<9223372036854775807 by omega);have hsi:=pA (G:=G) l[i].2 (ht _ (g3P aG));simp[aG,hg];refine⟨.mk,?_⟩;refine aC.mk sP hsi ?_;simp;exact bE.mk ⟨i+1,aG⟩ (by simp[hw]) (by simp;omega)
 .have hie:i=l.length:=by omega
  subst hie;simp
abbrev e4W(a b x y:Nat):OT:=.op a (.op b (.op x (.op y .stop .none) (.op y (.op x .stop .none) .none)) (.op x (.op b (.op y .stop .none) .none) .none)) (.op b (.op a (.op x (.op y .stop .none) (.op y (.op x .stop .none) .none)) (.op y (.op a (.op x .stop .none) .none) .none)) .none)
theorem c1c{e:cP}(h:WE 900000000 e):CS prog G 38 [.agg (a0h e),.agg (a0h e)] (.d (.bool true)) none:=by
 induction h with
 |mk e h1 h2 h3 h4 h5 h6 h7 h8 h9 ih1 ih2=>
  obtain⟨op,nm,n,ks,ps,al,ts⟩:=e;simp only at h1 h2 h3 h4 h5 h6 h7 h8 h9 ih1 ih2;have hpa:=a9B (G:=G) ps h2 h6;have pO:=a0O (G:=G) ts h4 λt ht=>pA t (h9 t ht);refine CS.a4w func38 rfl ntmps38 rfl (SW.xk ?_);simp;refine jV.mk (.mk func75 rfl) hpa ?_;simp;refine jV.mk (.mk func62 rfl) pO ?_;simp;refine SW.sV (ι:={i:Nat//i<=ks.length}) (λi=>[(5,.d (.int .i64 i.1))]) (λ_=>[(2,.cells [.d (.int .i64 op),.d (.str nm),.d (.int .i64 n),.d (.sl (ks.map a2c)),.d (.sl (ps.map a0y)),.d (.sl (al.map b1Z)),.d (.sl (ts.map tyC))]),(3,.cells [.d (.int .i64 op),.d (.str nm),.d (.int .i64 n),.d (.sl (ks.map a2c)),.d (.sl (ps.map a0y)),.d (.sl (al.map b1Z)),.d (.sl (ts.map tyC))])]) (λ_=>[]) (λi=>ks.length-i.1) ⟨0,by simp⟩ (by simp) ?_;rintro⟨i,hi⟩;by_cases aG:i<ks.length
  .have hg:=cB ks[i];have hw:=aX (show i<9223372036854775807 by omega);simp[aG];refine SW.vk ?_;simp[aG,hg];refine⟨.mk,?_⟩;refine aC.mk (.mk func38 rfl) (ih1 _ (g3P aG)) ?_;simp;exact bE.mk ⟨i+1,aG⟩ (by simp[hw]) (by simp;omega)
  .have hie:i=ks.length:=by omega
   subst hie;simp;refine SW.sV (ι:={i:Nat//i<=al.length}) (λi=>[(6,.d (.int .i64 i.1))]) (λ_=>[(2,.cells [.d (.int .i64 op),.d (.str nm),.d (.int .i64 n),.d (.sl (ks.map a2c)),.d (.sl (ps.map a0y)),.d (.sl (al.map b1Z)),.d (.sl (ts.map tyC))]),(3,.cells [.d (.int .i64 op),.d (.str nm),.d (.int .i64 n),.d (.sl (ks.map a2c)),.d (.sl (ps.map a0y)),.d (.sl (al.map b1Z)),.d (.sl (ts.map tyC))])]) (λ_=>[]) (λi=>al.length-i.1) ⟨0,by simp⟩ (by simp) ?_;rintro⟨i,hi⟩;by_cases aG:i<al.length
   .have hg:=a9l al[i];have hw:=aX (show i<9223372036854775807 by omega);have hns:=kQ (G:=G) al[i].2.1 (h7 _ (g3P aG));simp[aG];refine d2V [0,1,2,3,4,5,6,7,8,9] (e4W 10 11 12 13) 117 (by kernel_rfl) (by kernel_rfl) (by simp) ?_;simp[aG,hg,e4W];refine jV.mk mJ hns ?_;simp;refine jV.mk (.mk func38 rfl) (ih2 _ (g3P aG)) ?_;simp;exact bE.mk ⟨i+1,aG⟩ (by simp[hw]) (by simp;omega)
   .have hie:i=al.length:=by omega
    subst hie;simp
end
section
open Go Go.VM
def G0:GT:=λg=>if g=1 then some gD else if g=0 then some a0U else none
theorem a5p:G0 1=some gD:=rfl
theorem a5q:G0 0=some a0U:=rfl
abbrev num(n:Int):cP:=⟨1,[],n,[],[],[],[]⟩
abbrev var(c:UInt8):cP:=⟨3,[c],0,[],[],[],[]⟩
theorem ex1:gA exM [49,32,45,32,50,32,45,32,51]=.ok (eD 11 [eD 11 [num 1,num 2],num 3]) 5:=by kernel_rfl
theorem ex2:gA exM [40,45,51,41]=.ok (num (-3)) 4:=by kernel_rfl
theorem ex3:gA exM [45,32,51]=.ok (eD 15 [num 3]) 2:=by kernel_rfl
theorem ex4:gA exM [102,32,40,40,45,51,41,41]=.ok ({eD 5 [num (-3)]with name:=[102]}) 7:=by kernel_rfl
theorem ex5:gA exM [40,97,32,60,32,98,41,32,61,61,32,99]=.ok (eD 16 [eD 17 [var 97,var 98],var 99]) 7:=by kernel_rfl
theorem ex6:gA exM [97,32,60,32,98,32,60,32,99]=.bad 1 14:=by kernel_rfl
abbrev exT:Ty:=⟨6,[],[wW 1 [],⟨1,[],[],[],⟨12,[],0,[⟨3,[120],0,[]⟩,⟨3,[118],0,[]⟩]⟩,[]⟩,⟨4,[76,105,115,116],[wW 1 []],[],eE,[⟨12,[],0,[⟨1,[],0,[]⟩,⟨3,[118],0,[]⟩]⟩]⟩],[[120],[121]],eE,[]⟩
theorem ex8:gA tyM [40,73,110,116,44,32,73,110,116,41]=.bad 1 14:=by kernel_rfl
theorem ex9:gA moQ [100,101,102,32,102,32,40,120,41,32,61,32,120,32,43,10,59]=.bad 2 14:=by kernel_rfl
theorem f8x:gA moQ [100,101,102,32,102,32,40,120,41,32,61,32,63]=.bad 1 14:=by kernel_rfl
def f4S:gO eK->Bool
 |.ok m _=>match m.a2S,m.a2T,m.defs with
  |[d],[me],[df]=>decide (d.cons.length=2)&&decide (me.cases.length=2)&&decide (df.sig.a5K.length=1)&&decide (df.body.op=8)
  |_,_,_=>false
 |.bad _ _=>false
def f4T:gO gB->Bool
 |.ok d _=>decide (d.mode=1)&&d.typed
 |.bad _ _=>false
abbrev txM:List UInt8:=[100,97,116,97,32,76,105,115,116,32,61,32,78,105,108,32,124,32,67,111,110,115,32,40,120,32,58,32,73,110,116,44,32,114,101,115,116,32,58,32,76,105,115,116,41,59,32,109,101,97,115,117,114,101,32,108,101,110,32,58,32,76,105,115,116,32,45,62,32,73,110,116,32,123,32,78,105,108,32,61,32,48,59,32,67,111,110,115,32,40,120,44,32,114,101,115,116,41,32,61,32,49,32,43,32,108,101,110,40,114,101,115,116,41,32,125,32,105,110,118,97,114,105,97,110,116,32,48,32,60,61,32,118,59,32,100,101,102,32,100,111,119,110,32,40,110,41,32,58,32,40,110,32,58,32,123,118,32,58,32,73,110,116,32,124,32,48,32,60,61,32,118,125,41,32,45,62,32,73,110,116,32,109,101,116,114,105,99,32,110,32,61,32,105,102,32,110,32,61,61,32,48,32,116,104,101,110,32,48,32,101,108,115,101,32,100,111,119,110,32,40,110,32,45,32,49,41,59]
abbrev txD:List UInt8:=[97,115,115,117,109,101,32,114,101,97,100,32,40,120,41,32,58,32,40,120,32,58,32,73,110,116,41,32,45,62,32,123,118,32,58,32,73,110,116,32,124,32,120,32,60,61,32,118,125]
abbrev txT:List UInt8:=[40,120,32,58,32,73,110,116,44,32,121,32,58,32,123,118,32,58,32,73,110,116,32,124,32,120,32,60,32,118,125,41,32,45,62,32,76,105,115,116,32,73,110,116,32,60,118,46,32,48,32,60,32,118,62]
theorem ex7:gA tyM txT=.ok exT 27:=by kernel_rfl
theorem f8A:f4S (gA moQ txM)=true:=by kernel_rfl
theorem f8B:f4T (gA (a4G rdQ) txD)=true:=by kernel_rfl
theorem f4U:∃m j d me df,gA moQ txM=.ok m j/\m.a2S=[d]/\m.a2T=[me]/\m.defs=[df]/\d.cons.length=2/\me.cases.length=2/\df.sig.a5K.length=1/\df.body.op=8:=by
 have h:=f8A;unfold f4S at h;split at h
 .rename_i m j hm;split at h
  .rename_i d me df h1 h2 h3;simp only[g3q,g4e]at h;exact⟨m,j,d,me,df,hm,h1,h2,h3,h.1.1.1,h.1.1.2,h.1.2,h.2⟩
  .cases h
 .cases h
theorem f4V:∃d j,gA (a4G rdQ) txD=.ok d j/\d.mode=1/\d.typed=true:=by
 have h:=f8B;unfold f4T at h;split at h
 .rename_i d j hd;simp only[g3q,g4e]at h;exact⟨d,j,hd,h.1,h.2⟩
 .cases h
theorem b3j:CS prog G0 5 [] (.d (.bool true)) none:=by have h1:=uE (G:=G0) a5p a5q [49,32,45,32,50,32,45,32,51];have h2:=uE (G:=G0) a5p a5q [40,45,51,41];have h3:=uE (G:=G0) a5p a5q [45,32,51];have h4:=uE (G:=G0) a5p a5q [102,32,40,40,45,51,41,41];have h5:=b0n (G:=G0) a5p a5q txT;have h6:=b0n (G:=G0) a5p a5q [40,73,110,116,44,32,73,110,116,41];have h7:=xP (G:=G0) a5p a5q [100,101,102,32,102,32,40,120,41,32,61,32,120,32,43,10,59];have h8:=xP (G:=G0) a5p a5q [100,101,102,32,102,32,40,120,41,32,61,32,63];have h9:=uE (G:=G0) a5p a5q [97,32,60,32,98,32,60,32,99];have h10:=uE (G:=G0) a5p a5q [40,97,32,60,32,98,41,32,61,61,32,99];have h11:=xP (G:=G0) a5p a5q txM;have h12:=c5d (G:=G0) a5p a5q txD;obtain⟨m,jm,d,me,df,e11,m1,m2,m3,m4,m5,m6,m7⟩:=f4U;obtain⟨dd,jd,e12,d1,d2⟩:=f4V;rw[ex1]at h1;rw[ex2]at h2;rw[ex3]at h3;rw[ex4]at h4;rw[ex7]at h5;rw[ex8]at h6;rw[ex9]at h7;rw[f8x]at h8;rw[ex6]at h9;rw[ex5]at h10;rw[e11]at h11;rw[e12]at h12;obtain⟨md,mc,mi,mm,mq,mf⟩:=m;simp only at m1 m2 m3;subst m1 m2 m3;simp[a0N,a5l,c0X,eD,cB]at h1 h2 h3 h4 h9 h10;simp[a0N,a5l,c0X,wW,bW,dE,jZ,eE,strs]at h5 h6;simp[a0N,a5l,c0X,a1j]at h7 h8 h11;simp[a0N,a5l,d1,d2]at h12;have k1:=cB ⟨11,[],0,[num 1,num 2],[],[],[]⟩;have k2:=cB (num (-3));have k3:=λt=>bW t;refine CS.aY func5 rfl ntmps5 rfl ?_;simp;refine aC.mk sO h1 ?_;simp;refine aC.mk sO h2 ?_;simp;refine aC.mk sO h3 ?_;simp;refine aC.mk sO h4 ?_;simp;refine aC.mk (.mk func14 rfl) h5 ?_;simp;refine aC.mk (.mk func14 rfl) h6 ?_;simp;refine aC.mk wJ h7 ?_;simp;refine aC.mk wJ h8 ?_;simp;refine aC.mk sO h9 ?_;simp;refine aC.mk sO h10 ?_;simp (maxSteps:=1000000) [k1,k2];refine aC.mk wJ h11 ?_;simp;refine aC.mk (.mk func9 rfl) h12 ?_;simp (maxSteps:=1000000) [yO,a1O,a2X,e3x,cB,m4,m5,m6,m7,d1,d2]
end
section
structure d9K (l l':List Tok) (N d:Nat) (u:Nm):Prop where
 len:N<l.length
 g2F:N+d<l'.length
 le:l.length<=l'.length
 kind:∀i,i<N->(aJ l' (i+d)).kind=(aJ l i).kind
 text:∀i,i<N->(aJ l' (i+d)).text=(aJ l i).text
 n:∀i,i<N->(aJ l' (i+d)).n=(aJ l i).n
 stp:(aJ l N).kind=0\/((aJ l N).kind=4/\(aJ l N).text=u)
 f4W:(aJ l' (N+d)).kind=4/\(aJ l' (N+d)).text=u
 uu:u=[41]\/u=[59]
def e7p{α:Type}(N d:Nat)(W:Nat->Prop)(x y:bF α):Prop:=∀i a j,i<=N->x i=.ok a j->j<=N->W j->y (i+d)=.ok a (j+d)
section
variable {α β:Type} {kw:Nm->Bool} {andP:Pr->Pr->Pr} {rdP:List Tok->Nat->Nat->gO Pr} {l l':List Tok} {N d:Nat} {W W':Nat->Prop} {u:Nm}
variable (hE:pK l) (hN:d9K l l' N d u)
include hE hN
variable{i:Nat}
omit hE in
theorem d9L(hi:i<N)(s:Nm):cQ (aJ l' (i+d)) s=cQ (aJ l i) s:=by unfold cQ;rw[hN.kind i hi,hN.text i hi]
omit hE in
theorem e4X(hi:i<N)(s:Nm):aL l' (i+d) s=aL l i s:=d9L hN hi s
omit hE in
theorem e4Y(hi:i<N):kL kw (aJ l' (i+d))=kL kw (aJ l i):=by unfold kL;rw[hN.kind i hi,hN.text i hi]
omit hE in
theorem f4X{s:Nm}(h1:s≠[41])(h2:s≠[59]):u≠s:=by
 rcases hN.uu with rfl|rfl
 .exact λe=>h1 e.symm
 .exact λe=>h2 e.symm
omit hE in
theorem f8C{s:Nm}(h1:s≠[41])(h2:s≠[59]):aL l N s=false:=by
 unfold aL cQ;rcases hN.stp with h|⟨h,h3⟩
 .simp[h]
 .simp[h3,f4X hN h1 h2]
omit hE in
theorem f4Y{s:Nm}(h1:s≠[41])(h2:s≠[59]):aL l' (N+d) s=false:=by unfold aL cQ;obtain⟨h,h3⟩:=hN.f4W;simp[h3,f4X hN h1 h2]
omit hE in
theorem f8D:kL kw (aJ l N)=false:=by unfold kL;rcases hN.stp with h|⟨h,_⟩<;>simp[h]
omit hE in
theorem f4Z:kL kw (aJ l' (N+d))=false:=by unfold kL;simp[hN.f4W.1]
omit hE in
theorem c5g{s:Nm}(h1:s≠[41])(h2:s≠[59])(hi:i<=N):aL l' (i+d) s=aL l i s:=by
 by_cases h:i=N
 .subst h;rw[f8C hN h1 h2,f4Y hN h1 h2]
 .exact e4X hN (by omega) s
omit hE in
theorem e4Z(hi:i<=N):kL kw (aJ l' (i+d))=kL kw (aJ l i):=by
 by_cases h:i=N
 .subst h;rw[f8D hN,f4Z hN]
 .exact e4Y hN (by omega)
end
def d2W{α:Type}(l:List Tok)(c:Int)(x:bF α):Prop:=∀i a j,i<l.length->x i=.ok a j->i<=j/\j<l.length/\par l i j=c
def e5a(s:Nm):Int:=b1g ⟨4,s,0,0⟩
section
variable {α β:Type} {kw:Nm->Bool} {andP:Pr->Pr->Pr} {rdP:List Tok->Nat->Nat->gO Pr} {l:List Tok} {c c1 c2:Int}
variable{i:Nat}
theorem d9M(hi:i<l.length):a3z l i=b1g (aJ l i):=by
 unfold a3z aJ;rw[if_pos hi,g4s,g3u hi]
 rfl
theorem e5b{t:Tok}{s:Nm}(h:cQ t s=true):b1g t=e5a s:=by unfold cQ at h;simp only[g3q,g4e]at h;unfold e5a b1g;rw[h.2]
theorem f0P{s:Nm}(hi:i<l.length)(h:aL l i s=true):a3z l i=e5a s:=by rw[d9M hi,e5b h]
theorem d9N(hW:WfD l)(hi:i<l.length)(h:(aJ l i).kind≠4):a3z l i=0:=by
 rw[d9M hi];refine hW i _ ?_ h;unfold aJ;rw[if_pos hi,g4s,g3u hi]
 rfl
variable (hE:pK l) (hW:WfD l)
include hE
include hW
theorem d2W.take{ok:Tok->Bool}(hk:∀t,ok t=true->t.kind≠0/\t.kind≠4):d2W l 0 (pD l ok):=λi a j hi h=>by
 unfold pD at h;split at h
 .rename_i hs;have h1:=hk _ hs;have:=rD hE hi h1.1;cases h;exact⟨by omega,this,by rw[zZ,d9N hW hi h1.2]⟩
 .unfold eV at h;cases h
theorem d2W.base:d2W l 0 (jI kw l):=λi a j hi h=>by
 have nx:∀{s:Nm},e5a s=0->aL l i s=true->i<=i+1/\i+1<l.length/\par l i (i+1)=0:=λhs h1=>⟨by omega,aV hE hi h1,by rw[zZ,f0P hi h1,hs]⟩;unfold jI at h;split at h
 .rename_i h1;cases h;exact nx rfl h1
 split at h
 .rename_i h1;cases h;exact nx rfl h1
 split at h
 .rename_i h1;cases h;exact nx rfl h1
 split at h
 .rename_i h1;have hn:=a8O hE hi h1;cases h;refine⟨by omega,hn,?_⟩;rw[zZ,d9N hW hi];unfold kL at h1;simp only[g3q,g4e]at h1;omega
 .cases h;exact⟨g3G _,hi,zY _⟩
end
end
section
open Go Go.VM
variable {G:GT}
def Got{α:Type}(l:List Tok)(P:α->Prop)(x:bF α):Prop:=∀i a j,i<l.length->x i=.ok a j->P a
section
variable {α β:Type} {l:List Tok} {P:α->Prop} {Q:β->Prop}
theorem Got.any(x:bF α):Got l (λ_=>True) x:=λ_ _ _ _ _=>trivial
end
theorem WB.zero:WB 900000000 jZ:=.mk _ _ _ _ _ _ (by simp) (by simp) (by simp[eE,bN,eJ]) (by simp) (λq hq=>by cases hq) (λk hk=>by cases hk)
theorem WB.pred{t:Ty}(h:WB 900000000 t){p:Pr}(hp:bN p<=900000000):WB 900000000 {t with pred:=p}:=by
 cases h with
 |mk _ _ _ _ _ _ h1 h2 h3 h4 h5 h6=>exact .mk _ _ _ _ _ _ h1 h2 hp h4 h5 h6
section
variable {rdP:List Tok->Nat->Nat->gO Pr} {l:List Tok} (hV:rQ G rdP l)
include hV
omit hV in
theorem WE.op(op:Int){ks:List cP}(h:ks.length<=900000000)(hk:∀k∈ks,WE 900000000 k):WE 900000000 (eD op ks):=.mk _ h (by simp[eD]) (by simp[eD]) (by simp[eD]) hk (λp hp=>by cases hp) (λa ha=>by cases ha) (λa ha=>by cases ha) (λt ht=>by cases ht)
omit hV in
theorem WE.one(op:Int){a:cP}(h:WE 900000000 a):WE 900000000 (eD op [a]):=WE.op op (by simp) λk hk=>by rw[g3x]at hk;rw[hk];exact h
end
end
section
section
variable {α β:Type} {kw:Nm->Bool} {andP:Pr->Pr->Pr} {rdP:List Tok->Nat->Nat->gO Pr} {l l':List Tok} {N d:Nat} {W W':Nat->Prop} {u:Nm}
variable (hE:pK l) (hN:d9K l l' N d u)
include hE hN
omit hE in
theorem e7p.base:e7p N d W (jI kw l) (jI kw l'):=λi a j hi h hj hw=>by
 have e1:=c5g hN (s:=[73,110,116]) (by decide) (by decide) hi;have e2:=c5g hN (s:=[66,111,111,108]) (by decide) (by decide) hi;have e3:=c5g hN (s:=[67,101,108,108]) (by decide) (by decide) hi;have e4:=e4Z (kw:=kw) hN hi;unfold jI at h|-;rw[e1,e2,e3,e4];split at h
 .rename_i h1;rw[if_pos h1];cases h;rw[show i+1+d=i+d+1 by omega]
 rename_i h1;rw[if_neg h1];split at h
 .rename_i h2;rw[if_pos h2];cases h;rw[show i+1+d=i+d+1 by omega]
 rename_i h2;rw[if_neg h2];split at h
 .rename_i h3;rw[if_pos h3];cases h;rw[show i+1+d=i+d+1 by omega]
 rename_i h3;rw[if_neg h3];split at h
 .rename_i h4;rw[if_pos h4,hN.text i (by cases h;omega)];cases h;rw[show i+1+d=i+d+1 by omega]
 rename_i h4;rw[if_neg h4];cases h
 rfl
end
def f5a(l:List Tok)(i:Nat)(w:Nm):Prop:=(aJ l i).kind=4/\(aJ l i).text=w
section
variable {kw:Nm->Bool} {andP:Pr->Pr->Pr} {rdP:List Tok->Nat->Nat->gO Pr} {l:List Tok} {ex:Nat->bF cP} {i j k k1 k2 k3:Nat} {a b c e:cP}
theorem f5a.is{w:Nm}(h:f5a l i w)(s:Nm):aL l i s=decide (w=s):=by unfold aL cQ;rw[h.1,h.2];simp
end
end
section
open Go Go.VM
def TL:List TypeId:=[5,9,36,194,252,255,256]
theorem d1L:a3N prog TL=true:=by kernel_rfl
theorem qZ:laidOutB prog=true:=by kernel_rfl
theorem hmr:mapsRowed prog=true:=by kernel_rfl
theorem hsf:((List.range prog.types.size).all λt=>match prog.underlying t with|some (.slice e)=>decide (0<prog.cellsOf e)|_=>true)=true:=by kernel_rfl
theorem oO:ownKnob prog.godebug=none:=by kernel_rfl
theorem tu9:prog.underlying 9=some .string:=by kernel_rfl
def uU{α:Type}(P:α->Prop)(r:gO α):Prop:=∀a j,r=.ok a j->P a
def Gt{α:Type}(P:α->Prop)(x:bF α):Prop:=∀i,uU P (x i)
def LL{α:Type}(k:Nat)(P:α->Prop)(l:List α):Prop:=l.length<=k/\∀x∈l,P x
section
variable {α β:Type} {l:List Tok} {P:α->Prop} {Q:β->Prop} {k:Nat}
theorem LL.nil:LL 0 P []:=⟨g3G _,λx h=>by cases h⟩
theorem LL.cons{a:α}{r:List α}(h:P a)(h':LL k P r):LL (k+1) P (a::r):=⟨Nat.succ_le_succ h'.1,λx hx=>by
 cases hx with
 |head=>exact h
 |tail _ hx=>exact h'.2 x hx⟩
theorem LL.snoc{a:α}{r:List α}(h':LL k P r)(h:P a):LL (k+1) P (r++[a]):=⟨by simpa using h'.1,λx hx=>by
 rcases g3Q.1 hx with hx|hx
 .exact h'.2 x hx
 .rw[g3x]at hx;rw[hx];exact h⟩
theorem LL.im{r:List α}{P':α->Prop}(h:LL k P r)(hp:∀x,P x->P' x):LL k P' r:=⟨h.1,λx hx=>hp x (h.2 x hx)⟩
theorem LL.up{n:Nat}{r:List α}(h:LL k P r)(hk:k<=n):LL n P r:=⟨Nat.le_trans h.1 hk,h.2⟩
theorem uU.ok{a:α}{j:Nat}(h:P a):uU P (.ok a j):=λb j hx=>by cases hx;exact h
theorem uU.bad{n e:Int}:uU P (.bad n e):=λb j hx=>by cases hx
theorem uU.ite{c:Prop}[Decidable c]{x y:gO α}(hx:uU P x)(hy:uU P y):uU P (if c then x else y):=by
 split
 .exact hx
 .exact hy
theorem Gt.at{x:bF α}(h:Gt P x)(i:Nat):uU P (x i):=h i
theorem Gt.bP{a:α}(h:P a):Gt P (pure a:bF α):=λi=>uU.ok h
theorem Gt.ite{c:Prop}[Decidable c]{x y:bF α}(hx:Gt P x)(hy:Gt P y):Gt P (if c then x else y):=by
 split
 .exact hx
 .exact hy
theorem Gt.failed:Gt P (eV l:bF α):=λi=>uU.bad
theorem Gt.bind{x:bF α}{f:α->bF β}(hx:Gt P x)(hf:∀a,P a->Gt Q (f a)):Gt Q (x >>=f):=λi b j h=>by
 rw[cR]at h;cases h1:x i with
 |bad n e=>rw[h1]at h;cases h
 |ok a k=>rw[h1]at h;exact hf a (hx i a k h1) k b j h
theorem Gt.skip{x:bF α}{f:α->bF β}(hf:∀a,Gt Q (f a)):Gt Q (x >>=f):=Gt.bind (P:=λ_=>True) (λ_ _ _ _=>trivial) λa _=>hf a
theorem d2X{I:Nat->α->Prop}{c:Nm}{one:α->bF α}(h:∀k a,I k a->Gt (I (k+1)) (one a)):∀(g k:Nat)(a:α),I k a->Gt (λb=>∃n,n<=k+g/\I n b) (jC l c one g a)
 |0,k,a,_=>λi=>uU.bad
 |g+1,k,a,ha=>λi b j hx=>by
  unfold jC at hx;split at hx
  .cases hx
  .rename_i a' j' ho;have h1:=h k a ha i a' j' ho;split at hx
   .obtain⟨n,h2,h3⟩:=d2X h g (k+1) a' h1 _ b j hx;exact⟨n,by omega,h3⟩
   .cases hx;exact⟨_,by omega,h1⟩
theorem d2Y{I:Nat->α->Prop}{c:Nat->Bool}{one:α->bF α}(h:∀k a,I k a->Gt (I (k+1)) (one a)):∀(g k:Nat)(a:α),I k a->Gt (λb=>∃n,n<=k+g/\I n b) (gE c one g a)
 |0,k,a,_=>λi=>uU.bad
 |g+1,k,a,ha=>λi b j hx=>by
  unfold gE at hx;split at hx
  .split at hx
   .cases hx
   .rename_i a' j' ho;obtain⟨n,h2,h3⟩:=d2Y h g (k+1) a' (h k a ha i a' j' ho) _ b j hx;exact⟨n,by omega,h3⟩
  .cases hx;exact⟨k,by omega,ha⟩
variable (hl:l.length<=20000)
include hl
theorem b6E{I:Nat->α->Prop}{c:Nm}{one:α->bF α}{a:α}(h:∀k a,I k a->Gt (I (k+1)) (one a))(ha:I 0 a):Gt (λb=>∃n,n<=20002/\I n b) (dJ l c one a):=λi b j hx=>by obtain⟨n,h1,h2⟩:=d2X h _ 0 a ha i b j hx;exact⟨n,by omega,h2⟩
variable{c:Nat->Bool}
theorem c5h{I:Nat->α->Prop}{one:α->bF α}{a:α}{k:Nat}(h:∀k a,I k a->Gt (I (k+1)) (one a))(ha:I k a):Gt (λb=>∃n,n<=k+20002/\I n b) (rJ l c one a):=λi b j hx=>by obtain⟨n,h1,h2⟩:=d2Y h _ k a ha i b j hx;exact⟨n,by omega,h2⟩
theorem tU{P:β->Prop}{c:Nm}{one:List β->bF (List β)}(h:∀k a,LL k P a->Gt (LL (k+1) P) (one a)):Gt (LL 20002 P) (dJ l c one []):=λi b j hx=>by obtain⟨n,h1,h2⟩:=b6E hl h LL.nil i b j hx;exact h2.up h1
theorem b3k{P:β->Prop}{one:List β->bF (List β)}(h:∀k a,LL k P a->Gt (LL (k+1) P) (one a)):Gt (LL 20002 P) (rJ l c one []):=λi b j hx=>by obtain⟨n,h1,h2⟩:=c5h hl h LL.nil i b j hx;exact h2.up (by omega)
end
variable{ns:List Nm}{args:List Ty}{ps:List Pr}{k m n:Nat}
theorem WB.one(op:Int)(nm:Nm)(h1:LL k (WB 900000000) args)(h2:ns.length<=900000000)(h3:LL m (λq=>bN q<=20001) ps)(hk:k<=900000000:=by omega)(hm:m<=900000000:=by omega):WB 900000000 ⟨op,nm,args,ns,eE,ps⟩:=
 .mk _ _ _ _ _ _ (Nat.le_trans h1.1 hk) h2 (by simp[eE,bN,eJ]) (Nat.le_trans h3.1 hm) (λq hq=>Nat.le_trans (h3.2 q hq) (by omega)) h1.2
def TB(n:Nat)(t:Ty):Prop:=WB 900000000 t/\bN t.pred<=n
theorem TB.of(op:Int)(nm:Nm)(h1:LL k (WB 900000000) args)(h2:ns.length<=900000000)(h3:LL m (λq=>bN q<=20001) ps)(hk:k<=900000000:=by omega)(hm:m<=900000000:=by omega):TB (n+20002) ⟨op,nm,args,ns,eE,ps⟩:=⟨WB.one op nm h1 h2 h3 hk hm,by simp only[eE,bN,eJ];omega⟩
theorem TB.wW{n:Nat}(op:Int)(nm:Nm):TB (n+20002) (wW op nm):=TB.of op nm LL.nil (by simp) LL.nil
theorem TB.up{t:Ty}(h:TB n t)(hm:n<=m):TB m t:=⟨h.1,Nat.le_trans h.2 hm⟩
section
variable {rdP:List Tok->Nat->Nat->gO Pr} {l:List Tok} (hl:l.length<=20000) (hN:∀i e p j,rdP l i e=.ok p j->bN p<=20001)
include hl hN
omit hl in
theorem b3l:Gt (λp=>bN p<=20001) (pE rdP l):=λi p j h=>hN _ _ _ _ h
omit hl hN in
theorem d2Z{n:Nat}:Gt (λo:Option Ty=>∀t,o=some t->TB (n+20002) t) (jI aH l):=λi o j h t ht=>by
 subst ht;unfold jI at h
 repeat' split at h
 all_goals first|(cases h;exact TB.wW _ _)|cases h
omit hN in
theorem b9T{kw:Nm->Bool}:Gt (LL 20002 λ_=>True) (jD kw l):=by unfold jD;exact Gt.skip λ_=>Gt.bind (tU hl λk a ha=>Gt.skip λw=>Gt.bP (ha.snoc trivial)) λout h=>Gt.skip λ_=>Gt.bP h
section
variable {ty:bF Ty} {n:Nat} (pO:Gt (TB n) ty) (hn:n+20002<=900000000)
include pO hn
theorem d3a:Gt (TB (n+20002)) (zN aZ rdP l ty):=by
 unfold zN;refine Gt.skip λ_=>Gt.bind pO λt ht=>Gt.ite Gt.failed (Gt.skip λ_=>Gt.bind (b3l hN) λp hp=>Gt.skip λ_=>Gt.bP ?_);have h2:bN (if t.pred.op=0 then p else aZ t.pred p)<=n+20002:=by
  have:=ht.2;split
  .omega
  .have:=c2l t.pred p;omega
 exact⟨ht.1.pred (by omega),h2⟩
theorem c2P:Gt (TB (n+20002)) (oP aH aZ rdP l ty):=by
 unfold oP;refine Gt.bind (d2Z (n:=n)) λo ho=>?_;cases o with
 |some t=>exact Gt.bP (ho t rfl)
 |none=>exact λi=>uU.ite (uU.ok (TB.wW _ _)) (uU.ite (d3a hl hN pO hn i) (Gt.at (Gt.skip λ_=>Gt.bind pO λt ht=>Gt.skip λ_=>Gt.bP (ht.up (by omega))) i))
theorem d9O:Gt (TB (n+20002)) (xL aH aZ rdP l ty):=by unfold xL;refine Gt.skip λnm=>Gt.bind (b3k hl (P:=WB 900000000) λk a ha=>Gt.bind (c2P hl hN pO hn) λt ht=>Gt.bP (ha.snoc ht.1)) λargs h1=>Gt.skip λb=>Gt.ite ?_ (Gt.bP (TB.of _ _ h1 (Nat.zero_le _) LL.nil));exact Gt.bind (tU hl λk a ha=>Gt.skip λ_=>Gt.bind (b3l hN) λp hp=>Gt.bP (ha.snoc hp)) λps h3=>Gt.skip λ_=>Gt.bP (TB.of _ _ h1 (Nat.zero_le _) h3)
def LP(n k:Nat)(p:List Nm×List Ty):Prop:=p.1.length<=k/\LL k (TB n) p.2
omit hN in
theorem e5c:Gt (TB (n+20002)) (zO aH l ty):=by
 unfold zO;refine Gt.skip λ_=>Gt.bind (P:=λp=>∃k,k<=20002/\LP n k p) (λi=>uU.ite (b6E hl (I:=LP n) (λk a ha=>Gt.skip λw=>Gt.skip λ_=>Gt.bind pO λt ht=>Gt.bP ⟨by simpa using ha.1,ha.2.snoc ht⟩) ⟨g3G _,LL.nil⟩ i) (b6E hl (I:=LP n) (λk a ha=>Gt.bind pO λt ht=>Gt.bP (a:=(a.1,a.2++[t])) ⟨Nat.le_succ_of_le ha.1,ha.2.snoc ht⟩) ⟨g3G _,LL.nil⟩ i)) λq ⟨k,hk,hq⟩=>?_;obtain⟨ns,ts⟩:=q;refine Gt.skip λ_ i t j h=>?_;simp only at h;split at h
 .rename_i hc;simp only[g3q,g4e]at hc;cases h
  match ts,hc.1.2,hq.2 with
  |[t],_,h=>exact(h.2 t (.head _)).up (by omega)
 .exact(Gt.skip λ_=>Gt.bind pO λt ht=>Gt.bP (TB.of _ _ ((hq.2.snoc ht).im λ_ h=>h.1) (Nat.le_trans hq.1 (by omega)) LL.nil):Gt (TB (n+20002)) _) i t j h
theorem e5d:Gt (TB (n+20002)) (a0w aH aZ rdP l ty):=by
 unfold a0w;refine Gt.bind (d2Z (n:=n)) λo ho=>?_;cases o with
 |some t=>exact Gt.bP (ho t rfl)
 |none=>exact λi=>uU.ite (d9O hl hN pO hn i) (uU.ite (d3a hl hN pO hn i) (e5c hl pO hn i))
end
theorem c5i:∀n,n<=20002->Gt (TB (n*20002)) (a1y aH aZ rdP l n)
 |0,_=>λi=>uU.bad
 |n+1,h=>by have:=e5d hl hN (c5i n (by omega)) (by omega);rw[show(n+1)*20002=n*20002+20002 by omega];exact this
theorem b1s:Gt (WB 900000000) (mD aH aZ rdP l):=λi t j h=>(c5i hl hN _ (by omega) i t j h).1
theorem d9P:Gt (LL 20002 (WB 900000000)) (uM aH aZ rdP l):=by unfold uM;exact Gt.skip λb=>Gt.ite (Gt.bind (tU hl λk a ha=>Gt.bind (b1s hl hN) λt ht=>Gt.bP (ha.snoc ht)) λts h=>Gt.skip λ_=>Gt.bP h) (Gt.bP (LL.nil.up (by omega)))
omit hl hN in
theorem WE.of{op:Int}{nm:Nm}{n:Int}{ks:List cP}{ps:List (Nm×Ty)}{al:List (Nm×List Nm×cP)}{ts:List Ty}{k m q r:Nat}(h1:LL k (WE 900000000) ks)(h2:LL m (λp=>WB 900000000 p.2) ps)(h3:LL q (λa=>a.2.1.length<=900000000/\WE 900000000 a.2.2) al)(h4:LL r (WB 900000000) ts)(e:k+m+q+r<=900000000:=by omega):WE 900000000 ⟨op,nm,n,ks,ps,al,ts⟩:=
 .mk _ (Nat.le_trans h1.1 (by omega)) (Nat.le_trans h2.1 (by omega)) (Nat.le_trans h3.1 (by omega)) (Nat.le_trans h4.1 (by omega)) h1.2 h2.2 (λa h=>(h3.2 a h).1) (λa h=>(h3.2 a h).2) h4.2
omit hl hN in
theorem WE.ks{op:Int}{nm:Nm}{n:Int}{ks:List cP}{k:Nat}(h1:LL k (WE 900000000) ks)(e:k<=900000000:=by omega):WE 900000000 ⟨op,nm,n,ks,[],[],[]⟩:=WE.of h1 LL.nil LL.nil LL.nil
section
variable {ex:Nat->bF cP} (hx:∀k,Gt (WE 900000000) (ex k))
include hx
theorem c9g:Gt (LL 20002 (WE 900000000)) (kW l ex):=by unfold kW;exact Gt.skip λ_=>Gt.bind (tU hl λk a ha=>Gt.bind (hx 0) λe he=>Gt.bP (ha.snoc he)) λks h=>Gt.skip λ_=>Gt.bP h
theorem d3b(op:Int):Gt (WE 900000000) (a2U l ex op):=by unfold a2U;exact Gt.skip λ_=>Gt.bind (hx 0) λe he=>Gt.skip λ_=>Gt.bP (WE.ks (LL.nil.cons he))
theorem e5e:Gt (WE 900000000) (a4t aH aZ rdP l ex):=by unfold a4t;exact Gt.skip λnm=>Gt.skip λb=>Gt.bind (P:=LL 1 (WB 900000000)) (Gt.ite (Gt.bind (b1s hl hN) λt ht=>Gt.bP (LL.nil.cons ht)) (Gt.bP (LL.nil.up (by omega)))) λts h=>Gt.skip λ_=>Gt.bind (hx 0) λa ha=>Gt.skip λ_=>Gt.bind (hx 0) λc hc=>Gt.bP (WE.of ((LL.nil.cons hc).cons ha) LL.nil LL.nil h)
theorem d5C:Gt (WE 900000000) (xC aH l ex):=by unfold xC;exact Gt.bind (hx 0) λe he=>Gt.skip λ_=>Gt.bind (tU hl (P:=λa=>a.2.1.length<=900000000/\WE 900000000 a.2.2) λk a ha=>Gt.skip λc=>Gt.bind (P:=LL 20002 λ_=>True) (λi=>uU.ite (b9T hl i) (uU.ok (LL.nil.up (by omega)))) λns hns=>Gt.skip λ_=>Gt.bind (hx 0) λb hb=>Gt.bP (ha.snoc ⟨Nat.le_trans hns.1 (by omega),hb⟩)) λalts h=>Gt.skip λ_=>Gt.bP (WE.of (LL.nil.cons he) LL.nil h LL.nil)
theorem e5f:Gt (WE 900000000) (a4u aH aZ rdP l ex):=by unfold a4u;exact Gt.skip λ_=>Gt.bind (tU hl (P:=λp:Nm×Ty=>WB 900000000 p.2) λk a ha=>Gt.skip λw=>Gt.skip λb=>Gt.bind (Gt.ite (b1s hl hN) (Gt.bP WB.zero)) λt ht=>Gt.bP (ha.snoc ht)) λps h=>Gt.skip λ_=>Gt.bind (hx 0) λe he=>Gt.bP (WE.of (LL.nil.cons he) h LL.nil LL.nil)
theorem d1M:Gt (WE 900000000) (sF aH aZ rdP l ex):=by unfold sF;exact Gt.skip λ_=>λi=>uU.ite (uU.ok (WE.ks LL.nil)) (Gt.at (Gt.bind (hx 0) λe he=>Gt.skip λb=>Gt.bind (P:=WE 900000000) (Gt.ite (Gt.bind (b1s hl hN) λt ht=>Gt.bP (WE.of (LL.nil.cons he) LL.nil LL.nil (LL.nil.cons ht))) (Gt.bP he)) λe he=>Gt.skip λ_=>Gt.bP he) i)
theorem d9Q:Gt (WE 900000000) (zP aH aZ rdP l ex):=λi=>by have hA:=c9g hl hN hx;have hT:=d9P hl hN;unfold zP;exact uU.ite (uU.ok (WE.ks LL.nil)) (uU.ite (uU.ok (WE.ks LL.nil)) (uU.ite (uU.ok (WE.ks LL.nil)) (uU.ite (d3b hl hN hx _ _) (uU.ite (d3b hl hN hx _ _) (uU.ite (Gt.at (Gt.skip λ_=>Gt.bind (hx 0) λa ha=>Gt.skip λ_=>Gt.bind (hx 0) λb hb=>Gt.skip λ_=>Gt.bP (WE.ks ((LL.nil.cons hb).cons ha))) _) (uU.ite (uU.ite (uU.ok (WE.ks LL.nil)) (Gt.at (Gt.bind hT λts ht=>Gt.bind hA λks hk=>Gt.bP (WE.of hk LL.nil LL.nil ht)) _)) (uU.ite (Gt.at (Gt.bind hT λts ht=>Gt.bind (P:=LL 20002 (WE 900000000)) (λj=>uU.ite (hA j) (uU.ok (LL.nil.up (by omega)))) λks hk=>Gt.bP (WE.of hk LL.nil LL.nil ht)) _) (d1M hl hN hx i))))))))
theorem d9R:Gt (WE 900000000) (a6C aH aZ rdP l ex):=λi=>uU.ite (Gt.at (Gt.bind (hx 7) λe he=>Gt.bP (WE.ks (LL.nil.cons he))) _) (d9Q hl hN hx i)
omit hl hN hx in
theorem c9h{ops:List (Nm×Int)}{one:bF cP}(h0:Gt (WE 900000000) one):∀(g:Nat)(e:cP),WE 900000000 e->Gt (WE 900000000) (jE l ops one g e)
 |0,e,_=>λi=>uU.bad
 |g+1,e,he=>λi a j h=>by
  unfold jE at h;split at h
  .cases h;exact he
  .split at h
   .cases h
   .rename_i x k hk;exact c9h h0 g _ (WE.ks ((LL.nil.cons (h0 _ x k hk)).cons he)) k a j h
omit hl hN hx in
theorem c5j{ops:List (Nm×Int)}{one:bF cP}(h0:Gt (WE 900000000) one):Gt (WE 900000000) (a1N l ops one):=by unfold a1N;exact Gt.bind h0 λe he=>c9h h0 _ e he
theorem e5g:Gt (WE 900000000) (a4v aH aZ rdP l ex):=by have hs:Gt (WE 900000000) (qT aH aZ rdP l ex):=c5j (c5j (d9R hl hN hx));unfold a4v;have h2:∀(f:cP->cP)(i:Nat),(∀x,WE 900000000 x->WE 900000000 (f x))->uU (WE 900000000) ((qT aH aZ rdP l ex >>=λx=>pure (f x)) i):=λf i h=>Gt.at (Gt.bind hs λx hx=>Gt.bP (h x hx)) i;have two:∀op a b,WE 900000000 a->WE 900000000 b->WE 900000000 (eD op [a,b]):=λop a b ha hb=>WE.ks ((LL.nil.cons hb).cons ha);exact Gt.bind hs λe he i=>uU.ite (h2 _ _ λx hx=>two _ _ _ he hx) (uU.ite (h2 _ _ λx hx=>WE.ks (LL.nil.cons (two _ _ _ he hx))) (uU.ite (h2 _ _ λx hx=>two _ _ _ he hx) (uU.ite (h2 _ _ λx hx=>two _ _ _ he hx) (uU.ite (h2 _ _ λx hx=>two _ _ _ hx he) (uU.ite (h2 _ _ λx hx=>two _ _ _ hx he) (uU.ok he))))))
theorem d3c:Gt (WE 900000000) (a1z aH aZ rdP l ex):=λi=>uU.ite (Gt.at (Gt.bind (hx 3) λe he=>Gt.bP (WE.ks (LL.nil.cons he))) _) (e5g hl hN hx i)
theorem f0Q:Gt (WE 900000000) (a7J aH aZ rdP l ex):=λi=>by have hA:=c9g hl hN hx;unfold a7J;exact uU.ite (e5e hl hN hx _) (uU.ite (Gt.at (Gt.bind (hx 0) λa ha=>Gt.skip λ_=>Gt.bind (hx 0) λb hb=>Gt.skip λ_=>Gt.bind (hx 0) λc hc=>Gt.bP (WE.ks (((LL.nil.cons hc).cons hb).cons ha))) _) (uU.ite (d5C hl hN hx _) (uU.ite (e5f hl hN hx _) (uU.ite (Gt.at (Gt.skip λnm=>Gt.bind hA λks hk=>Gt.skip λ_=>Gt.bind (hx 0) λb hb=>Gt.bP (WE.ks (hk.snoc hb))) _) (c5j (c5j (d3c hl hN hx)) i)))))
end
theorem d9S:∀n k,Gt (WE 900000000) (yM aH aZ rdP l n k)
 |0,k=>λi=>uU.bad
 |n+1,k=>by have hx:=d9S n;unfold yM;exact Gt.ite (d9R hl hN hx) (Gt.ite (d3c hl hN hx) (f0Q hl hN hx))
theorem e5h:Gt (WE 900000000) (sG aH aZ rdP l):=d9S hl hN _ 0
end
end
section
open Go Go.VM
variable {G:GT}
theorem wV(l:List psV)(hl:l.length<=900000000):CS prog G 61 [.sl (l.map dP),.sl (l.map dP)] (.d (.bool true)) none:=by
 refine CS.aY func61 rfl ntmps61 rfl ?_;simp;refine SW.eA (ι:={i:Nat//i<=l.length}) (λi=>[(5,.d (.int .i64 i.1))]) (λ_=>[]) (λ_=>[]) (λi=>l.length-i.1) ⟨0,by simp⟩ (by simp) ?_;rintro⟨i,hi⟩;by_cases aG:i<l.length
 .have hw:=aX (show i<9223372036854775807 by omega);simp[aG,dP];refine⟨.mk,?_⟩;exact bE.mk ⟨i+1,aG⟩ (by simp[hw]) (by simp;omega)
 .have hie:i=l.length:=by omega
  subst hie;simp
theorem a3p(l:List psV)(hl:l.length<=900000000):CS prog G 64 [.sl (l.map dP),.sl (l.map dP)] (.d (.bool true)) none:=by
 refine CS.aY func64 rfl ntmps64 rfl ?_;simp;refine SW.eA (ι:={i:Nat//i<=l.length}) (λi=>[(5,.d (.int .i64 i.1))]) (λ_=>[]) (λ_=>[]) (λi=>l.length-i.1) ⟨0,by simp⟩ (by simp) ?_;rintro⟨i,hi⟩;by_cases aG:i<l.length
 .have hw:=aX (show i<9223372036854775807 by omega);simp[aG,dP];refine⟨.mk,?_⟩;exact bE.mk ⟨i+1,aG⟩ (by simp[hw]) (by simp;omega)
 .have hie:i=l.length:=by omega
  subst hie;simp
theorem b1t(l:List Pr)(hl:l.length<=900000000)(hp:∀p∈l,bN p<=900000000):CS prog G 76 [.sl (l.map qF),.sl (l.map qF)] (.d (.bool true)) none:=by
 refine CS.aY func76 rfl ntmps76 rfl ?_;simp;refine SW.eA (ι:={i:Nat//i<=l.length}) (λi=>[(5,.d (.int .i64 i.1))]) (λ_=>[]) (λ_=>[]) (λi=>l.length-i.1) ⟨0,by simp⟩ (by simp) ?_;rintro⟨i,hi⟩;by_cases aG:i<l.length
 .have hg:=xJ aG;have hw:=aX (show i<9223372036854775807 by omega);have hsi:=qJ (G:=G) l[i] l[i] (hp _ (g3P aG));rw[yX]at hsi;simp[aG,hg];refine⟨.mk,?_⟩;refine aC.mk mO hsi ?_;simp;exact bE.mk ⟨i+1,aG⟩ (by simp[hw]) (by simp;omega)
 .have hie:i=l.length:=by omega
  subst hie;simp
structure WS (s:a0i):Prop where
 vars:s.vars.length<=900000000
 wN:s.wN.length<=900000000
 abs:s.abs.length<=900000000
 bounds:s.bounds.length<=900000000
 xW:∀b∈s.bounds,b.vars.length<=900000000/\bN b.hyp<=900000000/\bN b.goal<=900000000
 type:WB 900000000 s.type
 a5K:s.a5K.length<=900000000
 met:∀p∈s.a5K,bN p<=900000000
theorem b4s{s:a0i}(h:WS s):CS prog G 39 [.agg (b2P s),.agg (b2P s)] (.d (.bool true)) none:=by
 obtain⟨vs,ne,ab,bo,⟨op,nm,l,ns,p,ps⟩,me⟩:=s;obtain⟨h1,h2,h3,h4,h5,h6,h7,h8⟩:=h;simp only at h1 h2 h3 h4 h5 h6 h7 h8;have hns:=kQ (G:=G) vs h1;have gJ:=a3p (G:=G) ne h2;have pO:=pA (G:=G) _ h6;have hme:=b1t (G:=G) me h7 h8;refine CS.a4w func39 rfl ntmps39 rfl (SW.xk ?_);simp;refine jV.mk mJ hns ?_;simp;refine jV.mk (.mk func64 rfl) gJ ?_;simp;refine jV.mk sP pO ?_;simp;refine jV.mk (.mk func76 rfl) hme ?_;simp;refine SW.sV (ι:={i:Nat//i<=ab.length}) (λi=>[(5,.d (.int .i64 i.1))]) (λ_=>[(2,.cells [.d (.sl (strs vs)),.d (.sl (ne.map dP)),.d (.sl (ab.map dP)),.d (.sl (bo.map b0K)),.d (.int .i64 op),.d (.str nm),.d (.sl (l.map tyC)),.d (.sl (strs ns)),.d (.int .i64 p.op),.d (.str p.name),.d (.int .i64 p.n),.d (.sl (p.kids.map qF)),.d (.sl (ps.map qF)),.d (.sl (me.map qF))]),(3,.cells [.d (.sl (strs vs)),.d (.sl (ne.map dP)),.d (.sl (ab.map dP)),.d (.sl (bo.map b0K)),.d (.int .i64 op),.d (.str nm),.d (.sl (l.map tyC)),.d (.sl (strs ns)),.d (.int .i64 p.op),.d (.str p.name),.d (.int .i64 p.n),.d (.sl (p.kids.map qF)),.d (.sl (ps.map qF)),.d (.sl (me.map qF))])]) (λ_=>[]) (λi=>ab.length-i.1) ⟨0,by simp⟩ (by simp) ?_;rintro⟨i,hi⟩;by_cases aG:i<ab.length
 .have hw:=aX (show i<9223372036854775807 by omega);simp[aG];refine SW.vk ?_;simp[aG,dP];refine⟨.mk,?_⟩;exact bE.mk ⟨i+1,aG⟩ (by simp[hw]) (by simp;omega)
 .have hie:i=ab.length:=by omega
  subst hie;simp;refine SW.sV (ι:={i:Nat//i<=bo.length}) (λi=>[(6,.d (.int .i64 i.1))]) (λ_=>[(2,.cells [.d (.sl (strs vs)),.d (.sl (ne.map dP)),.d (.sl (ab.map dP)),.d (.sl (bo.map b0K)),.d (.int .i64 op),.d (.str nm),.d (.sl (l.map tyC)),.d (.sl (strs ns)),.d (.int .i64 p.op),.d (.str p.name),.d (.int .i64 p.n),.d (.sl (p.kids.map qF)),.d (.sl (ps.map qF)),.d (.sl (me.map qF))]),(3,.cells [.d (.sl (strs vs)),.d (.sl (ne.map dP)),.d (.sl (ab.map dP)),.d (.sl (bo.map b0K)),.d (.int .i64 op),.d (.str nm),.d (.sl (l.map tyC)),.d (.sl (strs ns)),.d (.int .i64 p.op),.d (.str p.name),.d (.int .i64 p.n),.d (.sl (p.kids.map qF)),.d (.sl (ps.map qF)),.d (.sl (me.map qF))])]) (λ_=>[]) (λi=>bo.length-i.1) ⟨0,by simp⟩ (by simp) ?_;rintro⟨i,hi⟩;by_cases aG:i<bo.length
  .have hg:=a9m bo[i];have hw:=aX (show i<9223372036854775807 by omega);obtain⟨b1,b2,b3⟩:=h5 _ (g3P aG);have hv:=wV (G:=G) bo[i].vars b1;have hy:=qJ (G:=G) bo[i].hyp bo[i].hyp b2;have hz:=qJ (G:=G) bo[i].goal bo[i].goal b3;rw[yX]at hy hz;simp[aG];refine d2V [0,1,2,3,4,5,6,7,8,9] (e4W 10 11 12 13) 121 (by kernel_rfl) (by kernel_rfl) (by simp) ?_;simp[aG,hg,e4W];refine jV.mk (.mk func61 rfl) hv ?_;simp;refine jV.mk mO hy ?_;simp;refine jV.mk mO hz ?_;simp;exact bE.mk ⟨i+1,aG⟩ (by simp[hw]) (by simp;omega)
  .have hie:i=bo.length:=by omega
   subst hie;simp
structure WD (d:gB):Prop where
 params:d.params.length<=900000000
 body:WE 900000000 d.body
 sig:WS d.sig
theorem b4t(d:gB)(h:WD d):CS prog G 11 [.agg (b1b d),.agg (b1b d)] (.d (.bool true)) none:=by have hns:=kQ (G:=G) _ h.params;have hbo:=c1c (G:=G) h.body;have hsi:=b4s (G:=G) h.sig;refine CS.aY func11 rfl ntmps11 rfl ?_;simp;refine aC.mk mJ hns ?_;simp;refine aC.mk (.mk func38 rfl) hbo ?_;simp;refine aC.mk (.mk func39 rfl) hsi ?_;simp
theorem a4j(l:List gB)(hl:l.length<=900000000)(hd:∀d∈l,WD d):CS prog G 29 [.sl (l.map a2X),.sl (l.map a2X)] (.d (.bool true)) none:=by
 refine CS.aY func29 rfl ntmps29 rfl ?_;simp;refine SW.eA (ι:={i:Nat//i<=l.length}) (λi=>[(5,.d (.int .i64 i.1))]) (λ_=>[]) (λ_=>[]) (λi=>l.length-i.1) ⟨0,by simp⟩ (by simp) ?_;rintro⟨i,hi⟩;by_cases aG:i<l.length
 .have hg:=a0V l[i];have hw:=aX (show i<9223372036854775807 by omega);have hsi:=b4t (G:=G) l[i] (hd _ (g3P aG));simp[aG,hg];refine⟨.mk,?_⟩;refine aC.mk (.mk func11 rfl) hsi ?_;simp;exact bE.mk ⟨i+1,aG⟩ (by simp[hw]) (by simp;omega)
 .have hie:i=l.length:=by omega
  subst hie;simp
theorem b3n(q:a7I)(h1:q.vars.length<=900000000)(h2:bN q.body<=900000000):CS prog G 28 [.agg (c8i q),.agg (c8i q)] (.d (.bool true)) none:=by have hv:=wV (G:=G) _ h1;have hb:=qJ (G:=G) q.body q.body h2;rw[yX]at hb;refine CS.aY func28 rfl ntmps28 rfl ?_;simp;refine aC.mk (.mk func61 rfl) hv ?_;simp;refine aC.mk mO hb ?_;simp
theorem a6Y(x:a7G)(h1:WB 900000000 x.type)(h2:x.wN.length<=900000000)(h3:x.defs.length<=900000000)(h4:∀d∈x.defs,WD d):CS prog G 26 [.agg (c8d x),.agg (c8d x)] (.d (.bool true)) none:=by have ht:=pA (G:=G) _ h1;have hn:=a3p (G:=G) _ h2;have hd:=a4j (G:=G) _ h3 h4;refine CS.aY func26 rfl ntmps26 rfl ?_;simp;refine aC.mk sP ht ?_;simp;refine aC.mk (.mk func64 rfl) hn ?_;simp;refine aC.mk (.mk func29 rfl) hd ?_;simp
structure WDa (d:a4s):Prop where
 vars:d.vars.length<=900000000
 a6B:d.a6B.length<=900000000
 cons:d.cons.length<=900000000
 con:∀c∈d.cons,c.names.length<=900000000/\c.fields.length<=900000000/\∀t∈c.fields,WB 900000000 t
structure WCl (d:xK):Prop where
 len:d.methods.length<=900000000
 met:∀p∈d.methods,WB 900000000 p.2
structure WMe (x:a7H):Prop where
 len:x.cases.length<=900000000
 inv:bN x.inv<=900000000
 cas:∀c∈x.cases,c.2.1.length<=900000000/\bN c.2.2<=900000000
structure WIn (x:a7G):Prop where
 type:WB 900000000 x.type
 wN:x.wN.length<=900000000
 len:x.defs.length<=900000000
 defs:∀d∈x.defs,WD d
structure WQu (q:a7I):Prop where
 vars:q.vars.length<=900000000
 body:bN q.body<=900000000
theorem b1u(d:xK)(h:WCl d):CS prog G 25 [.agg (c8l d),.agg (c8l d)] (.d (.bool true)) none:=by
 obtain⟨nm,va,ms⟩:=d;obtain⟨h1,h2⟩:=h;simp only at h1 h2;refine CS.aY func25 rfl ntmps25 rfl ?_;simp;refine SW.eA (ι:={i:Nat//i<=ms.length}) (λi=>[(5,.d (.int .i64 i.1))]) (λ_=>[(2,.cells [.d (.str nm),.d (.str va),.d (.sl (ms.map a0y))]),(3,.cells [.d (.str nm),.d (.str va),.d (.sl (ms.map a0y))])]) (λ_=>[]) (λi=>ms.length-i.1) ⟨0,by simp⟩ (by simp) ?_;rintro⟨i,hi⟩;by_cases aG:i<ms.length
 .have hg:=zW ms[i];have hw:=aX (show i<9223372036854775807 by omega);have hsi:=pA (G:=G) ms[i].2 (h2 _ (g3P aG));simp[aG,hg];refine⟨.mk,?_⟩;refine aC.mk sP hsi ?_;simp;exact bE.mk ⟨i+1,aG⟩ (by simp[hw]) (by simp;omega)
 .have hie:i=ms.length:=by omega
  subst hie;simp
theorem b3p(d:a4s)(h:WDa d):CS prog G 24 [.agg (c8k d),.agg (c8k d)] (.d (.bool true)) none:=by
 obtain⟨nm,vs,ps,cs⟩:=d;obtain⟨h1,h2,h3,h4⟩:=h;simp only at h1 h2 h3 h4;have hns:=kQ (G:=G) vs h1;have hps:=wV (G:=G) ps h2;refine CS.aY func24 rfl ntmps24 rfl ?_;simp;refine aC.mk mJ hns ?_;simp;refine aC.mk (.mk func61 rfl) hps ?_;simp;refine SW.eA (ι:={i:Nat//i<=cs.length}) (λi=>[(5,.d (.int .i64 i.1))]) (λ_=>[(2,.cells [.d (.str nm),.d (.sl (strs vs)),.d (.sl (ps.map dP)),.d (.sl (cs.map a5b))]),(3,.cells [.d (.str nm),.d (.sl (strs vs)),.d (.sl (ps.map dP)),.d (.sl (cs.map a5b))])]) (λ_=>[]) (λi=>cs.length-i.1) ⟨0,by simp⟩ (by simp) ?_;rintro⟨i,hi⟩;by_cases aG:i<cs.length
 .have hw:=aX (show i<9223372036854775807 by omega);obtain⟨c1,c2,c3⟩:=h4 _ (g3P aG);have hn:=kQ (G:=G) cs[i].names c1;have ht:=a0O (G:=G) cs[i].fields c2 λt ht=>pA t (c3 t ht);simp[aG,a5b];refine⟨.mk,?_⟩;refine aC.mk mJ hn ?_;simp[aG,a5b];refine aC.mk (.mk func62 rfl) ht ?_;simp;exact bE.mk ⟨i+1,aG⟩ (by simp[hw]) (by simp;omega)
 .have hie:i=cs.length:=by omega
  subst hie;simp
theorem a8F(x:a7H)(h:WMe x):CS prog G 27 [.agg (c8h x),.agg (c8h x)] (.d (.bool true)) none:=by
 obtain⟨nm,da,re,cs,iv⟩:=x;obtain⟨h1,h2,h3⟩:=h;simp only at h1 h2 h3;have hiv:=qJ (G:=G) iv iv h2;rw[yX]at hiv;refine CS.aY func27 rfl ntmps27 rfl ?_;simp;refine aC.mk mO hiv ?_;simp;refine SW.eA (ι:={i:Nat//i<=cs.length}) (λi=>[(5,.d (.int .i64 i.1))]) (λ_=>[(2,.cells [.d (.str nm),.d (.str da),.d (.str re),.d (.sl (cs.map b9b)),.d (.int .i64 iv.op),.d (.str iv.name),.d (.int .i64 iv.n),.d (.sl (iv.kids.map qF))]),(3,.cells [.d (.str nm),.d (.str da),.d (.str re),.d (.sl (cs.map b9b)),.d (.int .i64 iv.op),.d (.str iv.name),.d (.int .i64 iv.n),.d (.sl (iv.kids.map qF))])]) (λ_=>[]) (λi=>cs.length-i.1) ⟨0,by simp⟩ (by simp) ?_;rintro⟨i,hi⟩;by_cases aG:i<cs.length
 .have hg:=c8g cs[i];have hw:=aX (show i<9223372036854775807 by omega);obtain⟨c1,c2⟩:=h3 _ (g3P aG);have hn:=kQ (G:=G) cs[i].2.1 c1;have hb:=qJ (G:=G) cs[i].2.2 cs[i].2.2 c2;rw[yX]at hb;simp[aG,hg];refine⟨.mk,?_⟩;refine aC.mk mJ hn ?_;simp[aG,hg];refine aC.mk mO hb ?_;simp;exact bE.mk ⟨i+1,aG⟩ (by simp[hw]) (by simp;omega)
 .have hie:i=cs.length:=by omega
  subst hie;simp
structure WMo (m:eK):Prop where
 f8H:m.a2S.length<=900000000
 f5b:m.vY.length<=900000000
 f8I:m.insts.length<=900000000
 f8J:m.a2T.length<=900000000
 f8K:m.a4Z.length<=900000000
 f9S:m.defs.length<=900000000
 a2S:∀d∈m.a2S,WDa d
 vY:∀d∈m.vY,WCl d
 insts:∀d∈m.insts,WIn d
 a2T:∀d∈m.a2T,WMe d
 a4Z:∀d∈m.a4Z,WQu d
 defs:∀d∈m.defs,WD d
theorem d5D(d:a4s):yO d=c8k d:=rfl
theorem d5E(d:xK):a0k d=c8l d:=rfl
theorem c1d{m:eK}(h:WMo m):CS prog G 8 [.agg (a1j m),.agg (a1j m)] (.d (.bool true)) none:=by
 obtain⟨da,cl,ins,me,qu,de⟩:=m;obtain⟨l1,l2,l3,l4,l5,l6,h1,h2,h3,h4,h5,h6⟩:=h;simp only at l1 l2 l3 l4 l5 l6 h1 h2 h3 h4 h5 h6;have hde:=a4j (G:=G) de l6 h6;refine CS.aY func8 rfl ntmps8 rfl ?_;simp[a1j];refine SW.eA (ι:={i:Nat//i<=da.length}) (λi=>[(5,.d (.int .i64 i.1))]) (λ_=>[(2,.cells [.d (.sl (da.map yO)),.d (.sl (cl.map a0k)),.d (.sl (ins.map a2Y)),.d (.sl (me.map a1O)),.d (.sl (qu.map a2Z)),.d (.sl (de.map a2X))]),(3,.cells [.d (.sl (da.map yO)),.d (.sl (cl.map a0k)),.d (.sl (ins.map a2Y)),.d (.sl (me.map a1O)),.d (.sl (qu.map a2Z)),.d (.sl (de.map a2X))])]) (λ_=>[]) (λi=>da.length-i.1) ⟨0,by simp⟩ (by simp) ?_;rintro⟨i,hi⟩;by_cases aG:i<da.length
 .have hg:=d5D da[i];have hw:=aX (show i<9223372036854775807 by omega);have hsi:=b3p (G:=G) da[i] (h1 _ (g3P aG));simp[aG,hg];refine⟨.mk,?_⟩;refine aC.mk (.mk func24 rfl) hsi ?_;simp;exact bE.mk ⟨i+1,aG⟩ (by simp[hw]) (by simp;omega)
 .have hie:i=da.length:=by omega
  subst hie;simp;refine SW.eA (ι:={i:Nat//i<=cl.length}) (λi=>[(6,.d (.int .i64 i.1))]) (λ_=>[(2,.cells [.d (.sl (da.map yO)),.d (.sl (cl.map a0k)),.d (.sl (ins.map a2Y)),.d (.sl (me.map a1O)),.d (.sl (qu.map a2Z)),.d (.sl (de.map a2X))]),(3,.cells [.d (.sl (da.map yO)),.d (.sl (cl.map a0k)),.d (.sl (ins.map a2Y)),.d (.sl (me.map a1O)),.d (.sl (qu.map a2Z)),.d (.sl (de.map a2X))])]) (λ_=>[]) (λi=>cl.length-i.1) ⟨0,by simp⟩ (by simp) ?_;rintro⟨i,hi⟩;by_cases aG:i<cl.length
  .have hg:=d5E cl[i];have hw:=aX (show i<9223372036854775807 by omega);have hsi:=b1u (G:=G) cl[i] (h2 _ (g3P aG));simp[aG,hg];refine⟨.mk,?_⟩;refine aC.mk (.mk func25 rfl) hsi ?_;simp;exact bE.mk ⟨i+1,aG⟩ (by simp[hw]) (by simp;omega)
  .have hie:i=cl.length:=by omega
   subst hie;simp;refine SW.eA (ι:={i:Nat//i<=ins.length}) (λi=>[(7,.d (.int .i64 i.1))]) (λ_=>[(2,.cells [.d (.sl (da.map yO)),.d (.sl (cl.map a0k)),.d (.sl (ins.map a2Y)),.d (.sl (me.map a1O)),.d (.sl (qu.map a2Z)),.d (.sl (de.map a2X))]),(3,.cells [.d (.sl (da.map yO)),.d (.sl (cl.map a0k)),.d (.sl (ins.map a2Y)),.d (.sl (me.map a1O)),.d (.sl (qu.map a2Z)),.d (.sl (de.map a2X))])]) (λ_=>[]) (λi=>ins.length-i.1) ⟨0,by simp⟩ (by simp) ?_;rintro⟨i,hi⟩;by_cases aG:i<ins.length
   .have hg:=b8X ins[i];have hw:=aX (show i<9223372036854775807 by omega);have hsi:=a6Y (G:=G) ins[i] (h3 _ (g3P aG)).type (h3 _ (g3P aG)).wN (h3 _ (g3P aG)).len (h3 _ (g3P aG)).defs;simp[aG,hg];refine⟨.mk,?_⟩;refine aC.mk (.mk func26 rfl) hsi ?_;simp;exact bE.mk ⟨i+1,aG⟩ (by simp[hw]) (by simp;omega)
   .have hie:i=ins.length:=by omega
    subst hie;simp;refine SW.eA (ι:={i:Nat//i<=me.length}) (λi=>[(8,.d (.int .i64 i.1))]) (λ_=>[(2,.cells [.d (.sl (da.map yO)),.d (.sl (cl.map a0k)),.d (.sl (ins.map a2Y)),.d (.sl (me.map a1O)),.d (.sl (qu.map a2Z)),.d (.sl (de.map a2X))]),(3,.cells [.d (.sl (da.map yO)),.d (.sl (cl.map a0k)),.d (.sl (ins.map a2Y)),.d (.sl (me.map a1O)),.d (.sl (qu.map a2Z)),.d (.sl (de.map a2X))])]) (λ_=>[]) (λi=>me.length-i.1) ⟨0,by simp⟩ (by simp) ?_;rintro⟨i,hi⟩;by_cases aG:i<me.length
    .have hg:=b9c me[i];have hw:=aX (show i<9223372036854775807 by omega);have hsi:=a8F (G:=G) me[i] (h4 _ (g3P aG));simp[aG,hg];refine⟨.mk,?_⟩;refine aC.mk (.mk func27 rfl) hsi ?_;simp;exact bE.mk ⟨i+1,aG⟩ (by simp[hw]) (by simp;omega)
    .have hie:i=me.length:=by omega
     subst hie;simp;refine SW.eA (ι:={i:Nat//i<=qu.length}) (λi=>[(9,.d (.int .i64 i.1))]) (λ_=>[(2,.cells [.d (.sl (da.map yO)),.d (.sl (cl.map a0k)),.d (.sl (ins.map a2Y)),.d (.sl (me.map a1O)),.d (.sl (qu.map a2Z)),.d (.sl (de.map a2X))]),(3,.cells [.d (.sl (da.map yO)),.d (.sl (cl.map a0k)),.d (.sl (ins.map a2Y)),.d (.sl (me.map a1O)),.d (.sl (qu.map a2Z)),.d (.sl (de.map a2X))])]) (λ_=>[]) (λi=>qu.length-i.1) ⟨0,by simp⟩ (by simp) ?_;rintro⟨i,hi⟩;by_cases aG:i<qu.length
     .have hg:=b9d qu[i];have hw:=aX (show i<9223372036854775807 by omega);have hsi:=b3n (G:=G) qu[i] (h5 _ (g3P aG)).vars (h5 _ (g3P aG)).body;simp[aG,hg];refine⟨.mk,?_⟩;refine aC.mk (.mk func28 rfl) hsi ?_;simp;exact bE.mk ⟨i+1,aG⟩ (by simp[hw]) (by simp;omega)
     .have hie:i=qu.length:=by omega
      subst hie;simp;refine aC.mk (.mk func29 rfl) hde ?_;simp
end
section
open Go Go.VM
variable{k:Nat}
theorem LL.s{α:Type}{P:α->Prop}{l:List α}(h:LL k P l):LL (k+1) P l:=h.up (by omega)
theorem LL.b{α:Type}{P:α->Prop}{l:List α}(h:LL k P l)(hk:k<=900000000:=by omega):l.length<=900000000:=Nat.le_trans h.1 hk
section
variable {rdP:List Tok->Nat->Nat->gO Pr} {l:List Tok} (hl:l.length<=20000) (hN:∀i e p j,rdP l i e=.ok p j->bN p<=20001)
include hl hN
variable{kw:Nm->Bool}
omit hN in
theorem b6F(v:Bool):Gt (LL 20002 λ_=>True) (sE kw l v):=by unfold sE;exact tU hl λk a ha=>Gt.skip λ_=>Gt.skip λ_=>Gt.skip λ_=>Gt.skip λ_=>Gt.bP (ha.snoc trivial)
omit hN in
theorem c9i:Gt (LL 20002 λ_=>True) (uN kw l):=by unfold uN;exact tU hl λk a ha=>Gt.skip λ_=>Gt.skip λ_=>Gt.bP (ha.snoc trivial)
omit hN in
theorem e5i:Gt (LL 20002 λ_=>True) (λi=>if aL l i [40] then jD kw l i else .ok [] i:bF (List Nm)):=λi=>uU.ite (b9T hl i) (uU.ok (LL.nil.up (by omega)))
theorem d1N:Gt WS (tP aH aZ rdP l):=by have hp:=b3l hN;unfold tP uO;refine Gt.skip λb=>Gt.bind (P:=LL 20003 λ_=>True) (Gt.ite (Gt.skip λw=>Gt.bind (P:=λb=>∃n,n<=1+20002/\LL n (λ_=>True) b) (c5h hl (I:=λk=>LL k λ_=>True) (λk a ha=>Gt.skip λ_=>Gt.bP (ha.snoc trivial)) (LL.nil.cons trivial)) λws ⟨n,hn,h⟩=>Gt.skip λ_=>Gt.bP (h.up (by omega))) (Gt.bP (LL.nil.up (by omega)))) λvs h1=>?_;refine Gt.skip λb=>Gt.bind (P:=LL 20002 λ_=>True) (Gt.ite (Gt.bind (c9i hl) λ_ h=>Gt.skip λ_=>Gt.bP h) (Gt.bP (LL.nil.up (by omega)))) λns h2=>?_;refine Gt.skip λb=>Gt.bind (P:=LL 20002 λ_=>True) (Gt.ite (Gt.bind (b6F hl false) λ_ h=>Gt.skip λ_=>Gt.bP h) (Gt.bP (LL.nil.up (by omega)))) λab h3=>?_;refine Gt.bind (b3k hl (P:=λb=>b.vars.length<=900000000/\bN b.hyp<=900000000/\bN b.goal<=900000000) λk a ha=>Gt.skip λ_=>Gt.bind (P:=λb:pR=>b.vars.length<=900000000/\bN b.hyp<=900000000/\bN b.goal<=900000000) (Gt.skip λ_=>Gt.skip λ_=>Gt.bind (b6F hl false) λvs hv=>Gt.skip λ_=>Gt.bind hp λp hp1=>Gt.skip λ_=>Gt.bind hp λg hg=>Gt.skip λ_=>Gt.bP ⟨hv.b,Nat.le_trans hp1 (by omega),Nat.le_trans hg (by omega)⟩) λb hb=>Gt.bP (ha.snoc hb)) λbs h4=>?_;refine Gt.bind (b1s hl hN) λt h5=>Gt.skip λb=>Gt.bind (P:=LL 20002 λp=>bN p<=900000000) (Gt.ite (λi=>Gt.at (tU hl λk a ha=>Gt.bind (P:=λp=>bN p<=900000000) (λj p k h=>Nat.le_trans (hN _ _ _ _ h) (by omega)) λp hp=>Gt.bP (ha.snoc hp)) i) (Gt.bP (LL.nil.up (by omega)))) λms h6=>Gt.bP ⟨h1.b,h2.b,h3.b,h4.b,h4.2,h5,h6.b,h6.2⟩
omit hl hN in
theorem WS.zero:WS vZ:=⟨by simp[vZ],by simp[vZ],by simp[vZ],by simp[vZ],by simp[vZ],WB.zero,by simp[vZ],by simp[vZ]⟩
omit hl hN in
theorem WD.zero:WD ⟨[],[],qP,0,false,vZ⟩:=⟨by simp,WE.ks LL.nil,WS.zero⟩
omit hN in
theorem c5l(mode:Int):Gt WD (xY aH l mode):=by unfold xY;exact Gt.skip λ_=>Gt.bind (P:=LL 20002 λ_=>True) (λi=>uU.ite (uU.ite (uU.ok (LL.nil.up (by omega))) (b9T hl i)) (uU.ok (LL.nil.up (by omega)))) λps h=>Gt.bP ⟨h.b,WE.ks LL.nil,WS.zero⟩
def WO(o:Option gB):Prop:=∀d,o=some d->WD d
variable{d:gB}
omit hl hN in
theorem WO.mk(h:WD d):WO (some d):=λd' e=>by cases e;exact h
theorem d3d(hd:WD d):Gt WO (zQ aH aZ rdP l d):=by unfold zQ;exact Gt.skip λ_=>Gt.bind (e5h hl hN) λe he=>Gt.bP (WO.mk ⟨hd.params,he,hd.sig⟩)
omit hl hN in
theorem WD.typed{d:gB}(hd:WD d){s:a0i}(hs:WS s):WD {d with typed:=true,sig:=s}:=⟨hd.params,hd.body,hs⟩
theorem d3e:Gt WO (xD aH aZ rdP l):=λi=>by unfold xD;exact uU.ite (Gt.at (Gt.bind (c5l hl 0) λd hd=>Gt.skip λb=>Gt.bind (P:=WD) (Gt.ite (Gt.bind (d1N hl hN) λs hs=>Gt.bP (hd.typed hs)) (Gt.bP hd)) λd hd=>d3d hl hN hd) _) (uU.ite (Gt.at (Gt.bind (c5l hl 1) λd hd=>Gt.skip λ_=>Gt.bind (d1N hl hN) λs hs=>Gt.bP (WO.mk (hd.typed hs))) _) (uU.ite (Gt.at (Gt.bind (c5l hl 2) λd hd=>Gt.skip λ_=>Gt.bind (d1N hl hN) λs hs=>d3d hl hN (hd.typed hs)) _) (uU.ok λd h=>by cases h)))
theorem e5j:Gt WDa (a0x aH aZ rdP l):=by unfold a0x a9P;refine Gt.skip λnm=>Gt.bind (b3k hl (P:=λ_=>True) λk a ha=>Gt.skip λ_=>Gt.bP (ha.snoc trivial)) λvs h1=>Gt.skip λb=>Gt.bind (P:=LL 20002 λ_=>True) (Gt.ite (Gt.bind (b6F hl false) λ_ h=>Gt.skip λ_=>Gt.bP h) (Gt.bP (LL.nil.up (by omega)))) λps h2=>Gt.skip λ_=>?_;refine Gt.bind (tU hl (P:=λc:a1M=>c.names.length<=900000000/\c.fields.length<=900000000/\∀t∈c.fields,WB 900000000 t) λk a ha=>Gt.bind (P:=λc:a1M=>c.names.length<=900000000/\c.fields.length<=900000000/\∀t∈c.fields,WB 900000000 t) ?_ λc hc=>Gt.bP (ha.snoc hc)) λcs h3=>Gt.bP ⟨h1.b,h2.b,h3.b,h3.2⟩;refine Gt.skip λ_=>Gt.skip λb=>Gt.ite (Gt.bind (P:=λp=>∃k,k<=20002/\p.1.length<=k/\LL k (WB 900000000) p.2) (b6E hl (I:=λk (p:List Nm×List Ty)=>p.1.length<=k/\LL k (WB 900000000) p.2) (λk a ha=>Gt.skip λw=>Gt.skip λ_=>Gt.bind (b1s hl hN) λt ht=>Gt.bP ⟨by simpa using ha.1,ha.2.snoc ht⟩) ⟨g3G _,LL.nil⟩) λp ⟨k,hk,hp⟩=>Gt.skip λ_=>Gt.bP ⟨Nat.le_trans hp.1 (by omega),hp.2.b,hp.2.2⟩) (Gt.bP ⟨by simp,by simp,λt h=>by cases h⟩)
theorem f0R:Gt WCl (wA aH aZ rdP l):=by unfold wA;exact Gt.skip λ_=>Gt.skip λ_=>Gt.skip λ_=>Gt.bind (tU hl (P:=λp:Nm×Ty=>WB 900000000 p.2) λk a ha=>Gt.skip λ_=>Gt.skip λ_=>Gt.bind (b1s hl hN) λt ht=>Gt.bP (ha.snoc ht)) λms h=>Gt.bP ⟨h.b,h.2⟩
theorem e5k:Gt WQu (a1C aH rdP l):=by unfold a1C;exact Gt.skip λ_=>Gt.skip λ_=>Gt.bind (b6F hl true) λvs h=>Gt.skip λ_=>Gt.bind (b3l hN) λp hp=>Gt.bP ⟨h.b,Nat.le_trans hp (by omega)⟩
theorem e5l:Gt WIn (a1A aH aZ rdP l):=by
 unfold a1A;exact Gt.skip λ_=>Gt.bind (c2P hl hN (n:=20002*20002) (λi t j h=>c5i hl hN _ (by omega) i t j h |>.up (by have:=hl;exact g4k _ (by omega))) (by omega)) λt h1=>Gt.skip λ_=>Gt.bind (P:=LL 20002 λ_=>True) (Gt.ite (c9i hl) (Gt.bP (LL.nil.up (by omega)))) λns h2=>Gt.skip λ_=>Gt.bind (b3k hl (P:=WD) λk a ha=>Gt.bind (d3e hl hN) λd hd=>Gt.skip λ_=>Gt.bP (ha.snoc (by
  cases d with
  |none=>exact WD.zero
  |some d=>exact hd d rfl))) λds h3=>Gt.skip λ_=>Gt.bP ⟨h1.1,h2.b,h3.b,h3.2⟩
theorem e5m:Gt WMe (a1B aH rdP l):=by have hp:=b3l hN;unfold a1B;exact Gt.skip λ_=>Gt.skip λ_=>Gt.skip λ_=>Gt.skip λ_=>Gt.skip λ_=>Gt.skip λ_=>Gt.bind (tU hl (P:=λc:Nm×List Nm×Pr=>c.2.1.length<=900000000/\bN c.2.2<=900000000) λk a ha=>Gt.skip λc=>Gt.bind (e5i hl) λns hn=>Gt.skip λ_=>Gt.bind hp λp h=>Gt.bP (ha.snoc ⟨hn.b,Nat.le_trans h (by omega)⟩)) λcs h=>Gt.skip λ_=>Gt.skip λ_=>Gt.bind (P:=λp=>bN p<=20001) (Gt.ite hp (Gt.bP (by simp[eE,bN,eJ]))) λp h2=>Gt.bP ⟨h.b,Nat.le_trans h2 (by omega),h.2⟩
def MoI(k:Nat)(m:eK):Prop:=LL k WDa m.a2S/\LL k WCl m.vY/\LL k WIn m.insts/\LL k WMe m.a2T/\LL k WQu m.a4Z/\LL k WD m.defs
theorem e5n(k:Nat)(m:eK)(h:MoI k m):Gt (MoI (k+1)) (vI aH aZ rdP l m):=λi=>by
 obtain⟨a,b,c,d,e,f⟩:=h;unfold vI;refine uU.ite (Gt.at (Gt.bind (e5j hl hN) λx h=>Gt.bP ⟨a.snoc h,b.s,c.s,d.s,e.s,f.s⟩) _) (uU.ite (Gt.at (Gt.bind (f0R hl hN) λx h=>Gt.bP ⟨a.s,b.snoc h,c.s,d.s,e.s,f.s⟩) _) (uU.ite (Gt.at (Gt.bind (e5l hl hN) λx h=>Gt.bP ⟨a.s,b.s,c.snoc h,d.s,e.s,f.s⟩) _) (uU.ite (Gt.at (Gt.bind (e5m hl hN) λx h=>Gt.bP ⟨a.s,b.s,c.s,d.snoc h,e.s,f.s⟩) _) (uU.ite (Gt.at (Gt.bind (e5k hl hN) λx h=>Gt.bP ⟨a.s,b.s,c.s,d.s,e.snoc h,f.s⟩) _) (Gt.at (Gt.bind (d3e hl hN) λo h=>?_) i)))));cases o with
 |none=>exact Gt.failed
 |some x=>exact Gt.bP ⟨a.s,b.s,c.s,d.s,e.s,f.snoc (h x rfl)⟩
theorem f0S:Gt WMo (a7K aH aZ rdP l):=by unfold a7K;intro i m j h;obtain⟨n,hn,a,b,c,d,e,f⟩:=c5h hl (I:=MoI) (λk a ha=>Gt.bind (e5n hl hN k a ha) λm hm=>Gt.skip λ_=>Gt.bP hm) ⟨LL.nil,LL.nil,LL.nil,LL.nil,LL.nil,LL.nil⟩ i m j h;exact⟨a.b,b.b,c.b,d.b,e.b,f.b,a.2,b.2,c.2,d.2,e.2,f.2⟩
end
theorem f0T(s:List UInt8)(h19:s.length<=19000:=by omega):WMo (a0N b9P (gA moQ s)):=by
 cases h:gA moQ s with
 |bad n e=>exact⟨by simp[a0N,b9P],by simp[a0N,b9P],by simp[a0N,b9P],by simp[a0N,b9P],by simp[a0N,b9P],by simp[a0N,b9P],(λd hd=>by cases hd),(λd hd=>by cases hd),(λd hd=>by cases hd),(λd hd=>by cases hd),(λd hd=>by cases hd),λd hd=>by cases hd⟩
 |ok m j=>obtain⟨hs,l,hl,hx,_⟩:=d5q h;have hV:rR G0 rdQ l:=c2O hl h19;exact f0S hV.len hV.nod 0 m j hx
theorem a9D(s:List UInt8)(hs:s.length<=100000000:=by omega):CS prog G0 3 [.str s] (.d (.bool true)) none:=by
 by_cases b1:1500<s.length
 .have e1:(1500:Int)<s.length:=by omega
  refine CS.aY func3 rfl ntmps3 rfl ?_;simp[e1,b1];refine aC.mk (.mk func5 rfl) (b3j ) ?_;simp
 have e1:¬(1500:Int)<s.length:=by omega
 have p1:=xP (G:=G0) a5p a5q s (by omega);have p2:=c1b (G:=G0) s;have w1:=c1d (G:=G0) (f0T s);generalize a0N b9P (gA moQ s)=m at p1 p2 w1;generalize a5l (gA moQ s)=x1 at p1 p2;generalize c0X (gA moQ s)=n1 at p1 p2;simp only[a1j]at p1 p2 w1;refine CS.aY func3 rfl ntmps3 rfl ?_;simp[e1,b1];refine aC.mk wJ p1 ?_;simp;refine aC.mk (.mk func7 rfl) p2 ?_;simp;refine aC.mk (.mk func8 rfl) w1 ?_;simp;refine aC.mk (.mk func5 rfl) (b3j ) ?_;simp
theorem parseModules_all(xs:List D)(h:b1T prog [9] xs)(mQ:szL xs<=1048576):CS prog G0 3 xs (.d (.bool true)) none:=by
 match xs,h with
 |[a],⟨h1,_⟩=>obtain⟨s,rfl,_⟩:=d3V tu9 h1;simp only[szL,szD]at mQ;exact a9D s
end
end Go.Proofs.YtmfbjecjccipfaaGreatDoor
