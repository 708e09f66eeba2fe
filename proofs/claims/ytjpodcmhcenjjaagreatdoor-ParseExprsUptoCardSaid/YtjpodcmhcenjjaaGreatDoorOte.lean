/- Lemmas that the law of this claim needs (VmRT VmR5 VmRX VmRS ZB PsA PsB PwA PwF PwB PwG). No condition. -/
import Derived.Test.YtjpodcmhcenjjaaGreatDoorOta
import Derived.Test.YtjpodcmhcenjjaaGreatDoorOtc
import Derived.Test.YtjpodcmhcenjjaaGreatDoorOtd
import Derived.Lib.TrimByte
import Derived.Lib.Repeat
set_option linter.unusedVariables false
set_option linter.unusedSimpArgs false
set_option linter.unusedSectionVars false
set_option maxRecDepth 100000
set_option maxHeartbeats 64000000
open Go.Proofs.Tryz
section
namespace Go.VM
open Go Go.RowKit
section
variable {P:Program} {G:GT} {st:St} {base:dH} {R:Nat->Nat->Prop} {μ:Nat->Nat} {a:Act} {w:World}
def a4I(P:Program)(G:GT)(ops:Array Oper)(m c:Nat)(Q:St->Prop):Nat->Array Bool->St->Prop
 |0,listed,st=>listed=qU m ops.size/\Q st
 |fuel+1,listed,st=>Region.ready .any ops listed≠[]/\∀i∈Region.ready .any ops listed,i<m/\match ops[i]? with
  |none=>False
  |some o=>pC P G (i !=c) ops o (a4I P G ops m c Q fuel (listed.setIfInBounds i true)) st
theorem c0k{ops:Array Oper}{m c r:Nat}{Q:St->Prop}{QQ:Exit->Act->World->Prop}:∀(fuel:Nat) (listed:Array Bool) (st:St),a4I P G ops m c Q fuel listed st->∀(base:dH) (R:Nat->Nat->Prop) (μ:Nat->Nat) (a:Act) (w:World),Rel P G base R μ st a w->
  (∀s a' w' R' μ',Q s->Rel P G base R' μ' s a' w'->Step base R w R' w'->wpAny P .any ops QQ r (qU m ops.size) a' w')->wpAny P .any ops QQ (fuel+r) listed a w
 |0,_,st,h,base,R,μ,a,w,hr,hk=>by rw[Nat.zero_add,h.1];exact hk st a w R μ h.2 hr (.refl _ _ _)
 |fuel+1,listed,st,h,base,R,μ,a,w,hr,hk=>by
  rw[show fuel+1+r=(fuel+r)+1 by omega];refine⟨λh0=>absurd h0 h.1,λi hi=>?_⟩;have h1:=(h.2 i hi).2;unfold wpOp;split
  .rename_i ho;rw[ho]at h1;exact h1.elim
  .rename_i o ho;rw[ho]at h1;exact tE h1 hr λs v w' R' μ' h' gD rE=>c0k fuel _ s h' base R' μ' _ w' gD λs a' w2 R2 μ2 q1 q2 q3=>hk s a' w2 R2 μ2 q1 q2 (rE.trans q3)
theorem b6m{ops:Array Oper}{m i:Nat}(him:i<m)(hT:zV ops m=true)(listed:Array Bool)(pM:gF ops listed)(hr:i∈Region.ready .any ops listed):∀j∈Region.ready .any ops listed,j<m:=λj hj=>by apply Classical.byContradiction;intro hjm;obtain⟨_,oj,hoj,dR⟩:=mem_ready.1 hj;obtain⟨a3e,_⟩:=mem_ready.1 hr;have h1:=a9t hT (Nat.le_of_not_lt hjm) hoj him;rw[dL pM a3e ops.size j λo ho=>by rw[hoj]at ho;cases ho;exact dR]at h1;cases h1
theorem c1Y{ops:Array Oper}{m c:Nat}{Q:St->Prop}{i:Nat}{oi:Oper}(him:i<m)(hT:zV ops m=true)(hA:qR ops)(hi:ops[i]? =some oi)(hic:i≠c)(hsi:(dI oi.op=true/\oO ops oi=false)\/qH oi=true):
  ∀(fuel:Nat) (listed:Array Bool) (st s:St),gF ops listed->
   (∀j oj,ops[j]? =some oj->j≠i->listed.getD j true=false->jL ops ops.size j i=false->j≠c/\oi.apart ops oj=true/\rR ops oi oj=true)->
   i∈Region.ready .any ops listed->rT ops listed st->Eff P G ops oi st s->
   a4I P G ops m c Q fuel (listed.setIfInBounds i true) s->a4I P G ops m c Q (fuel+1) listed st:=by
 have qi:(i !=c)=true:=by simpa using hic
 intro fuel
 induction fuel with
 |zero=>
  intro listed st s pM _ hr _ hy H;refine⟨λh=>(by rw[h]at hr;cases hr),λj hj=>⟨b6m him hT listed pM hr j hj,?_⟩⟩;by_cases hji:j=i
  .subst hji;rw[hi,qi];exact(dY hsi).2 ⟨s,hy,H⟩
  .exfalso;obtain⟨yV,oj,hoj,dR⟩:=mem_ready.1 hj;have h1:=b6h yV hji;rw[H.1]at h1;have h2:=a8z h1;have:=b6m him hT listed pM hr j hj;omega
 |succ fuel ih=>
  intro listed st s pM a0g hr hI hy H;refine⟨λh=>(by rw[h]at hr;cases hr),λj hj=>⟨b6m him hT listed pM hr j hj,?_⟩⟩;by_cases hji:j=i
  .subst hji;rw[hi,qi];exact(dY hsi).2 ⟨s,hy,H⟩
  .have h1:=(H.2 j (ready_mono hj hji)).2;obtain⟨yV,oj,hoj,dR⟩:=mem_ready.1 hj;rw[hoj]at h1|-;simp only at h1|-;obtain⟨a3e,oi',c1D,b0w⟩:=mem_ready.1 hr;have a5G:jL ops ops.size j i=false:=dL pM a3e _ _ λo ho=>by rw[hoj]at ho;cases ho;exact dR
   obtain⟨hjc,hap,hpo⟩:=a0g j oj hoj hji yV a5G;have qj:(j !=c)=true:=by simpa using hjc
   rw[qj]at h1|-;have hsj:(dI oj.op=true/\oO ops oj=false)\/qH oj=true:=by
    by_cases hs:qH oj=true
    .exact .inr hs
    .refine .inl ⟨?_,?_⟩
     .unfold rR at hpo;simp only[qH,g1i,g0W,Bool.not_eq_true']at hpo hs;rcases hpo with((((((h|h)|h)|h)|h)|h)|h)|h
      .exact h.1.2
      .exact absurd (.inl (.inl h.1.2)) hs
      .exact h.1.1.2
      .exact absurd (.inl (.inr h.2)) hs
      .exact h.1.2
      .exact absurd (.inl h.1.2) hs
      .exact absurd (.inr h.2) hs
      .exact(pD (G:=G) (st:=st) h.1.2).1
     .cases hx:oO ops oj with
      |false=>rfl
      |true=>
       have aF:i<ops.size:=(g1f.1 hi).1;rcases wH hx hoj aF (λe=>hji e.symm)with h'|h'
       .have:=dL pM yV ops.size i λo ho=>by rw[c1D]at ho;cases ho;exact b0w
        rw[h']at this;cases this
       .rw[a5G]at h';cases h'
   obtain⟨s12,hu,hk⟩:=(dY hsj).1 h1;obtain⟨s2,e1,e2⟩:=b0v hap hpo (λhn d hd=>hI i oi d hi hn a3e hd) (λhn d hd=>hI j oj d hoj hn yV hd) hy hu;refine(dY hsj).2 ⟨s2,e1,?_⟩;refine ih (listed.setIfInBounds j true) s2 s12 (pM.set hj) (λk ok hk' hki hun tS=>?_) (ready_mono hr (Ne.symm hji)) (hI.step hA hoj λk hf hn=>vN e1 hf hn) e2 ?_
   .exact a0g k ok hk' hki (uM hun).2 tS
   .rw[Array.setIfInBounds_comm _ _ hji];exact hk
def d5S(m:Nat)(l:List Nat):Bool:=l.all λi=>decide (i<m)
theorem a9w{ops:Array Oper}{m c:Nat}{Q:St->Prop}(hTA:zV ops m=true)(hN:gE ops=[]):∀(l:List Nat) (listed:Array Bool) (st:St) (fuel:Nat),d5S m l=true->gF ops listed->b0O ops c l listed=true->
  a5J P G ops c l st (a4I P G ops m c Q fuel (cN l listed))->a4I P G ops m c Q (l.length+fuel) listed st
 |[],listed,st,fuel,_,_,_,h=>by simpa[cN,a5J]using h
 |i::l,listed,st,fuel,cC,pM,hB,h=>by
  have hA:qR ops:=λi j oi oj d hi _ hni _ hdi _=>(c0j hN hi hni hdi).elim;have hI:∀listed st,rT ops listed st:=λ_ _ j oj d hj hn _ hd=>(c0j hN hj hn hd).elim;simp only[d5S,List.all_cons,g0W,decide_eq_true_eq]at cC;obtain⟨him,f0S⟩:=cC;simp only[b0O,g0W]at hB;obtain⟨hf,hB'⟩:=hB;simp only[a5J]at h;split at h;rotate_left
  .cases h
  rename_i o ho;have he:(i::l).length+fuel=l.length+fuel+1:=by simp only[List.length_cons];omega
  rw[he];unfold b6k at hf;rw[g1i,beq_iff_eq]at hf;have hri:i∈Region.ready .any ops listed:=by
   rcases hf with hf|hf
   .rw[hf];exact g1d.2 rfl
   .simp only[g0W]at hf;simpa using hf.1.1
  have sH:∀s,a5J P G ops c l s (a4I P G ops m c Q fuel (cN (i::l) listed))->a4I P G ops m c Q (l.length+fuel) (listed.setIfInBounds i true) s:=λs hs=>a9w hTA hN l _ s fuel f0S (pM.set hri) hB' hs;rcases hf with hf|hf
  .refine⟨λh'=>(by rw[h']at hf;cases hf),λj hj=>?_⟩;rw[hf,g1d]at hj;subst hj;rw[ho];exact⟨him,gY sH h⟩
  .rw[ho]at hf;simp only[g0W,g1i,Bool.not_eq_true',bne_iff_ne,ne_eq]at hf;obtain⟨⟨_,hic⟩,hsi,dR⟩:=hf;have qi:(i !=c)=true:=by simpa using hic
   rw[qi]at h;obtain⟨s,hd,hk⟩:=(dY hsi).1 h;refine c1Y him hTA hA ho hic hsi _ listed st s pM (λj oj hj eU hun tS=>?_) hri (hI _ _) hd (sH s hk);rw[g0Z]at dR;have h1:=dR j (List.mem_range.2 (g1f.1 hj).1);simp only[hj,g1i,beq_iff_eq,eU,false_or,hun,Bool.false_eq_true,tS,g0W,bne_iff_ne,ne_eq]at h1;exact h1
def a8D(ops:Array Oper)(m c:Nat):Ord->Nat->Array Bool->Bool
 | .none,_,_=>true
 | .call rest more,n,listed=>decide (c<ops.size)&&decide (c<m)&&d5S m rest&&inB ops c rest&&b0O ops c rest (listed.setIfInBounds c true)&&decide (cN rest (listed.setIfInBounds c true)=qU m ops.size)&&decide (rest.length+1=n)&&a8D ops m c more n listed
 | .op i next more,n,listed=>inB ops c [i]&&decide (i<m)&&decide (2<=n)&& !(Region.ready .any ops (listed.setIfInBounds i true)).isEmpty&&((Region.ready .any ops (listed.setIfInBounds i true)).all λj=>a4H c next j)&&a8D ops m c next (n-1) (listed.setIfInBounds i true)&&a8D ops m c more n listed
theorem b0T{ops:Array Oper}{m c:Nat}{Q:St->Prop}(hTA:zV ops m=true)(hN:gE ops=[]):∀(T:Ord) (n:Nat) (listed:Array Bool) (st:St),gF ops listed->a8D ops m c T (n+1) listed=true->b4m P G ops c Q T st->∀i∈Region.ready .any ops listed,a4H c T i=true->
  i<m/\match ops[i]? with
  |none=>False
  |some o=>pC P G (i !=c) ops o (a4I P G ops m c Q n (listed.setIfInBounds i true)) st
 | .none,_,_,_,_,_,_,_,_,ha=>by cases ha
 | .call rest more,n,listed,st,pM,hB,h,i,hi,ha=>by
  simp only[a8D,g0W,decide_eq_true_eq]at hB;obtain⟨⟨⟨⟨⟨⟨⟨hc,hcm⟩,cC⟩,xE⟩,hs⟩,he⟩,hlen⟩,a6E⟩:=hB;simp only[b4m]at h;simp only[a4H,g1i,decide_eq_true_eq]at ha;by_cases hic:i=c
  .subst hic;have h1:=h.1;simp only[VK,sel,g1o hc,vG]at h1;simp only[g1o hc,bne_self_eq_false];refine⟨hcm,gY (λs rE=>?_) h1⟩;have hn:n=rest.length+0:=by omega
   rw[hn];exact a9w hTA hN rest _ s 0 cC (pM.set hi) hs (uQ (λs hs=>⟨he,hs⟩) _ _ (xX rest s xE rE))
  .exact b0T hTA hN more n listed st pM a6E h.2 i hi (ha.resolve_left hic)
 | .op x next more,n,listed,st,pM,hB,h,i,hi,ha=>by
  simp only[a8D,g0W,decide_eq_true_eq,Bool.not_eq_true',List.isEmpty_eq_false_iff,g0Z]at hB;obtain⟨⟨⟨⟨⟨⟨xE,hxm⟩,hn⟩,eU⟩,dR⟩,sH⟩,a6E⟩:=hB;simp only[b4m]at h;simp only[a4H,g1i,decide_eq_true_eq]at ha;by_cases hix:i=x
  .subst hix;have h1:=h.1;simp only[inB,List.all_cons,List.all_nil,Bool.and_true,g0W,decide_eq_true_eq]at xE;have qi:(i !=c)=true:=by simpa using xE.2
   simp only[VK,sel,g1o xE.1,vG]at h1;simp only[g1o xE.1,qi];refine⟨hxm,gY (λs rE=>?_) h1⟩;obtain⟨k,rfl⟩:∃k,n=k+1:=⟨n-1,by omega⟩;exact⟨eU,λj hj=>b0T hTA hN next k _ s (pM.set hi) sH rE j hj (dR j hj)⟩
  .exact b0T hTA hN more n listed st pM a6E h.2 i hi (ha.resolve_left hix)
theorem a7D{ops:Array Oper}{m c:Nat}{Z:St->Prop}:∀(T:Ord) (n n':Nat) (listed:Array Bool) (st:St),n<=n'->a8D ops m c T (n+1) listed=true->a5s P G ops Z T st->∀i∈Region.ready .any ops listed,a4H c T i=true->
  if i=c then Z st else match ops[i]? with
  |none=>False
  |some o=>pC P G true ops o (a8C P G ops c Z n' (listed.setIfInBounds i true)) st
 | .none,_,_,_,_,_,_,_,_,_,ha=>by cases ha
 | .call rest more,n,n',listed,st,hn',hB,h,i,hi,ha=>by
  simp only[a8D,g0W]at hB;simp only[a5s]at h;simp only[a4H,g1i,decide_eq_true_eq]at ha;by_cases hic:i=c
  .rw[if_pos hic];exact h.1
  .exact a7D more n n' listed st hn' hB.2 h.2 i hi (ha.resolve_left hic)
 | .op x next more,n,n',listed,st,hn',hB,h,i,hi,ha=>by
  simp only[a8D,g0W,decide_eq_true_eq,Bool.not_eq_true',List.isEmpty_eq_false_iff,g0Z]at hB;obtain⟨⟨⟨⟨⟨⟨xE,hxm⟩,hn⟩,eU⟩,dR⟩,sH⟩,a6E⟩:=hB;simp only[a5s]at h;simp only[a4H,g1i,decide_eq_true_eq]at ha;by_cases hix:i=x
  .subst hix;have h1:=h.1;simp only[inB,List.all_cons,List.all_nil,Bool.and_true,g0W,decide_eq_true_eq]at xE;simp only[VK,sel,g1o xE.1,vG]at h1;rw[if_neg xE.2];simp only[g1o xE.1];refine gY (λs rE=>?_) h1;obtain⟨k,rfl⟩:∃k,n=k+1:=⟨n-1,by omega⟩;obtain⟨k',rfl⟩:∃k',n'=k'+1:=⟨n'-1,by omega⟩;exact⟨eU,λj hj=>a7D next k k' _ s (by omega) sH rE j hj (dR j hj)⟩
  .exact a7D more n n' listed st hn' a6E h.2 i hi (ha.resolve_left hix)
abbrev b6n(TT:St->Prop)(Q:Exit->St->Prop):Exit->St->Prop:=λe s=>match e with
 | .normal=>TT s
 |e=>Q e s
end
end Go.VM
end
section
namespace Go.VM
open Go Go.RowKit
section
variable {P:Program} {G:GT} {st:St}
def b4R(ops:Array Oper)(L:Array Bool)(i0 i1 i2 i3 i4:Nat):Bool:=
 let S:=L.setIfInBounds i0 true
 let A:=S.setIfInBounds i1 true
 let B:=S.setIfInBounds i3 true
 (Region.ready .any ops L==[i0])&&(Region.ready .any ops S==[i1,i3])&&(Region.ready .any ops A==[i2,i3])&&(Region.ready .any ops B==[i1,i4])&&
 (Region.ready .any ops (A.setIfInBounds i2 true)==[i3])&&(Region.ready .any ops (A.setIfInBounds i3 true)==[i2,i4])&&(Region.ready .any ops (B.setIfInBounds i1 true)==[i2,i4])&&(Region.ready .any ops (B.setIfInBounds i4 true)==[i1])&&
 (Region.ready .any ops ((A.setIfInBounds i2 true).setIfInBounds i3 true)==[i4])&&(Region.ready .any ops ((A.setIfInBounds i3 true).setIfInBounds i2 true)==[i4])&&(Region.ready .any ops ((A.setIfInBounds i3 true).setIfInBounds i4 true)==[i2])&&
 (Region.ready .any ops ((B.setIfInBounds i1 true).setIfInBounds i2 true)==[i4])&&(Region.ready .any ops ((B.setIfInBounds i1 true).setIfInBounds i4 true)==[i2])&&(Region.ready .any ops ((B.setIfInBounds i4 true).setIfInBounds i1 true)==[i2])&&
 (Region.ready .any ops (((A.setIfInBounds i2 true).setIfInBounds i3 true).setIfInBounds i4 true)==[])&&(Region.ready .any ops (((A.setIfInBounds i3 true).setIfInBounds i2 true).setIfInBounds i4 true)==[])&&(Region.ready .any ops (((A.setIfInBounds i3 true).setIfInBounds i4 true).setIfInBounds i2 true)==[])&&
 (Region.ready .any ops (((B.setIfInBounds i1 true).setIfInBounds i2 true).setIfInBounds i4 true)==[])&&(Region.ready .any ops (((B.setIfInBounds i1 true).setIfInBounds i4 true).setIfInBounds i2 true)==[])&&(Region.ready .any ops (((B.setIfInBounds i4 true).setIfInBounds i1 true).setIfInBounds i2 true)==[])
abbrev tl3(s:St)(eP:List (TypeId×List Loc))(e:TypeId)(r p b:Tmp)(xs:List (List D))(c:List D)(kb off:Nat):St:=finish (tl2 s eP e r p xs c) (some b) (.ptr kb off) .no
theorem d5T(a:Act){p b:Nat}(u v:Value)(h:p≠b):(a.put (some p) u).put (some b) v=(a.put (some b) v).put (some p) u:=by simp only[Act.put];congr 1;exact Array.setIfInBounds_comm _ _ h
theorem c5z{ops:Array Oper}{i0 i1 i2 i3 i4:Nat}{L0:Array Bool}{t e T:TypeId}{s z r p q x b y:Tmp}{fd fo:Nat}{y0 y1 y2 y3 y4 u:TypeId}{p0 p1 p2 p3 p4:String}{f0 f1 f2 f3 f4:Array Edge}{xs:List (List D)}{z0 c:List D}{eP:List (TypeId×List Loc)}{kb0 xO:Nat}{out:Out}{Q:St->Prop}{QQ:Exit->Act->World->Prop}(h0:ops[i0]? =some ⟨some r,.call {callee:=.builtin .append,args:=#[.tmp s,.tmp z],argTypes:=#[t,t]},y0,p0,f0,none⟩)(h1:ops[i1]? =some ⟨some p,.indexAddr t (.tmp r) (.tmp q),y1,p1,f1,none⟩)(h2:ops[i2]? =some ⟨none,.store e (.tmp p) (.tmp x),y2,p2,f2,none⟩)(h3:ops[i3]? =some ⟨some b,.fieldAddr T (.tmp y) fd,y3,p3,f3,none⟩)(h4:ops[i4]? =some ⟨none,.store t (.tmp b) (.tmp r),y4,p4,f4,none⟩)(hR:b4R ops L0 i0 i1 i2 i3 i4=true)(oI:jK P e=true)(hu:P.underlying t=some (.slice e))(eU:(r≠q/\r≠x/\r≠p/\r≠b/\r≠y)/\(p≠x/\p≠b/\p≠y)/\b≠q/\b≠x)(aF:r<st.tmps.length/\p<st.tmps.length/\b<st.tmps.length)(hsx:st.eval G (.tmp s)=.d (.sl xs))(htk:jD (.t s) st.own=some (e,eP))(hlx:∀c∈xs,c.length=P.cellsOf e)(hx:st.eval G (.tmp z)=.d (.sl [z0]))(hz0:z0.length=P.cellsOf e)(hbd:(xs.length+1)*(P.bytesOf e+1)<=140737488355328)(hq:st.eval G (.tmp q)=.d (.int .i64 (xs.length:Int)))(hxv:st.eval G (.tmp x)=.d (.agg c))(hc:c.length=P.cellsOf e)(hy:st.eval G (.tmp y)=.ptr kb0 xO)(hfo:aI P T fd=some (fo,u))(hfc:P.cellsOf u≠0)(mU:sU P G t (.tmp b) (.tmp r) (tl3 st eP e r p b xs c kb0 (xO+fo))=some out)(hQ:Q out.st){base:dH}{R:Nat->Nat->Prop}{μ:Nat->Nat}{a:Act}{w:World}(hr:Rel P G base R μ st a w)(hk:∀s' a' w' R' μ',Q s'->Rel P G base R' μ' s' a' w'->Step base R w R' w'->QQ .normal a' w'):wpAny P .any ops QQ 5 L0 a w:=by
 obtain⟨⟨n1,n2,n3,n4,n7⟩,⟨n5,n6,n8⟩,n9,n10⟩:=eU;obtain⟨l1,l2,l3⟩:=aF;have jZ:=hr.size;obtain⟨_,_,_,_,_,a1E,_,_⟩:=a0d oI;obtain⟨g,cap,a3n,w1,e0,hg,kU,e7m,b9C⟩:=b3w (ty:=y0) hr oI hu (x:=.tmp z) hsx htk hlx hx hz0 hbd;obtain⟨pc,hpc,b2o,c5t⟩:=(hr.mF hxv).a4m;have jS:∀u∈pc.toList,u.oneCell'=true:=λu hu=>by
  obtain⟨j,hj⟩:=g1n hu;have hjl:j<c.length:=by rw[<-b2o];simpa using (g0X.1 hj).1
  obtain⟨k1,k2⟩:=c5t j c[j] (by simp[hjl]);have:pc.getD j Go.undef=u:=by
   have:pc[j]? =some u:=by simpa using hj
   simp[g0Y,this]
  rw[this]at k2;exact k2.b0k k1
 obtain⟨R1,hr1,hV1,hA1,hs1⟩:=b9C pc.toList c (by simpa[b2o]using hc) hc jS (λj d hj=>by
  obtain⟨k1,k2⟩:=c5t j d hj;have hjl:j<pc.size:=by rw[b2o];exact(g0X.1 hj).1
  refine⟨k1,pc[j],by simp[hjl],?_⟩;simpa[g0Y,hjl]using k2)
 generalize hvS:(Value.slice (some ⟨g,0,none⟩) (xs.length+1) cap)=vS at *;generalize d5J:spl a3n (xs.length*P.cellsOf e) pc.toList=b2p at *;have hra:r<a.tmps.size:=by rw[jZ];exact l1
 have hpa:p<a.tmps.size:=by rw[jZ];exact l2
 have e7o:=hr1.put (dst:=some r) (.d _ _ hV1) hA1;have hr2:=e7o.put (dst:=some p) (v:=.pointer (some ⟨g,xs.length*P.cellsOf e,none⟩)) (act:=.no) (.undef _) trivial;generalize ha1:a.put (some r) vS=a1 at *;generalize ha2:a1.put (some p) (.pointer (some ⟨g,xs.length*P.cellsOf e,none⟩))=a2 at *;have z1:a1.tmps.size=a.tmps.size:=by rw[<-ha1];exact size_put _ _ _
 have v1r:a1.eval (.tmp r)=vS:=by rw[<-ha1];exact dV _ _ hra
 have v1q:a1.eval (.tmp q)=a.eval (.tmp q):=by rw[<-ha1];exact cA _ _ (Ne.symm n1)
 have v1x:a1.eval (.tmp x)=a.eval (.tmp x):=by rw[<-ha1];exact cA _ _ (Ne.symm n2)
 have v1b:a1.eval (.tmp b)=a.eval (.tmp b):=by rw[<-ha1];exact cA _ _ (Ne.symm n4)
 have v2p:a2.eval (.tmp p)=.pointer (some ⟨g,xs.length*P.cellsOf e,none⟩):=by rw[<-ha2];exact dV _ _ (z1.symm▸hpa)
 have v2x:a2.eval (.tmp x)=.agg pc:=by rw[<-ha2,cA _ _ (Ne.symm n5),v1x,hpc]
 have v2r:a2.eval (.tmp r)=vS:=by rw[<-ha2,cA _ _ n3];exact v1r
 have v2b:a2.eval (.tmp b)=a.eval (.tmp b):=by rw[<-ha2,cA _ _ (Ne.symm n6)];exact v1b
 have v1y:a1.eval (.tmp y)=.pointer (some ⟨μ kb0,xO,none⟩):=by rw[<-ha1,cA _ _ (Ne.symm n7)];exact hr.dU hy
 have hb0:b<a.tmps.size:=by rw[jZ];exact l3
 have z2:a2.tmps.size=a.tmps.size:=by rw[<-ha2,size_put];exact z1
 have hr3:=hr2.put (dst:=some b) (v:=.pointer (some ⟨μ kb0,xO+fo,none⟩)) (act:=.no) (.ptr kb0 (xO+fo)) trivial;generalize ha3:a2.put (some b) (.pointer (some ⟨μ kb0,xO+fo,none⟩))=a3 at *;generalize hab:a1.put (some b) (.pointer (some ⟨μ kb0,xO+fo,none⟩))=ab at *;have f0U:ab.put (some p) (.pointer (some ⟨g,xs.length*P.cellsOf e,none⟩))=a3:=by rw[<-hab, <- ha3, <- ha2];exact(d5T a1 _ _ n6).symm
 have v2y:a2.eval (.tmp y)=.pointer (some ⟨μ kb0,xO,none⟩):=by rw[<-ha2,cA _ _ (Ne.symm n8)];exact v1y
 have v3b:a3.eval (.tmp b)=.pointer (some ⟨μ kb0,xO+fo,none⟩):=by rw[<-ha3];exact dV _ _ (z2.symm▸hb0)
 have v3r:a3.eval (.tmp r)=vS:=by rw[<-ha3,cA _ _ n4];exact v2r
 have v3p:a3.eval (.tmp p)=.pointer (some ⟨g,xs.length*P.cellsOf e,none⟩):=by rw[<-ha3,cA _ _ n6];exact v2p
 have v3x:a3.eval (.tmp x)=.agg pc:=by rw[<-ha3,cA _ _ (Ne.symm n10)];exact v2x
 have vbb:ab.eval (.tmp b)=.pointer (some ⟨μ kb0,xO+fo,none⟩):=by rw[<-hab];exact dV _ _ (z1.symm▸hb0)
 have vbr:ab.eval (.tmp r)=vS:=by rw[<-hab,cA _ _ n4];exact v1r
 have vbq:ab.eval (.tmp q)=a.eval (.tmp q):=by rw[<-hab,cA _ _ (Ne.symm n9)];exact v1q
 have a6D:=mU;unfold sU at a6D;split at a6D;rotate_left
 .cases a6D
 rename_i kb off ys hb hys;split at a6D;rotate_left
 .cases a6D
 rename_i cs hkb;split at a6D;rotate_left
 .cases a6D
 rename_i hcd
 clear a6D
 have hHs:(tl3 st eP e r p b xs c kb0 (xO+fo)).H=st.H:=rfl;rw[hHs]at hkb;have hbe:(tl3 st eP e r p b xs c kb0 (xO+fo)).eval G (.tmp b)=.ptr kb0 (xO+fo):=by simp[St.eval,finish,List.getD,l3]
 rw[hbe]at hb;cases hb;have e7r:ys.length=1:=by
  have:(tl3 st eP e r p b xs c kb0 (xO+fo)).eval G (.tmp r)=.d (.sl (xs++[c])):=by simp[St.eval,finish,List.getD,l1,List.getElem?_set,Ne.symm n3,Ne.symm n4]
  rw[this]at hys;simp only[wB,D.cells,List.map_cons,List.map_nil,g1c]at hys;rw[<-hys];rfl
 obtain⟨_,_,vs0,T0,hh0,e7s,_⟩:=hr.jR kb0 _ hkb;obtain⟨hbg,e7t⟩:=e7m kb0 _ hkb;have hvc:vS.cells=#[vS]:=by rw[<-hvS];rfl
 have hvo:vS.oneCell'=true:=by rw[<-hvS];rfl
 have hob:w1.heap[μ kb0]? =some (.cells vs0 T0 (0,0)):=e7t.trans hh0;generalize hX:spl vs0 (xO+fo) [vS]=X;have E0:(execOp a.eval ⟨some r,.call {callee:=.builtin .append,args:=#[.tmp s,.tmp z],argTypes:=#[t,t]},y0,p0,f0,none⟩).run P w=.ok (.value vS) w1:=by simp[execOp,resolve,invoke,builtin,e0]
 have E1:∀(ax:Act) (w':World),ax.eval (.tmp r)=vS->ax.eval (.tmp q)=a.eval (.tmp q)->(execOp ax.eval ⟨some p,.indexAddr t (.tmp r) (.tmp q),y1,p1,f1,none⟩).run P w'=.ok (.value (.pointer (some ⟨g,xs.length*P.cellsOf e,none⟩))) w':=λax w' k1 k2=>a3P rfl hu (k1.trans hvS.symm) (k2.trans (hr.xI hq)) (by omega) a1E
 have E2:∀(ax:Act) (w':World),ax.eval (.tmp p)=.pointer (some ⟨g,xs.length*P.cellsOf e,none⟩)->ax.eval (.tmp x)=.agg pc->w'.heap[g]? =some (.cells a3n e (0,0))->(execOp ax.eval ⟨none,.store e (.tmp p) (.tmp x),y2,p2,f2,none⟩).run P w'=.ok .skip (w'.setRow g b2p):=λax w' kp kx hw'=>by have:=uP (P:=P) (a:=ax) (w:=w') (o:=⟨none,.store e (.tmp p) (.tmp x),y2,p2,f2,none⟩) rfl kp hw' (by rw[kx];show pc.size=_;rw[b2o,hc]) (by omega) (by rw[kx];exact jS) (by rw[kx];show _+pc.size<=_;rw[b2o,hc];exact kU);rw[kx]at this;have pM:(Value.agg pc).cells=pc:=rfl;rw[pM,d5J]at this;exact this
 have E3:∀(ax:Act) (w':World),ax.eval (.tmp y)=.pointer (some ⟨μ kb0,xO,none⟩)->(execOp ax.eval ⟨some b,.fieldAddr T (.tmp y) fd,y3,p3,f3,none⟩).run P w'=.ok (.value (.pointer (some ⟨μ kb0,xO+fo,none⟩))) w':=λax w' ky=>zB (P:=P) rfl hfo hfc ky;have E4:∀(ax:Act) (w':World),ax.eval (.tmp b)=.pointer (some ⟨μ kb0,xO+fo,none⟩)->ax.eval (.tmp r)=vS->w'.heap[μ kb0]? =some (.cells vs0 T0 (0,0))->(execOp ax.eval ⟨none,.store t (.tmp b) (.tmp r),y4,p4,f4,none⟩).run P w'=.ok .skip (w'.setRow (μ kb0) X):=λax w' hb1 hr1 hw'=>by have:=uP (P:=P) (a:=ax) (w:=w') (o:=⟨none,.store t (.tmp b) (.tmp r),y4,p4,f4,none⟩) rfl hb1 hw' (by rw[hr1,hvc, <- hcd.1,e7r];rfl) (by omega) (by rw[hr1,hvc];simpa using hvo) (by rw[hr1,hvc];show xO+fo+1<=_;rw[e7s];omega);rw[hr1,hvc]at this;have:(execOp ax.eval ⟨none,.store t (.tmp b) (.tmp r),y4,p4,f4,none⟩).run P w'=.ok .skip (w'.setRow (μ kb0) (spl vs0 (xO+fo) [vS])):=this;rw[hX]at this;exact this
 have hgX:(w1.setRow (μ kb0) X).heap[g]? =some (.cells a3n e (0,0)):=(setRow_other w1 (μ kb0) g _ (Ne.symm hbg)).trans hg;have hbX:(w1.setRow g b2p).heap[μ kb0]? =some (.cells vs0 T0 (0,0)):=(setRow_other w1 g (μ kb0) _ hbg).trans hob;have c0g:(w1.setRow (μ kb0) X).setRow g b2p=(w1.setRow g b2p).setRow (μ kb0) X:=b3v w1 hbg X b2p;have a0l:QQ .normal a3 ((w1.setRow g b2p).setRow (μ kb0) X):=by
  obtain⟨v,w',R',μ',cW,hr4,_,_,hs3⟩:=a7u (o:=⟨none,.store t (.tmp b) (.tmp r),y4,p4,f4,none⟩) rfl mU base R1 μ a3 _ hr3;rw[E4 a3 _ v3b v3r hbX]at cW;rcases cW with cW|⟨cW,_⟩
  .cases cW
  .cases cW;exact hk out.st a3 _ R' μ' hQ hr4 (hs1.trans hs3)
 simp only[b4R,g0W,beq_iff_eq]at hR;obtain⟨⟨⟨⟨⟨⟨⟨⟨⟨⟨⟨⟨⟨⟨⟨⟨⟨⟨⟨r0,r1⟩,rA⟩,rB⟩,rAC⟩,rAB⟩,rBA⟩,rBD⟩,f4I⟩,f4J⟩,f4K⟩,f4L⟩,f4M⟩,f4N⟩,e1⟩,e2⟩,e3⟩,e4⟩,e5⟩,e6⟩:=hR;refine wpAny_all r0 (by simp) λi hi=>?_;simp only[g1d]at hi;subst hi;refine dQ h0 rfl (.inl E0) ha1 ?_;refine wpAny_all r1 (by simp) λj hj=>?_;simp only[List.mem_cons,List.not_mem_nil,or_false]at hj;rcases hj with rfl|rfl
 .refine dQ h1 rfl (.inl (E1 a1 w1 v1r v1q)) ha2 ?_;refine wpAny_all rA (by simp) λj hj=>?_;simp only[List.mem_cons,List.not_mem_nil,or_false]at hj;rcases hj with rfl|rfl
  .refine dQ h2 rfl (.inr ⟨E2 a2 w1 v2p v2x hg,rfl⟩) rfl ?_;refine wpAny_all rAC (by simp) λj hj=>?_;simp only[g1d]at hj;subst hj;refine dQ h3 rfl (.inl (E3 a2 _ v2y)) ha3 ?_;refine wpAny_all f4I (by simp) λj hj=>?_;simp only[g1d]at hj;subst hj;exact dQ h4 rfl (.inr ⟨E4 a3 _ v3b v3r hbX,rfl⟩) rfl (wpAny_done e1 a0l _)
  .refine dQ h3 rfl (.inl (E3 a2 _ v2y)) ha3 ?_;refine wpAny_all rAB (by simp) λj hj=>?_;simp only[List.mem_cons,List.not_mem_nil,or_false]at hj;rcases hj with rfl|rfl
   .refine dQ h2 rfl (.inr ⟨E2 a3 w1 v3p v3x hg,rfl⟩) rfl ?_;refine wpAny_all f4J (by simp) λj hj=>?_;simp only[g1d]at hj;subst hj;exact dQ h4 rfl (.inr ⟨E4 a3 _ v3b v3r hbX,rfl⟩) rfl (wpAny_done e2 a0l _)
   .refine dQ h4 rfl (.inr ⟨E4 a3 _ v3b v3r hob,rfl⟩) rfl ?_;refine wpAny_all f4K (by simp) λj hj=>?_;simp only[g1d]at hj;subst hj;exact dQ h2 rfl (.inr ⟨E2 a3 _ v3p v3x hgX,rfl⟩) rfl (wpAny_done e3 (by rw[c0g];exact a0l) _)
 .refine dQ h3 rfl (.inl (E3 a1 _ v1y)) hab ?_;refine wpAny_all rB (by simp) λj hj=>?_;simp only[List.mem_cons,List.not_mem_nil,or_false]at hj;rcases hj with rfl|rfl
  .refine dQ h1 rfl (.inl (E1 ab _ vbr vbq)) f0U ?_;refine wpAny_all rBA (by simp) λj hj=>?_;simp only[List.mem_cons,List.not_mem_nil,or_false]at hj;rcases hj with rfl|rfl
   .refine dQ h2 rfl (.inr ⟨E2 a3 w1 v3p v3x hg,rfl⟩) rfl ?_;refine wpAny_all f4L (by simp) λj hj=>?_;simp only[g1d]at hj;subst hj;exact dQ h4 rfl (.inr ⟨E4 a3 _ v3b v3r hbX,rfl⟩) rfl (wpAny_done e4 a0l _)
   .refine dQ h4 rfl (.inr ⟨E4 a3 _ v3b v3r hob,rfl⟩) rfl ?_;refine wpAny_all f4M (by simp) λj hj=>?_;simp only[g1d]at hj;subst hj;exact dQ h2 rfl (.inr ⟨E2 a3 _ v3p v3x hgX,rfl⟩) rfl (wpAny_done e5 (by rw[c0g];exact a0l) _)
  .refine dQ h4 rfl (.inr ⟨E4 ab _ vbb vbr hob,rfl⟩) rfl ?_;refine wpAny_all rBD (by simp) λj hj=>?_;simp only[g1d]at hj;subst hj;refine dQ h1 rfl (.inl (E1 ab _ vbr vbq)) f0U ?_;refine wpAny_all f4N (by simp) λj hj=>?_;simp only[g1d]at hj;subst hj;exact dQ h2 rfl (.inr ⟨E2 a3 _ v3p v3x hgX,rfl⟩) rfl (wpAny_done e6 (by rw[c0g];exact a0l) _)
def d0C(P:Program)(G:GT)(t e T:TypeId)(s z r p q x b y:Tmp)(fd:Nat)(Q:St->Prop)(st:St):Prop:=
 ∃(xs:List (List D)) (z0 c:List D) (eP:List (TypeId×List Loc)) (kb0 xO fo:Nat) (u:TypeId) (out:Out),(r<st.tmps.length/\p<st.tmps.length/\b<st.tmps.length)/\st.eval G (.tmp s)=.d (.sl xs)/\jD (.t s) st.own=some (e,eP)/\(∀c∈xs,c.length=P.cellsOf e)/\st.eval G (.tmp z)=.d (.sl [z0])/\z0.length=P.cellsOf e/\
  (xs.length+1)*(P.bytesOf e+1)<=140737488355328/\st.eval G (.tmp q)=.d (.int .i64 (xs.length:Int))/\st.eval G (.tmp x)=.d (.agg c)/\c.length=P.cellsOf e/\st.eval G (.tmp y)=.ptr kb0 xO/\aI P T fd=some (fo,u)/\P.cellsOf u≠0/\sU P G t (.tmp b) (.tmp r) (tl3 st eP e r p b xs c kb0 (xO+fo))=some out/\Q out.st
theorem a2K{id:Nat}{ops:Array Oper}{Q:Exit->St->Prop}{m:Nat}{t e T:TypeId}{s z r p q x b y:Tmp}{fd:Nat}{y0 y1 y2 y3 y4:TypeId}{p0 p1 p2 p3 p4:String}{f0 f1 f2 f3 f4:Array Edge}(h0:ops[m]? =some ⟨some r,.call {callee:=.builtin .append,args:=#[.tmp s,.tmp z],argTypes:=#[t,t]},y0,p0,f0,none⟩)(h1:ops[m+1]? =some ⟨some p,.indexAddr t (.tmp r) (.tmp q),y1,p1,f1,none⟩)(h2:ops[m+2]? =some ⟨none,.store e (.tmp p) (.tmp x),y2,p2,f2,none⟩)(h3:ops[m+3]? =some ⟨some b,.fieldAddr T (.tmp y) fd,y3,p3,f3,none⟩)(h4:ops[m+4]? =some ⟨none,.store t (.tmp b) (.tmp r),y4,p4,f4,none⟩)(hB:(P.follows .mixedOrders&&d5I ops m&&decide (ops.size=m+5)&&b4R ops (qU m ops.size) m (m+1) (m+2) (m+3) (m+4))=true)(oI:(jK P e&&decide ((r≠q/\r≠x/\r≠p/\r≠b/\r≠y)/\(p≠x/\p≠b/\p≠y)/\b≠q/\b≠x))=true)(hu:P.underlying t=some (.slice e))(hF:b2d ops st=true)(h:VK P G [.ops true ops (ops.toList.take m)] .normal st λ_ s1=>d0C P G t e T s z r p q x b y fd (λs'=>Q .normal s') s1):SW P G (.region id ops true) st Q:=by
 rw[g0W,g0W,g0W,decide_eq_true_eq]at hB;obtain⟨⟨⟨hm,hL⟩,jZ⟩,hR⟩:=hB;rw[g0W,decide_eq_true_eq]at oI;have h5:ops.size-m=5:=by rw[jZ];exact Nat.add_sub_cancel_left ..
 refine b6i hm hL hF (c8C h) ?_;rintro s1 base R μ a w QQ ⟨xs,z0,c,eP,kb0,xO,fo,u,out,k0,k1,k2,k3,k4,k5,k6,k7,k8,k9,k10,k11,k12,k13,k14⟩ hr hk;rw[h5];exact c5z (Q:=λs'=>Q .normal s') h0 h1 h2 h3 h4 hR oI.1 hu oI.2 k0 k1 k2 k3 k4 k5 k6 k7 k8 k9 k10 k11 k12 k13 k14 hr hk
end
end Go.VM
end
section
namespace Go.VM
open Go Go.RowKit
section
variable {P:Program} {G:GT} {st:St} {base:dH} {R:Nat->Nat->Prop} {μ:Nat->Nat} {a:Act} {w:World}
def b6o(P:Program)(G:GT)(all:Array Oper):List Oper->St->(Exit->St->Prop)->Prop
 |[],st,Q=>Q .normal st
 |o::rest,st,Q=>
  match eJ o all st.tmps with
  |some true=>
   match kB G o st with
   |some (f,ds)=>(∃r own,(Enters P f/\CS P G f ds r own)/\b6o P G all rest (finish st o.dst r (a6b own)) Q)\/∃s',(Enters P f/\oD P G f (ds.map .d) (mM o) st o.dst s')/\b6o P G all rest s' Q
   |none=>
    match dK G o st with
    |some (f,g0U)=>∃x0,tF P G f g0U (mM o) o.dst st (λs=>b6o P G all rest s Q) Q x0
    |none=>
     match mV P G o st with
     |some out=>b6o P G all rest (finish out.st o.dst out.v (b0r false all o out.v out.act)) Q
     |none=>False
  |some false=>b6o P G all rest (finish st o.dst (.cI []) .no) Q
  |none=>False
theorem d0D{all:Array Oper}:∀(l:List Oper) (st:St) (Q:Exit->St->Prop),b6o P G all l st Q->∀(base:dH) (R:Nat->Nat->Prop) (μ:Nat->Nat) (a:Act) (w:World),Rel P G base R μ st a w->
  ∀QQ:Exit->Act->World->Prop,(∀e s a' w' R' μ',Q e s->Rel P G base R' μ' s a' w'->Step base R w R' w'->QQ e a' w')->wpList P all QQ l a w
 |[],st,Q,h,base,R,μ,a,w,hr,QQ,hk=>hk _ st a w R μ h hr (.refl _ _ _)
 |o::rest,st,Q,h,base,R,μ,a,w,hr,QQ,hk=>by
  have go:pC P G false all o (λs=>b6o P G all rest s Q) st->wpList P all QQ (o::rest) a w:=λh1=>by unfold wpList;exact tE h1 hr λs v w' R' μ' h' gD rE=>d0D rest s Q h' base R' μ' _ w' gD QQ λe s a' w2 R2 μ2 q1 q2 q3=>hk e s a' w2 R2 μ2 q1 q2 (rE.trans q3)
  unfold b6o at h;split at h
  .rename_i hw;split at h
   .rename_i f ds hc;refine go ?_;unfold pC;rw[hw,hc];rcases h with⟨r,own,h1,h2⟩|⟨s',h1,h2⟩
    .exact .inl ⟨r,own,h1,λe=>Bool.noConfusion e,by simpa using h2⟩
    .exact .inr ⟨by simp[tD],s',h1,h2⟩
   .rename_i hc;split at h
    .rename_i f g0U hH;obtain⟨x0,h0⟩:=h;unfold tF at h0;obtain⟨he,h1,h2⟩:=h0;cases x0 with
     |true=>obtain⟨s',h3,h4⟩:=h1 rfl;refine go ?_;unfold pC;rw[hw,hc,hH];simp only[tD,Bool.false_and,a2y,Bool.false_eq_true,if_false];exact⟨s',⟨he,h3⟩,h4⟩
     |false=>obtain⟨v,h3,h4⟩:=h2 rfl;unfold wpList;rw[a3G hr hw,if_pos rfl];exact .inl (a9v hH ⟨he,h3⟩ hr λR' w' hs hb=>hk _ _ _ w' R' μ h4 (hr.b0R hs hb) hs)
    .rename_i hH;split at h
     .rename_i out hv;refine go ?_;unfold pC;rw[hw,hc,hH,hv];exact h
     .exact h.elim
  .rename_i hw;refine go ?_;unfold pC;rw[hw];exact h
  .exact h.elim
def XW(P:Program)(G:GT):Code->St->(Exit->St->Prop)->Prop
 | .skip,st,Q=>Q .normal st
 | .region id ops draw,st,Q=>match draw with
  |true=>SW P G (.region id ops true) st Q
  |false=>b6o P G ops ops.toList st Q
 | .seq x y,st,Q=>XW P G x st λe s=>match e with
  | .normal=>XW P G y s Q
  |e=>Q e s
 | .cond c x y,st,Q=>
  match st.eval G c with
  | .d (.bool t)=>if t then XW P G x st Q else XW P G y st Q
  | .qF=>XW P G x st Q/\XW P G y st Q
  |_=>False
 | .block id c,st,Q=>XW P G c st λe s=>match e with
  | .exit id'=>if id'=id then Q .normal s else Q (.exit id') s
  |e=>Q e s
 | .loop c,st,Q=>SW P G (.loop c) st Q
 | .exit id,st,Q=>Q (.exit id) st
 | .ret,st,Q=>Q .ret st
 | .label _,st,Q=>Q .normal st
 | .scope c,st,Q=>XW P G c st λe s=>match e with
  | .goto _=>False
  |e=>Q e s
 |_,_,_=>False
theorem b0V:∀(c:Code) (st:St) (Q:Exit->St->Prop),XW P G c st Q->SW P G c st Q
 | .skip,st,Q,h=>λbase R μ a w hr=>wp_skip ⟨st,R,μ,h,hr,.refl _ _ _⟩
 | .region id ops draw,st,Q,h=>by
  unfold XW at h;cases draw with
  |true=>exact h
  |false=>exact λbase R μ a w hr=>wp_region_list (d0D ops.toList st Q h base R μ a w hr _ λe s a' w' R' μ' q1 q2 q3=>⟨s,R',μ',q1,q2,q3⟩)
 | .seq x y,st,Q,h=>λbase R μ a w hr=>wp_seq (wp_mono (b0V x st _ h base R μ a w hr) λe a1 w1 ⟨s,R1,μ1,q1,q2,q3⟩=>by
   cases e with
   |normal=>exact wp_mono (b0V y s Q q1 base R1 μ1 a1 w1 q2) λe2 a2 w2 ⟨s2,R2,μ2,p1,p2,p3⟩=>⟨s2,R2,μ2,p1,p2,q3.trans p3⟩
   |_=>exact⟨s,R1,μ1,q1,q2,q3⟩)
 | .cond c x y,st,Q,h=>λbase R μ a w hr=>by
  unfold XW at h;split at h
  .rename_i t hc;refine wp_cond (hr.a1z hc) ?_;cases t
   .exact b0V y st Q h base R μ a w hr
   .exact b0V x st Q h base R μ a w hr
  .rename_i hc;obtain⟨t,ht⟩:=hr.d0a hc;refine wp_cond ht ?_;cases t
   .exact b0V y st Q h.2 base R μ a w hr
   .exact b0V x st Q h.1 base R μ a w hr
  .cases h
 | .block id c,st,Q,h=>λbase R μ a w hr=>wp_block (wp_mono (b0V c st _ h base R μ a w hr) λe a1 w1 ⟨s,R1,μ1,q1,q2,q3⟩=>by
   cases e with
   |exit id'=>
    simp only[Exit.inBlock];simp only at q1;by_cases hid:id'=id
    .rw[if_pos hid]at q1|-;exact⟨s,R1,μ1,q1,q2,q3⟩
    .rw[if_neg hid]at q1|-;exact⟨s,R1,μ1,q1,q2,q3⟩
   |_=>exact⟨s,R1,μ1,q1,q2,q3⟩)
 | .loop c,st,Q,h=>h
 | .exit id,st,Q,h=>λbase R μ a w hr=>wp_exit ⟨st,R,μ,h,hr,.refl _ _ _⟩
 | .ret,st,Q,h=>λbase R μ a w hr=>wp_ret ⟨st,R,μ,h,hr,.refl _ _ _⟩
 | .rangeFunc ..,_,_,h=>by simp[XW]at h
 | .scope c,st,Q,h=>λbase R μ a w hr=>wp_scope_straight (wp_mono (b0V c st _ h base R μ a w hr) λe a1 w1 ⟨s,R1,μ1,q1,q2,q3⟩=>by
   cases e with
   |goto l=>exact q1.elim
   |_=>exact⟨s,R1,μ1,q1,q2,q3⟩)
 | .label l,st,Q,h=>λbase R μ a w hr=>wp_label ⟨st,R,μ,h,hr,.refl _ _ _⟩
 | .goto ..,_,_,h=>by simp[XW]at h
inductive XI where
 |code (c:Code)
 |blk (id:Nat)
 |ops (all:Array Oper) (rest:List Oper)
 |scp
def XK(P:Program)(G:GT):List XI->Exit->St->(Exit->St->Prop)->Prop
 |[],e,st,Q=>Q e st
 | .code c::k,.normal,st,Q=>XW P G c st λe s=>XK P G k e s Q
 | .code _::k,e,st,Q=>XK P G k e st Q
 | .blk id::k,.exit id',st,Q=>if id'=id then XK P G k .normal st Q else XK P G k (.exit id') st Q
 | .blk _::k,e,st,Q=>XK P G k e st Q
 | .ops all rest::k,.normal,st,Q=>b6o P G all rest st λe s=>XK P G k e s Q
 | .ops _ _::k,e,st,Q=>XK P G k e st Q
 | .scp::_,.goto _,_,_=>False
 | .scp::k,e,st,Q=>XK P G k e st Q
def c5A(P:Program)(G:GT)(v:DV)(x y:Code)(k:List XI)(st:St)(Q:Exit->St->Prop):Prop:=
 match v with
 | .d (.bool t)=>if t then XK P G (.code x::k) .normal st Q else XK P G (.code y::k) .normal st Q
 | .qF=>XK P G (.code x::k) .normal st Q/\XK P G (.code y::k) .normal st Q
 |_=>False
end
section
variable {P:Program} {G:GT} {k:List XI} {st:St} {Q:Exit->St->Prop}
theorem e7C(e:Exit):XK P G [] e st Q=Q e st:=rfl
theorem e1U:XK P G (.code .skip::k) .normal st Q=XK P G k .normal st Q:=rfl
theorem e7D(x y:Code):XK P G (.code (.seq x y)::k) .normal st Q=XK P G (.code x::.code y::k) .normal st Q:=by simp only[XK,XW];congr 1;funext e s;cases e<;>rfl
theorem e1V(c:Operand)(x y:Code):XK P G (.code (.cond c x y)::k) .normal st Q=c5A P G (st.eval G c) x y k st Q:=rfl
theorem d5U(id:Nat)(c:Code):XK P G (.code (.block id c)::k) .normal st Q=XK P G (.code c::.blk id::k) .normal st Q:=by simp only[XK,XW];congr 1;funext e s;cases e<;>rfl
theorem d5V(l:Nat):XK P G (.code (.label l)::k) .normal st Q=XK P G k .normal st Q:=rfl
theorem b8I:XK P G (.scp::k) .normal st Q=XK P G k .normal st Q:=rfl
theorem c8F:XK P G (.scp::k) .ret st Q=XK P G k .ret st Q:=rfl
theorem c5B(id:Nat):XK P G (.scp::k) (.exit id) st Q=XK P G k (.exit id) st Q:=rfl
theorem d2h(id:Nat)(ops:Array Oper):XK P G (.code (.region id ops false)::k) .normal st Q=XK P G (.ops ops ops.toList::k) .normal st Q:=rfl
theorem d5W(id:Nat)(ops:Array Oper):XK P G (.code (.region id ops true)::k) .normal st Q=SW P G (.region id ops true) st (λe s=>XK P G k e s Q):=rfl
theorem e1W(id:Nat):XK P G (.code (.exit id)::k) .normal st Q=XK P G k (.exit id) st Q:=rfl
theorem e7E:XK P G (.code .ret::k) .normal st Q=XK P G k .ret st Q:=rfl
theorem e1X(c:Code):XK P G (.code (.loop c)::k) .normal st Q=SW P G (.loop c) st (λe s=>XK P G k e s Q):=rfl
theorem c5C(c:Code):XK P G (.code c::k) .ret st Q=XK P G k .ret st Q:=rfl
theorem c1Z(c:Code)(id:Nat):XK P G (.code c::k) (.exit id) st Q=XK P G k (.exit id) st Q:=rfl
theorem b8J(id:Nat):XK P G (.blk id::k) .normal st Q=XK P G k .normal st Q:=rfl
theorem c8G(id:Nat):XK P G (.blk id::k) .ret st Q=XK P G k .ret st Q:=rfl
theorem c5D(id id':Nat):XK P G (.blk id::k) (.exit id') st Q=if id'=id then XK P G k .normal st Q else XK P G k (.exit id') st Q:=rfl
theorem c8H(all:Array Oper):XK P G (.ops all []::k) .normal st Q=XK P G k .normal st Q:=rfl
theorem a3R(ps:List PanicEntry):∀k:List XI,XK P G k (.panic ps) st Q=Q (.panic ps) st
 |[]=>rfl
 | .code _::k=>by simpa only[XK]using a3R ps k
 | .blk _::k=>by simpa only[XK]using a3R ps k
 | .ops _ _::k=>by simpa only[XK]using a3R ps k
 | .scp::k=>by simpa only[XK]using a3R ps k
def mG(P:Program)(G:GT)(f:FuncId)(ds:List D)(ls:List (Option Loc))(dst:Option Tmp)(all:Array Oper)(rest:List Oper)(k:List XI)(st:St)(Q:Exit->St->Prop):Prop:=
 (∃r own,(Enters P f/\CS P G f ds r own)/\XK P G (.ops all rest::k) .normal (finish st dst r (a6b own)) Q)\/
 (∃s',(Enters P f/\oD P G f (ds.map .d) ls st dst s')/\XK P G (.ops all rest::k) .normal s' Q)
theorem mG.mk{ls:List (Option Loc)}{f:FuncId}{ds:List D}{r:DV}{own:Option TypeId}{dst:Option Tmp}{all:Array Oper}{rest:List Oper}(he:Enters P f)(hc:CS P G f ds r own)(h:XK P G (.ops all rest::k) .normal (finish st dst r (a6b own)) Q):mG P G f ds ls dst all rest k st Q:=.inl ⟨r,own,⟨he,hc⟩,h⟩
def c0l(P:Program)(G:GT)(x:Option Out)(dst:Option Tmp)(all:Array Oper)(rest:List Oper)(k:List XI)(Q:Exit->St->Prop):Prop:=
 match x with
 |some out=>XK P G (.ops all rest::k) .normal (finish out.st dst out.v out.act) Q
 |none=>False
theorem c8I{st':St}{v:DV}{act:OA}{dst:Option Tmp}{all:Array Oper}{rest:List Oper}:c0l P G (some ⟨v,act,st'⟩) dst all rest k Q=XK P G (.ops all rest::k) .normal (finish st' dst v act) Q:=rfl
theorem kK{c:Prop}[Decidable c]{out:Out}{dst:Option Tmp}{all:Array Oper}{rest:List Oper}(hc:c)(h:c0l P G (some out) dst all rest k Q):c0l P G (if c then some out else none) dst all rest k Q:=by rw[if_pos hc];exact h
theorem c8J(x y:Code):c5A P G (.d (.bool true)) x y k st Q=XK P G (.code x::k) .normal st Q:=rfl
theorem d2i(x y:Code):c5A P G .qF x y k st Q=(XK P G (.code x::k) .normal st Q/\XK P G (.code y::k) .normal st Q):=rfl
theorem c5E(x y:Code):c5A P G (.d (.bool false)) x y k st Q=XK P G (.code y::k) .normal st Q:=rfl
def dO(P:Program)(G:GT)(f:FuncId)(g0U:List DV)(ls:List (Option Loc))(dst:Option Tmp)(all:Array Oper)(rest:List Oper)(k:List XI)(st:St)(Q:Exit->St->Prop):Prop:=
 ∃x0,tF P G f g0U ls dst st (λs=>XK P G (.ops all rest::k) .normal s Q) (λe s=>XK P G k e s Q) x0
theorem dO.mk{f:FuncId}{g0U:List DV}{ls:List (Option Loc)}{dst:Option Tmp}{all:Array Oper}{rest:List Oper}{x0:Bool}(h:tF P G f g0U ls dst st (λs=>XK P G (.ops all rest::k) .normal s Q) Q x0):dO P G f g0U ls dst all rest k st Q:=by
 refine⟨x0,?_⟩;unfold tF at h|-;refine⟨h.1,h.2.1,λh0=>?_⟩;obtain⟨v,h1,h2⟩:=h.2.2 h0;refine⟨v,h1,?_⟩
 show XK P G k (.panic (a0Z v)) (a2I st) Q
 rw[a3R];exact h2
def a6H(P:Program)(G:GT)(o:Oper)(all:Array Oper)(rest:List Oper)(k:List XI)(st:St)(Q:Exit->St->Prop):Prop:=
 match kB G o st with
 |some (f,ds)=>mG P G f ds (mM o) o.dst all rest k st Q
 |none=>
  match dK G o st with
  |some (f,g0U)=>dO P G f g0U (mM o) o.dst all rest k st Q
  |none=>c0l P G ((mV P G o st).map λout=>⟨out.v,b0r false all o out.v out.act,out.st⟩) o.dst all rest k Q
def a4J(P:Program)(G:GT)(y:DV)(want:Bool)(o:Oper)(all:Array Oper)(rest:List Oper)(k:List XI)(st:St)(Q:Exit->St->Prop):Prop:=
 match y with
 | .undef=>False
 | .qF=>False
 | .d (.bool b)=>if b=want then a6H P G o all rest k st Q else XK P G (.ops all rest::k) .normal (finish st o.dst (.cI []) .no) Q
 |_=>XK P G (.ops all rest::k) .normal (finish st o.dst (.cI []) .no) Q
theorem a2L(b want:Bool)(o:Oper)(all:Array Oper)(rest:List Oper):a4J P G (.d (.bool b)) want o all rest k st Q=if b=want then a6H P G o all rest k st Q else XK P G (.ops all rest::k) .normal (finish st o.dst (.cI []) .no) Q:=rfl
theorem c8K(ds:List D)(want:Bool)(o:Oper)(all:Array Oper)(rest:List Oper):a4J P G (.cI ds) want o all rest k st Q=XK P G (.ops all rest::k) .normal (finish st o.dst (.cI []) .no) Q:=rfl
theorem d2j(o:Oper)(all:Array Oper)(rest:List Oper):a4J P G (.d (.bool true)) true o all rest k st Q=a6H P G o all rest k st Q:=by rw[a2L,if_pos rfl]
theorem d2k(o:Oper)(all:Array Oper)(rest:List Oper):a4J P G (.d (.bool false)) false o all rest k st Q=a6H P G o all rest k st Q:=by rw[a2L,if_pos rfl]
theorem d2l(o:Oper)(all:Array Oper)(rest:List Oper):a4J P G (.d (.bool true)) false o all rest k st Q=XK P G (.ops all rest::k) .normal (finish st o.dst (.cI []) .no) Q:=by rw[a2L,if_neg (by decide)]
theorem d2m(o:Oper)(all:Array Oper)(rest:List Oper):a4J P G (.d (.bool false)) true o all rest k st Q=XK P G (.ops all rest::k) .normal (finish st o.dst (.cI []) .no) Q:=by rw[a2L,if_neg (by decide)]
theorem b3A(all:Array Oper)(o:Oper)(rest:List Oper):XK P G (.ops all (o::rest)::k) .normal st Q=match eJ o all st.tmps with
  |some true=>a6H P G o all rest k st Q
  |some false=>XK P G (.ops all rest::k) .normal (finish st o.dst (.cI []) .no) Q
  |none=>False:=by
 simp only[XK,b6o,a6H,mG,dO,c0l];cases eJ o all st.tmps with
 |none=>rfl
 |some b=>
  cases b with
  |false=>rfl
  |true=>
   simp only;cases kB G o st with
   |some p=>rfl
   |none=>
    simp only;cases dK G o st with
    |some p=>rfl
    |none=>simp only;cases mV P G o st<;>rfl
theorem c5F(all:Array Oper)(dst:Option Tmp)(op:Op)(ty:TypeId)(pos:String)(after:Array Edge)(rest:List Oper):
  XK P G (.ops all (⟨dst,op,ty,pos,after,none⟩::rest)::k) .normal st Q=a6H P G ⟨dst,op,ty,pos,after,none⟩ all rest k st Q:=by
 rw[b3A]
 rfl
theorem c2a(all:Array Oper)(dst:Option Tmp)(op:Op)(ty:TypeId)(pos:String)(after:Array Edge)(j:Nat)(want:Bool)(rest:List Oper):
  XK P G (.ops all (⟨dst,op,ty,pos,after,some (j,want)⟩::rest)::k) .normal st Q=a4J P G (vK all st.tmps j) want ⟨dst,op,ty,pos,after,some (j,want)⟩ all rest k st Q:=by
 rw[b3A];simp only[eJ,a4J];generalize vK all st.tmps j=y;cases y with
 |d x=>
  cases x with
  |bool b=>cases b<;>cases want<;>rfl
  |_=>rfl
 |_=>rfl
theorem SW.xk{c:Code}(h:XK P G [.code c] .normal st Q):SW P G c st Q:=b0V c st Q h
theorem SW.vR{c:Code}{ι:Type}(ws:ι->List (Nat×DV))(H:ι->List (Nat×bD))(own:ι->List (TypeId×List Loc))(m:ι->Nat)(x0:ι)(h0:wI st (gS c st (ws x0) (H x0) (own x0)))(round:∀x,XK P G [.code c] .normal (gS c st (ws x) (H x) (own x)) λe s=>match e with
   | .normal=>bC (λy=>gS c st (ws y) (H y) (own y)) m x s
   |e=>Q e s):SW P G (.loop c) st Q:=SW.f0P ws H own m x0 h0 λx=>SW.xk (round x)
end
attribute [irreducible] XK mG dO c0l c5A a4J
attribute [simp] d5V b8I c8F c5B e7C e1U e7D e1V d5U d2h d5W e1W e7E e1X c5C c1Z b8J c8G c5D c8H c5F c2a a6H c8I c8J c5E d2i c8K d2j d2k d2l d2m a3R
end Go.VM
end
section
namespace Go.VM
open Go Go.RowKit
section
variable {P:Program} {G:GT} {st:St} {base:dH} {R:Nat->Nat->Prop} {μ:Nat->Nat} {a:Act} {w:World}
def a7E:Op->Bool
 | .move _=>true
 | .nilCheck _=>true
 | .fieldAddr _ _ _=>true
 |_=>false
theorem b6p{o:Oper}{all:Array Oper}{K:St->Prop}(hg:o.guard=none)(hk:a7E o.op=true)(h:pC P G true all o K st)(hr:Rel P G base R μ st a w):∃v,∀w',(execOp a.eval o).run P w'=.ok (.value v) w':=by
 unfold pC at h;rw[show eJ o all st.tmps=some true from by unfold eJ;rw[hg]]at h;cases oV:o.op with
 |move x=>exact⟨a.eval x,λw'=>by simp[execOp,oV]⟩
 |nilCheck x=>
  simp only[kB,dK,oV,mV]at h;unfold wN at h;split at h
  .rename_i out ho;split at ho
   .rename_i k off hx;exact⟨_,λw'=>by simp[execOp,oV,hr.dU hx];rfl⟩
   .rename_i cs hx;obtain⟨b,off,he,_⟩:=(hr.pB hx).a5U;exact⟨_,λw'=>by simp[execOp,oV,he];rfl⟩
   .rename_i f hx;exact⟨_,λw'=>by simp[execOp,oV,hr.b5e hx];rfl⟩
   .rename_i f cs hx;obtain⟨vs,he,_,_⟩:=(hr.pB hx).b0m;exact⟨_,λw'=>by simp[execOp,oV,he];rfl⟩
   .cases ho
  .exact h.elim
 |fieldAddr t x i=>
  simp only[kB,dK,oV,mV]at h;unfold tP at h;split at h
  .rename_i out ho;split at ho
   .rename_i off u hf;split at ho
    .cases ho
    .rename_i eU;split at ho
     .rename_i k o2 hx;exact⟨_,λw'=>zB (P:=P) oV hf eU (hr.dU hx)⟩
     .rename_i cs hx;obtain⟨b,o2,he,_⟩:=(hr.pB hx).a5U;exact⟨_,λw'=>zB (P:=P) oV hf eU he⟩
     .cases ho
   .cases ho
  .exact h.elim
 |_=>simp[a7E,oV]at hk
theorem c5G{o:Oper}{all:Array Oper}{K:St->Prop}(hg:o.guard=none)(hk:a7E o.op=true)(h:pC P G true all o K st)(hr:Rel P G base R μ st a w):
  ∃v s R' μ',(∀w',(execOp a.eval o).run P w'=.ok (.value v) w')/\K s/\Rel P G base R' μ' s (a.put o.dst v) w/\Step base R w R' w:=by
 obtain⟨v,hv⟩:=b6p hg hk h hr;have h1:=tE (Q:=λ_ _ _=>False) (KK:=λa' w'=>∃s R' μ',K s/\Rel P G base R' μ' s a' w'/\Step base R w R' w') h hr (λs v w' R' μ' q1 q2 q3=>⟨s,R',μ',q1,q2,q3⟩);rw[if_pos (by unfold Region.wanted;rw[hg])]at h1;rcases h1 with h1|⟨_,_,_,h2⟩
 .unfold Oper.wp at h1;rw[hv w]at h1;obtain⟨s,R',μ',q1,q2,q3⟩:=h1;exact⟨v,s,R',μ',hv,q1,q2,q3⟩
 .exact h2.elim
def b6q(ops:Array Oper):List Nat->Array Bool->Bool
 |[],_=>true
 |i::r,listed=>(match ops[i]? with
  |some o=>a7E o.op&&(o.guard==none)&&o.dst.isSome
  |none=>false)&&Region.noSelect ops&&Region.free .any ops listed i&&(Region.ready .any ops listed).contains i&&b6q ops r (listed.setIfInBounds i true)
theorem c2b{ops:Array Oper}{K:St->Prop}{QQ:Exit->Act->World->Prop}(hQ:∀c a a' w,a.defers=a'.defers->a.tmps.size=a'.tmps.size->QQ (.panic c) a w->QQ (.panic c) a' w):∀(l:List Nat) (listed:Array Bool) (fuel:Nat) (st:St),b6q ops l listed=true->vG P G true ops (sel ops l) st K->
  ∀(base:dH) (R:Nat->Nat->Prop) (μ:Nat->Nat) (a:Act) (w:World),Rel P G base R μ st a w->(∀s a' R' μ',K s->Rel P G base R' μ' s a' w->Step base R w R' w->wpAny P .any ops QQ fuel (cN l listed) a' w)->wpAny P .any ops QQ (l.length+fuel) listed a w
 |[],listed,fuel,st,_,h,base,R,μ,a,w,hr,hk=>by simpa[cN]using hk st a R μ h hr (.refl _ _ _)
 |i::l,listed,fuel,st,hB,h,base,R,μ,a,w,hr,hk=>by
  simp only[b6q,g0W]at hB;obtain⟨⟨⟨⟨ho,d5X⟩,hf⟩,hrd⟩,hB'⟩:=hB;split at ho;rotate_left
  .cases ho
  rename_i o hoi;simp only[g0W,beq_iff_eq]at ho;obtain⟨⟨hsk,hg⟩,hd⟩:=ho;simp only[sel,hoi,vG]at h;obtain⟨v,s,R',μ',hv,hK,gD,rE⟩:=c5G hg hsk h hr;rw[show(i::l).length+fuel=(l.length+fuel)+1 by simp only[List.length_cons];omega];refine wpAny_take (v:=v) hoi d5X hf hrd (λc a w h=>hQ c _ _ w ?_ ?_ h) (.inl ⟨by unfold Region.wanted;rw[hg],hv⟩) ?_
  .cases o.dst<;>rfl
  .cases o.dst<;>simp[Act.put]
  .exact c2b hQ l _ fuel s hB' hK base R' μ' _ w gD λs2 a2 R2 μ2 q1 q2 q3=>hk s2 a2 R2 μ2 q1 q2 (rE.trans q3)
def a0m(Q:Exit->St->Prop):Exit->St->Prop:=λe s=>match e with
 | .panic c=>∀s,Q (.panic c) s
 |e=>Q e s
theorem c2c{Q:Exit->St->Prop}{s:St}:a0m Q .normal s=Q .normal s:=rfl
theorem a6I{Q:Exit->St->Prop}{s:St}{c:List PanicEntry}:a0m Q (.panic c) s=∀s,Q (.panic c) s:=rfl
theorem b6r{Q:Exit->St->Prop}{e:Exit}{s:St}(h:a0m Q e s):Q e s:=by cases e<;>first|exact h|exact h s
theorem Rel.b6s(hr:Rel P G base R μ st a w)(a':Act)(hd:a'.defers=[]):Rel P G base R μ ⟨List.replicate a'.tmps.size .undef,[],[]⟩ a' w where
 defers:=hd
 size:=by simp
 tmps:=λi v d _ hd=>by
  rw[List.getElem?_replicate]at hd;split at hd
  .simp at hd;subst hd;exact .undef _
  .cases hd
 jR:=λk o h=>by cases h
 inj:=λk k' o o' h=>by cases h
 eC:=λc hc=>by cases hc
 own:=⟨[],rfl,λi c v h _=>by simp at h,.nil⟩
 vL:=hr.vL
 qP:=hr.qP
 base:=hr.base
 pass:=hr.pass
theorem a6J{ops:Array Oper}:∀(l:List Nat) (listed:Array Bool),b6q ops l listed=true->gF ops listed->gF ops (cN l listed)
 |[],_,_,h=>h
 |i::l,listed,hB,h=>by simp only[b6q,g0W]at hB;exact a6J l _ hB.2 (h.set (by simpa using hB.1.2))
def e4I(ops:Array Oper)(ss:List Nat)(c:Nat)(sF:List Nat)(T:Ord):Bool:=(gE ops).isEmpty&&b6q ops ss (Array.replicate ops.size false)&&decide (ss.length+sF.length+1<=ops.size)&&inB ops c sF&&b0O ops c sF (cN ss (Array.replicate ops.size false))&& !(Region.ready .any ops (cN sF (cN ss (Array.replicate ops.size false)))).isEmpty&&((Region.ready .any ops (cN sF (cN ss (Array.replicate ops.size false)))).all λj=>a4H c T j)&&b6l ops c T (ops.size-ss.length-sF.length) (cN sF (cN ss (Array.replicate ops.size false)))
theorem gF.zero{ops:Array Oper}:gF ops (Array.replicate ops.size false):=λk hk=>by
 rcases Nat.lt_or_ge k ops.size with h'|h'
 .simp[h']at hk
 .simp[Nat.not_lt.2 h']at hk
theorem gC{id:Nat}{ops:Array Oper}{Q:Exit->St->Prop}(ss:List Nat)(c:Nat)(sF:List Nat)(T:Ord)(x0:Bool)(hm:P.follows .mixedOrders=true)(hB:e4I ops ss c sF T=true)(h:VK P G [.ops true ops (sel ops ss)] .normal st λ_ s=>VK P G [.ops true ops (sel ops sF)] .normal s λ_ s=>qV P G ops c (a0m Q) x0 T s):SW P G (.region id ops true) st Q:=by
 simp only[e4I,g0W,List.isEmpty_iff,decide_eq_true_eq,Bool.not_eq_true',List.isEmpty_eq_false_iff,g0Z]at hB;obtain⟨⟨⟨⟨⟨⟨⟨hN,mU⟩,hlen⟩,xE⟩,hs⟩,eU⟩,dR⟩,ht⟩:=hB;obtain⟨k,hk⟩:=Nat.exists_eq_add_of_le hlen;have pM:=a6J ss _ mU gF.zero;have e:ops.size-ss.length-sF.length=k+1:=by omega
 rw[e]at ht;refine SW.mono (λe s=>b6r) ?_;intro base R μ a w hr;obtain⟨gD,rE⟩:=hr.drew;refine wp_region_any hm ?_;simp only[VK]at h;have main:=c2b (QQ:=λe a' w'=>∃s' R' μ',a0m Q e s'/\Rel P G base R' μ' s' a' w'/\Step base R w R' w') (K:=λs=>vG P G true ops (sel ops sF) s λs=>qV P G ops c (a0m Q) x0 T s) (λc a a' w h1 h2 ⟨s',R',μ',q1,q2,q3⟩=>⟨⟨List.replicate a'.tmps.size .undef,[],[]⟩,R',μ',q1,q2.b6s a' (h1▸q2.defers),q3⟩) ss _ (sF.length+(k+1)) st mU h base R μ a w.drew gD λs a' R1 μ1 q1 q2 q3=>by
  cases x0 with
  |false=>have h2:=wR (λs hs=>qV.pan T s hs) _ _ q1;have:=a7C (P:=P) (G:=G) (c:=c) (Z:=a2J P G ops c (a0m Q)) hN sF _ s (k+1) pM xE hs (uQ (λs rE=>⟨eU,λj hj=>a6F T k _ s ht rE j hj (dR j hj)⟩) _ _ (xX sF s xE h2));exact b0S _ _ s this base R1 μ1 a' w.drew q2 λv s a' w' R' μ' p1 p2 p3=>⟨s,R',μ',p1,p2,rE.trans (q3.trans p3)⟩
  |true=>have h2:=wR (λs hs=>qV.ret T s hs) _ _ q1;have:=a7B (P:=P) (G:=G) (c:=c) (Q:=λs=>a0m Q .normal s) hN sF _ s (k+1) pM hs (uQ (λs rE=>⟨λh'=>(eU h').elim,λj hj=>b0P hN T k _ s (gF.cN sF _ pM hs) ht rE j hj (dR j hj)⟩) _ _ (xX sF s xE h2)) λ_=>trivial;exact b0N _ _ s this base R1 μ1 a' w.drew q2 λs a' w' R' μ' p1 p2 p3=>⟨s,R',μ',p1,p2,rE.trans (q3.trans p3)⟩
 rw[show ss.length+(sF.length+(k+1))=ops.size by omega]at main;exact main
def c2d(ops:Array Oper)(m:Nat)(ss:List Nat)(c:Nat)(sF:List Nat)(T:Ord):Bool:=(gE ops).isEmpty&&b6q ops ss (Array.replicate ops.size false)&&d5S m ss&&decide (ss.length+sF.length+1<=m)&&decide (m<=ops.size)&&zV ops m&&d5S m sF&&inB ops c sF&&b0O ops c sF (cN ss (Array.replicate ops.size false))&& !(Region.ready .any ops (cN sF (cN ss (Array.replicate ops.size false)))).isEmpty&&((Region.ready .any ops (cN sF (cN ss (Array.replicate ops.size false)))).all λj=>a4H c T j)&&a8D ops m c T (m-ss.length-sF.length) (cN sF (cN ss (Array.replicate ops.size false)))
theorem b0W{id:Nat}{ops:Array Oper}{m:Nat}{TT:St->Prop}{Q:Exit->St->Prop}(ss:List Nat)(c:Nat)(sF:List Nat)(T:Ord)(x0:Bool)(hm:P.follows .mixedOrders=true)(hB:c2d ops m ss c sF T=true)(h:VK P G [.ops true ops (sel ops ss)] .normal st λ_ s=>VK P G [.ops true ops (sel ops sF)] .normal s λ_ s=>qV P G ops c (b6n TT (a0m Q)) x0 T s)(hT:∀s base R μ a w (QQ:Exit->Act->World->Prop),TT s->Rel P G base R μ s a w->(∀s' a' w' R' μ',Q .normal s'->Rel P G base R' μ' s' a' w'->Step base R w R' w'->QQ .normal a' w')->wpAny P .any ops QQ (ops.size-m) (qU m ops.size) a w):SW P G (.region id ops true) st Q:=by
 simp only[c2d,g0W,List.isEmpty_iff,decide_eq_true_eq,Bool.not_eq_true',List.isEmpty_eq_false_iff,g0Z]at hB;obtain⟨⟨⟨⟨⟨⟨⟨⟨⟨⟨⟨hN,mU⟩,f6R⟩,hlen⟩,f0C⟩,hTA⟩,cC⟩,xE⟩,hs⟩,eU⟩,dR⟩,ht⟩:=hB;obtain⟨k,hk⟩:=Nat.exists_eq_add_of_le hlen;have pM:=a6J ss _ mU gF.zero;have e:m-ss.length-sF.length=k+1:=by omega
 rw[e]at ht;obtain⟨k',hk'⟩:=Nat.exists_eq_add_of_le (Nat.le_trans hlen f0C);refine SW.mono (λe s=>b6r) ?_;intro base R μ a w hr;obtain⟨gD,rE⟩:=hr.drew;refine wp_region_any hm ?_;simp only[VK]at h;have main:=c2b (QQ:=λe a' w'=>∃s' R' μ',a0m Q e s'/\Rel P G base R' μ' s' a' w'/\Step base R w R' w') (K:=λs=>vG P G true ops (sel ops sF) s λs=>qV P G ops c (b6n TT (a0m Q)) x0 T s) (λc a a' w h1 h2 ⟨s',R',μ',q1,q2,q3⟩=>⟨⟨List.replicate a'.tmps.size .undef,[],[]⟩,R',μ',q1,q2.b6s a' (h1▸q2.defers),q3⟩) ss _ (sF.length+(k'+1)) st mU h base R μ a w.drew gD λs a' R1 μ1 q1 q2 q3=>by
  cases x0 with
  |false=>have h2:=wR (λs hs=>qV.pan T s hs) _ _ q1;have:=a7C (P:=P) (G:=G) (c:=c) (Z:=a2J P G ops c (b6n TT (a0m Q))) hN sF _ s (k'+1) pM xE hs (uQ (λs rE=>⟨eU,λj hj=>a7D T k k' _ s (by omega) ht rE j hj (dR j hj)⟩) _ _ (xX sF s xE h2));exact b0S _ _ s this base R1 μ1 a' w.drew q2 λv s a' w' R' μ' p1 p2 p3=>⟨s,R',μ',p1,p2,rE.trans (q3.trans p3)⟩
  |true=>
   have h2:=wR (λs hs=>qV.ret T s hs) _ _ q1;have h3:=a9w (P:=P) (G:=G) (m:=m) (c:=c) (Q:=TT) hTA hN sF _ s (k+1) cC pM hs (uQ (λs rE=>⟨eU,λj hj=>b0T hTA hN T k _ s (gF.cN sF _ pM hs) ht rE j hj (dR j hj)⟩) _ _ (xX sF s xE h2));have h4:=c0k (r:=ops.size-m) (QQ:=λe a' w'=>∃s' R' μ',a0m Q e s'/\Rel P G base R' μ' s' a' w'/\Step base R w R' w') _ _ s h3 base R1 μ1 a' w.drew q2 λs a' w' R' μ' p1 p2 p3=>hT s base R' μ' a' w' _ p1 p2 λs2 a2 w2 R2 μ2 o1 o2 o3=>⟨s2,R2,μ2,o1,o2,rE.trans (q3.trans (p3.trans o3))⟩
   rw[show sF.length+(k+1)+(ops.size-m)=sF.length+(k'+1) by omega]at h4;exact h4
 rw[show ss.length+(sF.length+(k'+1))=ops.size by omega]at main;exact main
theorem b0X{id:Nat}{ops:Array Oper}{Q:Exit->St->Prop}(m:Nat){t e:TypeId}{s z r p q x b:Tmp}{y0 y1 y2 y3:TypeId}{p0 p1 p2 p3:String}{f0 f1 f2 f3:Array Edge}(ss:List Nat)(c:Nat)(sF:List Nat)(T:Ord)(x0:Bool)(h0:ops[m]? =some ⟨some r,.call {callee:=.builtin .append,args:=#[.tmp s,.tmp z],argTypes:=#[t,t]},y0,p0,f0,none⟩)(h1:ops[m+1]? =some ⟨some p,.indexAddr t (.tmp r) (.tmp q),y1,p1,f1,none⟩)(h2:ops[m+2]? =some ⟨none,.store e (.tmp p) (.tmp x),y2,p2,f2,none⟩)(h3:ops[m+3]? =some ⟨none,.store t (.tmp b) (.tmp r),y3,p3,f3,none⟩)(hB:(P.follows .mixedOrders&&c2d ops m ss c sF T&&c0i ops m)=true)(oI:(jK P e&&decide ((r≠q/\r≠x/\r≠p/\r≠b)/\p≠x/\p≠b))=true)(hu:P.underlying t=some (.slice e))(h:VK P G [.ops true ops (sel ops ss)] .normal st λ_ s1=>VK P G [.ops true ops (sel ops sF)] .normal s1 λ_ s1=>qV P G ops c (b6n (e7v P G t e s z r p q x b (λs'=>Q .normal s')) (a0m Q)) x0 T s1):SW P G (.region id ops true) st Q:=by
 rw[g0W,g0W]at hB;obtain⟨⟨hm,hL⟩,hR⟩:=hB;rw[g0W,decide_eq_true_eq]at oI;simp only[c0i,g0W,decide_eq_true_eq,beq_iff_eq]at hR;obtain⟨⟨⟨⟨⟨⟨⟨⟨⟨⟨jZ,r0⟩,r1⟩,r2⟩,r3⟩,r4⟩,r5⟩,r6⟩,r7⟩,r8⟩,r9⟩:=hR;have h4:ops.size-m=4:=by rw[jZ];exact Nat.add_sub_cancel_left ..
 refine b0W ss c sF T x0 hm hL h ?_;rintro s1 base R μ a w QQ ⟨xs,z0,c,eP,out,k0,k1,k2,k3,k4,k5,k6,k7,k8,k9,k10,k11⟩ hr hk;rw[h4];exact e1Q (Q:=λs'=>Q .normal s') h0 h1 h2 h3 r0 r1 r2 r3 r4 r5 r6 r7 r8 r9 oI.1 hu oI.2 k0 k1 k2 k3 k4 k5 k6 k7 k8 k9 k10 k11 hr hk
theorem eE{id:Nat}{ops:Array Oper}{Q:Exit->St->Prop}(m:Nat){t e T:TypeId}{s z r p q x b y:Tmp}{fd:Nat}{y0 y1 y2 y3 y4:TypeId}{p0 p1 p2 p3 p4:String}{f0 f1 f2 f3 f4:Array Edge}(ss:List Nat)(c:Nat)(sF:List Nat)(O:Ord)(x0:Bool)(h0:ops[m]? =some ⟨some r,.call {callee:=.builtin .append,args:=#[.tmp s,.tmp z],argTypes:=#[t,t]},y0,p0,f0,none⟩)(h1:ops[m+1]? =some ⟨some p,.indexAddr t (.tmp r) (.tmp q),y1,p1,f1,none⟩)(h2:ops[m+2]? =some ⟨none,.store e (.tmp p) (.tmp x),y2,p2,f2,none⟩)(h3:ops[m+3]? =some ⟨some b,.fieldAddr T (.tmp y) fd,y3,p3,f3,none⟩)(h4:ops[m+4]? =some ⟨none,.store t (.tmp b) (.tmp r),y4,p4,f4,none⟩)(hB:(P.follows .mixedOrders&&c2d ops m ss c sF O&&decide (ops.size=m+5)&&b4R ops (qU m ops.size) m (m+1) (m+2) (m+3) (m+4))=true)(oI:(jK P e&&decide ((r≠q/\r≠x/\r≠p/\r≠b/\r≠y)/\(p≠x/\p≠b/\p≠y)/\b≠q/\b≠x))=true)(hu:P.underlying t=some (.slice e))(h:VK P G [.ops true ops (sel ops ss)] .normal st λ_ s1=>VK P G [.ops true ops (sel ops sF)] .normal s1 λ_ s1=>qV P G ops c (b6n (d0C P G t e T s z r p q x b y fd (λs'=>Q .normal s')) (a0m Q)) x0 O s1):SW P G (.region id ops true) st Q:=by
 rw[g0W,g0W,g0W,decide_eq_true_eq]at hB;obtain⟨⟨⟨hm,hL⟩,jZ⟩,hR⟩:=hB;rw[g0W,decide_eq_true_eq]at oI;have h5:ops.size-m=5:=by rw[jZ];exact Nat.add_sub_cancel_left ..
 refine b0W ss c sF O x0 hm hL h ?_;rintro s1 base R μ a w QQ ⟨xs,z0,c,eP,kb0,xO,fo,u,out,k0,k1,k2,k3,k4,k5,k6,k7,k8,k9,k10,k11,k12,k13,k14⟩ hr hk;rw[h5];exact c5z (Q:=λs'=>Q .normal s') h0 h1 h2 h3 h4 hR oI.1 hu oI.2 k0 k1 k2 k3 k4 k5 k6 k7 k8 k9 k10 k11 k12 k13 k14 hr hk
def d5Y:List DV->List DV->Prop
 |[],[]=>True
 |d::ds,d'::ds'=>(d'=.undef\/a9o d d')/\d5Y ds ds'
 |_,_=>False
def e1Y:bD->bD->Prop
 | .cells cs,.cells wF=>d5Y cs wF
 |o,o'=>o'=o
def d5Z(H:List (Nat×bD)):List (Nat×bD)->Prop
 |[]=>True
 |(k,o')::r=>(∃o,getKey k H=some o/\e1Y o o')/\d5Z H r
theorem c0m:∀ {cs wF:List DV},d5Y cs wF->wF.length=cs.length/\∀(i:Nat) (d':DV),wF[i]? =some d'->∃d,cs[i]? =some d/\(d'=.undef\/a9o d d')
 |[],[],_=>⟨rfl,λi d' h=>by simp at h⟩
 |d::ds,d'::ds',h=>by
  obtain⟨h1,h2⟩:=c0m h.2;refine⟨by simp[h1],λi e he=>?_⟩;cases i with
  |zero=>simp at he;subst he;exact⟨d,rfl,h.1⟩
  |succ i=>simpa using h2 i e (by simpa using he)
theorem c0n{H:List (Nat×bD)}:∀ {H1:List (Nat×bD)},d5Z H H1->∀k o',getKey k H1=some o'->∃o,getKey k H=some o/\e1Y o o'
 |[],_,k,o',h=>by simp[getKey]at h
 |(k0,o0)::r,hw,k,o',h=>by
  unfold getKey at h;split at h
  .rename_i he;cases h;subst he;exact hw.1
  .exact c0n hw.2 k o' h
theorem e1Z{x y:D}(h:WkD x y)(hx:x.one=true):y.one=true:=by cases h<;>first|exact hx|rfl|(simp[D.one]at hx|-)
theorem d2n{d d':DV}(h:a9o d d')(hc:d.cell=true):d'.cell=true:=by cases d<;>cases d'<;>simp only[a9o]at h<;>first|exact e1Z h hc|(cases h;exact hc)|(cases h;done)|(simp[DV.cell]at hc)
theorem d6a{b:Nat}{o o':bD}(h:e1Y o o')(hr:gL R μ w b o):gL R μ w b o':=by
 cases o with
 |cells cs=>
  cases o' with
  |cells wF=>
   obtain⟨q1,q2⟩:=c0m h;obtain⟨vs,T,h1,h2,h3,h4⟩:=hr;refine⟨vs,T,h1,by rw[h2,q1],λi d' hd'=>?_,λT' hm=>?_⟩
   .obtain⟨d,hd,hc⟩:=q2 i d' hd';obtain⟨p1,p2⟩:=h3 i d hd;rcases hc with rfl|hc
    .exact⟨rfl,.undef _⟩
    .exact⟨d2n hc p1,p2.wk hc⟩
   .obtain⟨i,hi⟩:=g1n hm;obtain⟨d,hd,hc⟩:=q2 i _ hi;rcases hc with hc|hc
    .cases hc
    .have:d=.zY T':=by cases d<;>simp only[a9o]at hc<;>first|exact hc|cases hc
     subst this;exact h4 T' (g1b hd)
  |map es=>cases h
  |iter s p=>cases h
  |bld T u es=>cases h
 |map es=>cases o'<;>first|(cases h;exact hr)|cases h
 |iter s p=>cases o'<;>first|(cases h;exact hr)|cases h
 |bld T u es=>cases o'<;>first|(cases h;exact hr)|cases h
structure d6b (s s':St):Prop where
 tmps:WkT s.tmps s'.tmps
 H:d5Z s.H s'.H
 own:b0x s s.own s'.own=true
 keys:bH s'.H s'.own=true
theorem d2o(s s':St):d6b s s'↔WkT s.tmps s'.tmps/\d5Z s.H s'.H/\b0x s s.own s'.own=true/\bH s'.H s'.own=true:=⟨λh=>⟨h.tmps,h.H,h.own,h.keys⟩,λh=>⟨h.1,h.2.1,h.2.2.1,h.2.2.2⟩⟩
theorem Rel.e4J{st':St}(hr:Rel P G base R μ st a w)(h:d6b st st'):Rel P G base R μ st' a w:=by
 obtain⟨h1,h2⟩:=a0h h.tmps;have h3:=c0n h.H;refine⟨hr.defers,by rw[hr.size,h1],λi v d' hv hd'=>?_,λk o' hk=>?_,λk k' o o' hk hk' he=>?_,λc hc k off hl=>?_,?_,hr.vL,hr.qP,hr.base,hr.pass⟩
 .obtain⟨d,hd,hc⟩:=h2 i d' hd';have:=hr.tmps i v d hv hd;rcases hc with rfl|rfl|⟨rfl,rfl⟩
  .exact .undef _
  .exact this
  .obtain⟨ao,rfl⟩:=this.a9b.kT;exact .d _ _ (.emp _ _)
 .obtain⟨o,ho,hw⟩:=h3 k o' hk;obtain⟨q1,q2,q3⟩:=hr.jR k o ho;exact⟨q1,q2,d6a hw q3⟩
 .obtain⟨o1,ho1,_⟩:=h3 k o hk;obtain⟨o2,ho2,_⟩:=h3 k' o' hk';exact hr.inj k k' o1 o2 ho1 ho2 he
 .have:=g0Z.1 h.keys c hc;have:=g0Z.1 this _ hl;exact Option.isSome_iff_exists.1 this
 .obtain⟨vs,rO⟩:=hr.own;obtain⟨vs',hv',_⟩:=a6i hr st'.own st.own vs ⟨rO.len,rO.one,rO.apart⟩ h.own;refine⟨vs',hv'.len,λi c v hc hv=>?_,hv'.apart⟩;have ho:=hv'.one i c v hc hv;exact⟨ho.eC,ho.own,λk o hk=>by obtain⟨o1,ho1,_⟩:=h3 k o hk;exact ho.keys k o1 ho1⟩
theorem zC(a:List (List D))(x y:List D)(h:WkL x y):c1F (a++[x]) (a++[y]):=by
 refine⟨by simp,λi d d' h1 h2=>?_⟩;by_cases hi:i<a.length
 .rw[g1h hi]at h1 h2;rw[h1]at h2;cases h2;simp
 .rw[g1e (by omega)]at h1 h2;cases hk:i-a.length with
  |zero=>rw[hk]at h1 h2;simp at h1 h2;subst h1 h2;exact h
  |succ n=>rw[hk]at h1;simp at h1
def a4K(P:Program)(s:St)(rs:List ResultVar)(d:DV)(H1:List (Nat×bD))(own1:List (TypeId×List Loc)):Prop:=match a2F P s rs with
 |some r=>d6b (b3l s rs r) ⟨[r],H1,own1⟩/\a9o r d
 |none=>False
theorem Rel.e7F{r d:DV}{H1:List (Nat×bD)}{own1:List (TypeId×List Loc)}{v:Value}(gD:Rel P G base R μ ⟨[r],H1,own1⟩ {tmps:=#[v],defers:=[]} w)(hw:a9o r d):Rel P G base R μ ⟨[d],H1,own1⟩ {tmps:=#[v],defers:=[]} w:=
 ⟨gD.defers,gD.size,λi u d0 hu hd=>by
  cases i with
  |zero=>simp at hd;subst hd;exact(gD.tmps 0 u r hu rfl).wk hw
  |succ i=>simp at hd,gD.jR,gD.inj,gD.eC,by
  obtain⟨vs,h1,h2,h3⟩:=gD.own;exact⟨vs,h1,λi c v hc hv=>⟨(h2 i c v hc hv).eC,(h2 i c v hc hv).own,(h2 i c v hc hv).keys⟩,h3⟩,gD.vL,gD.qP,gD.base,gD.pass⟩
theorem CH.b6t{f:FuncId}{fn:Func}{c:Code}{n:Nat}{s0:St}{d:DV}{H1:List (Nat×bD)}{own1:List (TypeId×List Loc)}(hf:P.funcs[f]? =some fn)(hb:fn.body=some c)(hn:fn.ntmps=n){rs:List ResultVar}(hrs:fn.results.toList=rs)(hT:(s0.own.all λc=>c.2.all λl=>match l with| .t i=>decide (i<s0.tmps.length)|_=>true)=true)(h:SW P G c ⟨s0.tmps++List.replicate (n-s0.tmps.length) (.cI []),s0.H,s0.own⟩ λe s=>(e=.normal\/e=.ret)/\a4K P s rs d H1 own1):CH P G f s0 ⟨[d],H1,own1⟩:=by
 subst hrs;intro base R μ args w hr;refine calls_of_wp hf hb ?_;have jZ:args.size=s0.tmps.length:=hr.size;have mW:Rel P G base R μ ⟨s0.tmps++List.replicate (n-s0.tmps.length) (.cI []),s0.H,s0.own⟩ {tmps:=args++Array.replicate (fn.ntmps-args.size) undef,defers:=[]} w:=by
  refine⟨rfl,by simp[jZ,hn],λi v d hiv hid=>?_,hr.jR,hr.inj,hr.eC,?_,hr.vL,hr.qP,hr.base,hr.pass⟩
  .simp only at hid;by_cases hi:i<s0.tmps.length
   .rw[g1h hi]at hid;rw[Array.getElem?_append_left (by omega)]at hiv;exact hr.tmps i v d hiv hid
   .rw[g1e (by omega),List.getElem?_replicate]at hid;split at hid<;>simp at hid;subst hid;rw[Array.getElem?_append_right (by omega),Array.getElem?_replicate]at hiv;split at hiv<;>simp at hiv;subst hiv;exact .cI #[] [] rfl (by simp)
  .obtain⟨vs,hl,h1,hap⟩:=hr.own;refine⟨vs,hl,λi c v hc hv=>?_,hap⟩;have ho:=h1 i c v hc hv;refine⟨λl hl u hu=>?_,ho.own,ho.keys⟩;cases l with
   |t j=>have hj:=g0Z.1 (g0Z.1 hT c (g1b hc)) _ hl;simp only[decide_eq_true_eq]at hj;simp only[cP]at hu;rw[Array.getElem?_append_left (by omega)]at hu;exact ho.eC _ hl u hu
   |c k off=>exact ho.eC _ hl u hu
 refine wp_mono (h base R μ _ w mW) λe a' w' ⟨s,R',μ',⟨he,a2m⟩,gD,hs⟩=>?_;unfold a4K at a2m;split at a2m
 .rename_i r kF;obtain⟨v,hv1,hv2⟩:=a1N gD kF;have a6k:a'.defers=[]/\∃v,(results fn a'.tmps).run P w'=.ok v w'/\∃v' R' μ',Ending.returned v=.returned v'/\Rel P G base R' μ' ⟨[d],H1,own1⟩ {tmps:=#[v'],defers:=[]} w'/\Step base R w R' w':=
   ⟨gD.defers,v,hv1,v,R',μ',rfl,((gD.ret hv1 hv2).e4J a2m.1).e7F a2m.2,hs⟩
  rcases he with rfl|rfl
  .exact a6k
  .exact a6k
 .exact a2m.elim
theorem CX.b6t{f:FuncId}{fn:Func}{c:Code}{n:Nat}{s0:St}{x:Ends}(hf:P.funcs[f]? =some fn)(hb:fn.body=some c)(hn:fn.ntmps=n){rs:List ResultVar}(hrs:fn.results.toList=rs)(hT:(s0.own.all λc=>c.2.all λl=>match l with| .t i=>decide (i<s0.tmps.length)|_=>true)=true)(h:∀Q:Exit->St->Prop,(∀d H1 own1 e s,x=.inl (d,H1,own1)->(e=.normal\/e=.ret)->a4K P s rs d H1 own1->Q e s)->(∀v s,x=.inr v->Q (.panic (a0Z v)) s)->SW P G c ⟨s0.tmps++List.replicate (n-s0.tmps.length) (.cI []),s0.H,s0.own⟩ Q):CX P G f s0 x:=by
 match x,h with
 | .inl (d,H1,own1),h=>exact CH.b6t hf hb hn hrs hT (h _ (λd' H1' f1b e s he=>by cases he;exact λh1 h2=>⟨h1,h2⟩) (λv s he=>by cases he))
 | .inr v,h=>exact CPn.a0k hf hb hn hT (h _ (λd' H1' f1b e s he=>by cases he) (λv' s he=>by cases he;rfl))
theorem c2e{TT:St->Prop}{Q:Exit->St->Prop}{s:St}:b6n TT Q .normal s=TT s:=rfl
theorem c5H{TT:St->Prop}{Q:Exit->St->Prop}{s:St}{c:List PanicEntry}:b6n TT Q (.panic c) s=Q (.panic c) s:=rfl
def a5K(a b d:Nat):Ord:=
 .op a (.op b (.op d (.call [] .none) (.call [d] .none)) (.op d (.op b (.call [] .none) (.call [b] .none)) (.call [b,d] .none)))
  (.op d (.op a (.op b (.call [] .none) (.call [b] .none)) (.call [a,b] .none)) (.call [a,b,d] .none))
attribute [simp] c2c a6I a4K d2o d5Z e1Y d5Y c2e c5H a5K
end
end Go.VM
end
section
section
namespace Go.Proofs.YtjpodcmhcenjjaaGreatDoor
open Go Go.VM
variable {G:GT}
def smI(c:Int):Bool:=decide (97<=c)&&decide (c<=122)
def caI(c:Int):Bool:=decide (65<=c)&&decide (c<=90)
def dgI(c:Int):Bool:=decide (48<=c)&&decide (c<=57)
def inI(c:Int):Bool:=smI c||caI c||dgI c||decide (c=95)
theorem a8E:VM.Enters prog 159:=.mk func159 rfl
theorem a5t:VM.Enters prog 162:=.mk func162 rfl
theorem a3o:VM.Enters prog 163:=.mk func163 rfl
theorem b8K:VM.Enters prog 161:=.mk func161 rfl
theorem b0Y(c:Int):CS prog G 159 [.int .i32 c] (.d (.bool (smI c))) none:=by refine CS.aX func159 rfl ntmps159 rfl ?_;by_cases h:97<=c<;>simp[h,smI]
theorem a6K(c:Int):CS prog G 162 [.int .i32 c] (.d (.bool (caI c))) none:=by refine CS.aX func162 rfl ntmps162 rfl ?_;by_cases h:65<=c<;>simp[h,caI]
theorem a4L(c:Int):CS prog G 163 [.int .i32 c] (.d (.bool (dgI c))) none:=by refine CS.aX func163 rfl ntmps163 rfl ?_;by_cases h:48<=c<;>simp[h,dgI]
theorem c2f(c:Int):CS prog G 161 [.int .i32 c] (.d (.bool (inI c))) none:=by
 refine CS.aX func161 rfl ntmps161 rfl ?_;simp;refine aC.mk a8E (b0Y c) ?_;by_cases h1:smI c=true
 .simp[h1,inI]
 .simp[h1];refine aC.mk a5t (a6K c) ?_;by_cases h2:caI c=true
  .simp[h2,inI]
  .simp[h2];refine aC.mk a3o (a4L c) ?_;by_cases h3:dgI c=true
   .simp[h3,inI]
   .simp[h1,h2,h3,inI]
end Go.Proofs.YtjpodcmhcenjjaaGreatDoor
end
section
namespace Go.Proofs.YtjpodcmhcenjjaaGreatDoor
open Go Go.VM Go.RowKit
variable {G:GT}
theorem c2g:VM.Enters prog 188:=.mk func188 rfl
theorem b8L:VM.Enters prog 165:=.mk func165 rfl
theorem e4M{args:Array Value}(h:args.size=2):args=#[args.getD 0 undef,args.getD 1 undef]:=by
 obtain⟨l⟩:=args
 match l,h with
 |[a,b],_=>rfl
theorem c5I(s:List UInt8)(c:UInt8)(hc:c.toNat<128):CS prog G 188 [.str s,.str [c]] (.d (.str (Lib.trimLeftB s c))) none:=
 CS.d0q λw R args hg hR hs hv=>by rw[e4M hs,(hv 0 _ rfl).pW,(hv 1 _ rfl).pW];exact(strings_TrimLeft_one ⟨s.toArray⟩ c hc w).mono λe w' ⟨he,hw⟩=>⟨_,he,.str _,hw▸Below.refl _ _⟩
theorem c2h(s p:List UInt8):CS prog G 165 [.str s,.str p] (.d (.bool (p.isPrefixOf s))) none:=
 CS.d0q λw R args hg hR hs hv=>by rw[e4M hs,(hv 0 _ rfl).pW,(hv 1 _ rfl).pW];exact(strings_HasPrefix ⟨s.toArray⟩ ⟨p.toArray⟩ w).mono λe w' ⟨he,hw⟩=>⟨_,he,.bool _,hw▸Below.refl _ _⟩
def jC(s:List UInt8):Int×Bool:=if jE s<=1000000000000 then((jE s:Int),true) else(0,false)
theorem e2a(l:List UInt8):∀a,a*10 ^ l.length<=b8E a l:=by
 induction l with
 |nil=>intro a;simp[b8E]
 |cons c r ih=>
  intro a;have h:=ih (10*a+(c.toNat-48));have e:b8E a (c::r)=b8E (10*a+(c.toNat-48)) r:=rfl;rw[e];refine Nat.le_trans ?_ h;rw[List.length_cons,Nat.pow_succ];have:a*(10 ^ r.length*10)=(10*a)*10 ^ r.length:=by rw[Nat.mul_comm (10 ^ r.length) 10, <- Nat.mul_assoc,Nat.mul_comm a 10]
  rw[this];exact Nat.mul_le_mul_right _ (by omega)
theorem c0o(s:List UInt8):jE (Lib.trimLeftB s 48)=jE s:=by
 unfold Lib.trimLeftB
 induction s with
 |nil=>rfl
 |cons c r ih=>
  by_cases h:c=48
  .subst h;have e:jE (48::r)=jE r:=rfl;rw[e, <- ih];simp
  .have:(c==48)=false:=by simpa using h
   rw[List.dropWhile_cons,this]
   rfl
theorem d2p{s:List UInt8}(h:Lib.trimLeftB s 48≠[]):∃c r,Lib.trimLeftB s 48=c::r/\c≠48:=by
 unfold Lib.trimLeftB at h|-
 induction s with
 |nil=>exact absurd rfl h
 |cons c r ih=>
  by_cases hc:c=48
  .subst hc;simp only[List.dropWhile_cons,beq_self_eq_true,if_true]at h|-;exact ih h
  .have:(c==48)=false:=by simpa using hc
   rw[List.dropWhile_cons,this];exact⟨c,r,rfl,hc⟩
theorem d6d{s:List UInt8}:∀c∈Lib.trimLeftB s 48,c∈s:=λc hc=>(List.dropWhile_sublist _).subset hc
theorem c2i{s:List UInt8}(hs:∀c∈s,xP c=true)(eU:Lib.trimLeftB s 48≠[]):rV (Lib.trimLeftB s 48)=jC s:=by
 obtain⟨c,r,he,hc⟩:=d2p eU;have dR:∀x∈c::r,xP x=true:=λx hx=>hs x (d6d x (he▸hx));have hv:jE s=jE (c::r):=by rw[<-he,c0o]
 rw[he];have hcd:=vO.1 (dR c (.head _));have hn:b2l (c::r)=false:=by
  have:c≠45:=by rintro rfl;revert hcd;decide
  simp[b2l,this]
 have hb:rK (c::r)=c::r:=by simp[rK,hn]
 have cC:10 ^ r.length<=jE (c::r):=by
  have h1:1<=c.toNat-48:=by have:c.toNat≠48:=λe=>hc (UInt8.toNat.inj (by simpa using e));omega
  have e:jE (c::r)=b8E (10*0+(c.toNat-48)) r:=rfl;rw[e];refine Nat.le_trans ?_ (e2a r _)
  calc 10 ^ r.length=1*10 ^ r.length:=by rw[Nat.one_mul]
   _<=_:=Nat.mul_le_mul_right _ (by omega)
 have a2H:sI (c::r)=decide (r.length<=12):=by simp only[sI,hb,hn];by_cases h:r.length<=12<;>simp[h,hc]<;>omega
 have hd:(c::r).all xP=true:=g0Z.2 dR;unfold rV jC;rw[a2H,hb,hd,hn,hv];by_cases h:r.length<=12
 .have hup:=a4y _ _ rfl dR;simp[h,sgn,chk];have hi:inB ((jE (c::r):Nat):Int)=decide (jE (c::r)<=1000000000000):=by unfold inB;by_cases h2:jE (c::r)<=1000000000000<;>simp[h2]<;>omega
  rw[hi];by_cases h2:jE (c::r)<=1000000000000<;>simp[h2]
 .have:10 ^ 13<=jE (c::r):=Nat.le_trans (Nat.pow_le_pow_right (by omega) (by omega)) cC;have h2: ¬jE (c::r)<=1000000000000:=by omega
  simp[h,h2]
theorem b6u:VM.Enters prog 164:=.mk func164 rfl
theorem b8M(s:List UInt8)(hs:∀c∈s,xP c=true):CS prog G 164 [.str s] (.cI [.int .i64 (jC s).1,.bool (jC s).2]) none:=by
 refine CS.aX func164 rfl ntmps164 rfl ?_;simp;refine aC.mk c2g (c5I s 48 (by decide)) ?_;by_cases h:Lib.trimLeftB s 48=[]
 .have hv:jE s=0:=by rw[<-c0o,h];rfl
  simp[h,jC,hv]
 .have he:(Lib.trimLeftB s 48).isEmpty=false:=by simpa using h
  simp[he];refine aC.mk c5g (c8y (Lib.trimLeftB s 48)) ?_;simp[c2i hs h]
end Go.Proofs.YtjpodcmhcenjjaaGreatDoor
end
section
namespace Go.Proofs.YtjpodcmhcenjjaaGreatDoor
open Go Go.VM
variable {G:GT}
theorem tZ{p:UInt8->Bool}{s:List UInt8}{i:Nat}(h:i<s.length)(ht:∀b∈s.take i,p b=true)(hn:p s[i]=false):(s.takeWhile p).length=i:=by
 have e:s=s.take i++s[i]::s.drop (i+1):=by rw[<-g1j h,List.take_append_drop]
 generalize hx:s[i]=x at e hn;rw[e,List.takeWhile_append_of_pos ht,List.takeWhile_cons,hn];simp;omega
theorem sO{p:UInt8->Bool}{s:List UInt8}(ht:∀b∈s,p b=true):s.takeWhile p=s:=by have:=List.takeWhile_append_of_pos (l₂:=[]) ht;simpa using this
theorem b3B(F:FuncId)(p:Int->Bool)(pb:UInt8->Bool)(hF:VM.Enters prog F)(rI:∀c,CS prog G F [.int .i32 c] (.d (.bool (p c))) none)(sE:∀b:UInt8,p b.toNat=pb b)(hhi:∀c,128<=c->p c=false)(s:List UInt8):
  CH prog G 160 ⟨[.d (.str s),.fn F],[],[]⟩ ⟨[.d (.int .i64 (s.takeWhile pb).length)],[],[]⟩:=by
 refine CH.aX func160 rfl ntmps160 rfl (by simp) ?_;simp;refine SW.eX (ι:={i:Nat//i<=s.length/\∀b∈s.take i,pb b=true}) (λ_=>[]) (λi=>[(8,.iter s i.1)]) (λ_=>[]) (λi=>s.length-i.1) ⟨0,by simp⟩ (by simp) ?_;rintro⟨i,hi,ht⟩
 try simp only at hi ht
 by_cases aF:i<s.length
 .simp[aF];refine aC.mk hF (rI _) ?_;by_cases hb:s[i].toNat<128
  .have hd:=d5C aF hb;have hpl:=sE s[i];by_cases hpb:pb s[i]=true
   .rw[hpb]at hpl;simp[hd,hpl];refine bC.mk ⟨i+1,aF,λb hm=>?_⟩ (by simp) (by simp;omega);rw[g1l aF]at hm;rcases List.mem_append.1 hm with hm|hm
    .exact ht b hm
    .simp at hm;rw[hm];exact hpb
   .have hpf:pb s[i]=false:=by simpa using hpb
    rw[hpf]at hpl;simp[hd,hpl,tZ aF ht hpf]
  .obtain⟨h1,_⟩:=d5D aF (by omega);have hpf:pb s[i]=false:=by rw[<-sE];exact hhi _ (by omega)
   have hpl:=hhi ((Utf8.decode ⟨s.toArray⟩ i).1:Int) (by omega);simp[hpl,tZ aF ht hpf]
 .have:i=s.length:=by omega
  subst this;rw[List.take_length]at ht;simp[sO ht]
def oA:List UInt8->Nat->Bool->List UInt8×Nat
 |[],n,_=>([],n)
 |c::r,n,cm=>if c=10 then oA r (n+1) false else if cm=true\/c=32\/c=9 then oA r n cm else if c=35 then oA r n true else(c::r,n)
theorem b0Z:∀(s:List UInt8) (n:Nat) (cm:Bool),(oA s n cm).2<=n+s.length/\(oA s n cm).1.length<=s.length
 |[],n,cm=>by simp[oA]
 |c::r,n,cm=>by
  unfold oA;split
  .have:=b0Z r (n+1) false;simp only[List.length_cons];omega
  .split
   .have:=b0Z r n cm;simp only[List.length_cons];omega
   .split
    .have:=b0Z r n true;simp only[List.length_cons];omega
    .simp only[List.length_cons];omega
theorem c5J(s:List UInt8)(n:Nat):∀(k i:Nat),(∀j,i<=j->j<i+k->∃h:j<s.length,128<=s[j].toNat)->oA (s.drop i) n true=oA (s.drop (i+k)) n true
 |0,i,_=>rfl
 |k+1,i,h=>by
  obtain⟨hi,hb⟩:=h i (by omega) (by omega);have ih:=c5J s n k (i+1) λj h1 h2=>h j (by omega) (by omega);have h10:s[i]≠10:=λe=>by rw[e]at hb;simp at hb
  rw[g1j hi,oA,if_neg h10,if_pos (.inl rfl),ih];congr 2;omega
theorem a6L(c:UInt8)(k:Nat)(hk:k<256):((c.toNat:Int)=(k:Int))↔c=UInt8.ofNat k:=by
 constructor
 .intro h;apply UInt8.toNat.inj;simp;omega
 .rintro rfl;simp;omega
theorem c2j:VM.Enters prog 112:=.mk func112 rfl
theorem c5K(s:List UInt8)(hl:s.length<=900000000):CS prog G 112 [.str s] (.cI [.str (oA s 0 false).1,.int .i64 (oA s 0 false).2]) none:=by
 obtain⟨res,e4N⟩:∃x,oA s 0 false=x:=⟨_,rfl⟩;rw[e4N];refine CS.aX func112 rfl ntmps112 rfl ?_;simp;refine SW.eX (ι:={x:Nat×Nat×Bool//x.1<=s.length/\x.2.1<=x.1/\oA (s.drop x.1) x.2.1 x.2.2=res}) (λx=>[(4,.d (.int .i64 x.1.2.1)),(5,.d (.bool x.1.2.2))]) (λx=>[(9,.iter s x.1.1)]) (λ_=>[]) (λx=>s.length-x.1.1) ⟨(0,0,false),by simp[e4N]⟩ (by simp) ?_;rintro⟨⟨i,n,cm⟩,hi,hn,hR⟩
 try simp only at hi hn hR
 by_cases aF:i<s.length
 .have hw:=bA (show n<9223372036854775807 by omega);have hle:=Nat.le_of_lt aF;have a3S:s.drop i=s[i]::s.drop (i+1):=g1j aF;by_cases hb:s[i].toNat<128
  .have hd:=d5C aF hb;have c10:=a6L s[i] 10 (by omega);have c32:=a6L s[i] 32 (by omega);have c9:=a6L s[i] 9 (by omega);have c35:=a6L s[i] 35 (by omega);simp at c10 c32 c9 c35;by_cases h10:s[i]=10
   .have e:=c10.2 h10;simp[aF,hd,e];refine bC.mk ⟨(i+1,n+1,false),aF,by simp;omega,?_⟩ (by simp[hw]) (by simp;omega);rw[<-hR,a3S,oA,if_pos h10]
   .have e: ¬s[i].toNat=10:=λh=>h10 (c10.1 h);simp[aF,hd,e];cases cm with
    |true=>
     try simp
     refine bC.mk ⟨(i+1,n,true),aF,by simp;omega,?_⟩ (by simp) (by simp;omega);rw[<-hR,a3S,oA,if_neg h10,if_pos (.inl rfl)]
    |false=>
     try simp
     by_cases h32:s[i]=32
     .have e2:=c32.2 h32;simp[e2];refine bC.mk ⟨(i+1,n,false),aF,by simp;omega,?_⟩ (by simp) (by simp;omega);rw[<-hR,a3S,oA,if_neg h10,if_pos (.inr (.inl h32))]
     .have e2: ¬s[i].toNat=32:=λh=>h32 (c32.1 h);simp[e2];by_cases h9:s[i]=9
      .have e3:=c9.2 h9;simp[e3];refine bC.mk ⟨(i+1,n,false),aF,by simp;omega,?_⟩ (by simp) (by simp;omega);rw[<-hR,a3S,oA,if_neg h10,if_pos (.inr (.inr h9))]
      .have e3: ¬s[i].toNat=9:=λh=>h9 (c9.1 h);simp[e3];by_cases h35:s[i]=35
       .have e4:=c35.2 h35;simp[e4];refine bC.mk ⟨(i+1,n,true),aF,by simp;omega,?_⟩ (by simp) (by simp;omega);rw[<-hR,a3S,oA,if_neg h10,if_neg (by simp[h32,h9]),if_pos h35]
       .have e4: ¬s[i].toNat=35:=λh=>h35 (c35.1 h);have kF:res=(s.drop i,n):=by rw[<-hR,a3S,oA,if_neg h10,if_neg (by simp[h32,h9]),if_neg h35]
        simp[e4,kF,hle]
  .obtain⟨h1,h2,h3,h4⟩:=d5D aF (by omega);obtain⟨rw,hrw⟩:∃rw,Utf8.decode ⟨s.toArray⟩ i=rw:=⟨_,rfl⟩;rw[hrw]at h1 h2 h3 h4;have e10: ¬((rw.1:Int)=10):=by omega
   have e32: ¬((rw.1:Int)=32):=by omega
   have e9: ¬((rw.1:Int)=9):=by omega
   have e35: ¬((rw.1:Int)=35):=by omega
   have hbb:∀k,k<128->s[i]≠UInt8.ofNat k:=λk hk e=>by rw[e]at hb;simp at hb;omega
   have b10:s[i]≠10:=hbb 10 (by omega);have b32:s[i]≠32:=hbb 32 (by omega);have b9:s[i]≠9:=hbb 9 (by omega);have b35:s[i]≠35:=hbb 35 (by omega);simp[aF,hrw,e10];cases cm with
   |true=>simp;refine bC.mk ⟨(i+rw.2,n,true),h3,by simp;omega,?_⟩ (by simp) (by simp;omega);rw[<-hR,c5J s n rw.2 i h4]
   |false=>
    have kF:res=(s.drop i,n):=by rw[<-hR,a3S,oA,if_neg b10,if_neg (by simp[b32,b9]),if_neg b35]
    simp[e32,e9,e35,kF,hle]
 .have:i=s.length:=by omega
  subst this;rw[List.drop_length]at hR;have kF:res=([],n):=by rw[<-hR,oA]
  simp[kF]
end Go.Proofs.YtjpodcmhcenjjaaGreatDoor
end
section
namespace Go.Proofs.YtjpodcmhcenjjaaGreatDoor
open Go Go.VM
variable {G:GT}
def zW:List D:=[.sl (cU.map λt=>[D.str t])]
theorem d6f(b:UInt8):smI b.toNat=smU b:=by rw[Bool.eq_iff_iff];simp only[smI,smU,g0W,decide_eq_true_eq];omega
theorem d6g(b:UInt8):caI b.toNat=caU b:=by rw[Bool.eq_iff_iff];simp only[caI,caU,g0W,decide_eq_true_eq];omega
theorem d0E(b:UInt8):dgI b.toNat=dgU b:=by rw[Bool.eq_iff_iff];simp only[dgI,dgU,g0W,decide_eq_true_eq];omega
theorem f1c(b:UInt8):inI b.toNat=inU b:=by unfold inI inU;rw[d6f,d6g,d0E];congr 1;simp only[decide_eq_decide];omega
theorem f1d{c:Int}(h:128<=c):inI c=false:=by simp only[inI,smI,caI,dgI,Bool.or_eq_false_iff,Bool.and_eq_false_iff,decide_eq_false_iff_not];omega
theorem f1e{c:Int}(h:128<=c):dgI c=false:=by simp only[dgI,Bool.and_eq_false_iff,decide_eq_false_iff_not];omega
theorem b1a(p:UInt8->Bool)(s:List UInt8):s.take (s.takeWhile p).length=s.takeWhile p:=by have h:=List.takeWhile_prefix (l:=s) p;exact(List.prefix_iff_eq_take.1 h).symm
theorem d6h(p:UInt8->Bool)(s:List UInt8):(s.takeWhile p).length<=s.length:=(List.takeWhile_prefix (l:=s) p).length_le
theorem w32(c:UInt8):IntKind.i32.wrap (c.toNat:Int)=c.toNat:=by have:=c.toNat_lt;unfold IntKind.wrap;simp[IntKind.bits,IntKind.signed];omega
theorem c2k(c:UInt8):dgU c=xP c:=by rw[Bool.eq_iff_iff];simp only[dgU,xP,g0W,decide_eq_true_eq]
theorem c8L{p:UInt8->Bool}:∀ {s:List UInt8} {b:UInt8},b∈s.takeWhile p->p b=true
 |[],b,h=>by simp at h
 |c::r,b,h=>by
  rw[List.takeWhile_cons]at h;split at h
  .rename_i hc;rcases List.mem_cons.1 h with rfl|h
   .exact hc
   .exact c8L h
  .cases h
def a6M(s:List UInt8):List D:=[.int .i64 (firstT jC s).1,.str (firstT jC s).2.1,.int .i64 (firstT jC s).2.2.1,.int .i64 0]
theorem d0F(s:List UInt8):CH prog G 160 ⟨[.d (.str s),.fn 161],[],[]⟩ ⟨[.d (.int .i64 (s.takeWhile inU).length)],[],[]⟩:=b3B 161 inI inU b8K c2f f1c (λ_=>f1d) s
theorem e2d(s:List UInt8):CH prog G 160 ⟨[.d (.str s),.fn 163],[],[]⟩ ⟨[.d (.int .i64 (s.takeWhile dgU).length)],[],[]⟩:=b3B 163 dgI dgU a3o a4L d0E (λ_=>f1e) s
theorem d0G{s:List UInt8}{i:Nat}(h:i<cU.length)(hn:∀t∈cU.take i,t.isPrefixOf s=false)(hp:cU[i].isPrefixOf s=true):tX s=cU[i]:=by
 have e:cU=cU.take i++cU[i]::cU.drop (i+1):=by rw[<-g1j h,List.take_append_drop]
 generalize cU[i]=x at e hp|-;unfold tX;rw[e,List.find?_append];have h0:(cU.take i).find? (λt=>t.isPrefixOf s)=none:=List.find?_eq_none.2 λt ht=>by rw[hn t ht];simp
 rw[h0];simp[List.find?_cons,hp]
theorem c0p{s:List UInt8}(hn:∀t∈cU,t.isPrefixOf s=false):tX s=[]:=by
 unfold tX;rw[List.find?_eq_none.2 λt ht=>by rw[hn t ht];simp]
 rfl
theorem e2e:∀t∈cU,t≠[]:=by decide
theorem b6v:VM.Enters prog 160:=.mk func160 rfl
theorem b8N:VM.Enters prog 113:=.mk func113 rfl
theorem c2l(hS:G 0=some zW)(c:UInt8)(r:List UInt8)(hl:(c::r).length<=900000000):CS prog G 113 [.str (c::r)] (.cI [.agg (a6M (c::r)),.bool (firstT jC (c::r)).2.2.2]) none:=by
 obtain⟨s,hs⟩:∃s,c::r=s:=⟨_,rfl⟩;have h0:0<s.length:=by rw[<-hs];simp
 have yI:s[0]=c:=by subst hs;rfl
 have hf:firstT jC s=if smU c then(1,s.takeWhile inU,0,true) else if caU c then(2,s.takeWhile inU,0,true)
  else if dgU c then(3,s.takeWhile dgU,(jC (s.takeWhile dgU)).1,(jC (s.takeWhile dgU)).2)
  else if tX s=[] then(0,[],0,false) else(4,tX s,0,true):=by subst hs;rfl
 rw[hs]at hl|-
 clear hs
 have hw:=w32 c;have l1:=d6h inU s;have l2:=d6h dgU s;have t1:=b1a inU s;have t2:=b1a dgU s;refine CS.aX func113 rfl ntmps113 rfl ?_;simp[h0,yI,hw];refine aC.mk a8E (b0Y (c.toNat:Int)) ?_;rw[d6f];by_cases h1:smU c=true
 .simp[h1];refine jB.ro b6v (d0F s) [] (by simp) (by simp) (by simp) (by simp) (by simp) ?_;simp[l1,t1,a6M,hf,h1]
 simp[h1];refine aC.mk a5t (a6K (c.toNat:Int)) ?_;rw[d6g];by_cases h2:caU c=true
 .simp[h2];refine jB.ro b6v (d0F s) [] (by simp) (by simp) (by simp) (by simp) (by simp) ?_;simp[l1,t1,a6M,hf,h1,h2]
 simp[h2];refine aC.mk a3o (a4L (c.toNat:Int)) ?_;rw[d0E];by_cases h3:dgU c=true
 .simp[h3];refine jB.ro b6v (e2d s) [] (by simp) (by simp) (by simp) (by simp) (by simp) ?_;simp[l2,t2];refine aC.mk b6u (b8M (s.takeWhile dgU) (λb hb=>by rw[<-c2k];exact c8L hb)) ?_;simp[a6M,hf,h1,h2,h3]
 simp[h3,hS,zW];have hlen:(cU.map λt=>[D.str t]).length=cU.length:=by simp
 refine SW.eX (ι:={i:Nat//i<=cU.length/\∀t∈cU.take i,t.isPrefixOf s=false}) (λi=>[(47,.d (.int .i64 i.1))]) (λ_=>[(2,.cells [.d (.int .i64 0),.d (.str []),.d (.int .i64 0),.d (.int .i64 0)])]) (λ_=>[]) (λi=>cU.length-i.1) ⟨0,by simp⟩ (by simp) ?_;rintro⟨i,hi,hn⟩
 try simp only at hi hn
 by_cases aF:i<cU.length
 .have hsl:cU.length=31:=rfl;have hw2:=bA (show i<9223372036854775807 by omega);have hg:(cU.map λt=>[D.str t])[i]? =some [.str cU[i]]:=by simp[aF]
  simp[aF,hg];refine aC.mk b8L (c2h s cU[i]) ?_;by_cases hp:cU[i].isPrefixOf s=true
  .have hsg:=d0G aF hn hp;have eU:=e2e _ (List.getElem_mem aF);simp[hp,a6M,hf,h1,h2,h3,hsg,eU]
  .have hp':cU[i].isPrefixOf s=false:=Bool.eq_false_iff.2 hp;simp[hp'];refine bC.mk ⟨i+1,aF,λt ht=>?_⟩ (by simp[hw2]) (by simp;omega);rw[g1l aF]at ht;rcases List.mem_append.1 ht with ht|ht
   .exact hn t ht
   .simp at ht;rw[ht];exact hp'
 .have:i=cU.length:=by omega
  subst this;rw[List.take_length]at hn;have hsg:=c0p hn;simp[a6M,hf,h1,h2,h3,hsg]
end Go.Proofs.YtjpodcmhcenjjaaGreatDoor
end
section
namespace Go.Proofs.YtjpodcmhcenjjaaGreatDoor
open Go Go.VM
variable {G:GT}
def bJ(t:Tok):List D:=[.int .i64 t.kind,.str t.text,.int .i64 t.n,.int .i64 t.line]
def b4o(l:List Tok):List (List D):=l.map bJ
@[simp] theorem f1f(l:List Tok):(b4o l).length=l.length:=by simp[b4o]
@[simp] theorem f1g:b4o []=[]:=rfl
@[simp] theorem f1h(l:List Tok):((b4o l).all λc=>c.length==4)=true:=by simp[b4o,bJ]
theorem a7G(l:List Tok)(t:Tok):b4o (l++[t])=b4o l++[[.int .i64 t.kind,.str t.text,.int .i64 t.n,.int .i64 t.line]]:=by simp[b4o,bJ]
theorem a7H:∀(s:List UInt8) (n:Nat) (cm:Bool) (ln:Int),mH jC s 0 (ln+n) cm=mH jC (oA s n cm).1 0 (ln+(oA s n cm).2) false
 |[],n,cm,ln=>by simp[oA,mH]
 |c::r,n,cm,ln=>by
  unfold oA;split
  .rename_i h;rw[<-a7H r (n+1) false ln,mH,if_pos h];congr 1;omega
  .rename_i h;split
   .rename_i h2;rw[<-a7H r n cm ln]
    conv=>lhs;rw[mH]
    rw[if_neg h,if_pos h2]
   .rename_i h2;split
    .rename_i h3;rw[<-a7H r n true ln]
     conv=>lhs;rw[mH]
     rw[if_neg h,if_neg h2,if_pos h3]
    .simp only[not_or,Bool.not_eq_true]at h2;rw[h2.1]
theorem a7I:∀(s:List UInt8) (n:Nat) (cm:Bool),(oA s n cm).2+(oA s n cm).1.length<=n+s.length
 |[],n,cm=>by simp[oA]
 |c::r,n,cm=>by
  unfold oA;split
  .have:=a7I r (n+1) false;simp only[List.length_cons];omega
  .split
   .have:=a7I r n cm;simp only[List.length_cons];omega
   .split
    .have:=a7I r n true;simp only[List.length_cons];omega
    .simp only[List.length_cons];omega
theorem a7J:∀(s:List UInt8) (n:Nat) (cm:Bool) (c:UInt8) (r:List UInt8),(oA s n cm).1=c::r->c≠10/\c≠32/\c≠9/\c≠35
 |[],n,cm,c,r,h=>by simp[oA]at h
 |a::s,n,cm,c,r,h=>by
  unfold oA at h;split at h
  .exact a7J s _ _ c r h
  .rename_i h1;split at h
   .exact a7J s _ _ c r h
   .rename_i h2;split at h
    .exact a7J s _ _ c r h
    .rename_i h3;simp only[not_or]at h2;cases h;exact⟨h1,h2.2.1,h2.2.2,h3⟩
def c5L(out:List Tok):Except Int (List Tok)->Except Int (List Tok)
 | .ok l=>.ok (out++l)
 | .error e=>.error e
def c5M:Except Int (List Tok)->D
 | .ok l=>.sl (b4o l)
 | .error _=>.aD
def c5N:Except Int (List Tok)->Int
 | .ok _=>0
 | .error e=>e
def c5O:Except Int (List Tok)->Int
 | .ok _=>0
 | .error _=>14
theorem xY:VM.Enters prog 64:=.mk func64 rfl
theorem b8O(hS:G 0=some zW)(s:List UInt8)(hl:s.length<=900000000):CS prog G 64 [.str s] (.cI (if 40000<s.length then [.aD,.int .i64 0,.int .i64 7] else
  [c5M (mH jC s 0 1 false),.int .i64 (c5N (mH jC s 0 1 false)),.int .i64 (c5O (mH jC s 0 1 false))])) none:=by
 obtain⟨res,kF⟩:∃x,mH jC s 0 1 false=x:=⟨_,rfl⟩;rw[kF];refine CS.aX func64 rfl ntmps64 rfl ?_;by_cases b3C:40000<s.length
 .have h2:(40000:Int)<s.length:=by omega
  simp[b3C,h2]
 have h2: ¬(40000:Int)<s.length:=by omega
 simp[b3C,h2];refine SW.eX (ι:={x:List UInt8×List Tok×Int//x.1.length<=s.length/\1<=x.2.2/\x.2.2+x.1.length<=s.length+1/\x.2.1.length+x.1.length<=s.length/\c5L x.2.1 (mH jC x.1 0 x.2.2 false)=res}) (λx=>[(0,.d (.str x.1.1)),(5,.d (.sl (b4o x.1.2.1))),(6,.d (.int .i64 x.1.2.2))]) (λ_=>[]) (λ_=>[(96,[.t 5])]) (λx=>x.1.1.length) ⟨(s,[],1),by refine⟨g1m _,by simp,by simp;omega,by simp,?_⟩;simp only;rw[kF];cases res<;>rfl⟩ (by simp) ?_;rintro⟨⟨t,out,ln⟩,ht,hln,hb,ho,hR⟩
 try simp only at ht hln hb ho hR
 obtain⟨q1,q2⟩:=b0Z t 0 false;have q3:=a7I t 0 false;have hsk:=a7H t 0 false ln;have hhd:=a7J t 0 false;simp;refine aC.mk c2j (c5K t (by omega)) ?_;obtain⟨⟨rest,n⟩,hrn⟩:∃x,oA t 0 false=x:=⟨_,rfl⟩;rw[hrn]at hsk hhd q1 q2 q3;simp only[Int.natCast_zero,Int.add_zero]at hsk;simp only at hsk hhd q1 q2 q3;rw[hsk]at hR;have hw:IntKind.i64.wrap (ln+n)=ln+n:=wrap64 (by omega);have jZ:(out.length+1)*41<=140737488355328:=by omega
 simp[hrn,hw];cases rest with
 |nil=>
  have e:res=.ok (out++[⟨0,[],0,ln+n⟩]):=by rw[<-hR];rfl
  simp[e,c5M,c5N,c5O,a7G,jZ]
 |cons c r=>
  obtain⟨g1,g2,g3,g4⟩:=hhd c r rfl;rw[b5S (ln+n) g1 g2 g3 g4]at hR;simp;refine aC.mk b8N (c2l hS c r (by omega)) ?_;obtain⟨ff,hff⟩:∃ff,firstT jC (c::r)=ff:=⟨_,rfl⟩;have oI:= @b0E jC (c::r);rw[hff]at hR oI;obtain⟨k,tx,m,ok⟩:=ff;simp only at hR oI;cases ok with
  |false=>
   have e:res=.error (ln+n):=by rw[<-hR];rfl
   simp[hff,a6M,e,c5M,c5N,c5O]
  |true=>
   obtain⟨p1,p2,_⟩:=oI rfl;have hle:=p2.length_le;have a1E:0<tx.length:=List.length_pos_iff.2 p1;simp only[List.length_cons]at hle q2 q3;simp[hff,a6M,jZ,hle];have hR2:c5L (out++[⟨k,tx,m,ln+n⟩]) (mH jC ((c::r).drop tx.length) 0 (ln+n) false)=res:=by
    rw[<-hR,if_pos rfl];generalize mH jC ((c::r).drop tx.length) 0 (ln+n) false=y;cases y with
    |ok l=>simp[c5L]
    |error e=>rfl
   have hdl:((c::r).drop tx.length).length=r.length+1-tx.length:=by simp
   refine bC.mk ⟨((c::r).drop tx.length,out++[⟨k,tx,m,ln+n⟩],ln+n),?_⟩ (by simp[a7G]) (by simp only[hdl];omega);refine⟨by simp only[hdl];omega,by simp only;omega,by simp only[hdl];omega,by simp only[hdl,List.length_append,List.length_cons,List.length_nil];omega,hR2⟩
end Go.Proofs.YtjpodcmhcenjjaaGreatDoor
end
end
namespace Go.Proofs.YtjpodcmhcenjjaaGreatDoor
section
open Go Go.VM
variable {G:GT}
abbrev rdO(l:List Tok)(i:Nat):bD:=.cells [.d (.sl (l.map bJ)),.d (.int .i64 i)]
abbrev rH(l:List Tok)(i:Nat):List (Nat×bD):=[(100000,rdO l i)]
abbrev qE(n e:Int):Value:=.iface 127 (.agg #[.int .i64 n,.int .i64 e])
def kD{α:Type}:kJ α->Bool
 | .ok _ _=>true
 | .bad _ _=>false
def rdE{α:Type}(l:List Tok)(enc:α->DV)(Y:α->List (Nat×bD))(own:List (TypeId×List VM.Loc)):kJ α->VM.Ends
 | .ok a j=>.inl (enc a,rH l j++Y a,own)
 | .bad n e=>.inr (qE n e)
theorem c5P{α:Type}{l:List Tok}{enc:α->DV}{Y:α->List (Nat×bD)}{own:List (TypeId×List VM.Loc)}(r:kJ α):(rdE l enc Y own r).isLeft=kD r:=by cases r<;>rfl
def oZ(G:GT){α:Type}(f:FuncId)(av:List DV)(X:List (Nat×bD))(own:List (TypeId×List VM.Loc))(l:List Tok)(i:Nat)(r:kJ α)(enc:α->DV)(Y:α->List (Nat×bD)):Prop:=CX prog G f ⟨av,rH l i++X,own⟩ (rdE l enc Y own r)
abbrev sJ(G:GT){α:Type}(f:FuncId)(ds:List D)(l:List Tok)(i:Nat)(r:kJ α)(enc:α->DV):Prop:=oZ G f (.ptr 100000 0::ds.map .d) [] [] l i r enc λ_=>[]
structure tG {α:Type} (Q:Exit->St->Prop) (rs:List ResultVar) (l:List Tok) (enc:α->DV) (Y:α->List (Nat×bD)) (own:List (TypeId×List VM.Loc)) (r:kJ α):Prop where
 ok:∀a j e s,r=.ok a j->(e=.normal\/e=.ret)->a4K prog s rs (enc a) (rH l j++Y a) own->Q e s
 bad:∀n e s,r=.bad n e->Q (.panic (a0Z (qE n e))) s
section
variable {α β:Type} {Q:Exit->St->Prop} {rs:List ResultVar} {l:List Tok} {i j:Nat} {enc:β->DV} {Y:β->List (Nat×bD)} {own:List (TypeId×List VM.Loc)} {n e:Int} {a:α}
theorem tG.step{x:bE α}{f:α->bE β}(h:tG Q rs l enc Y own ((x >>=f) i))(hx:x i=.ok a j):tG Q rs l enc Y own (f a j):=by rwa[bP hx]at h
theorem tG.fail{x:bE α}{f:α->bE β}(h:tG Q rs l enc Y own ((x >>=f) i))(hx:x i=.bad n e)(s:St):Q (.panic (a0Z (qE n e))) s:=h.bad _ _ _ (jU hx)
theorem tG.tH{c:Prop}[Decidable c]{x y:kJ β}(h:tG Q rs l enc Y own (if c then x else y))(hc:c):tG Q rs l enc Y own x:=by rwa[if_pos hc]at h
theorem tG.rF{c:Prop}[Decidable c]{x y:kJ β}(h:tG Q rs l enc Y own (if c then x else y))(hc: ¬c):tG Q rs l enc Y own y:=by rwa[if_neg hc]at h
theorem oZ.a0k{f:FuncId}{fn:Func}{c:Code}{k:Nat}{av:List DV}{X:List (Nat×bD)}{r:kJ β}(hf:prog.funcs[f]? =some fn)(hb:fn.body=some c)(hn:fn.ntmps=k)(hrs:fn.results.toList=rs)(hT:(own.all λc=>c.2.all λl=>match l with| .t i=>decide (i<av.length)|_=>true)=true)(h:∀Q:Exit->St->Prop,tG Q rs l enc Y own r->SW prog G c ⟨av++List.replicate (k-av.length) (.cI []),rH l i++X,own⟩ Q):oZ G f av X own l i r enc Y:=by
 refine CX.b6t hf hb hn hrs hT λQ h1 h2=>h Q ⟨λa j e s hr he hs=>?_,λn e s hr=>?_⟩
 .subst hr;exact h1 _ _ _ e s rfl he hs
 .subst hr;exact h2 _ s rfl
theorem jP(K:List (Nat×Nat)):∀ds:List D,aR K (ds.map .d)=ds.map .d
 |[]=>rfl
 |d::r=>by simp only[List.map_cons,aR,bF,jP K r]
theorem eF(K:List (Nat×Nat)):∀ds:List D,(ds.map DV.d).all (aQ K)=true
 |[]=>rfl
 |d::r=>by simp only[List.map_cons,List.all_cons,aQ,eF K r,Bool.and_self]
theorem a1a{f:FuncId}{av0 av:List DV}{X:List (Nat×bD)}{r:kJ β}{st:St}{ls:List (Option VM.Loc)}{dst:Option Tmp}{KK:St->Prop}{rest:List (TypeId×List VM.Loc)}(he:VM.Enters prog f)(hc:oZ G f av0 X own l i r enc Y)(K:List (Nat×Nat))(kU:∀a j,r=.ok a j->aL K ⟨av0,rH l i++X,own⟩ (enc a) (rH l j++Y a)=true)(c5y:aL K ⟨av0,rH l i++X,own⟩ .undef (rH l i++X)=true)(kO:WkT av (aR K av0))(hH:WkH st.H (cX K (rH l i++X)))(mN:wP st st.own (own.map (qS K ls))=some rest)(b8D:a0C st.tmps.length ls own=true)(oI:∀a j,r=.ok a j->KK (bG K dst st rest (enc a) (rH l j++Y a) own))(a3J:∀n e,r=.bad n e->Q (.panic (a0Z (qE n e))) (a2I st)):tF prog G f av ls dst st KK Q (kD r):=by
 rw[<-c5P (l:=l) (enc:=enc) (Y:=Y) (own:=own) r];refine tF.mk he hc K (λd H1 own1 hx=>?_) (λv hx=>c5y) kO hH mN b8D (λd H1 own1 hx=>?_) (λv hx=>?_)
 .cases r with
  |bad n e=>cases hx
  |ok a j=>cases hx;exact kU a j rfl
 .cases r with
  |bad n e=>cases hx
  |ok a j=>cases hx;exact oI a j rfl
 .cases r with
  |bad n e=>cases hx;exact a3J n e rfl
  |ok a j=>cases hx
abbrev K1:List (Nat×Nat):=[(100000,100000)]
theorem rdZ{f:FuncId}{ds:List D}{av:List DV}{r:kJ β}{st:St}{ls:List (Option VM.Loc)}{dst:Option Tmp}{KK:St->Prop}(he:VM.Enters prog f)(hc:sJ G f ds l i r enc)(oI:∀a j,r=.ok a j->KK ⟨jN dst (enc a) st.tmps,bU 100000 (rdO l j) st.H,gI dst (dropKey 100000 st.own)⟩)(a3J:∀n e,r=.bad n e->Q (.panic (a0Z (qE n e))) (a2I st))(hk:∀a,aQ K1 (enc a)=true/\bF K1 (enc a)=enc a:=by intro a;exact⟨rfl,rfl⟩)(hw:WkT av (.ptr 100000 0::ds.map .d):=by simp)(hH:getKey 100000 st.H=some (rdO l i):=by simp):tF prog G f av ls dst st KK Q (kD r):=by
 refine a1a he hc K1 (λa j hr=>?_) ?_ ?_ ?_ rfl rfl (λa j hr=>?_) a3J (rest:=st.own)
 .simp[aL,aQ,aW,aV,eF,bH,getKey,(hk a).1]
 .simp[aL,aQ,aW,aV,eF,bH,getKey]
 .simpa[aR,bF,rk,jP]using hw
 .simp only[cX,rdO,List.append_nil,List.map_cons,List.map_nil,rk,if_true,dD,aR,bF,WkH,and_true];exact⟨_,hH,by simp[WkO]⟩
 .have:=oI a j hr;simpa[bG,bS,dD,aR,bF,rk,dX,(hk a).2]using this
theorem c2m{f:FuncId}{ds:List D}{d:D}{av:List DV}{st:St}{q ro:Bool}{ls:List (Option VM.Loc)}{dst:Option Tmp}{all:Array Oper}{ops:List Oper}{k:List KI}(he:VM.Enters prog f)(hc:CH prog G f ⟨.ptr 100000 0::ds.map .d,rH l i,[]⟩ ⟨[.d d],rH l i,[]⟩)(h:VK prog G (.ops q all ops::k) .normal (finish st dst (.d d) .no) Q)(hw:WkT av (.ptr 100000 0::ds.map .d):=by simp)(hH:getKey 100000 st.H=some (rdO l i):=by simp)(tS:mY [100000] st.own=true:=by simp):jB prog G q ro f av ls dst all ops k st Q:=by
 refine jB.ro he hc K1 ?_ ?_ ?_ tS ?_ h
 .simp[aL,aQ,aW,aV,eF,bH,getKey]
 .simpa[aR,bF,rk,jP]using hw
 .simp only[cX,rdO,List.map_cons,List.map_nil,rk,if_true,dD,aR,bF,a8w,and_true];exact hH
 .simp[hH]
theorem oZ.bL{f:FuncId}{fn:Func}{c:Code}{k:Nat}{av:List DV}{X:List (Nat×bD)}{r:kJ β}(hf:prog.funcs[f]? =some fn)(hb:fn.body=some c)(hn:fn.ntmps=k)(hrs:fn.results.toList=rs)(hT:(own.all λc=>c.2.all λl=>match l with| .t i=>decide (i<av.length)|_=>true)=true)(h:∀Q:Exit->St->Prop,tG Q rs l enc Y own r->XK prog G [.code c] .normal ⟨av++List.replicate (k-av.length) (.cI []),rH l i++X,own⟩ Q):oZ G f av X own l i r enc Y:=oZ.a0k hf hb hn hrs hT λQ hQ=>SW.xk (h Q hQ)
theorem rdX{f:FuncId}{ds:List D}{av:List DV}{r:kJ β}{st:St}{ls:List (Option VM.Loc)}{dst:Option Tmp}{all:Array Oper}{ops:List Oper}{k:List XI}(he:VM.Enters prog f)(hc:sJ G f ds l i r enc)(oI:∀a j,r=.ok a j->XK prog G (.ops all ops::k) .normal ⟨jN dst (enc a) st.tmps,bU 100000 (rdO l j) st.H,gI dst (dropKey 100000 st.own)⟩ Q)(a3J:∀n e,r=.bad n e->Q (.panic (a0Z (qE n e))) (a2I st))(hk:∀a,aQ K1 (enc a)=true/\bF K1 (enc a)=enc a:=by intro a;exact⟨rfl,rfl⟩)(hw:WkT av (.ptr 100000 0::ds.map .d):=by simp)(hH:getKey 100000 st.H=some (rdO l i):=by simp):dO prog G f av ls dst all ops k st Q:=dO.mk (rdZ (hw:=hw) (hH:=hH) he hc oI a3J hk)
theorem qK{γ:Type}{f:FuncId}{ds:List D}{av:List DV}{x:bE γ}{g:γ->bE β}{e1:γ->DV}{m:Nat}{A:Prop}{Q':Exit->St->Prop}{st:St}{ls:List (Option VM.Loc)}{dst:Option Tmp}{KK:St->Prop}(Q0:tG Q rs l enc Y own ((x >>=g) i))(p0:A/\i<l.length)(he:VM.Enters prog f)(hc:sJ G f ds l i (x i) e1)(ad:aB l m x)(oI:∀a j,x i=.ok a j->tG Q rs l enc Y own (g a j)->i+m<=j/\j<l.length->KK ⟨jN dst (e1 a) st.tmps,bU 100000 (rdO l j) st.H,gI dst (dropKey 100000 st.own)⟩)(hq:∀v s,(∀s,Q (.panic v) s)->Q' (.panic v) s:=by first|exact λ_ _ h=>h _|(intro v s h;simp;first|exact h _|exact h))(hw:WkT av (.ptr 100000 0::ds.map .d):=by simp)(hH:getKey 100000 st.H=some (rdO l i):=by simp)(hk:∀a,aQ K1 (e1 a)=true/\bF K1 (e1 a)=e1 a:=by intro a;exact⟨rfl,rfl⟩):tF prog G f av ls dst st KK Q' (kD (x i)):=rdZ (hw:=hw) (hH:=hH) he hc (λa j h=>oI a j h (Q0.step h) (ad i a j p0.2 h)) (λn e h=>hq _ _ λs=>Q0.fail h s) hk
theorem sY{γ:Type}{f:FuncId}{ds:List D}{av:List DV}{x:bE γ}{g:γ->bE β}{e1:γ->DV}{m:Nat}{A:Prop}{Q':Exit->St->Prop}{st:St}{ls:List (Option VM.Loc)}{dst:Option Tmp}{all:Array Oper}{ops:List Oper}{k:List XI}(Q0:tG Q rs l enc Y own ((x >>=g) i))(p0:A/\i<l.length)(he:VM.Enters prog f)(hc:sJ G f ds l i (x i) e1)(ad:aB l m x)(oI:∀a j,x i=.ok a j->tG Q rs l enc Y own (g a j)->i+m<=j/\j<l.length->XK prog G (.ops all ops::k) .normal ⟨jN dst (e1 a) st.tmps,bU 100000 (rdO l j) st.H,gI dst (dropKey 100000 st.own)⟩ Q')(hq:∀v s,(∀s,Q (.panic v) s)->Q' (.panic v) s:=by first|exact λ_ _ h=>h _|(intro v s h;simp;first|exact h _|exact h))(hw:WkT av (.ptr 100000 0::ds.map .d):=by simp)(hH:getKey 100000 st.H=some (rdO l i):=by simp)(hk:∀a,aQ K1 (e1 a)=true/\bF K1 (e1 a)=e1 a:=by intro a;exact⟨rfl,rfl⟩):dO prog G f av ls dst all ops k st Q':=dO.mk (qK (hw:=hw) (hH:=hH) Q0 p0 he hc ad oI hq (hk:=hk))
theorem rdR{f:FuncId}{ds:List D}{av:List DV}{r:kJ β}{e1:β->DV}{Q':Exit->St->Prop}{st:St}{ls:List (Option VM.Loc)}{dst:Option Tmp}{all:Array Oper}{ops:List Oper}{k:List XI}(Q0:tG Q rs l enc Y own r)(he:VM.Enters prog f)(hc:sJ G f ds l i r e1)(oI:∀a j,r=.ok a j->XK prog G (.ops all ops::k) .normal ⟨jN dst (e1 a) st.tmps,bU 100000 (rdO l j) st.H,gI dst (dropKey 100000 st.own)⟩ Q')(hq:∀v s,(∀s,Q (.panic v) s)->Q' (.panic v) s:=by first|exact λ_ _ h=>h _|(intro v s h;simp;first|exact h _|exact h))(hw:WkT av (.ptr 100000 0::ds.map .d):=by simp)(hH:getKey 100000 st.H=some (rdO l i):=by simp)(hk:∀a,aQ K1 (e1 a)=true/\bF K1 (e1 a)=e1 a:=by intro a;exact⟨rfl,rfl⟩):dO prog G f av ls dst all ops k st Q':=rdX (hw:=hw) (hH:=hH) he hc oI (λn e h=>hq _ _ λs=>Q0.bad n e s h) hk
theorem pA{f:FuncId}{ds:List D}{d:DV}{av:List DV}{st:St}{ls:List (Option VM.Loc)}{dst:Option Tmp}{all:Array Oper}{ops:List Oper}{k:List XI}(he:VM.Enters prog f)(hc:CH prog G f ⟨.ptr 100000 0::ds.map .d,rH l i,[]⟩ ⟨[d],rH l j,[]⟩)(h:XK prog G (.ops all ops::k) .normal ⟨jN dst d st.tmps,bU 100000 (rdO l j) st.H,gI dst (dropKey 100000 st.own)⟩ Q)(hk:aQ K1 d=true/\bF K1 d=d:=by exact⟨rfl,rfl⟩)(hw:WkT av (.ptr 100000 0::ds.map .d):=by simp)(hH:getKey 100000 st.H=some (rdO l i):=by simp):dO prog G f av ls dst all ops k st Q:=
 rdX (hw:=hw) (hH:=hH) (r:=kJ.ok () j) (enc:=λ_=>d) he hc (λa j' hr=>by cases hr;exact h) (λn e hr=>by cases hr) λ_=>hk
end
theorem f1i:List.range 2=[0,1]:=rfl
theorem f1j:List.range 3=[0,1,2]:=rfl
attribute [simp] jN gI f1i f1j
end
section
open Go Go.VM
variable {G:GT}
theorem oE:VM.Enters prog 127:=.mk func127 rfl
theorem mQ:VM.Enters prog 120:=.mk func120 rfl
theorem bZ:VM.Enters prog 41:=.mk func41 rfl
theorem gZ:VM.Enters prog 76:=.mk func76 rfl
theorem jX:VM.Enters prog 60:=.mk func60 rfl
theorem wS:VM.Enters prog 59:=.mk func59 rfl
theorem mI:VM.Enters prog 43:=.mk func43 rfl
theorem a2N:VM.Enters prog 119:=.mk func119 rfl
theorem dG:VM.Enters prog 71:=.mk func71 rfl
theorem kG:VM.Enters prog 116:=.mk func116 rfl
theorem a2O:VM.Enters prog 137:=.mk func137 rfl
theorem pF(t:Tok)(s:Nm):CS prog G 127 [.agg (bJ t),.str s] (.d (.bool (cV t s))) none:=by
 obtain⟨k,x,n,ln⟩:=t;refine CS.aX func127 rfl ntmps127 rfl ?_;by_cases h1:k=1
 .by_cases h2:x=s<;>simp[bJ,cV,h1,h2]
 .by_cases h4:k=4
  .by_cases h2:x=s<;>simp[bJ,cV,h4,h2]
  .by_cases h5:k=2
   .by_cases h2:x=s<;>simp[bJ,cV,h5,h2]
   .simp[bJ,cV,h1,h4,h5]
theorem oX(hG:G 1=some eK)(t:Tok):CS prog G 120 [.agg (bJ t)] (.d (.bool (jV aJ t))) none:=by
 obtain⟨k,x,n,ln⟩:=t;refine CS.aX func120 rfl ntmps120 rfl ?_;by_cases h1:k=1
 .simp[bJ,jV,h1];refine aC.mk zS (a0U hG x) ?_;simp
 .simp[bJ,jV,h1]
theorem dA(l:List Tok)(i m:Nat)(x:Int)(hx:(i:Int)+x=m)(hm:m<=l.length+10)(h0:l≠[])(hl:l.length<=2000000):CH prog G 41 ⟨[.ptr 100000 0,.d (.int .i64 x)],rH l i,[]⟩ ⟨[.d (.agg (bJ (aG l m)))],rH l i,[]⟩:=by
 have hw:IntKind.i64.wrap ((i:Int)+x)=(m:Int):=by rw[hx,wrap64 (by omega)]
 have hlen:0<l.length:=List.length_pos_iff.2 h0;have hw2:IntKind.i64.wrap ((l.length:Int)-1)=((l.length-1:Nat):Int):=by rw[wrap64 (by omega)];omega
 by_cases h:m<l.length
 .have hg:aG l m=l[m]:=by simp[aG,h]
  rw[hg];obtain⟨T,hT⟩:∃T,l[m]=T:=⟨_,rfl⟩;rw[hT];obtain⟨k,s,n,ln⟩:=T;refine CH.aX func41 rfl ntmps41 rfl (by simp) ?_;simp[hw,h,hT,bJ];exact⟨kV.mk (by kernel_rfl),kV.mk (by kernel_rfl)⟩
 .have hl1:l.length-1<l.length:=by omega
  have hg:aG l m=l[l.length-1]:=by simp[aG,h,List.getLastD_eq_getLast?,List.getLast?_eq_getElem?,hl1]
  rw[hg];obtain⟨N,hN⟩:∃N,l.length-1=N:=⟨_,rfl⟩;rw[hN]at hl1 hw2;obtain⟨T,hT⟩:∃T,l[N]=T:=⟨_,rfl⟩;have hT2:l[l.length-1]=T:=by simp only[hN];exact hT
  rw[hT2];obtain⟨k,s,n,ln⟩:=T;refine CH.aX func41 rfl ntmps41 rfl (by simp) ?_;simp[hw,hw2,h,h0,hT,hl1,bJ];exact⟨kV.mk (by kernel_rfl),kV.mk (by kernel_rfl)⟩
theorem kX(l:List Tok)(i:Nat)(s:Nm)(hi:i<l.length)(hl:l.length<=2000000):CH prog G 76 ⟨[.ptr 100000 0,.d (.str s)],rH l i,[]⟩ ⟨[.d (.bool (aH l i s))],rH l i,[]⟩:=by have ht:=dA (G:=G) l i i 0 (by omega) (by omega) (by intro e;subst e;simp at hi) hl;refine CH.aX func76 rfl ntmps76 rfl (by simp) ?_;simp;refine c2m (i:=i) (ds:=[.int .i64 0]) bZ ht ?_;simp;refine aC.mk oE (pF (aG l i) s) ?_;simp[aH]
theorem sP(l:List Tok)(i:Nat)(s:Nm)(hi:i<l.length)(hl:l.length<=2000000)(h:aH l i s=true):CH prog G 60 ⟨[.ptr 100000 0,.d (.str s)],rH l i,[]⟩ ⟨[.d (.bool true)],rH l (i+1),[]⟩:=by have hc:=kX (G:=G) l i s hi hl;rw[h]at hc;have hw:=bA (show i<9223372036854775807 by omega);refine CH.aX func60 rfl ntmps60 rfl (by simp) ?_;simp;refine c2m (i:=i) (ds:=[.str s]) gZ hc ?_;simp[hw]
theorem b2q(l:List Tok)(i:Nat)(s:Nm)(hi:i<l.length)(hl:l.length<=2000000)(h:aH l i s=false):CH prog G 60 ⟨[.ptr 100000 0,.d (.str s)],rH l i,[]⟩ ⟨[.d (.bool false)],rH l i,[]⟩:=by have hc:=kX (G:=G) l i s hi hl;rw[h]at hc;refine CH.aX func60 rfl ntmps60 rfl (by simp) ?_;simp;refine c2m (i:=i) (ds:=[.str s]) gZ hc ?_;simp
theorem zD{α:Type}(l:List Tok)(i:Nat)(hi:i<l.length)(hl:l.length<=2000000)(enc:α->DV):sJ G 59 [] l i (eH l i:kJ α) enc:=by have ht:=dA (G:=G) l i i 0 (by omega) (by omega) (by intro e;subst e;simp at hi) hl;refine oZ.a0k func59 rfl ntmps59 rfl (by simp) ?_;intro Q hE;refine SW.lw (LW.app 4 ?_);simp;refine c2m (i:=i) (ds:=[.int .i64 0]) bZ ht ?_;generalize hT:aG l i=T;have hb:=λs=>hE.bad T.line 14 s (by unfold eH;rw[hT]);obtain⟨k,s,n,ln⟩:=T;simp[bJ];refine LW.c8E (td:=_) (n:=ln) (e:=14) rfl rfl (by simp) (by simp) ?_;exact hb _
end
section
structure dW where
 pl:Nat
 er:Int
 ln:Int
def RM(α:Type):=dW->α×dW
instance:Monad RM where
 pure:=λa s=>(a,s)
 bind:=λx f s=>f (x s).1 (x s).2
theorem a7K{α:Type}(a:α)(s:dW):(pure a:RM α) s=(a,s):=rfl
theorem cO{α β:Type}(x:RM α)(f:α->RM β)(s:dW):(x >>=f) s=f (x s).1 (x s).2:=rfl
def a0n(c:dW->Bool):RM Bool:=λs=>(c s,s)
section
variable (kw:Nm->Bool) (andP:Pr->Pr->Pr) (aE:List Tok->Nat->Nat->kJ Pr) (l:List Tok)
def eT(k:Nat)(s:dW):Tok:=if s.er=0/\s.pl+k<l.length then aG l (s.pl+k) else⟨0,[],0,0⟩
def pL(s:dW):dW:=if s.er=0 then⟨s.pl,14,(eT l 0 s).line⟩ else s
def cF(k:Nat)(t:Nm)(s:dW):Bool:=decide ((eT l k s).kind=4)&&decide ((eT l k s).text=t)
def oL(t:Nm)(s:dW):Bool:=decide ((eT l 0 s).kind=1)&&decide ((eT l 0 s).text=t)
def vH(k:Nat)(s:dW):Bool:=decide ((eT l k s).kind=1)&& !kw (eT l k s).text
def xC(s:dW):Bool:=decide ((eT l 0 s).kind=2)
def rZ(b:Bool):RM Nm:=λs=>if b=true/\s.er=0 then((eT l 0 s).text,⟨s.pl+1,s.er,s.ln⟩) else([],pL l s)
def a5L(c:dW->Bool):RM Nm:=λs=>rZ l (c s) s
def bQ(t:Nm):RM Unit:=λs=>((),(rZ l (cF l 0 t s) s).2)
def jQ(t:Nm):RM Bool:=λs=>if cF l 0 t s then(true,⟨s.pl+1,s.er,s.ln⟩) else(false,s)
def b1b(t:Nm):RM Bool:=λs=>if oL l t s then(true,⟨s.pl+1,s.er,s.ln⟩) else(false,s)
def oF:RM Nm:=a5L l (vH kw l 0)
def zX:RM Nm:=a5L l (xC l)
def wT(t:Nm):RM Nm:=a5L l (oL l t)
def d6i:RM Nm:=a5L l λs=>xC l s||vH kw l 0 s
def xZ{α:Type}(c:dW->Bool)(one:α->RM α):Nat->α->RM α
 |0,a=>λs=>(a,s)
 |g+1,a=>λs=>if c s then xZ c one g (one a s).1 (one a s).2 else(a,s)
def c8M{α:Type}(c:dW->Bool)(one:α->RM α)(a:α):RM α:=xZ c one (l.length+2) a
def pR{α:Type}(c:Nm)(one:α->RM α):Nat->α->RM α
 |0,a=>λs=>(a,s)
 |g+1,a=>λs=>if s.er=0 then(if cF l 0 c (one a s).2 then pR c one g (one a s).1 ⟨(one a s).2.pl+1,(one a s).2.er,(one a s).2.ln⟩ else one a s) else(a,s)
def sZ{α:Type}(c:Nm)(one:α->RM α)(a:α):RM α:=pR l c one (l.length+2) a
def sK(e:Nat):RM Pr:=λs=>if s.er=0 then(match aE l s.pl e with
 | .ok p j=>(p,⟨j,0,s.ln⟩)
 | .bad n x=>(eY,⟨s.pl,x,n⟩)) else(eY,s)
def a9x:RM Pr:=sK aE l l.length
def a3U(w:Nm):RM (List Nm):=λs=>if cF l 0 [44] s then pR l [44] (λout=>do let w <- oF kw l;pure (out++[w])) (l.length+1) [w] ⟨s.pl+1,s.er,s.ln⟩ else([w],s)
def sA:RM (List Nm):=do
 bQ l [40]
 let w <- oF kw l
 let out <- a3U kw l w
 bQ l [41]
 pure out
def d6j(v:Bool):RM (List psV):=sZ l [44] (λout=>do
 let name <- a5L l λs=>vH kw l 0 s||v&&oL l [118] s
 bQ l [58]
 let t <- d6i kw l
 pure (out++[(name,t)])) []
def dC:RM (Ty×Bool):=λs=>
 if vH kw l 0 s then((vP 5 (eT l 0 s).text,true),⟨s.pl+1,s.er,s.ln⟩)
 else if !xC l s then((mO,false),s)
 else((if (eT l 0 s).text=[73,110,116] then vP 1 [] else if (eT l 0 s).text=[66,111,111,108] then vP 2 [] else if (eT l 0 s).text=[67,101,108,108] then vP 3 [] else vP 4 (eT l 0 s).text,true),⟨s.pl+1,s.er,s.ln⟩)
section
variable (ty:RM Ty)
def a6N:RM Ty:=do
 bQ l [123]
 let _ <- wT l [118]
 bQ l [58]
 let t <- ty
 let _ <- a5L l λs=>cF l 0 [124] s&& !decide (t.op=6)
 let p <- a9x aE l
 bQ l [125]
 pure {t with pred:=if t.pred.op=0 then p else andP t.pred p}
def a9y:RM Ty:=λs=>
 if cF l 0 [123] s then a6N andP aE l ty s
 else if cF l 0 [40] s then(do
  let t <- ty
  bQ l [41]
  pure t:RM Ty) ⟨s.pl+1,s.er,s.ln⟩
 else((dC kw l s).1.1,if (dC kw l s).1.2 then(dC kw l s).2 else pL l (dC kw l s).2)
def a4N(name:Nm):RM Ty:=do
 let args <- c8M l (λs=>vH kw l 0 s||(xC l s||(cF l 0 [123] s||cF l 0 [40] s))) (λout=>do let t <- a9y kw andP aE l ty;pure (out++[t])) []
 let b <- jQ l [60]
 if b then do
  let ps <- sZ l [44] (λout=>do
   let _ <- wT l [118]
   bQ l [46]
   let p <- a9x aE l
   pure (out++[p])) []
  bQ l [62]
  pure {vP 4 name with args:=args,b0F:=ps}
 else pure {vP 4 name with args:=args}
def zE:RM Ty:=do
 bQ l [40]
 let named <- a0n λs=>vH kw l 0 s&&cF l 1 [58] s
 let (ns,ts) <- sZ l [44] (λ(out:List Nm×List Ty)=>if named then(do
   let w <- oF kw l
   bQ l [58]
   let t <- ty
   pure (out.1++[w],out.2++[t])) else(do
   let t <- ty
   pure (out.1,out.2++[t]))) ([],[])
 bQ l [41]
 let c <- a0n λs=>decide (ts.length=1)&&(!named&& !cF l 0 [45,62] s)
 if c then pure (ts.headD mO) else do
  bQ l [45,62]
  let t <- ty
  pure {vP 6 []with names:=ns,args:=ts++[t]}
def a4O:RM Ty:=λs=>
 if s.er=0 then
  (if cF l 0 [123] s then a6N andP aE l ty s
  else if cF l 0 [40] s then zE kw l ty s
  else if (dC kw l s).1.2 then(if (dC kw l s).1.1.op=4 then a4N kw andP aE l ty (dC kw l s).1.1.name (dC kw l s).2 else((dC kw l s).1.1,(dC kw l s).2))
  else(mO,pL l (dC kw l s).2))
 else(mO,s)
end
def a9z:Nat->RM Ty
 |0=>λs=>(mO,s)
 |n+1=>a4O kw andP aE l (a9z n)
def yA:RM Ty:=a9z kw andP aE l (l.length+2)
def a4P:RM (List Ty):=do
 bQ l [91]
 let out <- sZ l [44] (λout=>do let t <- yA kw andP aE l;pure (out++[t])) []
 bQ l [93]
 pure out
section
variable (ex:Nat->RM cG)
def sB:RM (List cG):=do
 bQ l [40]
 let out <- sZ l [44] (λout=>do let e <- ex 0;pure (out++[e])) []
 bQ l [41]
 pure out
def b6w(op:Int):RM cG:=do
 bQ l [40]
 let e <- ex 0
 bQ l [41]
 pure (cD op [e])
def c2n(op:Int):RM cG:=do
 bQ l [40]
 let a <- ex 0
 bQ l [44]
 let b <- ex 0
 bQ l [41]
 pure (cD op [a,b])
def c5Q:RM cG:=λs=>
 if cF l 1 [45] s&&(decide ((eT l 2 s).kind=3)&&cF l 3 [41] s) then(⟨1,[], -(eT l 2 s).n,[],[],[],[]⟩,⟨s.pl+4,s.er,s.ln⟩)
 else(do
  bQ l [40]
  let e <- ex 0
  let b <- jQ l [58]
  let e <- (if b then do let t <- yA kw andP aE l;pure {cD 26 [e]with types:=[t]} else pure e:RM cG)
  bQ l [41]
  pure e:RM cG) s
def a9A(ti call:Bool)(nm:Nm):RM cG:=do
 let ts <- (a0n (cF l 0 [91]) >>=λc=>if c then a4P kw andP aE l else pure []:RM (List Ty))
 let ks <- (a0n (λs=>call||cF l 0 [40] s) >>=λc=>if c then sB l ex else pure []:RM (List cG))
 pure ⟨if call then 5 else if ti then 4 else 3,nm,0,ks,[],[],ts⟩
def b2r:RM cG:=λs=>a9A kw andP aE l ex (xC l s) (!xC l s&&(cF l 1 [91] s||cF l 1 [40] s)) (rZ l true s).1 (rZ l true s).2
def a7L:RM cG:=λs=>
 if s.er=0 then
  (if (eT l 0 s).kind=3 then(⟨1,[],(eT l 0 s).n,[],[],[],[]⟩,⟨s.pl+1,s.er,s.ln⟩)
  else if oL l [116,114,117,101] s then(⟨2,[],1,[],[],[],[]⟩,⟨s.pl+1,s.er,s.ln⟩)
  else if oL l [102,97,108,115,101] s then(⟨2,[],0,[],[],[],[]⟩,⟨s.pl+1,s.er,s.ln⟩)
  else if oL l [110,101,119] s then b6w l ex 22 ⟨s.pl+1,s.er,s.ln⟩
  else if oL l [103,101,116] s then b6w l ex 23 ⟨s.pl+1,s.er,s.ln⟩
  else if oL l [115,101,116] s then c2n l ex 24 ⟨s.pl+1,s.er,s.ln⟩
  else if cF l 0 [40] s then c5Q kw andP aE l ex s
  else if vH kw l 0 s||xC l s then b2r kw andP aE l ex s
  else(xS,pL l s))
 else(xS,s)
def b3D:RM cG:=λs=>if cF l 0 [45] s then(do let e <- ex 7;pure (cD 15 [e]):RM cG) ⟨s.pl+1,s.er,s.ln⟩ else a7L kw andP aE l ex s
def vT(ops:List (Nm×Bool×Int))(s:dW):Int:=match ops.find? λp=>if p.2.1 then oL l p.1 s else cF l 0 p.1 s with
 |none=>0
 |some p=>p.2.2
def uR(ops:List (Nm×Bool×Int)):RM Int:=λs=>if vT l ops s=0 then(0,s) else(vT l ops s,⟨s.pl+1,s.er,s.ln⟩)
def yB(ops:List (Nm×Bool×Int))(one:RM cG):Nat->cG->RM cG
 |0,e=>λs=>(e,s)
 |g+1,e=>λs=>if s.er=0/\ ¬vT l ops s=0 then yB ops one g (cD (vT l ops s) [e,(one ⟨s.pl+1,s.er,s.ln⟩).1]) (one ⟨s.pl+1,s.er,s.ln⟩).2 else(e,s)
def b3E(ops:List (Nm×Bool×Int))(one:RM cG):RM cG:=do
 let e <- one
 yB l ops one (l.length+2) e
abbrev uA:Nat->List (Nm×Bool×Int)
 |1=>[([124,124],false,20)]
 |2=>[([38,38],false,19)]
 |4=>[([43],false,10),([45],false,11)]
 |5=>[([42],false,12),([100,105,118],true,13),([109,111,100],true,14)]
 |_=>[]
def e2g:RM cG:=b3E l (uA 5) (b3D kw andP aE l ex)
def a0D:RM cG:=b3E l (uA 4) (e2g kw andP aE l ex)
def b6x:RM cG:=do
 let e <- a0D kw andP aE l ex
 λs=>
  if (eT l 0 s).kind=4 then
   (if (eT l 0 s).text=[61,61] then(do let x <- a0D kw andP aE l ex;pure (cD 16 [e,x]):RM cG) ⟨s.pl+1,s.er,s.ln⟩
   else if (eT l 0 s).text=[33,61] then(do let x <- a0D kw andP aE l ex;pure (cD 21 [cD 16 [e,x]]):RM cG) ⟨s.pl+1,s.er,s.ln⟩
   else if (eT l 0 s).text=[60] then(do let x <- a0D kw andP aE l ex;pure (cD 17 [e,x]):RM cG) ⟨s.pl+1,s.er,s.ln⟩
   else if (eT l 0 s).text=[60,61] then(do let x <- a0D kw andP aE l ex;pure (cD 18 [e,x]):RM cG) ⟨s.pl+1,s.er,s.ln⟩
   else if (eT l 0 s).text=[62] then(do let x <- a0D kw andP aE l ex;pure (cD 17 [x,e]):RM cG) ⟨s.pl+1,s.er,s.ln⟩
   else if (eT l 0 s).text=[62,61] then(do let x <- a0D kw andP aE l ex;pure (cD 18 [x,e]):RM cG) ⟨s.pl+1,s.er,s.ln⟩
   else(e,s))
  else(e,s)
def a9B:RM cG:=λs=>if cF l 0 [33] s then(do let e <- ex 3;pure (cD 21 [e]):RM cG) ⟨s.pl+1,s.er,s.ln⟩ else b6x kw andP aE l ex s
def e7K:RM cG:=b3E l (uA 2) (a9B kw andP aE l ex)
def d6k:RM cG:=b3E l (uA 1) (e7K kw andP aE l ex)
def b1c:RM (List (Nm×List Nm×cG)):=do
 bQ l [123]
 let alts <- sZ l [59] (λout=>do
  let c <- zX l
  let b <- a0n (cF l 0 [40])
  let ns <- (if b then sA kw l else pure []:RM (List Nm))
  bQ l [45,62]
  let b <- ex 0
  pure (out++[(c,ns,b)])) []
 bQ l [125]
 pure alts
def a1U:RM (List (Nm×Ty)):=do
 bQ l [40]
 let ps <- sZ l [44] (λout=>do
  let w <- oF kw l
  let b <- jQ l [58]
  let t <- (if b then yA kw andP aE l else pure mO)
  pure (out++[(w,t)])) []
 bQ l [41]
 pure ps
def b6y:RM cG:=do
 let name <- oF kw l
 let b <- jQ l [58]
 let ts <- (if b then do let t <- yA kw andP aE l;pure [t] else pure []:RM (List Ty))
 bQ l [61]
 let a <- ex 0
 let _ <- wT l [105,110]
 let c <- ex 0
 pure {cD 7 [a,c]with name:=name,types:=ts}
def b6z:RM cG:=λs=>
 if s.er=0 then
  (if oL l [108,101,116] s then b6y kw andP aE l ex ⟨s.pl+1,s.er,s.ln⟩
  else if oL l [105,102] s then(do
   let a <- ex 0
   let _ <- wT l [116,104,101,110]
   let b <- ex 0
   let _ <- wT l [101,108,115,101]
   let c <- ex 0
   pure (cD 8 [a,b,c]):RM cG) ⟨s.pl+1,s.er,s.ln⟩
  else if oL l [99,97,115,101] s then(do
   let a <- ex 0
   let _ <- wT l [111,102]
   let alts <- b1c kw l ex
   pure {cD 9 [a]with alts:=alts}:RM cG) ⟨s.pl+1,s.er,s.ln⟩
  else if oL l [102,117,110] s then(do
   let ps <- a1U kw andP aE l
   bQ l [45,62]
   let e <- ex 0
   pure {cD 6 [e]with params:=ps}:RM cG) ⟨s.pl+1,s.er,s.ln⟩
  else if oL l [117,115,101] s then(do
   let name <- oF kw l
   let ks <- sB l ex
   let _ <- wT l [105,110]
   let b <- ex 0
   pure {cD 25 (ks++[b])with name:=name}:RM cG) ⟨s.pl+1,s.er,s.ln⟩
  else d6k kw andP aE l ex s)
 else(xS,s)
end
def b1d:Nat->Nat->RM cG
 |0,_=>λs=>(xS,s)
 |n+1,k=>if k=7 then b3D kw andP aE l (b1d n) else if k=3 then a9B kw andP aE l (b1d n) else b6z kw andP aE l (b1d n)
def c8N:RM cG:=b1d kw andP aE l (l.length+2) 0
def b1e:RM Unit:=λs=>((),if s.er=0/\ ¬(eT l 0 s).kind=0 then pL l s else s)
end
end
section
open Go Go.VM
variable {G:GT}
abbrev rfO(l:List Tok)(s:dW):bD:=.cells [.d (.sl (l.map bJ)),.d (.int .i64 s.pl),.d (.int .i64 s.er),.d (.int .i64 s.ln)]
abbrev rfH(l:List Tok)(s:dW):List (Nat×bD):=[(100000,rfO l s)]
def RfG(G:GT){α:Type}(f:FuncId)(ds:List D)(l:List Tok)(s:dW)(y:α×dW)(enc:α->DV)(own:List (TypeId×List VM.Loc)):Prop:=CX prog G f ⟨.ptr 100000 0::ds.map .d,rfH l s,[]⟩ (.inl (enc y.1,rfH l y.2,own))
abbrev eR(G:GT){α:Type}(f:FuncId)(ds:List D)(l:List Tok)(s:dW)(y:α×dW)(enc:α->DV):Prop:=RfG G f ds l s y enc []
structure yN {α:Type} (Q:Exit->St->Prop) (rs:List ResultVar) (l:List Tok) (enc:α->DV) (own:List (TypeId×List VM.Loc)) (y:α×dW):Prop where
 ok:∀e s,(e=.normal\/e=.ret)->a4K prog s rs (enc y.1) (rfH l y.2) own->Q e s
section
variable {α β:Type} {Q:Exit->St->Prop} {rs:List ResultVar} {l:List Tok} {s s1:dW} {enc:β->DV} {own:List (TypeId×List VM.Loc)} {a:α}
theorem yN.step{x:RM α}{f:α->RM β}(h:yN Q rs l enc own ((x >>=f) s))(hx:x s=(a,s1)):yN Q rs l enc own (f a s1):=by rwa[cO,hx]at h
theorem yN.eq{y z:β×dW}(h:yN Q rs l enc own y)(hx:y=z):yN Q rs l enc own z:=hx▸h
theorem yN.tH{c:Prop}[Decidable c]{x y:β×dW}(h:yN Q rs l enc own (if c then x else y))(hc:c):yN Q rs l enc own x:=by rwa[if_pos hc]at h
theorem yN.rF{c:Prop}[Decidable c]{x y:β×dW}(h:yN Q rs l enc own (if c then x else y))(hc: ¬c):yN Q rs l enc own y:=by rwa[if_neg hc]at h
theorem eR.a0k{f:FuncId}{fn:Func}{c:Code}{k:Nat}{ds:List D}{y:β×dW}(hf:prog.funcs[f]? =some fn)(hb:fn.body=some c)(hn:fn.ntmps=k)(hrs:fn.results.toList=rs)(h:∀Q:Exit->St->Prop,yN Q rs l enc own y->SW prog G c ⟨.ptr 100000 0::ds.map .d++List.replicate (k-(.ptr 100000 0::ds.map .d:List DV).length) (.cI []),rfH l s,[]⟩ Q):RfG G f ds l s y enc own:=
 CX.b6t hf hb hn hrs rfl λQ h1 h2=>h Q ⟨λe s he hs=>h1 _ _ _ e s rfl he hs⟩
theorem eR.bL{f:FuncId}{fn:Func}{c:Code}{k:Nat}{ds:List D}{y:β×dW}(hf:prog.funcs[f]? =some fn)(hb:fn.body=some c)(hn:fn.ntmps=k)(hrs:fn.results.toList=rs)(h:∀Q:Exit->St->Prop,yN Q rs l enc own y->XK prog G [.code c] .normal ⟨.ptr 100000 0::ds.map .d++List.replicate (k-(.ptr 100000 0::ds.map .d:List DV).length) (.cI []),rfH l s,[]⟩ Q):RfG G f ds l s y enc own:=eR.a0k hf hb hn hrs λQ hQ=>SW.xk (h Q hQ)
theorem rfZ{f:FuncId}{ds:List D}{av:List DV}{y:β×dW}{st:St}{ls:List (Option VM.Loc)}{dst:Option Tmp}{KK:St->Prop}(he:VM.Enters prog f)(hc:eR G f ds l s y enc)(oI:∀a s1,y=(a,s1)->KK ⟨jN dst (enc a) st.tmps,bU 100000 (rfO l s1) st.H,gI dst (dropKey 100000 st.own)⟩)(hk:∀a,aQ K1 (enc a)=true/\bF K1 (enc a)=enc a:=by intro a;exact⟨rfl,rfl⟩)(hw:WkT av (.ptr 100000 0::ds.map .d):=by simp)(hH:getKey 100000 st.H=some (rfO l s):=by simp):tF prog G f av ls dst st KK Q true:=by
 refine tF.mk (x:=.inl (enc y.1,rfH l y.2,[])) he hc K1 (λd H1 own1 hx=>?_) (λv hx=>by cases hx) ?_ ?_ rfl rfl (λd H1 own1 hx=>?_) (λv hx=>by cases hx) (rest:=st.own)
 .cases hx;simp[aL,aQ,aW,aV,eF,bH,getKey,(hk y.1).1]
 .simpa[aR,bF,rk,jP]using hw
 .simp only[cX,rfO,List.map_cons,List.map_nil,rk,if_true,dD,aR,bF,WkH,and_true];exact⟨_,hH,by simp[WkO]⟩
 .cases hx;have:=oI y.1 y.2 rfl;simpa[bG,bS,dD,aR,bF,rk,dX,(hk y.1).2]using this
theorem eB{f:FuncId}{ds:List D}{av:List DV}{y:β×dW}{st:St}{ls:List (Option VM.Loc)}{dst:Option Tmp}{all:Array Oper}{ops:List Oper}{k:List XI}(he:VM.Enters prog f)(hc:eR G f ds l s y enc)(oI:∀a s1,y=(a,s1)->XK prog G (.ops all ops::k) .normal ⟨jN dst (enc a) st.tmps,bU 100000 (rfO l s1) st.H,gI dst (dropKey 100000 st.own)⟩ Q)(hk:∀a,aQ K1 (enc a)=true/\bF K1 (enc a)=enc a:=by intro a;exact⟨rfl,rfl⟩)(hw:WkT av (.ptr 100000 0::ds.map .d):=by simp)(hH:getKey 100000 st.H=some (rfO l s):=by simp):dO prog G f av ls dst all ops k st Q:=dO.mk (rfZ (hw:=hw) (hH:=hH) he hc oI hk)
end
attribute [simp] a7K
def dS(l:List Tok)(s:dW):Prop:=s.er=0->s.pl<l.length
theorem gU:VM.Enters prog 45:=.mk func45 rfl
theorem wU:VM.Enters prog 98:=.mk func98 rfl
theorem dB:VM.Enters prog 92:=.mk func92 rfl
theorem pG:VM.Enters prog 85:=.mk func85 rfl
theorem wV:VM.Enters prog 141:=.mk func141 rfl
theorem uS:VM.Enters prog 140:=.mk func140 rfl
theorem gV:VM.Enters prog 91:=.mk func91 rfl
theorem b3F:VM.Enters prog 47:=.mk func47 rfl
theorem cT:VM.Enters prog 62:=.mk func62 rfl
theorem mJ:VM.Enters prog 100:=.mk func100 rfl
theorem wW:VM.Enters prog 104:=.mk func104 rfl
section
variable {l:List Tok} (hl:l.length<=50000)
include hl
theorem oG(k:Nat)(s:dW)(hv:dS l s)(hk:k<=10):eR G 45 [.int .i64 k] l s (eT l k s,s) (λt=>.d (.agg (bJ t))):=by
 obtain⟨i,e,ln⟩:=s;by_cases he:e=0
 .subst he;have hi:i<l.length:=hv rfl;obtain⟨m,hm⟩:∃m,i+k=m:=⟨_,rfl⟩;have hw:IntKind.i64.wrap ((i:Int)+(k:Int))=(m:Int):=by rw[wrap64 (by omega)];omega
  by_cases h:m<l.length
  .have hg:eT l k ⟨i,0,ln⟩=l[m]:=by simp[eT,aG,hm,h]
   have hn: ¬l.length<=m:=by omega
   rw[hg];obtain⟨T,hT⟩:∃T,l[m]=T:=⟨_,rfl⟩;rw[hT];obtain⟨a,b,c,d⟩:=T
   show CH _ _ _ _ _
   refine CH.aX func45 rfl ntmps45 rfl (by simp) ?_;simp[hw,h,hn,hT,bJ];exact⟨kV.mk (by kernel_rfl),kV.mk (by kernel_rfl)⟩
  .have hg:eT l k ⟨i,0,ln⟩=⟨0,[],0,0⟩:=by simp[eT,hm,h]
   have hn:l.length<=m:=by omega
   rw[hg]
   show CH _ _ _ _ _
   refine CH.aX func45 rfl ntmps45 rfl (by simp) ?_;simp[hw,hn,bJ];exact kV.mk (by kernel_rfl)
 .have hg:eT l k ⟨i,e,ln⟩=⟨0,[],0,0⟩:=by simp[eT,he]
  rw[hg]
  show CH _ _ _ _ _
  refine CH.aX func45 rfl ntmps45 rfl (by simp) ?_;simp[he,bJ];exact kV.mk (by kernel_rfl)
theorem a1V(s:dW)(hv:dS l s):eR G 98 [] l s ((),pL l s) (λ_=>.cI []):=by
 have hp:eR G 45 [.int .i64 0] l s _ _:=oG hl 0 s hv (by omega);obtain⟨i,e,ln⟩:=s;refine eR.bL func98 rfl ntmps98 rfl ?_;intro Q Q0;by_cases he:e=0
 .subst he;have Q0:=Q0.eq (congrArg (Prod.mk ()) (if_pos rfl));simp;refine eB gU hp (λT s1 h1=>?_);cases h1;generalize eT l 0 ⟨i,0,ln⟩=T at Q0|-;obtain⟨a,b,c,d⟩:=T;simp[bJ];exact Q0.ok _ _ (.inl rfl) (by simp)
 .have Q0:=Q0.eq (congrArg (Prod.mk ()) (if_neg he));simp[he];exact Q0.ok _ _ (.inl rfl) (by simp)
theorem uB(k:Nat)(t:Nm)(s:dW)(hv:dS l s)(hk:k<=10):eR G 92 [.int .i64 k,.str t] l s (cF l k t s,s) (λb=>.d (.bool b)):=by
 have hp:=oG (G:=G) hl k s hv hk;obtain⟨i,e,ln⟩:=s;refine eR.bL func92 rfl ntmps92 rfl ?_;intro Q Q0;unfold cF at Q0;simp;refine eB gU hp (λT s1 h1=>?_);cases h1;generalize eT l k ⟨i,e,ln⟩=T at Q0|-;obtain⟨a,b,c,d⟩:=T;by_cases h4:a=4
 .simp[bJ,h4];exact Q0.ok _ _ (.inr rfl) (by simp[h4])
 .simp[bJ,h4];exact Q0.ok _ _ (.inr rfl) (by simp[h4])
theorem uT(t:Nm)(s:dW)(hv:dS l s):eR G 85 [.str t] l s (oL l t s,s) (λb=>.d (.bool b)):=by
 have hp:eR G 45 [.int .i64 0] l s _ _:=oG hl 0 s hv (by omega);obtain⟨i,e,ln⟩:=s;refine eR.bL func85 rfl ntmps85 rfl ?_;intro Q Q0;unfold oL at Q0;simp;refine eB gU hp (λT s1 h1=>?_);cases h1;generalize eT l 0 ⟨i,e,ln⟩=T at Q0|-;obtain⟨a,b,c,d⟩:=T;by_cases h4:a=1
 .simp[bJ,h4];exact Q0.ok _ _ (.inr rfl) (by simp[h4])
 .simp[bJ,h4];exact Q0.ok _ _ (.inr rfl) (by simp[h4])
theorem a9C(k:Nat)(s:dW)(hv:dS l s)(hk:k<=10):eR G 141 [.int .i64 k] l s (vH aJ l k s,s) (λb=>.d (.bool b)):=by
 have hp:=oG (G:=G) hl k s hv hk;obtain⟨i,e,ln⟩:=s;refine eR.bL func141 rfl ntmps141 rfl ?_;intro Q Q0;unfold vH at Q0;simp;refine eB gU hp (λT s1 h1=>?_);cases h1;generalize eT l k ⟨i,e,ln⟩=T at Q0|-;obtain⟨a,b,c,d⟩:=T;by_cases h4:a=1
 .simp[bJ,h4];refine mG.mk a1M (a3g b) ?_;simp;exact Q0.ok _ _ (.inr rfl) (by simp[h4])
 .simp[bJ,h4];exact Q0.ok _ _ (.inr rfl) (by simp[h4])
theorem wX(s:dW)(hv:dS l s):eR G 140 [] l s (xC l s,s) (λb=>.d (.bool b)):=by have hp:eR G 45 [.int .i64 0] l s _ _:=oG hl 0 s hv (by omega);obtain⟨i,e,ln⟩:=s;refine eR.bL func140 rfl ntmps140 rfl ?_;intro Q Q0;unfold xC at Q0;simp;refine eB gU hp (λT s1 h1=>?_);cases h1;generalize eT l 0 ⟨i,e,ln⟩=T at Q0|-;obtain⟨a,b,c,d⟩:=T;simp[bJ];exact Q0.ok _ _ (.inr rfl) (by simp)
theorem oH(b:Bool)(s:dW)(hv:dS l s):eR G 91 [.bool b] l s (rZ l b s) (λt=>.d (.str t)):=by
 have hp:eR G 45 [.int .i64 0] l s _ _:=oG hl 0 s hv (by omega);have hf:=a1V (G:=G) hl s hv;obtain⟨i,e,ln⟩:=s;refine eR.bL func91 rfl ntmps91 rfl ?_;intro Q Q0;unfold rZ at Q0;simp;refine eB gU hp (λT s1 h1=>?_);cases h1;generalize eT l 0 ⟨i,e,ln⟩=T at Q0|-;obtain⟨a,x,c,d⟩:=T;cases b with
 |false=>have Q0:=Q0.rF (λh=>by cases h.1);simp[bJ];refine eB wU hf (λu s1 h1=>?_);cases h1;simp;exact Q0.ok _ _ (.inr rfl) (by simp)
 |true=>
  by_cases he:e=0
  .subst he;have hi:i<l.length:=hv rfl;have hw:=bA (show i<9223372036854775807 by omega);have Q0:=Q0.tH ⟨rfl,rfl⟩;simp[bJ,hw];exact Q0.ok _ _ (.inr rfl) (by simp)
  .have Q0:=Q0.rF (λh=>he h.2);simp[bJ,he];refine eB wU hf (λu s1 h1=>?_);cases h1;simp;exact Q0.ok _ _ (.inr rfl) (by simp)
theorem b6A(t:Nm)(s:dW)(hv:dS l s):eR G 47 [.str t] l s (bQ l t s) (λ_=>.cI []):=by have hp:eR G 92 [.int .i64 0,.str t] l s _ _:=uB hl 0 t s hv (by omega);have hf:=oH (G:=G) hl (cF l 0 t s) s hv;unfold bQ;obtain⟨i,e,ln⟩:=s;refine eR.bL func47 rfl ntmps47 rfl ?_;intro Q Q0;simp;refine eB dB hp (λT s1 h1=>?_);cases h1;simp;refine eB gV hf (λu s1 h1=>?_);rw[h1]at Q0;simp;exact Q0.ok _ _ (.inl rfl) (by simp)
theorem eQ(t:Nm)(s:dW)(hv:dS l s):eR G 62 [.str t] l s (jQ l t s) (λb=>.d (.bool b)):=by
 have hp:eR G 92 [.int .i64 0,.str t] l s _ _:=uB hl 0 t s hv (by omega);have her:cF l 0 t s=true->s.er=0:=λh=>by
  by_cases he:s.er=0
  .exact he
  .simp[cF,eT,he]at h
 unfold jQ;obtain⟨i,e,ln⟩:=s;refine eR.bL func62 rfl ntmps62 rfl ?_;intro Q Q0;simp;refine eB dB hp (λT s1 h1=>?_);cases h1;cases hs:cF l 0 t ⟨i,e,ln⟩with
 |true=>have hi:i<l.length:=hv (her hs);have hw:=bA (show i<9223372036854775807 by omega);have Q0:=Q0.tH hs;simp[hw];exact Q0.ok _ _ (.inr rfl) (by simp)
 |false=>have Q0:=Q0.rF (by rw[hs];decide);simp;exact Q0.ok _ _ (.inr rfl) (by simp)
theorem pX(t:Nm)(s:dW)(hv:dS l s):eR G 100 [.str t] l s (b1b l t s) (λb=>.d (.bool b)):=by
 have hp:=uT (G:=G) hl t s hv;have her:oL l t s=true->s.er=0:=λh=>by
  by_cases he:s.er=0
  .exact he
  .simp[oL,eT,he]at h
 unfold b1b;obtain⟨i,e,ln⟩:=s;refine eR.bL func100 rfl ntmps100 rfl ?_;intro Q Q0;simp;refine eB pG hp (λT s1 h1=>?_);cases h1;cases hs:oL l t ⟨i,e,ln⟩with
 |true=>have hi:i<l.length:=hv (her hs);have hw:=bA (show i<9223372036854775807 by omega);have Q0:=Q0.tH hs;simp[hw];exact Q0.ok _ _ (.inr rfl) (by simp)
 |false=>have Q0:=Q0.rF (by rw[hs];decide);simp;exact Q0.ok _ _ (.inr rfl) (by simp)
theorem zF(s:dW)(hv:dS l s):eR G 104 [] l s (oF aJ l s) (λt=>.d (.str t)):=by have hp:eR G 141 [.int .i64 0] l s _ _:=a9C hl 0 s hv (by omega);have hf:=oH (G:=G) hl (vH aJ l 0 s) s hv;obtain⟨i,e,ln⟩:=s;refine eR.bL func104 rfl ntmps104 rfl ?_;intro Q Q0;simp;refine eB wV hp (λT s1 h1=>?_);cases h1;simp;refine eB gV hf (λu s1 h1=>?_);have Q0:=Q0.eq h1;simp;exact Q0.ok _ _ (.inr rfl) (by simp)
end
end
section
def TkW(t:Tok):Prop:=t.kind=0\/t.kind=3\/(t.kind=1/\smU (t.text.headD 0)=true)\/(t.kind=2/\caU (t.text.headD 0)=true)\/(t.kind=4/\smU (t.text.headD 0)=false/\caU (t.text.headD 0)=false)
def sgN(s:Nm):Bool:= !smU (s.headD 0)&& !caU (s.headD 0)
theorem TkW.sg{t:Tok}(h:TkW t){s:Nm}(hs:sgN s=true):cV t s=(decide (t.kind=4)&&decide (t.text=s)):=by
 unfold cV;by_cases e:t.text=s
 .subst e;simp only[sgN,g0W,Bool.not_eq_true']at hs;rcases h with h|h|⟨h,h2⟩|⟨h,h2⟩|⟨h,h2⟩
  .simp[h]
  .simp[h]
  .rw[hs.1]at h2;cases h2
  .rw[hs.2]at h2;cases h2
  .simp[h]
 .simp[e]
theorem TkW.ky{t:Tok}(h:TkW t){s:Nm}(hs:smU (s.headD 0)=true)(hc:caU (s.headD 0)=false):cV t s=(decide (t.kind=1)&&decide (t.text=s)):=by
 unfold cV;by_cases e:t.text=s
 .subst e;rcases h with h|h|⟨h,h2⟩|⟨h,h2⟩|⟨h,h2⟩
  .simp[h]
  .simp[h]
  .simp[h]
  .rw[hc]at h2;cases h2
  .rw[hs]at h2;cases h2.1
 .simp[e]
theorem TkW.ti{t:Tok}(h:TkW t){s:Nm}(hs:caU (s.headD 0)=true)(hc:smU (s.headD 0)=false):cV t s=(decide (t.kind=2)&&decide (t.text=s)):=by
 unfold cV;by_cases e:t.text=s
 .subst e;rcases h with h|h|⟨h,h2⟩|⟨h,h2⟩|⟨h,h2⟩
  .simp[h]
  .simp[h]
  .rw[hc]at h2;cases h2
  .simp[h]
  .rw[hs]at h2;cases h2.2
 .simp[e]
def vY{α:Type}(ln:Int)(x:kJ α)(y:α×dW):Prop:=match x with
 | .ok a j=>y=(a,⟨j,0,ln⟩)
 | .bad n e=>e≠0/\y.2.er=e/\y.2.ln=n
structure aM {α:Type} (l:List Tok) (low:Nat) (x:bE α) (y:RM α):Prop where
 sim:∀i ln,low<=i->i<l.length->vY ln (x i) (y ⟨i,0,ln⟩)
 tR:∀s,s.er≠0->(y s).2=s
def xF{α:Type}(y:RM α):Prop:=∀s,s.er≠0->(y s).2=s
section
variable {kw:Nm->Bool} {l:List Tok} {low m:Nat} {α β:Type} {ln:Int}
theorem aM.up{x:bE α}{y:RM α}{k:Nat}(h:aM l low x y)(hk:low<=k):aM l k x y:=⟨λi ln h1 h2=>h.sim i ln (by omega) h2,h.tR⟩
theorem aM.bY(a:α):aM l low (pure a) (pure a):=⟨λi ln _ _=>rfl,λs _=>rfl⟩
theorem xF.bY(a:α):xF (pure a:RM α):=λs _=>rfl
theorem xF.yK{x:RM α}{f:α->RM β}(hx:xF x)(hf:∀a,xF (f a)):xF (x >>=f):=λs h=>by rw[cO];have h1:=hx s h;rw[hf _ _ (by rw[h1];exact h),h1]
theorem vY.yK{x:bE α}{y:RM α}{f:α->bE β}{g:α->RM β}{i:Nat}(h:vY ln (x i) (y ⟨i,0,ln⟩))(hk:∀a,xF (g a))(hf:∀a j,x i=.ok a j->vY ln (f a j) (g a ⟨j,0,ln⟩)):vY ln ((x >>=f) i) ((y >>=g) ⟨i,0,ln⟩):=by
 rw[dN,cO];cases hx:x i with
 |ok a j=>rw[hx]at h;have h:y ⟨i,0,ln⟩=(a,⟨j,0,ln⟩):=h;rw[h];exact hf a j hx
 |bad n e=>
  rw[hx]at h;obtain⟨h1,h2,h3⟩:e≠0/\_:=h;have h4:=hk (y ⟨i,0,ln⟩).1 (y ⟨i,0,ln⟩).2 (by rw[h2];exact h1);refine⟨h1,?_,?_⟩
  .rw[h4];exact h2
  .rw[h4];exact h3
theorem aM.yK{x:bE α}{y:RM α}{f:α->bE β}{g:α->RM β}(hx:aM l low x y)(ax:aB l m x)(hf:∀a,aM l (low+m) (f a) (g a)):aM l low (x >>=f) (y >>=g):=
 ⟨λi ln h1 h2=>vY.yK (hx.sim i ln h1 h2) (λa=>(hf a).tR) λa j h=>(hf a).sim j ln (by have:=ax i a j h2 h;omega) (ax i a j h2 h).2,xF.yK hx.tR λa=>(hf a).tR⟩
theorem aM.b0{x:bE α}{y:RM α}{f:α->bE β}{g:α->RM β}(hx:aM l low x y)(ax:aB l m x)(hf:∀a,aM l low (f a) (g a)):aM l low (x >>=f) (y >>=g):=hx.yK ax λa=>(hf a).up (by omega)
theorem aM.ite{c:Bool}{x x':bE α}{y y':RM α}(h:aM l low x y)(h':aM l low x' y'):aM l low (if c then x else x') (if c then y else y'):=by
 cases c
 .exact h'
 .exact h
theorem aM.test{c:dW->Bool}{x:bE α}{g:Bool->RM α}(hk:∀b,xF (g b))(h:∀i ln,low<=i->i<l.length->vY ln (x i) (g (c ⟨i,0,ln⟩) ⟨i,0,ln⟩)):aM l low x (a0n c >>=g):=⟨h,λs hs=>hk _ s hs⟩
variable (hE:oK l) (hW:∀i,TkW (aG l i))
include hE hW
omit hW in
theorem b6B{i:Nat}(hi: ¬i<l.length):(aG l i).kind=0:=by
 have h:=hE.2;have e:aG l i=aG l (l.length-1):=by have hp:0<l.length:=List.length_pos_iff.2 hE.1;unfold aG;rw[if_neg hi,if_pos (by omega)];rw[List.getLastD_eq_getLast?,List.getLast?_eq_getElem?,List.getD_eq_getElem?_getD]
 rw[e];exact h
omit hE hW in
theorem b4S{k i:Nat}(h:i+k<l.length):eT l k ⟨i,0,ln⟩=aG l (i+k):=by unfold eT;rw[if_pos ⟨rfl,h⟩]
omit hE hW in
theorem a0E{i:Nat}(h:i<l.length):eT l 0 ⟨i,0,ln⟩=aG l i:=by
 rw[b4S (k:=0) h]
 rfl
omit hE hW in
theorem b1f{s:dW}{k:Nat}(h:s.er≠0):eT l k s=⟨0,[],0,0⟩:=by unfold eT;rw[if_neg (λh'=>h h'.1)]
omit hW in
theorem c0q(k i:Nat):(eT l k ⟨i,0,ln⟩).kind=(aG l (i+k)).kind:=by
 by_cases h:i+k<l.length
 .rw[b4S h]
 .rw[b6B hE h];unfold eT;rw[if_neg (λh'=>h h'.2)]
theorem a7M(k i:Nat){t:Nm}(ht:sgN t=true):cF l k t ⟨i,0,ln⟩=aH l (i+k) t:=by
 unfold cF aH;rw[(hW (i+k)).sg ht];by_cases h:i+k<l.length
 .rw[b4S h]
 .rw[c0q hE,b6B hE h];simp
theorem qA(i:Nat){t:Nm}(ht:sgN t=true):cF l 0 t ⟨i,0,ln⟩=aH l i t:=a7M hE hW 0 i ht
theorem uU{i:Nat}(hi:i<l.length){t:Nm}(h1:smU (t.headD 0)=true)(h2:caU (t.headD 0)=false):oL l t ⟨i,0,ln⟩=aH l i t:=by unfold oL aH;rw[(hW i).ky h1 h2,a0E (by omega)]
omit hE hW in
theorem a4Q(kw:Nm->Bool){i:Nat}(hi:i<l.length):vH kw l 0 ⟨i,0,ln⟩=jV kw (aG l i):=by unfold vH jV;rw[a0E (by omega)]
omit hE hW in
theorem a7N{i:Nat}(hi:i<l.length):xC l ⟨i,0,ln⟩=qJ (aG l i):=by unfold xC qJ;rw[a0E (by omega)]
omit hE hW in
theorem vZ{s:dW}{k:Nat}{t:Nm}(h:s.er≠0):cF l k t s=false:=by unfold cF;rw[b1f h];simp
omit hE hW in
theorem e2h{s:dW}{t:Nm}(h:s.er≠0):oL l t s=false:=by unfold oL;rw[b1f h];simp
omit hE hW in
theorem c2o{s:dW}{k:Nat}(h:s.er≠0):vH kw l k s=false:=by unfold vH;rw[b1f h];simp
omit hE hW in
theorem c2p{s:dW}(h:s.er≠0):xC l s=false:=by unfold xC;rw[b1f h];simp
omit hE hW in
theorem c0r{s:dW}(h:s.er≠0):pL l s=s:=by unfold pL;rw[if_neg h]
omit hE hW in
theorem zG{i:Nat}(hi:i<l.length):pL l ⟨i,0,ln⟩=⟨i,14,(aG l i).line⟩:=by unfold pL;rw[if_pos rfl,a0E (by omega)]
omit hE hW in
theorem c0s{i:Nat}(hi:i<l.length):(pL l ⟨i,0,ln⟩).er≠0:=by
 rw[zG hi]
 show(14:Int)≠0
 decide
omit hE hW in
theorem vY.fail{i:Nat}(hi:i<l.length)(a:α):vY ln (eH l i) (a,pL l ⟨i,0,ln⟩):=by rw[zG hi];exact⟨by decide,rfl,rfl⟩
omit hE hW in
theorem xF.take(b:Bool):xF (rZ l b):=λs h=>by unfold rZ;rw[if_neg (λh'=>h h'.2)];exact c0r h
omit hE hW in
theorem xF.tk(c:dW->Bool):xF (a5L l c):=λs h=>xF.take (c s) s h
omit hE hW in
theorem xF.tA(t:Nm):xF (bQ l t):=λs h=>xF.take _ s h
omit hE hW in
theorem xF.b6C(t:Nm):xF (jQ l t):=λs h=>by unfold jQ;rw[vZ h];rfl
omit hE hW in
theorem aM.take{ok:Tok->Bool}{c:dW->Bool}(h:∀i ln,low<=i->i<l.length->c ⟨i,0,ln⟩=ok (aG l i)):aM l low (oQ l ok) (a5L l c):=⟨λi ln h1 h2=>by
 unfold oQ a5L rZ;rw[h i ln h1 h2];cases hk:ok (aG l i)with
 |true=>
  rw[if_pos rfl,if_pos ⟨rfl,rfl⟩,a0E (by omega)]
  rfl
 |false=>rw[if_neg (by decide),if_neg (λh=>by cases h.1)];exact vY.fail h2 _,xF.tk c⟩
omit hE hW in
theorem aM.word:aM l low (bW kw l) (oF kw l):=aM.take λi ln _ h=>a4Q kw h
omit hE hW in
theorem aM.title:aM l low (gT l) (zX l):=aM.take λi ln _ h=>a7N h
omit hE hW in
theorem aM.sort:aM l low (yX kw l) (d6i kw l):=aM.take λi ln _ h=>by rw[a7N h,a4Q kw h,Bool.or_comm]
theorem vY.tk{t:Nm}{r:List Nm}{c:dW->Bool}{i:Nat}(hi:i<l.length){g:Nm->RM β}{f:Unit->bE β}(hc:c ⟨i,0,ln⟩=aH l i t)(hk:∀a,xF (g a))(hf:aH l i t=true->∀a,vY ln ((aY l r >>=f) (i+1)) (g a ⟨i+1,0,ln⟩)):vY ln ((aY l (t::r) >>=f) i) ((a5L l c >>=g) ⟨i,0,ln⟩):=by
 rw[dN,cO];unfold aY a5L rZ;rw[hc];cases h:aH l i t with
 |true=>rw[if_pos rfl,if_pos ⟨rfl,rfl⟩];have:=hf h (eT l 0 ⟨i,0,ln⟩).text;rw[dN]at this;exact this
 |false=>
  rw[if_neg (by decide),if_neg (λh=>by cases h.1)];have h4:=hk [] (pL l ⟨i,0,ln⟩) (c0s hi);refine⟨by decide,?_,?_⟩
  .rw[h4,zG hi]
  .rw[h4,zG hi]
theorem aM.key{t:Nm}{r:List Nm}{g:Nm->RM β}{f:Unit->bE β}(h1:smU (t.headD 0)=true)(h2:caU (t.headD 0)=false)(hf:∀a,aM l (low+1) (aY l r >>=f) (g a)):aM l low (aY l (t::r) >>=f) (wT l t >>=g):=
 ⟨λi ln h3 h4=>vY.tk hE hW h4 (uU hE hW h4 h1 h2) (λa=>(hf a).tR) λhs a=>(hf a).sim (i+1) ln (by omega) (aK hE h4 hs),xF.yK (xF.tk _) λa=>(hf a).tR⟩
theorem aM.tA{t:Nm}{r:List Nm}{g:Unit->RM β}{f:Unit->bE β}(ht:sgN t=true)(hf:aM l (low+1) (aY l r >>=f) (g ())):aM l low (aY l (t::r) >>=f) (bQ l t >>=g):=
 ⟨λi ln h3 h4=>by have:=vY.tk hE hW (ln:=ln) (t:=t) (r:=r) (c:=cF l 0 t) h4 (g:=λ_=>g ()) (f:=f) (qA hE hW i ht) (λ_=>hf.tR) λhs _=>hf.sim (i+1) ln (by omega) (aK hE h4 hs);exact this,xF.yK (xF.tA _) λ_=>hf.tR⟩
omit hE hW in
theorem aM.nil{g:RM β}{f:Unit->bE β}(h:aM l low (f ()) g):aM l low (aY l [] >>=f) g:=h
theorem aM.b6C{t:Nm}(ht:sgN t=true):aM l low (cQ l t) (jQ l t):=⟨λi ln h1 h2=>by
 unfold cQ jQ;rw[qA hE hW i ht];split
 .rfl
 .rfl,xF.b6C t⟩
omit hE hW in
theorem xF.loop{c:Nm}{one:α->RM α}(h:∀a,xF (one a)):∀(g:Nat) (a:α),xF (pR l c one g a)
 |0,a=>λs _=>rfl
 |g+1,a=>λs hs=>by unfold pR;rw[if_neg hs]
theorem vY.loop{c:Nm}(ht:sgN c=true){one:α->bE α}{pP:α->RM α}(h0:∀a,aM l low (one a) (pP a))(a0:∀a,aB l 0 (one a)):∀(g:Nat) (a:α) (i:Nat),low<=i->i<l.length->l.length<g+i->vY ln (gN l c one g a i) (pR l c pP g a ⟨i,0,ln⟩)
 |0,a,i,h1,h2,h3=>absurd h3 (by omega)
 |g+1,a,i,h1,h2,h3=>by
  unfold gN pR;rw[if_pos rfl];have h:=(h0 a).sim i ln h1 h2;cases hx:one a i with
  |bad n e=>rw[hx]at h;obtain⟨k1,k2,k3⟩:e≠0/\_:=h;rw[vZ (by rw[k2];exact k1),if_neg (by decide)];exact⟨k1,k2,k3⟩
  |ok b j=>
   rw[hx]at h;have h:pP a ⟨i,0,ln⟩=(b,⟨j,0,ln⟩):=h;have ha:=a0 a i b j h2 hx;rw[h];simp only[qA hE hW j ht];cases hs:aH l j c with
   |true=>rw[if_pos rfl,if_pos rfl];exact vY.loop ht h0 a0 g b (j+1) (by omega) (aK hE ha.2 hs) (by omega)
   |false=>
    rw[if_neg (by decide),if_neg (by decide)]
    rfl
theorem aM.list{c:Nm}(ht:sgN c=true){one:α->bE α}{pP:α->RM α}(h0:∀a,aM l low (one a) (pP a))(a0:∀a,aB l 0 (one a))(a:α):aM l low (dP l c one a) (sZ l c pP a):=
 ⟨λi ln h1 h2=>vY.loop hE hW ht h0 a0 _ a i h1 h2 (by omega),xF.loop (λa=>(h0 a).tR) _ a⟩
omit hE hW in
theorem xF.b6e{c:dW->Bool}(hc:∀s,s.er≠0->c s=false){one:α->RM α}:∀(g:Nat) (a:α),xF (xZ c one g a)
 |0,a=>λs _=>rfl
 |g+1,a=>λs hs=>by unfold xZ;rw[hc s hs];rfl
omit hE hW in
theorem vY.b6e{c:Nat->Bool}{c':dW->Bool}(hc:∀s,s.er≠0->c' s=false)(hcc:∀i ln,i<l.length->c' ⟨i,0,ln⟩=c i){one:α->bE α}{pP:α->RM α}(h0:∀a i ln,low<=i->i<l.length->c i=true->vY ln (one a i) (pP a ⟨i,0,ln⟩))(a1:∀a i b j,i<l.length->c i=true->one a i=.ok b j->i+1<=j/\j<l.length):∀(g:Nat) (a:α) (i:Nat),low<=i->i<l.length->l.length<g+i->vY ln (eD c one g a i) (xZ c' pP g a ⟨i,0,ln⟩)
 |0,a,i,h1,h2,h3=>absurd h3 (by omega)
 |g+1,a,i,h1,h2,h3=>by
  unfold eD xZ;rw[hcc i ln h2];cases hci:c i with
  |false=>
   rw[if_neg (by decide),if_neg (by decide)]
   rfl
  |true=>
   rw[if_pos rfl,if_pos rfl];have h:=h0 a i ln h1 h2 hci;cases hx:one a i with
   |bad n e=>rw[hx]at h;obtain⟨k1,k2,k3⟩:e≠0/\_:=h;have hk:=xF.b6e hc (one:=pP) g (pP a ⟨i,0,ln⟩).1 (pP a ⟨i,0,ln⟩).2 (by rw[k2];exact k1);exact⟨k1,by rw[hk];exact k2,by rw[hk];exact k3⟩
   |ok b j=>rw[hx]at h;have h:pP a ⟨i,0,ln⟩=(b,⟨j,0,ln⟩):=h;have ha:=a1 a i b j h2 hci hx;rw[h];exact vY.b6e hc hcc h0 a1 g b j (by omega) ha.2 (by omega)
omit hE hW in
theorem aM.many{c:Nat->Bool}{c':dW->Bool}(hc:∀s,s.er≠0->c' s=false)(hcc:∀i ln,i<l.length->c' ⟨i,0,ln⟩=c i){one:α->bE α}{pP:α->RM α}(h0:∀a i ln,low<=i->i<l.length->c i=true->vY ln (one a i) (pP a ⟨i,0,ln⟩))(a1:∀a i b j,i<l.length->c i=true->one a i=.ok b j->i+1<=j/\j<l.length)(a:α):aM l low (sW l c one a) (c8M l c' pP a):=
 ⟨λi ln h1 h2=>vY.b6e hc hcc h0 a1 _ a i h1 h2 (by omega),xF.b6e hc _ a⟩
end
end
section
open Go Go.VM
variable {G:GT}
theorem aM.kL{α:Type}{l:List Tok}{low m:Nat}{x:bE α}{y:RM α}(h:aM l low x y)(ax:aB l m x){s s1:dW}{a:α}(hv:dS l s)(cC:s.er=0->low<=s.pl)(hy:y s=(a,s1)):s1.er=0->s.er=0/\s.pl+m<=s1.pl/\s1.pl<l.length:=λh1=>by
 by_cases he:s.er=0
 .obtain⟨i,e,ln⟩:=s;simp only at he;subst he;have hi:i<l.length:=hv rfl;have hs:=h.sim i ln (cC rfl) hi;rw[hy]at hs;cases hx:x i with
  |ok b j=>rw[hx]at hs;have hs:(a,s1)=(b,⟨j,0,ln⟩):=hs;cases hs;exact⟨rfl,ax i _ j hi hx⟩
  |bad n e=>rw[hx]at hs;obtain⟨k1,k2,k3⟩:e≠0/\_:=hs;exact absurd (k2.symm.trans h1) k1
 .have:=h.tR s he;rw[hy]at this;exact absurd (this▸h1) he
theorem dS.next{l:List Tok}{s s1:dW}{k:Nat}(h:s1.er=0->s.er=0/\s.pl+k<=s1.pl/\s1.pl<l.length):dS l s1:=λh1=>(h h1).2.2
section
variable {α:Type} {l:List Tok} {c:Code} {st:St} {Q:Exit->St->Prop}
theorem a3V(hE:oK l){s:dW}{t:Nm}(h:cF l 0 t s=true):s.er=0/\s.pl+1<l.length:=by
 unfold cF eT at h;by_cases hs:s.er=0/\s.pl+0<l.length
 .rw[if_pos hs]at h;simp only[g0W,decide_eq_true_eq]at h;exact⟨hs.1,qM hE (i:=s.pl) hs.2 (by have:=h.1;simp only[Nat.add_zero]at this;omega)⟩
 .rw[if_neg hs]at h;simp at h
theorem b2s(hE:oK l)(sep:Nm)(one:α->RM α)(len:α->Nat)(J:α->Prop)(tm:Nat)(ws:α->List (Nat×DV))(H:α->dW->List (Nat×bD))(own:α->List (TypeId×List VM.Loc))(g0:Nat)(a0:α)(s0:dW)(hg:l.length<g0)(hv:dS l s0)(hl0:len a0=0)(hJ:J a0)(h0:wI st (gS c st ((tm,.d (.bool true))::ws a0) (H a0 s0) (own a0)))(hround:∀a s,s.er=0->s.pl<l.length->s0.er=0/\s0.pl<=s.pl->len a<=s.pl->J a->∀R:St->Prop,(∀st' b s1,one a s=(b,s1)->wI st' (gS c st ((tm,.d (.bool (jQ l sep s1).1))::ws b) (H b (jQ l sep s1).2) (own b))->(s1.er=0->s.pl<=s1.pl/\s1.pl<l.length)->len b<=len a+1->J b->R st')->
   XK prog G [.code c] .normal (gS c st ((tm,.d (.bool true))::ws a) (H a s) (own a)) λe st'=>match e with
   | .normal=>R st'
   |e=>Q e st')(c0t:∀a s m,(m=false\/s.er≠0)->(s.er=0->s0.er=0/\s0.pl<=s.pl)->len a<=l.length+1->J a->dS l s->pR l sep one g0 a0 s0=(a,s)->∀R:St->Prop,XK prog G [.code c] .normal (gS c st ((tm,.d (.bool m))::ws a) (H a s) (own a)) λe st'=>match e with
   | .normal=>R st'
   |e=>Q e st'):SW prog G (.loop c) st Q:=by
 obtain⟨Y,hY⟩:∃Y,pR l sep one g0 a0 s0=Y:=⟨_,rfl⟩;simp only[hY]at c0t;refine SW.vR (ι:={x:α×dW×Option Nat//dS l x.2.1/\len x.1<=l.length+1/\J x.1/\(x.2.1.er=0->(len x.1<=x.2.1.pl\/x.2.2=none)/\s0.er=0/\s0.pl<=x.2.1.pl)/\(match x.2.2 with
  |some g=>(x.2.1.er=0->l.length<g+x.2.1.pl)/\pR l sep one g x.1 x.2.1=Y
  |none=>Y=(x.1,x.2.1))}) (λx=>(tm,.d (.bool x.1.2.2.isSome))::ws x.1.1) (λx=>H x.1.1 x.1.2.1) (λx=>own x.1.1) (λx=>match x.1.2.2 with
  |none=>0
  |some _=>l.length-x.1.2.1.pl+1) ⟨(a0,s0,some g0),hv,by simp only;omega,hJ,λh=>⟨.inl (by simp only;omega),h,g1m _⟩,λ_=>by simp only;omega,hY⟩ h0 ?_
 rintro⟨⟨a,s,og⟩,h1,h2,h3,h4,h5⟩;simp only at h1 h2 h3 h4 h5;cases og with
 |none=>exact c0t a s false (.inl rfl) (λh=>(h4 h).2) h2 h3 h1 h5 _
 |some g=>
  simp only at h5;by_cases he:s.er=0
  .have hi:=h1 he;have f4V:=h5.1 he;obtain⟨g,rfl⟩:∃k,g=k+1:=⟨g-1,by omega⟩;have hla:len a<=s.pl:=by
    rcases(h4 he).1 with h|h
    .exact h
    .cases h
   have hbs:=(h4 he).2;refine hround a s he hi hbs hla h3 _ λst' b s1 ho hw ha hl hJb=>?_;have heq:=h5.2;unfold pR at heq;rw[if_pos he,ho]at heq;cases hs:cF l 0 sep s1 with
   |true=>
    obtain⟨e1,e2⟩:=a3V hE hs;have a1:=ha e1;simp only[hs,if_true]at heq;have hh:jQ l sep s1=(true,⟨s1.pl+1,s1.er,s1.ln⟩):=by unfold jQ;rw[if_pos hs]
    rw[hh]at hw;exact bC.mk ⟨(b,⟨s1.pl+1,s1.er,s1.ln⟩,some g),λ_=>e2,by simp only;omega,hJb,λ_=>⟨.inl (by simp only;omega),hbs.1,by simp only;omega⟩,λ_=>by simp only;omega,heq⟩ hw (by simp only;omega)
   |false=>
    simp only[hs,Bool.false_eq_true,if_false]at heq;have hh:jQ l sep s1=(false,s1):=by unfold jQ;rw[if_neg (by rw[hs];decide)]
    rw[hh]at hw;exact bC.mk ⟨(b,s1,none),λh=>(ha h).2,by simp only;omega,hJb,λh=>⟨.inr rfl,hbs.1,by have:=ha h;simp only;omega⟩,heq.symm⟩ hw (by simp only;omega)
  .refine c0t a s true (.inr he) (λh=>(h4 h).2) h2 h3 h1 ?_ _;rw[<-h5.2];cases g with
   |zero=>rfl
   |succ g=>unfold pR;rw[if_neg he]
theorem e2i(cnd:dW->Bool)(hc:∀s,s.er≠0->cnd s=false)(one:α->RM α)(len:α->Nat)(J:α->Prop)(ws:α->List (Nat×DV))(H:α->dW->List (Nat×bD))(own:α->List (TypeId×List VM.Loc))(g0:Nat)(a0:α)(s0:dW)(hg:l.length<g0)(hv:dS l s0)(hl0:len a0<=l.length+1/\(s0.er=0->len a0<=s0.pl))(hJ:J a0)(h0:wI st (gS c st (ws a0) (H a0 s0) (own a0)))(hround:∀a s,s.er=0->s.pl<l.length->s0.er=0/\s0.pl<=s.pl->len a<=s.pl->J a->cnd s=true->∀R:St->Prop,(∀st' b s1,one a s=(b,s1)->wI st' (gS c st (ws b) (H b s1) (own b))->(s1.er=0->s.pl+1<=s1.pl/\s1.pl<l.length)->len b<=len a+1->J b->R st')->
   XK prog G [.code c] .normal (gS c st (ws a) (H a s) (own a)) λe st'=>match e with
   | .normal=>R st'
   |e=>Q e st')(c0t:∀a s,cnd s=false->(s.er=0->s0.er=0/\s0.pl<=s.pl)->len a<=l.length+1->J a->dS l s->xZ cnd one g0 a0 s0=(a,s)->∀R:St->Prop,XK prog G [.code c] .normal (gS c st (ws a) (H a s) (own a)) λe st'=>match e with
   | .normal=>R st'
   |e=>Q e st'):SW prog G (.loop c) st Q:=by
 obtain⟨Y,hY⟩:∃Y,xZ cnd one g0 a0 s0=Y:=⟨_,rfl⟩;simp only[hY]at c0t;refine SW.vR (ι:={x:α×dW×Nat//dS l x.2.1/\len x.1<=l.length+1/\J x.1/\(x.2.1.er=0->len x.1<=x.2.1.pl/\s0.er=0/\s0.pl<=x.2.1.pl)/\(x.2.1.er=0->l.length<x.2.2+x.2.1.pl)/\xZ cnd one x.2.2 x.1 x.2.1=Y}) (λx=>ws x.1.1) (λx=>H x.1.1 x.1.2.1) (λx=>own x.1.1) (λx=>if x.1.2.1.er=0 then l.length-x.1.2.1.pl+1 else 0) ⟨(a0,s0,g0),hv,hl0.1,hJ,λh=>⟨hl0.2 h,h,g1m _⟩,λ_=>by simp only;omega,hY⟩ h0 ?_;rintro⟨⟨a,s,g⟩,h1,h2,h3,h4,h5,h6⟩;simp only at h1 h2 h3 h4 h5 h6;cases hs:cnd s with
 |true=>
  have he:s.er=0:=by
   by_cases he:s.er=0
   .exact he
   .rw[hc s he]at hs;cases hs
  have hi:=h1 he;have f4V:=h5 he;obtain⟨g,rfl⟩:∃k,g=k+1:=⟨g-1,by omega⟩;have hbs:=(h4 he).2;refine hround a s he hi hbs (h4 he).1 h3 hs _ λst' b s1 ho hw ha hl hJb=>?_;unfold xZ at h6;rw[hs,if_pos rfl,ho]at h6;have h4':=h4 he;refine bC.mk ⟨(b,s1,g),λh=>(ha h).2,by simp only;omega,hJb,λh=>⟨?_,hbs.1,?_⟩,λh=>?_,h6⟩ hw ?_
  .have:=ha h;simp only;omega
  .have:=ha h;simp only;omega
  .have:=ha h;simp only;omega
  .simp only[he,if_true];split
   .rename_i h;have:=ha h;omega
   .omega
 |false=>
  refine c0t a s hs (λh=>(h4 h).2) h2 h3 h1 ?_ _;rw[<-h6];cases g with
  |zero=>rfl
  |succ g=>unfold xZ;rw[hs,if_neg (by decide)]
end
end
end Go.Proofs.YtjpodcmhcenjjaaGreatDoor
