/- Lemmas that the law of this claim needs (VmRT VmR5 VmRX VmRS ZB PsA PsB). No condition. -/
import Derived.Test.YtjpodcmhcenjjaaGreatDoorOsa
import Derived.Test.YtjpodcmhcenjjaaGreatDoorOsc
import Derived.Test.YtjpodcmhcenjjaaGreatDoorOsd
import Derived.Test.YtjpodcmhcenjjaaGreatDoorOse
import Derived.Test.YtjpodcmhcenjjaaGreatDoorOsf
import Derived.Lib.TrimByte
import Derived.Lib.Repeat
set_option linter.unusedVariables false
set_option linter.unusedSimpArgs false
set_option linter.unusedSectionVars false
set_option maxRecDepth 100000
set_option maxHeartbeats 64000000
open Go.Proofs.Tryz
section
namespace Go.VM
open Go Go.RowKit
section
variable {P:Program} {G:GT} {st:St} {base:cT} {R:Nat->Nat->Prop} {μ:Nat->Nat} {a:Act} {w:World}
def a3x(P:Program)(G:GT)(ops:Array Oper)(m c:Nat)(Q:St->Prop):Nat->Array Bool->St->Prop
 |0,listed,st=>listed=pM m ops.size/\Q st
 |fuel+1,listed,st=>Region.ready .any ops listed≠[]/\∀i∈Region.ready .any ops listed,i<m/\match ops[i]? with
  |none=>False
  |some o=>pA P G (i !=c) ops o (a3x P G ops m c Q fuel (listed.setIfInBounds i true)) st
theorem b8t{ops:Array Oper}{m c r:Nat}{Q:St->Prop}{QQ:Exit->Act->World->Prop}:∀(fuel:Nat) (listed:Array Bool) (st:St),a3x P G ops m c Q fuel listed st->∀(base:cT) (R:Nat->Nat->Prop) (μ:Nat->Nat) (a:Act) (w:World),Rel P G base R μ st a w->
  (∀s a' w' R' μ',Q s->Rel P G base R' μ' s a' w'->Step base R w R' w'->wpAny P .any ops QQ r (pM m ops.size) a' w')->wpAny P .any ops QQ (fuel+r) listed a w
 |0,_,st,h,base,R,μ,a,w,hr,hk=>by rw[Nat.zero_add,h.1];exact hk st a w R μ h.2 hr (.refl _ _ _)
 |fuel+1,listed,st,h,base,R,μ,a,w,hr,hk=>by
  rw[show fuel+1+r=(fuel+r)+1 by omega];refine⟨λh0=>absurd h0 h.1,λi hi=>?_⟩;have h1:=(h.2 i hi).2;unfold wpOp;split
  .rename_i ho;rw[ho]at h1;exact h1.elim
  .rename_i o ho;rw[ho]at h1;exact uA h1 hr λs v w' R' μ' h' eM qP=>b8t fuel _ s h' base R' μ' _ w' eM λs a' w2 R2 μ2 q1 q2 q3=>hk s a' w2 R2 μ2 q1 q2 (qP.trans q3)
theorem b4H{ops:Array Oper}{m i:Nat}(him:i<m)(hT:xY ops m=true)(listed:Array Bool)(oI:eH ops listed)(hr:i∈Region.ready .any ops listed):∀j∈Region.ready .any ops listed,j<m:=λj hj=>by apply Classical.byContradiction;intro hjm;obtain⟨_,oj,zB,dB⟩:=mem_ready.1 hj;obtain⟨a2c,_⟩:=mem_ready.1 hr;have h1:=a7Y hT (Nat.le_of_not_lt hjm) zB him;rw[cV oI a2c ops.size j λo ho=>by rw[zB]at ho;cases ho;exact dB]at h1;cases h1
theorem c0b{ops:Array Oper}{m c:Nat}{Q:St->Prop}{i:Nat}{oi:Oper}(him:i<m)(hT:xY ops m=true)(hA:pJ ops)(hi:ops[i]? =some oi)(hic:i≠c)(hsi:(cR oi.op=true/\mI ops oi=false)\/pB oi=true):
  ∀(fuel:Nat) (listed:Array Bool) (st s:St),eH ops listed->
   (∀j oj,ops[j]? =some oj->j≠i->listed.getD j true=false->gL ops ops.size j i=false->j≠c/\oi.apart ops oj=true/\qC ops oi oj=true)->
   i∈Region.ready .any ops listed->qE ops listed st->Eff P G ops oi st s->
   a3x P G ops m c Q fuel (listed.setIfInBounds i true) s->a3x P G ops m c Q (fuel+1) listed st:=by
 have qi:(i !=c)=true:=by simpa using hic
 intro fuel
 induction fuel with
 |zero=>
  intro listed st s oI _ hr _ hy H;refine⟨λh=>(by rw[h]at hr;cases hr),λj hj=>⟨b4H him hT listed oI hr j hj,?_⟩⟩;by_cases zV:j=i
  .subst zV;rw[hi,qi];exact(dF hsi).2 ⟨s,hy,H⟩
  .exfalso;obtain⟨wY,oj,zB,dB⟩:=mem_ready.1 hj;have h1:=b4C wY zV;rw[H.1]at h1;have h2:=a7d h1;have:=b4H him hT listed oI hr j hj;omega
 |succ fuel ih=>
  intro listed st s oI yK hr hI hy H;refine⟨λh=>(by rw[h]at hr;cases hr),λj hj=>⟨b4H him hT listed oI hr j hj,?_⟩⟩;by_cases zV:j=i
  .subst zV;rw[hi,qi];exact(dF hsi).2 ⟨s,hy,H⟩
  .have h1:=(H.2 j (ready_mono hj zV)).2;obtain⟨wY,oj,zB,dB⟩:=mem_ready.1 hj;rw[zB]at h1|-;simp only at h1|-;obtain⟨a2c,oi',b9G,a8Z⟩:=mem_ready.1 hr;have a4w:gL ops ops.size j i=false:=cV oI a2c _ _ λo ho=>by rw[zB]at ho;cases ho;exact dB
   obtain⟨hjc,yV,hpo⟩:=yK j oj zB zV wY a4w;have qj:(j !=c)=true:=by simpa using hjc
   rw[qj]at h1|-;have hsj:(cR oj.op=true/\mI ops oj=false)\/pB oj=true:=by
    by_cases hs:pB oj=true
    .exact .inr hs
    .refine .inl ⟨?_,?_⟩
     .unfold qC at hpo;simp only[pB,f7T,f7H,Bool.not_eq_true']at hpo hs;rcases hpo with((((((h|h)|h)|h)|h)|h)|h)|h
      .exact h.1.2
      .exact absurd (.inl (.inl h.1.2)) hs
      .exact h.1.1.2
      .exact absurd (.inl (.inr h.2)) hs
      .exact h.1.2
      .exact absurd (.inl h.1.2) hs
      .exact absurd (.inr h.2) hs
      .exact(oA (G:=G) (st:=st) h.1.2).1
     .cases hx:mI ops oj with
      |false=>rfl
      |true=>
       have aE:i<ops.size:=(f7Q.1 hi).1;rcases uM hx zB aE (λe=>zV e.symm)with h'|h'
       .have:=cV oI wY ops.size i λo ho=>by rw[b9G]at ho;cases ho;exact a8Z
        rw[h']at this;cases this
       .rw[a4w]at h';cases h'
   obtain⟨s12,hu,hk⟩:=(dF hsj).1 h1;obtain⟨s2,e1,e2⟩:=a8Y yV hpo (λhn d hd=>hI i oi d hi hn a2c hd) (λhn d hd=>hI j oj d zB hn wY hd) hy hu;refine(dF hsj).2 ⟨s2,e1,?_⟩;refine ih (listed.setIfInBounds j true) s2 s12 (oI.set hj) (λk ok hk' hki hun sG=>?_) (ready_mono hr (Ne.symm zV)) (hI.step hA zB λk hf hn=>tS e1 hf hn) e2 ?_
   .exact yK k ok hk' hki (sZ hun).2 sG
   .rw[Array.setIfInBounds_comm _ _ zV];exact hk
def d3r(m:Nat)(l:List Nat):Bool:=l.all λi=>decide (i<m)
theorem a8b{ops:Array Oper}{m c:Nat}{Q:St->Prop}(hTA:xY ops m=true)(hN:eG ops=[]):∀(l:List Nat) (listed:Array Bool) (st:St) (fuel:Nat),d3r m l=true->eH ops listed->a9r ops c l listed=true->
  a4A P G ops c l st (a3x P G ops m c Q fuel (cL l listed))->a3x P G ops m c Q (l.length+fuel) listed st
 |[],listed,st,fuel,_,_,_,h=>by simpa[cL,a4A]using h
 |i::l,listed,st,fuel,gW,oI,hB,h=>by
  have hA:pJ ops:=λi j oi oj d hi _ hni _ hdi _=>(b8s hN hi hni hdi).elim;have hI:∀listed st,qE ops listed st:=λ_ _ j oj d hj hn _ hd=>(b8s hN hj hn hd).elim;simp only[d3r,List.all_cons,f7H,decide_eq_true_eq]at gW;obtain⟨him,e7X⟩:=gW;simp only[a9r,f7H]at hB;obtain⟨hf,hB'⟩:=hB;simp only[a4A]at h;split at h;rotate_left
  .cases h
  rename_i o ho;have he:(i::l).length+fuel=l.length+fuel+1:=by simp only[List.length_cons];omega
  rw[he];unfold b4F at hf;rw[f7T,beq_iff_eq]at hf;have hri:i∈Region.ready .any ops listed:=by
   rcases hf with hf|hf
   .rw[hf];exact f7O.2 rfl
   .simp only[f7H]at hf;simpa using hf.1.1
  have qR:∀s,a4A P G ops c l s (a3x P G ops m c Q fuel (cL (i::l) listed))->a3x P G ops m c Q (l.length+fuel) (listed.setIfInBounds i true) s:=λs hs=>a8b hTA hN l _ s fuel e7X (oI.set hri) hB' hs;rcases hf with hf|hf
  .refine⟨λh'=>(by rw[h']at hf;cases hf),λj hj=>?_⟩;rw[hf,f7O]at hj;subst hj;rw[ho];exact⟨him,eU qR h⟩
  .rw[ho]at hf;simp only[f7H,f7T,Bool.not_eq_true',bne_iff_ne,ne_eq]at hf;obtain⟨⟨_,hic⟩,hsi,dB⟩:=hf;have qi:(i !=c)=true:=by simpa using hic
   rw[qi]at h;obtain⟨s,hd,hk⟩:=(dF hsi).1 h;refine c0b him hTA hA ho hic hsi _ listed st s oI (λj oj hj eF hun sG=>?_) hri (hI _ _) hd (qR s hk);rw[f7K]at dB;have h1:=dB j (List.mem_range.2 (f7Q.1 hj).1);simp only[hj,f7T,beq_iff_eq,eF,false_or,hun,Bool.false_eq_true,sG,f7H,bne_iff_ne,ne_eq]at h1;exact h1
def a7h(ops:Array Oper)(m c:Nat):Ord->Nat->Array Bool->Bool
 | .none,_,_=>true
 | .call rest more,n,listed=>decide (c<ops.size)&&decide (c<m)&&d3r m rest&&inB ops c rest&&a9r ops c rest (listed.setIfInBounds c true)&&decide (cL rest (listed.setIfInBounds c true)=pM m ops.size)&&decide (rest.length+1=n)&&a7h ops m c more n listed
 | .op i next more,n,listed=>inB ops c [i]&&decide (i<m)&&decide (2<=n)&& !(Region.ready .any ops (listed.setIfInBounds i true)).isEmpty&&((Region.ready .any ops (listed.setIfInBounds i true)).all λj=>a3w c next j)&&a7h ops m c next (n-1) (listed.setIfInBounds i true)&&a7h ops m c more n listed
theorem a9w{ops:Array Oper}{m c:Nat}{Q:St->Prop}(hTA:xY ops m=true)(hN:eG ops=[]):∀(T:Ord) (n:Nat) (listed:Array Bool) (st:St),eH ops listed->a7h ops m c T (n+1) listed=true->b2F P G ops c Q T st->∀i∈Region.ready .any ops listed,a3w c T i=true->
  i<m/\match ops[i]? with
  |none=>False
  |some o=>pA P G (i !=c) ops o (a3x P G ops m c Q n (listed.setIfInBounds i true)) st
 | .none,_,_,_,_,_,_,_,_,ha=>by cases ha
 | .call rest more,n,listed,st,oI,hB,h,i,hi,ha=>by
  simp only[a7h,f7H,decide_eq_true_eq]at hB;obtain⟨⟨⟨⟨⟨⟨⟨hc,hcm⟩,gW⟩,vI⟩,hs⟩,he⟩,hlen⟩,a5s⟩:=hB;simp only[b2F]at h;simp only[a3w,f7T,decide_eq_true_eq]at ha;by_cases hic:i=c
  .subst hic;have h1:=h.1;simp only[VK,sel,f7Z hc,uL]at h1;simp only[f7Z hc,bne_self_eq_false];refine⟨hcm,eU (λs qP=>?_) h1⟩;have hn:n=rest.length+0:=by omega
   rw[hn];exact a8b hTA hN rest _ s 0 gW (oI.set hi) hs (tC (λs hs=>⟨he,hs⟩) _ _ (wA rest s vI qP))
  .exact a9w hTA hN more n listed st oI a5s h.2 i hi (ha.resolve_left hic)
 | .op x next more,n,listed,st,oI,hB,h,i,hi,ha=>by
  simp only[a7h,f7H,decide_eq_true_eq,Bool.not_eq_true',List.isEmpty_eq_false_iff,f7K]at hB;obtain⟨⟨⟨⟨⟨⟨vI,hxm⟩,hn⟩,eF⟩,dB⟩,qR⟩,a5s⟩:=hB;simp only[b2F]at h;simp only[a3w,f7T,decide_eq_true_eq]at ha;by_cases hix:i=x
  .subst hix;have h1:=h.1;simp only[inB,List.all_cons,List.all_nil,Bool.and_true,f7H,decide_eq_true_eq]at vI;have qi:(i !=c)=true:=by simpa using vI.2
   simp only[VK,sel,f7Z vI.1,uL]at h1;simp only[f7Z vI.1,qi];refine⟨hxm,eU (λs qP=>?_) h1⟩;obtain⟨k,rfl⟩:∃k,n=k+1:=⟨n-1,by omega⟩;exact⟨eF,λj hj=>a9w hTA hN next k _ s (oI.set hi) qR qP j hj (dB j hj)⟩
  .exact a9w hTA hN more n listed st oI a5s h.2 i hi (ha.resolve_left hix)
theorem a6q{ops:Array Oper}{m c:Nat}{Z:St->Prop}:∀(T:Ord) (n n':Nat) (listed:Array Bool) (st:St),n<=n'->a7h ops m c T (n+1) listed=true->a4j P G ops Z T st->∀i∈Region.ready .any ops listed,a3w c T i=true->
  if i=c then Z st else match ops[i]? with
  |none=>False
  |some o=>pA P G true ops o (a7g P G ops c Z n' (listed.setIfInBounds i true)) st
 | .none,_,_,_,_,_,_,_,_,_,ha=>by cases ha
 | .call rest more,n,n',listed,st,hn',hB,h,i,hi,ha=>by
  simp only[a7h,f7H]at hB;simp only[a4j]at h;simp only[a3w,f7T,decide_eq_true_eq]at ha;by_cases hic:i=c
  .rw[if_pos hic];exact h.1
  .exact a6q more n n' listed st hn' hB.2 h.2 i hi (ha.resolve_left hic)
 | .op x next more,n,n',listed,st,hn',hB,h,i,hi,ha=>by
  simp only[a7h,f7H,decide_eq_true_eq,Bool.not_eq_true',List.isEmpty_eq_false_iff,f7K]at hB;obtain⟨⟨⟨⟨⟨⟨vI,hxm⟩,hn⟩,eF⟩,dB⟩,qR⟩,a5s⟩:=hB;simp only[a4j]at h;simp only[a3w,f7T,decide_eq_true_eq]at ha;by_cases hix:i=x
  .subst hix;have h1:=h.1;simp only[inB,List.all_cons,List.all_nil,Bool.and_true,f7H,decide_eq_true_eq]at vI;simp only[VK,sel,f7Z vI.1,uL]at h1;rw[if_neg vI.2];simp only[f7Z vI.1];refine eU (λs qP=>?_) h1;obtain⟨k,rfl⟩:∃k,n=k+1:=⟨n-1,by omega⟩;obtain⟨k',rfl⟩:∃k',n'=k'+1:=⟨n'-1,by omega⟩;exact⟨eF,λj hj=>a6q next k k' _ s (by omega) qR qP j hj (dB j hj)⟩
  .exact a6q more n n' listed st hn' a5s h.2 i hi (ha.resolve_left hix)
abbrev b4I(TT:St->Prop)(Q:Exit->St->Prop):Exit->St->Prop:=λe s=>match e with
 | .normal=>TT s
 |e=>Q e s
end
end Go.VM
end
section
namespace Go.VM
open Go Go.RowKit
section
variable {P:Program} {G:GT} {st:St}
def b3j(ops:Array Oper)(L:Array Bool)(i0 i1 i2 i3 i4:Nat):Bool:=
 let S:=L.setIfInBounds i0 true
 let A:=S.setIfInBounds i1 true
 let B:=S.setIfInBounds i3 true
 (Region.ready .any ops L==[i0])&&(Region.ready .any ops S==[i1,i3])&&(Region.ready .any ops A==[i2,i3])&&(Region.ready .any ops B==[i1,i4])&&
 (Region.ready .any ops (A.setIfInBounds i2 true)==[i3])&&(Region.ready .any ops (A.setIfInBounds i3 true)==[i2,i4])&&(Region.ready .any ops (B.setIfInBounds i1 true)==[i2,i4])&&(Region.ready .any ops (B.setIfInBounds i4 true)==[i1])&&
 (Region.ready .any ops ((A.setIfInBounds i2 true).setIfInBounds i3 true)==[i4])&&(Region.ready .any ops ((A.setIfInBounds i3 true).setIfInBounds i2 true)==[i4])&&(Region.ready .any ops ((A.setIfInBounds i3 true).setIfInBounds i4 true)==[i2])&&
 (Region.ready .any ops ((B.setIfInBounds i1 true).setIfInBounds i2 true)==[i4])&&(Region.ready .any ops ((B.setIfInBounds i1 true).setIfInBounds i4 true)==[i2])&&(Region.ready .any ops ((B.setIfInBounds i4 true).setIfInBounds i1 true)==[i2])&&
 (Region.ready .any ops (((A.setIfInBounds i2 true).setIfInBounds i3 true).setIfInBounds i4 true)==[])&&(Region.ready .any ops (((A.setIfInBounds i3 true).setIfInBounds i2 true).setIfInBounds i4 true)==[])&&(Region.ready .any ops (((A.setIfInBounds i3 true).setIfInBounds i4 true).setIfInBounds i2 true)==[])&&
 (Region.ready .any ops (((B.setIfInBounds i1 true).setIfInBounds i2 true).setIfInBounds i4 true)==[])&&(Region.ready .any ops (((B.setIfInBounds i1 true).setIfInBounds i4 true).setIfInBounds i2 true)==[])&&(Region.ready .any ops (((B.setIfInBounds i4 true).setIfInBounds i1 true).setIfInBounds i2 true)==[])
abbrev tl3(s:St)(dV:List (TypeId×List Loc))(e:TypeId)(r p b:Tmp)(xs:List (List D))(c:List D)(kb off:Nat):St:=finish (tl2 s dV e r p xs c) (some b) (.ptr kb off) .no
theorem d3s(a:Act){p b:Nat}(u v:Value)(h:p≠b):(a.put (some p) u).put (some b) v=(a.put (some b) v).put (some p) u:=by simp only[Act.put];congr 1;exact Array.setIfInBounds_comm _ _ h
theorem c3v{ops:Array Oper}{i0 i1 i2 i3 i4:Nat}{L0:Array Bool}{t e T:TypeId}{s z r p q x b y:Tmp}{fd fo:Nat}{y0 y1 y2 y3 y4 u:TypeId}{p0 p1 p2 p3 p4:String}{f0 f1 f2 f3 f4:Array Edge}{xs:List (List D)}{z0 c:List D}{dV:List (TypeId×List Loc)}{kb0 vR:Nat}{out:Out}{Q:St->Prop}{QQ:Exit->Act->World->Prop}(h0:ops[i0]? =some ⟨some r,.call {callee:=.builtin .append,args:=#[.tmp s,.tmp z],argTypes:=#[t,t]},y0,p0,f0,none⟩)(h1:ops[i1]? =some ⟨some p,.indexAddr t (.tmp r) (.tmp q),y1,p1,f1,none⟩)(h2:ops[i2]? =some ⟨none,.store e (.tmp p) (.tmp x),y2,p2,f2,none⟩)(h3:ops[i3]? =some ⟨some b,.fieldAddr T (.tmp y) fd,y3,p3,f3,none⟩)(h4:ops[i4]? =some ⟨none,.store t (.tmp b) (.tmp r),y4,p4,f4,none⟩)(hR:b3j ops L0 i0 i1 i2 i3 i4=true)(mP:gK P e=true)(hu:P.underlying t=some (.slice e))(eF:(r≠q/\r≠x/\r≠p/\r≠b/\r≠y)/\(p≠x/\p≠b/\p≠y)/\b≠q/\b≠x)(aE:r<st.tmps.length/\p<st.tmps.length/\b<st.tmps.length)(hsx:st.eval G (.tmp s)=.d (.sl xs))(htk:gC (.t s) st.own=some (e,dV))(hlx:∀c∈xs,c.length=P.cellsOf e)(hx:st.eval G (.tmp z)=.d (.sl [z0]))(hz0:z0.length=P.cellsOf e)(hbd:(xs.length+1)*(P.bytesOf e+1)<=140737488355328)(hq:st.eval G (.tmp q)=.d (.int .i64 (xs.length:Int)))(hxv:st.eval G (.tmp x)=.d (.agg c))(hc:c.length=P.cellsOf e)(hy:st.eval G (.tmp y)=.ptr kb0 vR)(hfo:aG P T fd=some (fo,u))(hfc:P.cellsOf u≠0)(mD:uG P G t (.tmp b) (.tmp r) (tl3 st dV e r p b xs c kb0 (vR+fo))=some out)(hQ:Q out.st){base:cT}{R:Nat->Nat->Prop}{μ:Nat->Nat}{a:Act}{w:World}(hr:Rel P G base R μ st a w)(hk:∀s' a' w' R' μ',Q s'->Rel P G base R' μ' s' a' w'->Step base R w R' w'->QQ .normal a' w'):wpAny P .any ops QQ 5 L0 a w:=by
 obtain⟨⟨n1,n2,n3,n4,n7⟩,⟨n5,n6,n8⟩,n9,n10⟩:=eF;obtain⟨l1,l2,l3⟩:=aE;have jG:=hr.size;obtain⟨_,_,_,_,_,a0E,_,_⟩:=yH mP;obtain⟨g,cap,a2h,w1,e0,hg,jR,e4p,b7M⟩:=b1U (ty:=y0) hr mP hu (x:=.tmp z) hsx htk hlx hx hz0 hbd;obtain⟨pc,hpc,b0O,c3p⟩:=(hr.kK hxv).a3c;have kD:∀u∈pc.toList,u.oneCell'=true:=λu hu=>by
  obtain⟨j,hj⟩:=f7Y hu;have hjl:j<c.length:=by rw[<-b0O];simpa using (f7I.1 hj).1
  obtain⟨k1,k2⟩:=c3p j c[j] (by simp[hjl]);have:pc.getD j Go.undef=u:=by
   have:pc[j]? =some u:=by simpa using hj
   simp[f7J,this]
  rw[this]at k2;exact k2.a8O k1
 obtain⟨R1,hr1,hV1,hA1,hs1⟩:=b7M pc.toList c (by simpa[b0O]using hc) hc kD (λj d hj=>by
  obtain⟨k1,k2⟩:=c3p j d hj;have hjl:j<pc.size:=by rw[b0O];exact(f7I.1 hj).1
  refine⟨k1,pc[j],by simp[hjl],?_⟩;simpa[f7J,hjl]using k2)
 generalize hvS:(Value.slice (some ⟨g,0,none⟩) (xs.length+1) cap)=vS at *;generalize d3j:spl a2h (xs.length*P.cellsOf e) pc.toList=b0P at *;have hra:r<a.tmps.size:=by rw[jG];exact l1
 have hpa:p<a.tmps.size:=by rw[jG];exact l2
 have e4r:=hr1.put (dst:=some r) (.d _ _ hV1) hA1;have zC:=e4r.put (dst:=some p) (v:=.pointer (some ⟨g,xs.length*P.cellsOf e,none⟩)) (act:=.no) (.undef _) trivial;generalize ha1:a.put (some r) vS=a1 at *;generalize ha2:a1.put (some p) (.pointer (some ⟨g,xs.length*P.cellsOf e,none⟩))=a2 at *;have z1:a1.tmps.size=a.tmps.size:=by rw[<-ha1];exact size_put _ _ _
 have v1r:a1.eval (.tmp r)=vS:=by rw[<-ha1];exact dR _ _ hra
 have v1q:a1.eval (.tmp q)=a.eval (.tmp q):=by rw[<-ha1];exact bV _ _ (Ne.symm n1)
 have v1x:a1.eval (.tmp x)=a.eval (.tmp x):=by rw[<-ha1];exact bV _ _ (Ne.symm n2)
 have v1b:a1.eval (.tmp b)=a.eval (.tmp b):=by rw[<-ha1];exact bV _ _ (Ne.symm n4)
 have v2p:a2.eval (.tmp p)=.pointer (some ⟨g,xs.length*P.cellsOf e,none⟩):=by rw[<-ha2];exact dR _ _ (z1.symm▸hpa)
 have v2x:a2.eval (.tmp x)=.agg pc:=by rw[<-ha2,bV _ _ (Ne.symm n5),v1x,hpc]
 have v2r:a2.eval (.tmp r)=vS:=by rw[<-ha2,bV _ _ n3];exact v1r
 have v2b:a2.eval (.tmp b)=a.eval (.tmp b):=by rw[<-ha2,bV _ _ (Ne.symm n6)];exact v1b
 have v1y:a1.eval (.tmp y)=.pointer (some ⟨μ kb0,vR,none⟩):=by rw[<-ha1,bV _ _ (Ne.symm n7)];exact hr.eC hy
 have hb0:b<a.tmps.size:=by rw[jG];exact l3
 have z2:a2.tmps.size=a.tmps.size:=by rw[<-ha2,size_put];exact z1
 have hr3:=zC.put (dst:=some b) (v:=.pointer (some ⟨μ kb0,vR+fo,none⟩)) (act:=.no) (.ptr kb0 (vR+fo)) trivial;generalize ha3:a2.put (some b) (.pointer (some ⟨μ kb0,vR+fo,none⟩))=a3 at *;generalize hab:a1.put (some b) (.pointer (some ⟨μ kb0,vR+fo,none⟩))=ab at *;have e7Z:ab.put (some p) (.pointer (some ⟨g,xs.length*P.cellsOf e,none⟩))=a3:=by rw[<-hab, <- ha3, <- ha2];exact(d3s a1 _ _ n6).symm
 have v2y:a2.eval (.tmp y)=.pointer (some ⟨μ kb0,vR,none⟩):=by rw[<-ha2,bV _ _ (Ne.symm n8)];exact v1y
 have v3b:a3.eval (.tmp b)=.pointer (some ⟨μ kb0,vR+fo,none⟩):=by rw[<-ha3];exact dR _ _ (z2.symm▸hb0)
 have v3r:a3.eval (.tmp r)=vS:=by rw[<-ha3,bV _ _ n4];exact v2r
 have v3p:a3.eval (.tmp p)=.pointer (some ⟨g,xs.length*P.cellsOf e,none⟩):=by rw[<-ha3,bV _ _ n6];exact v2p
 have v3x:a3.eval (.tmp x)=.agg pc:=by rw[<-ha3,bV _ _ (Ne.symm n10)];exact v2x
 have vbb:ab.eval (.tmp b)=.pointer (some ⟨μ kb0,vR+fo,none⟩):=by rw[<-hab];exact dR _ _ (z1.symm▸hb0)
 have vbr:ab.eval (.tmp r)=vS:=by rw[<-hab,bV _ _ n4];exact v1r
 have vbq:ab.eval (.tmp q)=a.eval (.tmp q):=by rw[<-hab,bV _ _ (Ne.symm n9)];exact v1q
 have a5r:=mD;unfold uG at a5r;split at a5r;rotate_left
 .cases a5r
 rename_i kb off ys hb hys;split at a5r;rotate_left
 .cases a5r
 rename_i cs hkb;split at a5r;rotate_left
 .cases a5r
 rename_i hcd
 clear a5r
 have hHs:(tl3 st dV e r p b xs c kb0 (vR+fo)).H=st.H:=rfl;rw[hHs]at hkb;have hbe:(tl3 st dV e r p b xs c kb0 (vR+fo)).eval G (.tmp b)=.ptr kb0 (vR+fo):=by simp[St.eval,finish,List.getD,l3]
 rw[hbe]at hb;cases hb;have e4u:ys.length=1:=by
  have:(tl3 st dV e r p b xs c kb0 (vR+fo)).eval G (.tmp r)=.d (.sl (xs++[c])):=by simp[St.eval,finish,List.getD,l1,List.getElem?_set,Ne.symm n3,Ne.symm n4]
  rw[this]at hys;simp only[uE,D.cells,List.map_cons,List.map_nil,f7N]at hys;rw[<-hys];rfl
 obtain⟨_,_,vs0,T0,hh0,e4v,_⟩:=hr.gY kb0 _ hkb;obtain⟨hbg,e4w⟩:=e4p kb0 _ hkb;have hvc:vS.cells=#[vS]:=by rw[<-hvS];rfl
 have hvo:vS.oneCell'=true:=by rw[<-hvS];rfl
 have hob:w1.heap[μ kb0]? =some (.cells vs0 T0 (0,0)):=e4w.trans hh0;generalize hX:spl vs0 (vR+fo) [vS]=X;have E0:(execOp a.eval ⟨some r,.call {callee:=.builtin .append,args:=#[.tmp s,.tmp z],argTypes:=#[t,t]},y0,p0,f0,none⟩).run P w=.ok (.value vS) w1:=by simp[execOp,resolve,invoke,builtin,e0]
 have E1:∀(ax:Act) (w':World),ax.eval (.tmp r)=vS->ax.eval (.tmp q)=a.eval (.tmp q)->(execOp ax.eval ⟨some p,.indexAddr t (.tmp r) (.tmp q),y1,p1,f1,none⟩).run P w'=.ok (.value (.pointer (some ⟨g,xs.length*P.cellsOf e,none⟩))) w':=λax w' k1 k2=>a2H rfl hu (k1.trans hvS.symm) (k2.trans (hr.vL hq)) (by omega) a0E
 have E2:∀(ax:Act) (w':World),ax.eval (.tmp p)=.pointer (some ⟨g,xs.length*P.cellsOf e,none⟩)->ax.eval (.tmp x)=.agg pc->w'.heap[g]? =some (.cells a2h e (0,0))->(execOp ax.eval ⟨none,.store e (.tmp p) (.tmp x),y2,p2,f2,none⟩).run P w'=.ok .skip (w'.setRow g b0P):=λax w' kp kx hw'=>by have:=vZ (P:=P) (a:=ax) (w:=w') (o:=⟨none,.store e (.tmp p) (.tmp x),y2,p2,f2,none⟩) rfl kp hw' (by rw[kx];show pc.size=_;rw[b0O,hc]) (by omega) (by rw[kx];exact kD) (by rw[kx];show _+pc.size<=_;rw[b0O,hc];exact jR);rw[kx]at this;have oI:(Value.agg pc).cells=pc:=rfl;rw[oI,d3j]at this;exact this
 have E3:∀(ax:Act) (w':World),ax.eval (.tmp y)=.pointer (some ⟨μ kb0,vR,none⟩)->(execOp ax.eval ⟨some b,.fieldAddr T (.tmp y) fd,y3,p3,f3,none⟩).run P w'=.ok (.value (.pointer (some ⟨μ kb0,vR+fo,none⟩))) w':=λax w' ky=>xD (P:=P) rfl hfo hfc ky;have E4:∀(ax:Act) (w':World),ax.eval (.tmp b)=.pointer (some ⟨μ kb0,vR+fo,none⟩)->ax.eval (.tmp r)=vS->w'.heap[μ kb0]? =some (.cells vs0 T0 (0,0))->(execOp ax.eval ⟨none,.store t (.tmp b) (.tmp r),y4,p4,f4,none⟩).run P w'=.ok .skip (w'.setRow (μ kb0) X):=λax w' hb1 hr1 hw'=>by have:=vZ (P:=P) (a:=ax) (w:=w') (o:=⟨none,.store t (.tmp b) (.tmp r),y4,p4,f4,none⟩) rfl hb1 hw' (by rw[hr1,hvc, <- hcd.1,e4u];rfl) (by omega) (by rw[hr1,hvc];simpa using hvo) (by rw[hr1,hvc];show vR+fo+1<=_;rw[e4v];omega);rw[hr1,hvc]at this;have:(execOp ax.eval ⟨none,.store t (.tmp b) (.tmp r),y4,p4,f4,none⟩).run P w'=.ok .skip (w'.setRow (μ kb0) (spl vs0 (vR+fo) [vS])):=this;rw[hX]at this;exact this
 have hgX:(w1.setRow (μ kb0) X).heap[g]? =some (.cells a2h e (0,0)):=(setRow_other w1 (μ kb0) g _ (Ne.symm hbg)).trans hg;have hbX:(w1.setRow g b0P).heap[μ kb0]? =some (.cells vs0 T0 (0,0)):=(setRow_other w1 g (μ kb0) _ hbg).trans hob;have b8p:(w1.setRow (μ kb0) X).setRow g b0P=(w1.setRow g b0P).setRow (μ kb0) X:=b1T w1 hbg X b0P;have yO:QQ .normal a3 ((w1.setRow g b0P).setRow (μ kb0) X):=by
  obtain⟨v,w',R',μ',cZ,hr4,_,_,hs3⟩:=a6j (o:=⟨none,.store t (.tmp b) (.tmp r),y4,p4,f4,none⟩) rfl mD base R1 μ a3 _ hr3;rw[E4 a3 _ v3b v3r hbX]at cZ;rcases cZ with cZ|⟨cZ,_⟩
  .cases cZ
  .cases cZ;exact hk out.st a3 _ R' μ' hQ hr4 (hs1.trans hs3)
 simp only[b3j,f7H,beq_iff_eq]at hR;obtain⟨⟨⟨⟨⟨⟨⟨⟨⟨⟨⟨⟨⟨⟨⟨⟨⟨⟨⟨r0,r1⟩,rA⟩,rB⟩,rAC⟩,rAB⟩,rBA⟩,rBD⟩,f1E⟩,f1F⟩,f1G⟩,f1H⟩,f1I⟩,f1J⟩,e1⟩,e2⟩,e3⟩,e4⟩,e5⟩,e6⟩:=hR;refine wpAny_all r0 (by simp) λi hi=>?_;simp only[f7O]at hi;subst hi;refine dA h0 rfl (.inl E0) ha1 ?_;refine wpAny_all r1 (by simp) λj hj=>?_;simp only[List.mem_cons,List.not_mem_nil,or_false]at hj;rcases hj with rfl|rfl
 .refine dA h1 rfl (.inl (E1 a1 w1 v1r v1q)) ha2 ?_;refine wpAny_all rA (by simp) λj hj=>?_;simp only[List.mem_cons,List.not_mem_nil,or_false]at hj;rcases hj with rfl|rfl
  .refine dA h2 rfl (.inr ⟨E2 a2 w1 v2p v2x hg,rfl⟩) rfl ?_;refine wpAny_all rAC (by simp) λj hj=>?_;simp only[f7O]at hj;subst hj;refine dA h3 rfl (.inl (E3 a2 _ v2y)) ha3 ?_;refine wpAny_all f1E (by simp) λj hj=>?_;simp only[f7O]at hj;subst hj;exact dA h4 rfl (.inr ⟨E4 a3 _ v3b v3r hbX,rfl⟩) rfl (wpAny_done e1 yO _)
  .refine dA h3 rfl (.inl (E3 a2 _ v2y)) ha3 ?_;refine wpAny_all rAB (by simp) λj hj=>?_;simp only[List.mem_cons,List.not_mem_nil,or_false]at hj;rcases hj with rfl|rfl
   .refine dA h2 rfl (.inr ⟨E2 a3 w1 v3p v3x hg,rfl⟩) rfl ?_;refine wpAny_all f1F (by simp) λj hj=>?_;simp only[f7O]at hj;subst hj;exact dA h4 rfl (.inr ⟨E4 a3 _ v3b v3r hbX,rfl⟩) rfl (wpAny_done e2 yO _)
   .refine dA h4 rfl (.inr ⟨E4 a3 _ v3b v3r hob,rfl⟩) rfl ?_;refine wpAny_all f1G (by simp) λj hj=>?_;simp only[f7O]at hj;subst hj;exact dA h2 rfl (.inr ⟨E2 a3 _ v3p v3x hgX,rfl⟩) rfl (wpAny_done e3 (by rw[b8p];exact yO) _)
 .refine dA h3 rfl (.inl (E3 a1 _ v1y)) hab ?_;refine wpAny_all rB (by simp) λj hj=>?_;simp only[List.mem_cons,List.not_mem_nil,or_false]at hj;rcases hj with rfl|rfl
  .refine dA h1 rfl (.inl (E1 ab _ vbr vbq)) e7Z ?_;refine wpAny_all rBA (by simp) λj hj=>?_;simp only[List.mem_cons,List.not_mem_nil,or_false]at hj;rcases hj with rfl|rfl
   .refine dA h2 rfl (.inr ⟨E2 a3 w1 v3p v3x hg,rfl⟩) rfl ?_;refine wpAny_all f1H (by simp) λj hj=>?_;simp only[f7O]at hj;subst hj;exact dA h4 rfl (.inr ⟨E4 a3 _ v3b v3r hbX,rfl⟩) rfl (wpAny_done e4 yO _)
   .refine dA h4 rfl (.inr ⟨E4 a3 _ v3b v3r hob,rfl⟩) rfl ?_;refine wpAny_all f1I (by simp) λj hj=>?_;simp only[f7O]at hj;subst hj;exact dA h2 rfl (.inr ⟨E2 a3 _ v3p v3x hgX,rfl⟩) rfl (wpAny_done e5 (by rw[b8p];exact yO) _)
  .refine dA h4 rfl (.inr ⟨E4 ab _ vbb vbr hob,rfl⟩) rfl ?_;refine wpAny_all rBD (by simp) λj hj=>?_;simp only[f7O]at hj;subst hj;refine dA h1 rfl (.inl (E1 ab _ vbr vbq)) e7Z ?_;refine wpAny_all f1J (by simp) λj hj=>?_;simp only[f7O]at hj;subst hj;exact dA h2 rfl (.inr ⟨E2 a3 _ v3p v3x hgX,rfl⟩) rfl (wpAny_done e6 (by rw[b8p];exact yO) _)
def c8i(P:Program)(G:GT)(t e T:TypeId)(s z r p q x b y:Tmp)(fd:Nat)(Q:St->Prop)(st:St):Prop:=
 ∃(xs:List (List D)) (z0 c:List D) (dV:List (TypeId×List Loc)) (kb0 vR fo:Nat) (u:TypeId) (out:Out),(r<st.tmps.length/\p<st.tmps.length/\b<st.tmps.length)/\st.eval G (.tmp s)=.d (.sl xs)/\gC (.t s) st.own=some (e,dV)/\(∀c∈xs,c.length=P.cellsOf e)/\st.eval G (.tmp z)=.d (.sl [z0])/\z0.length=P.cellsOf e/\
  (xs.length+1)*(P.bytesOf e+1)<=140737488355328/\st.eval G (.tmp q)=.d (.int .i64 (xs.length:Int))/\st.eval G (.tmp x)=.d (.agg c)/\c.length=P.cellsOf e/\st.eval G (.tmp y)=.ptr kb0 vR/\aG P T fd=some (fo,u)/\P.cellsOf u≠0/\uG P G t (.tmp b) (.tmp r) (tl3 st dV e r p b xs c kb0 (vR+fo))=some out/\Q out.st
theorem a1O{id:Nat}{ops:Array Oper}{Q:Exit->St->Prop}{m:Nat}{t e T:TypeId}{s z r p q x b y:Tmp}{fd:Nat}{y0 y1 y2 y3 y4:TypeId}{p0 p1 p2 p3 p4:String}{f0 f1 f2 f3 f4:Array Edge}(h0:ops[m]? =some ⟨some r,.call {callee:=.builtin .append,args:=#[.tmp s,.tmp z],argTypes:=#[t,t]},y0,p0,f0,none⟩)(h1:ops[m+1]? =some ⟨some p,.indexAddr t (.tmp r) (.tmp q),y1,p1,f1,none⟩)(h2:ops[m+2]? =some ⟨none,.store e (.tmp p) (.tmp x),y2,p2,f2,none⟩)(h3:ops[m+3]? =some ⟨some b,.fieldAddr T (.tmp y) fd,y3,p3,f3,none⟩)(h4:ops[m+4]? =some ⟨none,.store t (.tmp b) (.tmp r),y4,p4,f4,none⟩)(hB:(P.follows .mixedOrders&&d3i ops m&&decide (ops.size=m+5)&&b3j ops (pM m ops.size) m (m+1) (m+2) (m+3) (m+4))=true)(mP:(gK P e&&decide ((r≠q/\r≠x/\r≠p/\r≠b/\r≠y)/\(p≠x/\p≠b/\p≠y)/\b≠q/\b≠x))=true)(hu:P.underlying t=some (.slice e))(hF:b0E ops st=true)(h:VK P G [.ops true ops (ops.toList.take m)] .normal st λ_ s1=>c8i P G t e T s z r p q x b y fd (λs'=>Q .normal s') s1):SW P G (.region id ops true) st Q:=by
 rw[f7H,f7H,f7H,decide_eq_true_eq]at hB;obtain⟨⟨⟨hm,hL⟩,jG⟩,hR⟩:=hB;rw[f7H,decide_eq_true_eq]at mP;have h5:ops.size-m=5:=by rw[jG];exact Nat.add_sub_cancel_left ..
 refine b4D hm hL hF (c6q h) ?_;rintro s1 base R μ a w QQ ⟨xs,z0,c,dV,kb0,vR,fo,u,out,k0,k1,k2,k3,k4,k5,k6,k7,k8,k9,k10,k11,k12,k13,k14⟩ hr hk;rw[h5];exact c3v (Q:=λs'=>Q .normal s') h0 h1 h2 h3 h4 hR mP.1 hu mP.2 k0 k1 k2 k3 k4 k5 k6 k7 k8 k9 k10 k11 k12 k13 k14 hr hk
end
end Go.VM
end
section
namespace Go.VM
open Go Go.RowKit
section
variable {P:Program} {G:GT} {st:St} {base:cT} {R:Nat->Nat->Prop} {μ:Nat->Nat} {a:Act} {w:World}
def b4J(P:Program)(G:GT)(all:Array Oper):List Oper->St->(Exit->St->Prop)->Prop
 |[],st,Q=>Q .normal st
 |o::rest,st,Q=>
  match eR o all st.tmps with
  |some true=>
   match mZ G o st with
   |some (f,ds)=>(∃r own,(Enters P f/\CS P G f ds r own)/\b4J P G all rest (finish st o.dst r (a4R own)) Q)\/∃s',(Enters P f/\mA P G f (ds.map .d) (kI o) st o.dst s')/\b4J P G all rest s' Q
   |none=>
    match eB G o st with
    |some (f,f7F)=>∃x0,sN P G f f7F (kI o) o.dst st (λs=>b4J P G all rest s Q) Q x0
    |none=>
     match mH P G o st with
     |some out=>b4J P G all rest (finish out.st o.dst out.v (a8U false all o out.v out.act)) Q
     |none=>False
  |some false=>b4J P G all rest (finish st o.dst (.bY []) .no) Q
  |none=>False
theorem c8j{all:Array Oper}:∀(l:List Oper) (st:St) (Q:Exit->St->Prop),b4J P G all l st Q->∀(base:cT) (R:Nat->Nat->Prop) (μ:Nat->Nat) (a:Act) (w:World),Rel P G base R μ st a w->
  ∀QQ:Exit->Act->World->Prop,(∀e s a' w' R' μ',Q e s->Rel P G base R' μ' s a' w'->Step base R w R' w'->QQ e a' w')->wpList P all QQ l a w
 |[],st,Q,h,base,R,μ,a,w,hr,QQ,hk=>hk _ st a w R μ h hr (.refl _ _ _)
 |o::rest,st,Q,h,base,R,μ,a,w,hr,QQ,hk=>by
  have go:pA P G false all o (λs=>b4J P G all rest s Q) st->wpList P all QQ (o::rest) a w:=λh1=>by unfold wpList;exact uA h1 hr λs v w' R' μ' h' eM qP=>c8j rest s Q h' base R' μ' _ w' eM QQ λe s a' w2 R2 μ2 q1 q2 q3=>hk e s a' w2 R2 μ2 q1 q2 (qP.trans q3)
  unfold b4J at h;split at h
  .rename_i hw;split at h
   .rename_i f ds hc;refine go ?_;unfold pA;rw[hw,hc];rcases h with⟨r,own,h1,h2⟩|⟨s',h1,h2⟩
    .exact .inl ⟨r,own,h1,λe=>Bool.noConfusion e,by simpa using h2⟩
    .exact .inr ⟨by simp[rU],s',h1,h2⟩
   .rename_i hc;split at h
    .rename_i f f7F hH;obtain⟨x0,h0⟩:=h;unfold sN at h0;obtain⟨he,h1,h2⟩:=h0;cases x0 with
     |true=>obtain⟨s',h3,h4⟩:=h1 rfl;refine go ?_;unfold pA;rw[hw,hc,hH];simp only[rU,Bool.false_and,a1A,Bool.false_eq_true,if_false];exact⟨s',⟨he,h3⟩,h4⟩
     |false=>obtain⟨v,h3,h4⟩:=h2 rfl;unfold wpList;rw[a2B hr hw,if_pos rfl];exact .inl (a8a hH ⟨he,h3⟩ hr λR' w' hs hb=>hk _ _ _ w' R' μ h4 (hr.a9u hs hb) hs)
    .rename_i hH;split at h
     .rename_i out hv;refine go ?_;unfold pA;rw[hw,hc,hH,hv];exact h
     .exact h.elim
  .rename_i hw;refine go ?_;unfold pA;rw[hw];exact h
  .exact h.elim
def XW(P:Program)(G:GT):Code->St->(Exit->St->Prop)->Prop
 | .skip,st,Q=>Q .normal st
 | .region id ops draw,st,Q=>match draw with
  |true=>SW P G (.region id ops true) st Q
  |false=>b4J P G ops ops.toList st Q
 | .seq x y,st,Q=>XW P G x st λe s=>match e with
  | .normal=>XW P G y s Q
  |e=>Q e s
 | .cond c x y,st,Q=>
  match st.eval G c with
  | .d (.bool t)=>if t then XW P G x st Q else XW P G y st Q
  | .oY=>XW P G x st Q/\XW P G y st Q
  |_=>False
 | .block id c,st,Q=>XW P G c st λe s=>match e with
  | .exit id'=>if id'=id then Q .normal s else Q (.exit id') s
  |e=>Q e s
 | .loop c,st,Q=>SW P G (.loop c) st Q
 | .exit id,st,Q=>Q (.exit id) st
 | .ret,st,Q=>Q .ret st
 | .label _,st,Q=>Q .normal st
 | .scope c,st,Q=>XW P G c st λe s=>match e with
  | .goto _=>False
  |e=>Q e s
 |_,_,_=>False
theorem a9y:∀(c:Code) (st:St) (Q:Exit->St->Prop),XW P G c st Q->SW P G c st Q
 | .skip,st,Q,h=>λbase R μ a w hr=>wp_skip ⟨st,R,μ,h,hr,.refl _ _ _⟩
 | .region id ops draw,st,Q,h=>by
  unfold XW at h;cases draw with
  |true=>exact h
  |false=>exact λbase R μ a w hr=>wp_region_list (c8j ops.toList st Q h base R μ a w hr _ λe s a' w' R' μ' q1 q2 q3=>⟨s,R',μ',q1,q2,q3⟩)
 | .seq x y,st,Q,h=>λbase R μ a w hr=>wp_seq (wp_mono (a9y x st _ h base R μ a w hr) λe a1 w1 ⟨s,R1,μ1,q1,q2,q3⟩=>by
   cases e with
   |normal=>exact wp_mono (a9y y s Q q1 base R1 μ1 a1 w1 q2) λe2 a2 w2 ⟨s2,R2,μ2,p1,p2,p3⟩=>⟨s2,R2,μ2,p1,p2,q3.trans p3⟩
   |_=>exact⟨s,R1,μ1,q1,q2,q3⟩)
 | .cond c x y,st,Q,h=>λbase R μ a w hr=>by
  unfold XW at h;split at h
  .rename_i t hc;refine wp_cond (hr.a0y hc) ?_;cases t
   .exact a9y y st Q h base R μ a w hr
   .exact a9y x st Q h base R μ a w hr
  .rename_i hc;obtain⟨t,ht⟩:=hr.c7G hc;refine wp_cond ht ?_;cases t
   .exact a9y y st Q h.2 base R μ a w hr
   .exact a9y x st Q h.1 base R μ a w hr
  .cases h
 | .block id c,st,Q,h=>λbase R μ a w hr=>wp_block (wp_mono (a9y c st _ h base R μ a w hr) λe a1 w1 ⟨s,R1,μ1,q1,q2,q3⟩=>by
   cases e with
   |exit id'=>
    simp only[Exit.inBlock];simp only at q1;by_cases hid:id'=id
    .rw[if_pos hid]at q1|-;exact⟨s,R1,μ1,q1,q2,q3⟩
    .rw[if_neg hid]at q1|-;exact⟨s,R1,μ1,q1,q2,q3⟩
   |_=>exact⟨s,R1,μ1,q1,q2,q3⟩)
 | .loop c,st,Q,h=>h
 | .exit id,st,Q,h=>λbase R μ a w hr=>wp_exit ⟨st,R,μ,h,hr,.refl _ _ _⟩
 | .ret,st,Q,h=>λbase R μ a w hr=>wp_ret ⟨st,R,μ,h,hr,.refl _ _ _⟩
 | .rangeFunc ..,_,_,h=>by simp[XW]at h
 | .scope c,st,Q,h=>λbase R μ a w hr=>wp_scope_straight (wp_mono (a9y c st _ h base R μ a w hr) λe a1 w1 ⟨s,R1,μ1,q1,q2,q3⟩=>by
   cases e with
   |goto l=>exact q1.elim
   |_=>exact⟨s,R1,μ1,q1,q2,q3⟩)
 | .label l,st,Q,h=>λbase R μ a w hr=>wp_label ⟨st,R,μ,h,hr,.refl _ _ _⟩
 | .goto ..,_,_,h=>by simp[XW]at h
inductive XI where
 |code (c:Code)
 |blk (id:Nat)
 |ops (all:Array Oper) (rest:List Oper)
 |scp
def XK(P:Program)(G:GT):List XI->Exit->St->(Exit->St->Prop)->Prop
 |[],e,st,Q=>Q e st
 | .code c::k,.normal,st,Q=>XW P G c st λe s=>XK P G k e s Q
 | .code _::k,e,st,Q=>XK P G k e st Q
 | .blk id::k,.exit id',st,Q=>if id'=id then XK P G k .normal st Q else XK P G k (.exit id') st Q
 | .blk _::k,e,st,Q=>XK P G k e st Q
 | .ops all rest::k,.normal,st,Q=>b4J P G all rest st λe s=>XK P G k e s Q
 | .ops _ _::k,e,st,Q=>XK P G k e st Q
 | .scp::_,.goto _,_,_=>False
 | .scp::k,e,st,Q=>XK P G k e st Q
def c3w(P:Program)(G:GT)(v:DV)(x y:Code)(k:List XI)(st:St)(Q:Exit->St->Prop):Prop:=
 match v with
 | .d (.bool t)=>if t then XK P G (.code x::k) .normal st Q else XK P G (.code y::k) .normal st Q
 | .oY=>XK P G (.code x::k) .normal st Q/\XK P G (.code y::k) .normal st Q
 |_=>False
end
section
variable {P:Program} {G:GT} {k:List XI} {st:St} {Q:Exit->St->Prop}
theorem e4F(e:Exit):XK P G [] e st Q=Q e st:=rfl
theorem d9f:XK P G (.code .skip::k) .normal st Q=XK P G k .normal st Q:=rfl
theorem e4G(x y:Code):XK P G (.code (.seq x y)::k) .normal st Q=XK P G (.code x::.code y::k) .normal st Q:=by simp only[XK,XW];congr 1;funext e s;cases e<;>rfl
theorem d9g(c:Operand)(x y:Code):XK P G (.code (.cond c x y)::k) .normal st Q=c3w P G (st.eval G c) x y k st Q:=rfl
theorem d3t(id:Nat)(c:Code):XK P G (.code (.block id c)::k) .normal st Q=XK P G (.code c::.blk id::k) .normal st Q:=by simp only[XK,XW];congr 1;funext e s;cases e<;>rfl
theorem d3u(l:Nat):XK P G (.code (.label l)::k) .normal st Q=XK P G k .normal st Q:=rfl
theorem b6W:XK P G (.scp::k) .normal st Q=XK P G k .normal st Q:=rfl
theorem c6t:XK P G (.scp::k) .ret st Q=XK P G k .ret st Q:=rfl
theorem c3x(id:Nat):XK P G (.scp::k) (.exit id) st Q=XK P G k (.exit id) st Q:=rfl
theorem c9G(id:Nat)(ops:Array Oper):XK P G (.code (.region id ops false)::k) .normal st Q=XK P G (.ops ops ops.toList::k) .normal st Q:=rfl
theorem d3v(id:Nat)(ops:Array Oper):XK P G (.code (.region id ops true)::k) .normal st Q=SW P G (.region id ops true) st (λe s=>XK P G k e s Q):=rfl
theorem d9h(id:Nat):XK P G (.code (.exit id)::k) .normal st Q=XK P G k (.exit id) st Q:=rfl
theorem e4H:XK P G (.code .ret::k) .normal st Q=XK P G k .ret st Q:=rfl
theorem d9i(c:Code):XK P G (.code (.loop c)::k) .normal st Q=SW P G (.loop c) st (λe s=>XK P G k e s Q):=rfl
theorem c3y(c:Code):XK P G (.code c::k) .ret st Q=XK P G k .ret st Q:=rfl
theorem c0c(c:Code)(id:Nat):XK P G (.code c::k) (.exit id) st Q=XK P G k (.exit id) st Q:=rfl
theorem b6X(id:Nat):XK P G (.blk id::k) .normal st Q=XK P G k .normal st Q:=rfl
theorem c6u(id:Nat):XK P G (.blk id::k) .ret st Q=XK P G k .ret st Q:=rfl
theorem c3z(id id':Nat):XK P G (.blk id::k) (.exit id') st Q=if id'=id then XK P G k .normal st Q else XK P G k (.exit id') st Q:=rfl
theorem c6v(all:Array Oper):XK P G (.ops all []::k) .normal st Q=XK P G k .normal st Q:=rfl
theorem a2J(ps:List PanicEntry):∀k:List XI,XK P G k (.panic ps) st Q=Q (.panic ps) st
 |[]=>rfl
 | .code _::k=>by simpa only[XK]using a2J ps k
 | .blk _::k=>by simpa only[XK]using a2J ps k
 | .ops _ _::k=>by simpa only[XK]using a2J ps k
 | .scp::k=>by simpa only[XK]using a2J ps k
def mQ(P:Program)(G:GT)(f:FuncId)(ds:List D)(ls:List (Option Loc))(dst:Option Tmp)(all:Array Oper)(rest:List Oper)(k:List XI)(st:St)(Q:Exit->St->Prop):Prop:=
 (∃r own,(Enters P f/\CS P G f ds r own)/\XK P G (.ops all rest::k) .normal (finish st dst r (a4R own)) Q)\/
 (∃s',(Enters P f/\mA P G f (ds.map .d) ls st dst s')/\XK P G (.ops all rest::k) .normal s' Q)
theorem mQ.mk{ls:List (Option Loc)}{f:FuncId}{ds:List D}{r:DV}{own:Option TypeId}{dst:Option Tmp}{all:Array Oper}{rest:List Oper}(he:Enters P f)(hc:CS P G f ds r own)(h:XK P G (.ops all rest::k) .normal (finish st dst r (a4R own)) Q):mQ P G f ds ls dst all rest k st Q:=.inl ⟨r,own,⟨he,hc⟩,h⟩
def b8u(P:Program)(G:GT)(x:Option Out)(dst:Option Tmp)(all:Array Oper)(rest:List Oper)(k:List XI)(Q:Exit->St->Prop):Prop:=
 match x with
 |some out=>XK P G (.ops all rest::k) .normal (finish out.st dst out.v out.act) Q
 |none=>False
theorem c6w{st':St}{v:DV}{act:OA}{dst:Option Tmp}{all:Array Oper}{rest:List Oper}:b8u P G (some ⟨v,act,st'⟩) dst all rest k Q=XK P G (.ops all rest::k) .normal (finish st' dst v act) Q:=rfl
theorem qZ{c:Prop}[Decidable c]{out:Out}{dst:Option Tmp}{all:Array Oper}{rest:List Oper}(hc:c)(h:b8u P G (some out) dst all rest k Q):b8u P G (if c then some out else none) dst all rest k Q:=by rw[if_pos hc];exact h
theorem c6x(x y:Code):c3w P G (.d (.bool true)) x y k st Q=XK P G (.code x::k) .normal st Q:=rfl
theorem c9H(x y:Code):c3w P G .oY x y k st Q=(XK P G (.code x::k) .normal st Q/\XK P G (.code y::k) .normal st Q):=rfl
theorem c3A(x y:Code):c3w P G (.d (.bool false)) x y k st Q=XK P G (.code y::k) .normal st Q:=rfl
def dC(P:Program)(G:GT)(f:FuncId)(f7F:List DV)(ls:List (Option Loc))(dst:Option Tmp)(all:Array Oper)(rest:List Oper)(k:List XI)(st:St)(Q:Exit->St->Prop):Prop:=
 ∃x0,sN P G f f7F ls dst st (λs=>XK P G (.ops all rest::k) .normal s Q) (λe s=>XK P G k e s Q) x0
theorem dC.mk{f:FuncId}{f7F:List DV}{ls:List (Option Loc)}{dst:Option Tmp}{all:Array Oper}{rest:List Oper}{x0:Bool}(h:sN P G f f7F ls dst st (λs=>XK P G (.ops all rest::k) .normal s Q) Q x0):dC P G f f7F ls dst all rest k st Q:=by
 refine⟨x0,?_⟩;unfold sN at h|-;refine⟨h.1,h.2.1,λh0=>?_⟩;obtain⟨v,h1,h2⟩:=h.2.2 h0;refine⟨v,h1,?_⟩
 show XK P G k (.panic (a0a v)) (a1M st) Q
 rw[a2J];exact h2
def a5v(P:Program)(G:GT)(o:Oper)(all:Array Oper)(rest:List Oper)(k:List XI)(st:St)(Q:Exit->St->Prop):Prop:=
 match mZ G o st with
 |some (f,ds)=>mQ P G f ds (kI o) o.dst all rest k st Q
 |none=>
  match eB G o st with
  |some (f,f7F)=>dC P G f f7F (kI o) o.dst all rest k st Q
  |none=>b8u P G ((mH P G o st).map λout=>⟨out.v,a8U false all o out.v out.act,out.st⟩) o.dst all rest k Q
def a3y(P:Program)(G:GT)(y:DV)(want:Bool)(o:Oper)(all:Array Oper)(rest:List Oper)(k:List XI)(st:St)(Q:Exit->St->Prop):Prop:=
 match y with
 | .undef=>False
 | .oY=>False
 | .d (.bool b)=>if b=want then a5v P G o all rest k st Q else XK P G (.ops all rest::k) .normal (finish st o.dst (.bY []) .no) Q
 |_=>XK P G (.ops all rest::k) .normal (finish st o.dst (.bY []) .no) Q
theorem a1P(b want:Bool)(o:Oper)(all:Array Oper)(rest:List Oper):a3y P G (.d (.bool b)) want o all rest k st Q=if b=want then a5v P G o all rest k st Q else XK P G (.ops all rest::k) .normal (finish st o.dst (.bY []) .no) Q:=rfl
theorem c6y(ds:List D)(want:Bool)(o:Oper)(all:Array Oper)(rest:List Oper):a3y P G (.bY ds) want o all rest k st Q=XK P G (.ops all rest::k) .normal (finish st o.dst (.bY []) .no) Q:=rfl
theorem c9I(o:Oper)(all:Array Oper)(rest:List Oper):a3y P G (.d (.bool true)) true o all rest k st Q=a5v P G o all rest k st Q:=by rw[a1P,if_pos rfl]
theorem c9J(o:Oper)(all:Array Oper)(rest:List Oper):a3y P G (.d (.bool false)) false o all rest k st Q=a5v P G o all rest k st Q:=by rw[a1P,if_pos rfl]
theorem c9K(o:Oper)(all:Array Oper)(rest:List Oper):a3y P G (.d (.bool true)) false o all rest k st Q=XK P G (.ops all rest::k) .normal (finish st o.dst (.bY []) .no) Q:=by rw[a1P,if_neg (by decide)]
theorem c9L(o:Oper)(all:Array Oper)(rest:List Oper):a3y P G (.d (.bool false)) true o all rest k st Q=XK P G (.ops all rest::k) .normal (finish st o.dst (.bY []) .no) Q:=by rw[a1P,if_neg (by decide)]
theorem b1Y(all:Array Oper)(o:Oper)(rest:List Oper):XK P G (.ops all (o::rest)::k) .normal st Q=match eR o all st.tmps with
  |some true=>a5v P G o all rest k st Q
  |some false=>XK P G (.ops all rest::k) .normal (finish st o.dst (.bY []) .no) Q
  |none=>False:=by
 simp only[XK,b4J,a5v,mQ,dC,b8u];cases eR o all st.tmps with
 |none=>rfl
 |some b=>
  cases b with
  |false=>rfl
  |true=>
   simp only;cases mZ G o st with
   |some p=>rfl
   |none=>
    simp only;cases eB G o st with
    |some p=>rfl
    |none=>simp only;cases mH P G o st<;>rfl
theorem c3B(all:Array Oper)(dst:Option Tmp)(op:Op)(ty:TypeId)(pos:String)(after:Array Edge)(rest:List Oper):
  XK P G (.ops all (⟨dst,op,ty,pos,after,none⟩::rest)::k) .normal st Q=a5v P G ⟨dst,op,ty,pos,after,none⟩ all rest k st Q:=by
 rw[b1Y]
 rfl
theorem c0d(all:Array Oper)(dst:Option Tmp)(op:Op)(ty:TypeId)(pos:String)(after:Array Edge)(j:Nat)(want:Bool)(rest:List Oper):
  XK P G (.ops all (⟨dst,op,ty,pos,after,some (j,want)⟩::rest)::k) .normal st Q=a3y P G (tP all st.tmps j) want ⟨dst,op,ty,pos,after,some (j,want)⟩ all rest k st Q:=by
 rw[b1Y];simp only[eR,a3y];generalize tP all st.tmps j=y;cases y with
 |d x=>
  cases x with
  |bool b=>cases b<;>cases want<;>rfl
  |_=>rfl
 |_=>rfl
theorem SW.xk{c:Code}(h:XK P G [.code c] .normal st Q):SW P G c st Q:=a9y c st Q h
theorem SW.yP{c:Code}{ι:Type}(ws:ι->List (Nat×DV))(H:ι->List (Nat×aW))(own:ι->List (TypeId×List Loc))(m:ι->Nat)(x0:ι)(h0:uN st (eS c st (ws x0) (H x0) (own x0)))(round:∀x,XK P G [.code c] .normal (eS c st (ws x) (H x) (own x)) λe s=>match e with
   | .normal=>aX (λy=>eS c st (ws y) (H y) (own y)) m x s
   |e=>Q e s):SW P G (.loop c) st Q:=SW.e7U ws H own m x0 h0 λx=>SW.xk (round x)
end
attribute [irreducible] XK mQ dC b8u c3w a3y
attribute [simp] d3u b6W c6t c3x e4F d9f e4G d9g d3t c9G d3v d9h e4H d9i c3y c0c b6X c6u c3z c6v c3B c0d a5v c6w c6x c3A c9H c6y c9I c9J c9K c9L a2J
end Go.VM
end
section
namespace Go.VM
open Go Go.RowKit
section
variable {P:Program} {G:GT} {st:St} {base:cT} {R:Nat->Nat->Prop} {μ:Nat->Nat} {a:Act} {w:World}
def b3k:Op->Bool
 | .move _=>true
 | .nilCheck _=>true
 | .fieldAddr _ _ _=>true
 |_=>false
theorem c6z{o:Oper}{all:Array Oper}{K:St->Prop}(hg:o.guard=none)(hk:b3k o.op=true)(h:pA P G true all o K st)(hr:Rel P G base R μ st a w):∃v,∀w',(execOp a.eval o).run P w'=.ok (.value v) w':=by
 unfold pA at h;rw[show eR o all st.tmps=some true from by unfold eR;rw[hg]]at h;cases tO:o.op with
 |move x=>exact⟨a.eval x,λw'=>by simp[execOp,tO]⟩
 |nilCheck x=>
  simp only[mZ,eB,tO,mH]at h;unfold uT at h;split at h
  .rename_i out ho;split at ho
   .rename_i k off hx;exact⟨_,λw'=>by simp[execOp,tO,hr.eC hx];rfl⟩
   .rename_i cs hx;obtain⟨b,off,he,_⟩:=(hr.oT hx).b0B;exact⟨_,λw'=>by simp[execOp,tO,he];rfl⟩
   .rename_i f hx;exact⟨_,λw'=>by simp[execOp,tO,hr.b3x hx];rfl⟩
   .rename_i f cs hx;obtain⟨vs,he,_,_⟩:=(hr.oT hx).a8Q;exact⟨_,λw'=>by simp[execOp,tO,he];rfl⟩
   .cases ho
  .exact h.elim
 |fieldAddr t x i=>
  simp only[mZ,eB,tO,mH]at h;unfold sE at h;split at h
  .rename_i out ho;split at ho
   .rename_i off u hf;split at ho
    .cases ho
    .rename_i eF;split at ho
     .rename_i k o2 hx;exact⟨_,λw'=>xD (P:=P) tO hf eF (hr.eC hx)⟩
     .rename_i cs hx;obtain⟨b,o2,he,_⟩:=(hr.oT hx).b0B;exact⟨_,λw'=>xD (P:=P) tO hf eF he⟩
     .cases ho
   .cases ho
  .exact h.elim
 |_=>simp[b3k,tO]at hk
theorem c3C{o:Oper}{all:Array Oper}{K:St->Prop}(hg:o.guard=none)(hk:b3k o.op=true)(h:pA P G true all o K st)(hr:Rel P G base R μ st a w):
  ∃v s R' μ',(∀w',(execOp a.eval o).run P w'=.ok (.value v) w')/\K s/\Rel P G base R' μ' s (a.put o.dst v) w/\Step base R w R' w:=by
 obtain⟨v,hv⟩:=c6z hg hk h hr;have h1:=uA (Q:=λ_ _ _=>False) (KK:=λa' w'=>∃s R' μ',K s/\Rel P G base R' μ' s a' w'/\Step base R w R' w') h hr (λs v w' R' μ' q1 q2 q3=>⟨s,R',μ',q1,q2,q3⟩);rw[if_pos (by unfold Region.wanted;rw[hg])]at h1;rcases h1 with h1|⟨_,_,_,h2⟩
 .unfold Oper.wp at h1;rw[hv w]at h1;obtain⟨s,R',μ',q1,q2,q3⟩:=h1;exact⟨v,s,R',μ',hv,q1,q2,q3⟩
 .exact h2.elim
def b4K(ops:Array Oper):List Nat->Array Bool->Bool
 |[],_=>true
 |i::r,listed=>(match ops[i]? with
  |some o=>b3k o.op&&(o.guard==none)&&o.dst.isSome
  |none=>false)&&Region.noSelect ops&&Region.free .any ops listed i&&(Region.ready .any ops listed).contains i&&b4K ops r (listed.setIfInBounds i true)
theorem c0e{ops:Array Oper}{K:St->Prop}{QQ:Exit->Act->World->Prop}(hQ:∀c a a' w,a.defers=a'.defers->a.tmps.size=a'.tmps.size->QQ (.panic c) a w->QQ (.panic c) a' w):∀(l:List Nat) (listed:Array Bool) (fuel:Nat) (st:St),b4K ops l listed=true->uL P G true ops (sel ops l) st K->
  ∀(base:cT) (R:Nat->Nat->Prop) (μ:Nat->Nat) (a:Act) (w:World),Rel P G base R μ st a w->(∀s a' R' μ',K s->Rel P G base R' μ' s a' w->Step base R w R' w->wpAny P .any ops QQ fuel (cL l listed) a' w)->wpAny P .any ops QQ (l.length+fuel) listed a w
 |[],listed,fuel,st,_,h,base,R,μ,a,w,hr,hk=>by simpa[cL]using hk st a R μ h hr (.refl _ _ _)
 |i::l,listed,fuel,st,hB,h,base,R,μ,a,w,hr,hk=>by
  simp only[b4K,f7H]at hB;obtain⟨⟨⟨⟨ho,e4I⟩,hf⟩,hrd⟩,hB'⟩:=hB;split at ho;rotate_left
  .cases ho
  rename_i o hoi;simp only[f7H,beq_iff_eq]at ho;obtain⟨⟨hsk,hg⟩,hd⟩:=ho;simp only[sel,hoi,uL]at h;obtain⟨v,s,R',μ',hv,hK,eM,qP⟩:=c3C hg hsk h hr;rw[show(i::l).length+fuel=(l.length+fuel)+1 by simp only[List.length_cons];omega];refine wpAny_take (v:=v) hoi e4I hf hrd (λc a w h=>hQ c _ _ w ?_ ?_ h) (.inl ⟨by unfold Region.wanted;rw[hg],hv⟩) ?_
  .cases o.dst<;>rfl
  .cases o.dst<;>simp[Act.put]
  .exact c0e hQ l _ fuel s hB' hK base R' μ' _ w eM λs2 a2 R2 μ2 q1 q2 q3=>hk s2 a2 R2 μ2 q1 q2 (qP.trans q3)
def a0V(Q:Exit->St->Prop):Exit->St->Prop:=λe s=>match e with
 | .panic c=>∀s,Q (.panic c) s
 |e=>Q e s
theorem c0f{Q:Exit->St->Prop}{s:St}:a0V Q .normal s=Q .normal s:=rfl
theorem c3D{Q:Exit->St->Prop}{s:St}{c:List PanicEntry}:a0V Q (.panic c) s=∀s,Q (.panic c) s:=rfl
theorem c3E{Q:Exit->St->Prop}{e:Exit}{s:St}(h:a0V Q e s):Q e s:=by cases e<;>first|exact h|exact h s
theorem Rel.c3F(hr:Rel P G base R μ st a w)(a':Act)(hd:a'.defers=[]):Rel P G base R μ ⟨List.replicate a'.tmps.size .undef,[],[]⟩ a' w where
 defers:=hd
 size:=by simp
 tmps:=λi v d _ hd=>by
  rw[List.getElem?_replicate]at hd;split at hd
  .simp at hd;subst hd;exact .undef _
  .cases hd
 gY:=λk o h=>by cases h
 inj:=λk k' o o' h=>by cases h
 dI:=λc hc=>by cases hc
 own:=⟨[],rfl,λi c v h _=>by simp at h,.nil⟩
 tQ:=hr.tQ
 pH:=hr.pH
 base:=hr.base
 pass:=hr.pass
theorem a5w{ops:Array Oper}:∀(l:List Nat) (listed:Array Bool),b4K ops l listed=true->eH ops listed->eH ops (cL l listed)
 |[],_,_,h=>h
 |i::l,listed,hB,h=>by simp only[b4K,f7H]at hB;exact a5w l _ hB.2 (h.set (by simpa using hB.1.2))
def e1L(ops:Array Oper)(ss:List Nat)(c:Nat)(qM:List Nat)(T:Ord):Bool:=(eG ops).isEmpty&&b4K ops ss (Array.replicate ops.size false)&&decide (ss.length+qM.length+1<=ops.size)&&inB ops c qM&&a9r ops c qM (cL ss (Array.replicate ops.size false))&& !(Region.ready .any ops (cL qM (cL ss (Array.replicate ops.size false)))).isEmpty&&((Region.ready .any ops (cL qM (cL ss (Array.replicate ops.size false)))).all λj=>a3w c T j)&&b4G ops c T (ops.size-ss.length-qM.length) (cL qM (cL ss (Array.replicate ops.size false)))
theorem eH.zero{ops:Array Oper}:eH ops (Array.replicate ops.size false):=λk hk=>by
 rcases Nat.lt_or_ge k ops.size with h'|h'
 .simp[h']at hk
 .simp[Nat.not_lt.2 h']at hk
theorem gH{id:Nat}{ops:Array Oper}{Q:Exit->St->Prop}(ss:List Nat)(c:Nat)(qM:List Nat)(T:Ord)(x0:Bool)(hm:P.follows .mixedOrders=true)(hB:e1L ops ss c qM T=true)(h:VK P G [.ops true ops (sel ops ss)] .normal st λ_ s=>VK P G [.ops true ops (sel ops qM)] .normal s λ_ s=>pN P G ops c (a0V Q) x0 T s):SW P G (.region id ops true) st Q:=by
 simp only[e1L,f7H,List.isEmpty_iff,decide_eq_true_eq,Bool.not_eq_true',List.isEmpty_eq_false_iff,f7K]at hB;obtain⟨⟨⟨⟨⟨⟨⟨hN,mD⟩,hlen⟩,vI⟩,hs⟩,eF⟩,dB⟩,ht⟩:=hB;obtain⟨k,hk⟩:=Nat.exists_eq_add_of_le hlen;have oI:=a5w ss _ mD eH.zero;have e:ops.size-ss.length-qM.length=k+1:=by omega
 rw[e]at ht;refine SW.mono (λe s=>c3E) ?_;intro base R μ a w hr;obtain⟨eM,qP⟩:=hr.drew;refine wp_region_any hm ?_;simp only[VK]at h;have main:=c0e (QQ:=λe a' w'=>∃s' R' μ',a0V Q e s'/\Rel P G base R' μ' s' a' w'/\Step base R w R' w') (K:=λs=>uL P G true ops (sel ops qM) s λs=>pN P G ops c (a0V Q) x0 T s) (λc a a' w h1 h2 ⟨s',R',μ',q1,q2,q3⟩=>⟨⟨List.replicate a'.tmps.size .undef,[],[]⟩,R',μ',q1,q2.c3F a' (h1▸q2.defers),q3⟩) ss _ (qM.length+(k+1)) st mD h base R μ a w.drew eM λs a' R1 μ1 q1 q2 q3=>by
  cases x0 with
  |false=>have h2:=uZ (λs hs=>pN.pan T s hs) _ _ q1;have:=a6p (P:=P) (G:=G) (c:=c) (Z:=a1N P G ops c (a0V Q)) hN qM _ s (k+1) oI vI hs (tC (λs qP=>⟨eF,λj hj=>a5t T k _ s ht qP j hj (dB j hj)⟩) _ _ (wA qM s vI h2));exact a9v _ _ s this base R1 μ1 a' w.drew q2 λv s a' w' R' μ' p1 p2 p3=>⟨s,R',μ',p1,p2,qP.trans (q3.trans p3)⟩
  |true=>have h2:=uZ (λs hs=>pN.ret T s hs) _ _ q1;have:=a6o (P:=P) (G:=G) (c:=c) (Q:=λs=>a0V Q .normal s) hN qM _ s (k+1) oI hs (tC (λs qP=>⟨λh'=>(eF h').elim,λj hj=>a9s hN T k _ s (eH.cL qM _ oI hs) ht qP j hj (dB j hj)⟩) _ _ (wA qM s vI h2)) λ_=>trivial;exact a9q _ _ s this base R1 μ1 a' w.drew q2 λs a' w' R' μ' p1 p2 p3=>⟨s,R',μ',p1,p2,qP.trans (q3.trans p3)⟩
 rw[show ss.length+(qM.length+(k+1))=ops.size by omega]at main;exact main
def c0g(ops:Array Oper)(m:Nat)(ss:List Nat)(c:Nat)(qM:List Nat)(T:Ord):Bool:=(eG ops).isEmpty&&b4K ops ss (Array.replicate ops.size false)&&d3r m ss&&decide (ss.length+qM.length+1<=m)&&decide (m<=ops.size)&&xY ops m&&d3r m qM&&inB ops c qM&&a9r ops c qM (cL ss (Array.replicate ops.size false))&& !(Region.ready .any ops (cL qM (cL ss (Array.replicate ops.size false)))).isEmpty&&((Region.ready .any ops (cL qM (cL ss (Array.replicate ops.size false)))).all λj=>a3w c T j)&&a7h ops m c T (m-ss.length-qM.length) (cL qM (cL ss (Array.replicate ops.size false)))
theorem a9z{id:Nat}{ops:Array Oper}{m:Nat}{TT:St->Prop}{Q:Exit->St->Prop}(ss:List Nat)(c:Nat)(qM:List Nat)(T:Ord)(x0:Bool)(hm:P.follows .mixedOrders=true)(hB:c0g ops m ss c qM T=true)(h:VK P G [.ops true ops (sel ops ss)] .normal st λ_ s=>VK P G [.ops true ops (sel ops qM)] .normal s λ_ s=>pN P G ops c (b4I TT (a0V Q)) x0 T s)(hT:∀s base R μ a w (QQ:Exit->Act->World->Prop),TT s->Rel P G base R μ s a w->(∀s' a' w' R' μ',Q .normal s'->Rel P G base R' μ' s' a' w'->Step base R w R' w'->QQ .normal a' w')->wpAny P .any ops QQ (ops.size-m) (pM m ops.size) a w):SW P G (.region id ops true) st Q:=by
 simp only[c0g,f7H,List.isEmpty_iff,decide_eq_true_eq,Bool.not_eq_true',List.isEmpty_eq_false_iff,f7K]at hB;obtain⟨⟨⟨⟨⟨⟨⟨⟨⟨⟨⟨hN,mD⟩,f3I⟩,hlen⟩,e7I⟩,hTA⟩,gW⟩,vI⟩,hs⟩,eF⟩,dB⟩,ht⟩:=hB;obtain⟨k,hk⟩:=Nat.exists_eq_add_of_le hlen;have oI:=a5w ss _ mD eH.zero;have e:m-ss.length-qM.length=k+1:=by omega
 rw[e]at ht;obtain⟨k',hk'⟩:=Nat.exists_eq_add_of_le (Nat.le_trans hlen e7I);refine SW.mono (λe s=>c3E) ?_;intro base R μ a w hr;obtain⟨eM,qP⟩:=hr.drew;refine wp_region_any hm ?_;simp only[VK]at h;have main:=c0e (QQ:=λe a' w'=>∃s' R' μ',a0V Q e s'/\Rel P G base R' μ' s' a' w'/\Step base R w R' w') (K:=λs=>uL P G true ops (sel ops qM) s λs=>pN P G ops c (b4I TT (a0V Q)) x0 T s) (λc a a' w h1 h2 ⟨s',R',μ',q1,q2,q3⟩=>⟨⟨List.replicate a'.tmps.size .undef,[],[]⟩,R',μ',q1,q2.c3F a' (h1▸q2.defers),q3⟩) ss _ (qM.length+(k'+1)) st mD h base R μ a w.drew eM λs a' R1 μ1 q1 q2 q3=>by
  cases x0 with
  |false=>have h2:=uZ (λs hs=>pN.pan T s hs) _ _ q1;have:=a6p (P:=P) (G:=G) (c:=c) (Z:=a1N P G ops c (b4I TT (a0V Q))) hN qM _ s (k'+1) oI vI hs (tC (λs qP=>⟨eF,λj hj=>a6q T k k' _ s (by omega) ht qP j hj (dB j hj)⟩) _ _ (wA qM s vI h2));exact a9v _ _ s this base R1 μ1 a' w.drew q2 λv s a' w' R' μ' p1 p2 p3=>⟨s,R',μ',p1,p2,qP.trans (q3.trans p3)⟩
  |true=>
   have h2:=uZ (λs hs=>pN.ret T s hs) _ _ q1;have h3:=a8b (P:=P) (G:=G) (m:=m) (c:=c) (Q:=TT) hTA hN qM _ s (k+1) gW oI hs (tC (λs qP=>⟨eF,λj hj=>a9w hTA hN T k _ s (eH.cL qM _ oI hs) ht qP j hj (dB j hj)⟩) _ _ (wA qM s vI h2));have h4:=b8t (r:=ops.size-m) (QQ:=λe a' w'=>∃s' R' μ',a0V Q e s'/\Rel P G base R' μ' s' a' w'/\Step base R w R' w') _ _ s h3 base R1 μ1 a' w.drew q2 λs a' w' R' μ' p1 p2 p3=>hT s base R' μ' a' w' _ p1 p2 λs2 a2 w2 R2 μ2 o1 o2 o3=>⟨s2,R2,μ2,o1,o2,qP.trans (q3.trans (p3.trans o3))⟩
   rw[show qM.length+(k+1)+(ops.size-m)=qM.length+(k'+1) by omega]at h4;exact h4
 rw[show ss.length+(qM.length+(k'+1))=ops.size by omega]at main;exact main
theorem a9A{id:Nat}{ops:Array Oper}{Q:Exit->St->Prop}(m:Nat){t e:TypeId}{s z r p q x b:Tmp}{y0 y1 y2 y3:TypeId}{p0 p1 p2 p3:String}{f0 f1 f2 f3:Array Edge}(ss:List Nat)(c:Nat)(qM:List Nat)(T:Ord)(x0:Bool)(h0:ops[m]? =some ⟨some r,.call {callee:=.builtin .append,args:=#[.tmp s,.tmp z],argTypes:=#[t,t]},y0,p0,f0,none⟩)(h1:ops[m+1]? =some ⟨some p,.indexAddr t (.tmp r) (.tmp q),y1,p1,f1,none⟩)(h2:ops[m+2]? =some ⟨none,.store e (.tmp p) (.tmp x),y2,p2,f2,none⟩)(h3:ops[m+3]? =some ⟨none,.store t (.tmp b) (.tmp r),y3,p3,f3,none⟩)(hB:(P.follows .mixedOrders&&c0g ops m ss c qM T&&b8r ops m)=true)(mP:(gK P e&&decide ((r≠q/\r≠x/\r≠p/\r≠b)/\p≠x/\p≠b))=true)(hu:P.underlying t=some (.slice e))(h:VK P G [.ops true ops (sel ops ss)] .normal st λ_ s1=>VK P G [.ops true ops (sel ops qM)] .normal s1 λ_ s1=>pN P G ops c (b4I (e4y P G t e s z r p q x b (λs'=>Q .normal s')) (a0V Q)) x0 T s1):SW P G (.region id ops true) st Q:=by
 rw[f7H,f7H]at hB;obtain⟨⟨hm,hL⟩,hR⟩:=hB;rw[f7H,decide_eq_true_eq]at mP;simp only[b8r,f7H,decide_eq_true_eq,beq_iff_eq]at hR;obtain⟨⟨⟨⟨⟨⟨⟨⟨⟨⟨jG,r0⟩,r1⟩,r2⟩,r3⟩,r4⟩,r5⟩,r6⟩,r7⟩,r8⟩,r9⟩:=hR;have h4:ops.size-m=4:=by rw[jG];exact Nat.add_sub_cancel_left ..
 refine a9z ss c qM T x0 hm hL h ?_;rintro s1 base R μ a w QQ ⟨xs,z0,c,dV,out,k0,k1,k2,k3,k4,k5,k6,k7,k8,k9,k10,k11⟩ hr hk;rw[h4];exact d9a (Q:=λs'=>Q .normal s') h0 h1 h2 h3 r0 r1 r2 r3 r4 r5 r6 r7 r8 r9 mP.1 hu mP.2 k0 k1 k2 k3 k4 k5 k6 k7 k8 k9 k10 k11 hr hk
theorem dK{id:Nat}{ops:Array Oper}{Q:Exit->St->Prop}(m:Nat){t e T:TypeId}{s z r p q x b y:Tmp}{fd:Nat}{y0 y1 y2 y3 y4:TypeId}{p0 p1 p2 p3 p4:String}{f0 f1 f2 f3 f4:Array Edge}(ss:List Nat)(c:Nat)(qM:List Nat)(O:Ord)(x0:Bool)(h0:ops[m]? =some ⟨some r,.call {callee:=.builtin .append,args:=#[.tmp s,.tmp z],argTypes:=#[t,t]},y0,p0,f0,none⟩)(h1:ops[m+1]? =some ⟨some p,.indexAddr t (.tmp r) (.tmp q),y1,p1,f1,none⟩)(h2:ops[m+2]? =some ⟨none,.store e (.tmp p) (.tmp x),y2,p2,f2,none⟩)(h3:ops[m+3]? =some ⟨some b,.fieldAddr T (.tmp y) fd,y3,p3,f3,none⟩)(h4:ops[m+4]? =some ⟨none,.store t (.tmp b) (.tmp r),y4,p4,f4,none⟩)(hB:(P.follows .mixedOrders&&c0g ops m ss c qM O&&decide (ops.size=m+5)&&b3j ops (pM m ops.size) m (m+1) (m+2) (m+3) (m+4))=true)(mP:(gK P e&&decide ((r≠q/\r≠x/\r≠p/\r≠b/\r≠y)/\(p≠x/\p≠b/\p≠y)/\b≠q/\b≠x))=true)(hu:P.underlying t=some (.slice e))(h:VK P G [.ops true ops (sel ops ss)] .normal st λ_ s1=>VK P G [.ops true ops (sel ops qM)] .normal s1 λ_ s1=>pN P G ops c (b4I (c8i P G t e T s z r p q x b y fd (λs'=>Q .normal s')) (a0V Q)) x0 O s1):SW P G (.region id ops true) st Q:=by
 rw[f7H,f7H,f7H,decide_eq_true_eq]at hB;obtain⟨⟨⟨hm,hL⟩,jG⟩,hR⟩:=hB;rw[f7H,decide_eq_true_eq]at mP;have h5:ops.size-m=5:=by rw[jG];exact Nat.add_sub_cancel_left ..
 refine a9z ss c qM O x0 hm hL h ?_;rintro s1 base R μ a w QQ ⟨xs,z0,c,dV,kb0,vR,fo,u,out,k0,k1,k2,k3,k4,k5,k6,k7,k8,k9,k10,k11,k12,k13,k14⟩ hr hk;rw[h5];exact c3v (Q:=λs'=>Q .normal s') h0 h1 h2 h3 h4 hR mP.1 hu mP.2 k0 k1 k2 k3 k4 k5 k6 k7 k8 k9 k10 k11 k12 k13 k14 hr hk
def d3w:List DV->List DV->Prop
 |[],[]=>True
 |d::ds,d'::ds'=>(d'=.undef\/a7N d d')/\d3w ds ds'
 |_,_=>False
def d9j:aW->aW->Prop
 | .cells cs,.cells uJ=>d3w cs uJ
 |o,o'=>o'=o
def d3x(H:List (Nat×aW)):List (Nat×aW)->Prop
 |[]=>True
 |(k,o')::r=>(∃o,getKey k H=some o/\d9j o o')/\d3x H r
theorem b8v:∀ {cs uJ:List DV},d3w cs uJ->uJ.length=cs.length/\∀(i:Nat) (d':DV),uJ[i]? =some d'->∃d,cs[i]? =some d/\(d'=.undef\/a7N d d')
 |[],[],_=>⟨rfl,λi d' h=>by simp at h⟩
 |d::ds,d'::ds',h=>by
  obtain⟨h1,h2⟩:=b8v h.2;refine⟨by simp[h1],λi e he=>?_⟩;cases i with
  |zero=>simp at he;subst he;exact⟨d,rfl,h.1⟩
  |succ i=>simpa using h2 i e (by simpa using he)
theorem b8w{H:List (Nat×aW)}:∀ {H1:List (Nat×aW)},d3x H H1->∀k o',getKey k H1=some o'->∃o,getKey k H=some o/\d9j o o'
 |[],_,k,o',h=>by simp[getKey]at h
 |(k0,o0)::r,hw,k,o',h=>by
  unfold getKey at h;split at h
  .rename_i he;cases h;subst he;exact hw.1
  .exact b8w hw.2 k o' h
theorem d9k{x y:D}(h:WkD x y)(hx:x.one=true):y.one=true:=by cases h<;>first|exact hx|rfl|(simp[D.one]at hx|-)
theorem c9M{d d':DV}(h:a7N d d')(hc:d.cell=true):d'.cell=true:=by cases d<;>cases d'<;>simp only[a7N]at h<;>first|exact d9k h hc|(cases h;exact hc)|(cases h;done)|(simp[DV.cell]at hc)
theorem d3y{b:Nat}{o o':aW}(h:d9j o o')(hr:eN R μ w b o):eN R μ w b o':=by
 cases o with
 |cells cs=>
  cases o' with
  |cells uJ=>
   obtain⟨q1,q2⟩:=b8v h;obtain⟨vs,T,h1,h2,h3,h4⟩:=hr;refine⟨vs,T,h1,by rw[h2,q1],λi d' hd'=>?_,λT' hm=>?_⟩
   .obtain⟨d,hd,hc⟩:=q2 i d' hd';obtain⟨p1,p2⟩:=h3 i d hd;rcases hc with rfl|hc
    .exact⟨rfl,.undef _⟩
    .exact⟨c9M hc p1,p2.wk hc⟩
   .obtain⟨i,hi⟩:=f7Y hm;obtain⟨d,hd,hc⟩:=q2 i _ hi;rcases hc with hc|hc
    .cases hc
    .have:d=.yC T':=by cases d<;>simp only[a7N]at hc<;>first|exact hc|cases hc
     subst this;exact h4 T' (f7M hd)
  |map es=>cases h
  |iter s p=>cases h
  |bld T u es=>cases h
 |map es=>cases o'<;>first|(cases h;exact hr)|cases h
 |iter s p=>cases o'<;>first|(cases h;exact hr)|cases h
 |bld T u es=>cases o'<;>first|(cases h;exact hr)|cases h
structure d3z (s s':St):Prop where
 tmps:WkT s.tmps s'.tmps
 H:d3x s.H s'.H
 own:a9a s s.own s'.own=true
 keys:bC s'.H s'.own=true
theorem c9N(s s':St):d3z s s'↔WkT s.tmps s'.tmps/\d3x s.H s'.H/\a9a s s.own s'.own=true/\bC s'.H s'.own=true:=⟨λh=>⟨h.tmps,h.H,h.own,h.keys⟩,λh=>⟨h.1,h.2.1,h.2.2.1,h.2.2.2⟩⟩
theorem Rel.e1M{st':St}(hr:Rel P G base R μ st a w)(h:d3z st st'):Rel P G base R μ st' a w:=by
 obtain⟨h1,h2⟩:=yL h.tmps;have h3:=b8w h.H;refine⟨hr.defers,by rw[hr.size,h1],λi v d' hv hd'=>?_,λk o' hk=>?_,λk k' o o' hk hk' he=>?_,λc hc k off hl=>?_,?_,hr.tQ,hr.pH,hr.base,hr.pass⟩
 .obtain⟨d,hd,hc⟩:=h2 i d' hd';have:=hr.tmps i v d hv hd;rcases hc with rfl|rfl|⟨rfl,rfl⟩
  .exact .undef _
  .exact this
  .obtain⟨ao,rfl⟩:=this.a7B.jQ;exact .d _ _ (.emp _ _)
 .obtain⟨o,ho,hw⟩:=h3 k o' hk;obtain⟨q1,q2,q3⟩:=hr.gY k o ho;exact⟨q1,q2,d3y hw q3⟩
 .obtain⟨o1,ho1,_⟩:=h3 k o hk;obtain⟨o2,ho2,_⟩:=h3 k' o' hk';exact hr.inj k k' o1 o2 ho1 ho2 he
 .have:=f7K.1 h.keys c hc;have:=f7K.1 this _ hl;exact Option.isSome_iff_exists.1 this
 .obtain⟨vs,rK⟩:=hr.own;obtain⟨vs',zS,_⟩:=a4Y hr st'.own st.own vs ⟨rK.len,rK.one,rK.apart⟩ h.own;refine⟨vs',zS.len,λi c v hc hv=>?_,zS.apart⟩;have ho:=zS.one i c v hc hv;exact⟨ho.dI,ho.own,λk o hk=>by obtain⟨o1,ho1,_⟩:=h3 k o hk;exact ho.keys k o1 ho1⟩
theorem xE(a:List (List D))(x y:List D)(h:WkL x y):d7n (a++[x]) (a++[y]):=by
 refine⟨by simp,λi d d' h1 h2=>?_⟩;by_cases hi:i<a.length
 .rw[f7S hi]at h1 h2;rw[h1]at h2;cases h2;simp
 .rw[f7P (by omega)]at h1 h2;cases hk:i-a.length with
  |zero=>rw[hk]at h1 h2;simp at h1 h2;subst h1 h2;exact h
  |succ n=>rw[hk]at h1;simp at h1
def a3z(P:Program)(s:St)(rs:List ResultVar)(d:DV)(H1:List (Nat×aW))(dM:List (TypeId×List Loc)):Prop:=match a1H P s rs with
 |some r=>d3z (b1H s rs r) ⟨[r],H1,dM⟩/\a7N r d
 |none=>False
theorem Rel.e4J{r d:DV}{H1:List (Nat×aW)}{dM:List (TypeId×List Loc)}{v:Value}(eM:Rel P G base R μ ⟨[r],H1,dM⟩ {tmps:=#[v],defers:=[]} w)(hw:a7N r d):Rel P G base R μ ⟨[d],H1,dM⟩ {tmps:=#[v],defers:=[]} w:=
 ⟨eM.defers,eM.size,λi u d0 hu hd=>by
  cases i with
  |zero=>simp at hd;subst hd;exact(eM.tmps 0 u r hu rfl).wk hw
  |succ i=>simp at hd,eM.gY,eM.inj,eM.dI,by
  obtain⟨vs,h1,h2,h3⟩:=eM.own;exact⟨vs,h1,λi c v hc hv=>⟨(h2 i c v hc hv).dI,(h2 i c v hc hv).own,(h2 i c v hc hv).keys⟩,h3⟩,eM.tQ,eM.pH,eM.base,eM.pass⟩
theorem CH.b4L{f:FuncId}{fn:Func}{c:Code}{n:Nat}{s0:St}{d:DV}{H1:List (Nat×aW)}{dM:List (TypeId×List Loc)}(hf:P.funcs[f]? =some fn)(hb:fn.body=some c)(hn:fn.ntmps=n){rs:List ResultVar}(hrs:fn.results.toList=rs)(hT:(s0.own.all λc=>c.2.all λl=>match l with| .t i=>decide (i<s0.tmps.length)|_=>true)=true)(h:SW P G c ⟨s0.tmps++List.replicate (n-s0.tmps.length) (.bY []),s0.H,s0.own⟩ λe s=>(e=.normal\/e=.ret)/\a3z P s rs d H1 dM):CH P G f s0 ⟨[d],H1,dM⟩:=by
 subst hrs;intro base R μ args w hr;refine calls_of_wp hf hb ?_;have jG:args.size=s0.tmps.length:=hr.size;have kU:Rel P G base R μ ⟨s0.tmps++List.replicate (n-s0.tmps.length) (.bY []),s0.H,s0.own⟩ {tmps:=args++Array.replicate (fn.ntmps-args.size) undef,defers:=[]} w:=by
  refine⟨rfl,by simp[jG,hn],λi v d hiv hid=>?_,hr.gY,hr.inj,hr.dI,?_,hr.tQ,hr.pH,hr.base,hr.pass⟩
  .simp only at hid;by_cases hi:i<s0.tmps.length
   .rw[f7S hi]at hid;rw[Array.getElem?_append_left (by omega)]at hiv;exact hr.tmps i v d hiv hid
   .rw[f7P (by omega),List.getElem?_replicate]at hid;split at hid<;>simp at hid;subst hid;rw[Array.getElem?_append_right (by omega),Array.getElem?_replicate]at hiv;split at hiv<;>simp at hiv;subst hiv;exact .bY #[] [] rfl (by simp)
  .obtain⟨vs,hl,h1,yV⟩:=hr.own;refine⟨vs,hl,λi c v hc hv=>?_,yV⟩;have ho:=h1 i c v hc hv;refine⟨λl hl u hu=>?_,ho.own,ho.keys⟩;cases l with
   |t j=>have hj:=f7K.1 (f7K.1 hT c (f7M hc)) _ hl;simp only[decide_eq_true_eq]at hj;simp only[cB]at hu;rw[Array.getElem?_append_left (by omega)]at hu;exact ho.dI _ hl u hu
   |c k off=>exact ho.dI _ hl u hu
 refine wp_mono (h base R μ _ w kU) λe a' w' ⟨s,R',μ',⟨he,a1p⟩,eM,hs⟩=>?_;unfold a3z at a1p;split at a1p
 .rename_i r hZ;obtain⟨v,hv1,hv2⟩:=a0M eM hZ;have a5a:a'.defers=[]/\∃v,(results fn a'.tmps).run P w'=.ok v w'/\∃v' R' μ',Ending.returned v=.returned v'/\Rel P G base R' μ' ⟨[d],H1,dM⟩ {tmps:=#[v'],defers:=[]} w'/\Step base R w R' w':=
   ⟨eM.defers,v,hv1,v,R',μ',rfl,((eM.ret hv1 hv2).e1M a1p.1).e4J a1p.2,hs⟩
  rcases he with rfl|rfl
  .exact a5a
  .exact a5a
 .exact a1p.elim
theorem CX.b4L{f:FuncId}{fn:Func}{c:Code}{n:Nat}{s0:St}{x:Ends}(hf:P.funcs[f]? =some fn)(hb:fn.body=some c)(hn:fn.ntmps=n){rs:List ResultVar}(hrs:fn.results.toList=rs)(hT:(s0.own.all λc=>c.2.all λl=>match l with| .t i=>decide (i<s0.tmps.length)|_=>true)=true)(h:∀Q:Exit->St->Prop,(∀d H1 dM e s,x=.inl (d,H1,dM)->(e=.normal\/e=.ret)->a3z P s rs d H1 dM->Q e s)->(∀v s,x=.inr v->Q (.panic (a0a v)) s)->SW P G c ⟨s0.tmps++List.replicate (n-s0.tmps.length) (.bY []),s0.H,s0.own⟩ Q):CX P G f s0 x:=by
 match x,h with
 | .inl (d,H1,dM),h=>exact CH.b4L hf hb hn hrs hT (h _ (λd' H1' e8f e s he=>by cases he;exact λh1 h2=>⟨h1,h2⟩) (λv s he=>by cases he))
 | .inr v,h=>exact CPn.a1I hf hb hn hT (h _ (λd' H1' e8f e s he=>by cases he) (λv' s he=>by cases he;rfl))
theorem c0h{TT:St->Prop}{Q:Exit->St->Prop}{s:St}:b4I TT Q .normal s=TT s:=rfl
theorem c3G{TT:St->Prop}{Q:Exit->St->Prop}{s:St}{c:List PanicEntry}:b4I TT Q (.panic c) s=Q (.panic c) s:=rfl
def a4C(a b d:Nat):Ord:=
 .op a (.op b (.op d (.call [] .none) (.call [d] .none)) (.op d (.op b (.call [] .none) (.call [b] .none)) (.call [b,d] .none)))
  (.op d (.op a (.op b (.call [] .none) (.call [b] .none)) (.call [a,b] .none)) (.call [a,b,d] .none))
attribute [simp] c0f c3D a3z c9N d3x d9j d3w c0h c3G a4C
end
end Go.VM
end
section
section
namespace Go.Proofs.YtjpodcmhcenjjaaGreatDoor
open Go Go.VM
variable {G:GT}
def smI(c:Int):Bool:=decide (97<=c)&&decide (c<=122)
def caI(c:Int):Bool:=decide (65<=c)&&decide (c<=90)
def dgI(c:Int):Bool:=decide (48<=c)&&decide (c<=57)
def inI(c:Int):Bool:=smI c||caI c||dgI c||decide (c=95)
theorem a7i:VM.Enters prog 159:=.mk func159 rfl
theorem a4k:VM.Enters prog 162:=.mk func162 rfl
theorem a2i:VM.Enters prog 163:=.mk func163 rfl
theorem b6Y:VM.Enters prog 161:=.mk func161 rfl
theorem a9B(c:Int):CS prog G 159 [.int .i32 c] (.d (.bool (smI c))) none:=by refine CS.aR func159 rfl ntmps159 rfl ?_;by_cases h:97<=c<;>simp[h,smI]
theorem a5x(c:Int):CS prog G 162 [.int .i32 c] (.d (.bool (caI c))) none:=by refine CS.aR func162 rfl ntmps162 rfl ?_;by_cases h:65<=c<;>simp[h,caI]
theorem a3A(c:Int):CS prog G 163 [.int .i32 c] (.d (.bool (dgI c))) none:=by refine CS.aR func163 rfl ntmps163 rfl ?_;by_cases h:48<=c<;>simp[h,dgI]
theorem c0i(c:Int):CS prog G 161 [.int .i32 c] (.d (.bool (inI c))) none:=by
 refine CS.aR func161 rfl ntmps161 rfl ?_;simp;refine aD.mk a7i (a9B c) ?_;by_cases h1:smI c=true
 .simp[h1,inI]
 .simp[h1];refine aD.mk a4k (a5x c) ?_;by_cases h2:caI c=true
  .simp[h2,inI]
  .simp[h2];refine aD.mk a2i (a3A c) ?_;by_cases h3:dgI c=true
   .simp[h3,inI]
   .simp[h1,h2,h3,inI]
end Go.Proofs.YtjpodcmhcenjjaaGreatDoor
end
section
namespace Go.Proofs.YtjpodcmhcenjjaaGreatDoor
open Go Go.VM Go.RowKit
variable {G:GT}
theorem c0j:VM.Enters prog 188:=.mk func188 rfl
theorem b6Z:VM.Enters prog 165:=.mk func165 rfl
theorem e1P{args:Array Value}(h:args.size=2):args=#[args.getD 0 undef,args.getD 1 undef]:=by
 obtain⟨l⟩:=args
 match l,h with
 |[a,b],_=>rfl
theorem c3H(s:List UInt8)(c:UInt8)(hc:c.toNat<128):CS prog G 188 [.str s,.str [c]] (.d (.str (Lib.trimLeftB s c))) none:=
 CS.c7W λw R args hg hR hs hv=>by rw[e1P hs,(hv 0 _ rfl).oP,(hv 1 _ rfl).oP];exact(strings_TrimLeft_one ⟨s.toArray⟩ c hc w).mono λe w' ⟨he,hw⟩=>⟨_,he,.str _,hw▸Below.refl _ _⟩
theorem c0k(s p:List UInt8):CS prog G 165 [.str s,.str p] (.d (.bool (p.isPrefixOf s))) none:=
 CS.c7W λw R args hg hR hs hv=>by rw[e1P hs,(hv 0 _ rfl).oP,(hv 1 _ rfl).oP];exact(strings_HasPrefix ⟨s.toArray⟩ ⟨p.toArray⟩ w).mono λe w' ⟨he,hw⟩=>⟨_,he,.bool _,hw▸Below.refl _ _⟩
def gB(s:List UInt8):Int×Bool:=if gD s<=1000000000000 then((gD s:Int),true) else(0,false)
theorem d9l(l:List UInt8):∀a,a*10 ^ l.length<=b6T a l:=by
 induction l with
 |nil=>intro a;simp[b6T]
 |cons c r ih=>
  intro a;have h:=ih (10*a+(c.toNat-48));have e:b6T a (c::r)=b6T (10*a+(c.toNat-48)) r:=rfl;rw[e];refine Nat.le_trans ?_ h;rw[List.length_cons,Nat.pow_succ];have:a*(10 ^ r.length*10)=(10*a)*10 ^ r.length:=by rw[Nat.mul_comm (10 ^ r.length) 10, <- Nat.mul_assoc,Nat.mul_comm a 10]
  rw[this];exact Nat.mul_le_mul_right _ (by omega)
theorem b8x(s:List UInt8):gD (Lib.trimLeftB s 48)=gD s:=by
 unfold Lib.trimLeftB
 induction s with
 |nil=>rfl
 |cons c r ih=>
  by_cases h:c=48
  .subst h;have e:gD (48::r)=gD r:=rfl;rw[e, <- ih];simp
  .have:(c==48)=false:=by simpa using h
   rw[List.dropWhile_cons,this]
   rfl
theorem c9O{s:List UInt8}(h:Lib.trimLeftB s 48≠[]):∃c r,Lib.trimLeftB s 48=c::r/\c≠48:=by
 unfold Lib.trimLeftB at h|-
 induction s with
 |nil=>exact absurd rfl h
 |cons c r ih=>
  by_cases hc:c=48
  .subst hc;simp only[List.dropWhile_cons,beq_self_eq_true,if_true]at h|-;exact ih h
  .have:(c==48)=false:=by simpa using hc
   rw[List.dropWhile_cons,this];exact⟨c,r,rfl,hc⟩
theorem d3B{s:List UInt8}:∀c∈Lib.trimLeftB s 48,c∈s:=λc hc=>(List.dropWhile_sublist _).subset hc
theorem c0l{s:List UInt8}(hs:∀c∈s,vT c=true)(eF:Lib.trimLeftB s 48≠[]):qG (Lib.trimLeftB s 48)=gB s:=by
 obtain⟨c,r,he,hc⟩:=c9O eF;have dB:∀x∈c::r,vT x=true:=λx hx=>hs x (d3B x (he▸hx));have hv:gD s=gD (c::r):=by rw[<-he,b8x]
 rw[he];have hcd:=tT.1 (dB c (.head _));have hn:b0K (c::r)=false:=by
  have:c≠45:=by rintro rfl;revert hcd;decide
  simp[b0K,this]
 have hb:pX (c::r)=c::r:=by simp[pX,hn]
 have gW:10 ^ r.length<=gD (c::r):=by
  have h1:1<=c.toNat-48:=by have:c.toNat≠48:=λe=>hc (UInt8.toNat.inj (by simpa using e));omega
  have e:gD (c::r)=b6T (10*0+(c.toNat-48)) r:=rfl;rw[e];refine Nat.le_trans ?_ (d9l r _)
  calc 10 ^ r.length=1*10 ^ r.length:=by rw[Nat.one_mul]
   _<=_:=Nat.mul_le_mul_right _ (by omega)
 have a1K:qS (c::r)=decide (r.length<=12):=by simp only[qS,hb,hn];by_cases h:r.length<=12<;>simp[h,hc]<;>omega
 have hd:(c::r).all vT=true:=f7K.2 dB;unfold qG gB;rw[a1K,hb,hd,hn,hv];by_cases h:r.length<=12
 .have hup:=a3o _ _ rfl dB;simp[h,sgn,chk];have hi:inB ((gD (c::r):Nat):Int)=decide (gD (c::r)<=1000000000000):=by unfold inB;by_cases h2:gD (c::r)<=1000000000000<;>simp[h2]<;>omega
  rw[hi];by_cases h2:gD (c::r)<=1000000000000<;>simp[h2]
 .have:10 ^ 13<=gD (c::r):=Nat.le_trans (Nat.pow_le_pow_right (by omega) (by omega)) gW;have h2: ¬gD (c::r)<=1000000000000:=by omega
  simp[h,h2]
theorem b4M:VM.Enters prog 164:=.mk func164 rfl
theorem b7a(s:List UInt8)(hs:∀c∈s,vT c=true):CS prog G 164 [.str s] (.bY [.int .i64 (gB s).1,.bool (gB s).2]) none:=by
 refine CS.aR func164 rfl ntmps164 rfl ?_;simp;refine aD.mk c0j (c3H s 48 (by decide)) ?_;by_cases h:Lib.trimLeftB s 48=[]
 .have hv:gD s=0:=by rw[<-b8x,h];rfl
  simp[h,gB,hv]
 .have he:(Lib.trimLeftB s 48).isEmpty=false:=by simpa using h
  simp[he];refine aD.mk c3b (c6l (Lib.trimLeftB s 48)) ?_;simp[c0l hs h]
end Go.Proofs.YtjpodcmhcenjjaaGreatDoor
end
section
namespace Go.Proofs.YtjpodcmhcenjjaaGreatDoor
open Go Go.VM
variable {G:GT}
theorem sO{p:UInt8->Bool}{s:List UInt8}{i:Nat}(h:i<s.length)(ht:∀b∈s.take i,p b=true)(hn:p s[i]=false):(s.takeWhile p).length=i:=by
 have e:s=s.take i++s[i]::s.drop (i+1):=by rw[<-f7U h,List.take_append_drop]
 generalize hx:s[i]=x at e hn;rw[e,List.takeWhile_append_of_pos ht,List.takeWhile_cons,hn];simp;omega
theorem rC{p:UInt8->Bool}{s:List UInt8}(ht:∀b∈s,p b=true):s.takeWhile p=s:=by have:=List.takeWhile_append_of_pos (l₂:=[]) ht;simpa using this
theorem b1Z(F:FuncId)(p:Int->Bool)(pb:UInt8->Bool)(hF:VM.Enters prog F)(qO:∀c,CS prog G F [.int .i32 c] (.d (.bool (p c))) none)(rT:∀b:UInt8,p b.toNat=pb b)(hhi:∀c,128<=c->p c=false)(s:List UInt8):
  CH prog G 160 ⟨[.d (.str s),.fn F],[],[]⟩ ⟨[.d (.int .i64 (s.takeWhile pb).length)],[],[]⟩:=by
 refine CH.aR func160 rfl ntmps160 rfl (by simp) ?_;simp;refine SW.eE (ι:={i:Nat//i<=s.length/\∀b∈s.take i,pb b=true}) (λ_=>[]) (λi=>[(8,.iter s i.1)]) (λ_=>[]) (λi=>s.length-i.1) ⟨0,by simp⟩ (by simp) ?_;rintro⟨i,hi,ht⟩
 try simp only at hi ht
 by_cases aE:i<s.length
 .simp[aE];refine aD.mk hF (qO _) ?_;by_cases hb:s[i].toNat<128
  .have hd:=d2Y aE hb;have hpl:=rT s[i];by_cases hpb:pb s[i]=true
   .rw[hpb]at hpl;simp[hd,hpl];refine aX.mk ⟨i+1,aE,λb hm=>?_⟩ (by simp) (by simp;omega);rw[f7W aE]at hm;rcases List.mem_append.1 hm with hm|hm
    .exact ht b hm
    .simp at hm;rw[hm];exact hpb
   .have hpf:pb s[i]=false:=by simpa using hpb
    rw[hpf]at hpl;simp[hd,hpl,sO aE ht hpf]
  .obtain⟨h1,_⟩:=d2Z aE (by omega);have hpf:pb s[i]=false:=by rw[<-rT];exact hhi _ (by omega)
   have hpl:=hhi ((Utf8.decode ⟨s.toArray⟩ i).1:Int) (by omega);simp[hpl,sO aE ht hpf]
 .have:i=s.length:=by omega
  subst this;rw[List.take_length]at ht;simp[rC ht]
def kX:List UInt8->Nat->Bool->List UInt8×Nat
 |[],n,_=>([],n)
 |c::r,n,cm=>if c=10 then kX r (n+1) false else if cm=true\/c=32\/c=9 then kX r n cm else if c=35 then kX r n true else(c::r,n)
theorem a9C:∀(s:List UInt8) (n:Nat) (cm:Bool),(kX s n cm).2<=n+s.length/\(kX s n cm).1.length<=s.length
 |[],n,cm=>by simp[kX]
 |c::r,n,cm=>by
  unfold kX;split
  .have:=a9C r (n+1) false;simp only[List.length_cons];omega
  .split
   .have:=a9C r n cm;simp only[List.length_cons];omega
   .split
    .have:=a9C r n true;simp only[List.length_cons];omega
    .simp only[List.length_cons];omega
theorem c3I(s:List UInt8)(n:Nat):∀(k i:Nat),(∀j,i<=j->j<i+k->∃h:j<s.length,128<=s[j].toNat)->kX (s.drop i) n true=kX (s.drop (i+k)) n true
 |0,i,_=>rfl
 |k+1,i,h=>by
  obtain⟨hi,hb⟩:=h i (by omega) (by omega);have ih:=c3I s n k (i+1) λj h1 h2=>h j (by omega) (by omega);have h10:s[i]≠10:=λe=>by rw[e]at hb;simp at hb
  rw[f7U hi,kX,if_neg h10,if_pos (.inl rfl),ih];congr 2;omega
theorem a5y(c:UInt8)(k:Nat)(hk:k<256):((c.toNat:Int)=(k:Int))↔c=UInt8.ofNat k:=by
 constructor
 .intro h;apply UInt8.toNat.inj;simp;omega
 .rintro rfl;simp;omega
theorem c0m:VM.Enters prog 112:=.mk func112 rfl
theorem c3J(s:List UInt8)(hl:s.length<=900000000):CS prog G 112 [.str s] (.bY [.str (kX s 0 false).1,.int .i64 (kX s 0 false).2]) none:=by
 obtain⟨res,e1Q⟩:∃x,kX s 0 false=x:=⟨_,rfl⟩;rw[e1Q];refine CS.aR func112 rfl ntmps112 rfl ?_;simp;refine SW.eE (ι:={x:Nat×Nat×Bool//x.1<=s.length/\x.2.1<=x.1/\kX (s.drop x.1) x.2.1 x.2.2=res}) (λx=>[(4,.d (.int .i64 x.1.2.1)),(5,.d (.bool x.1.2.2))]) (λx=>[(9,.iter s x.1.1)]) (λ_=>[]) (λx=>s.length-x.1.1) ⟨(0,0,false),by simp[e1Q]⟩ (by simp) ?_;rintro⟨⟨i,n,cm⟩,hi,hn,hR⟩
 try simp only at hi hn hR
 by_cases aE:i<s.length
 .have hw:=aY (show n<9223372036854775807 by omega);have hle:=Nat.le_of_lt aE;have a2K:s.drop i=s[i]::s.drop (i+1):=f7U aE;by_cases hb:s[i].toNat<128
  .have hd:=d2Y aE hb;have c10:=a5y s[i] 10 (by omega);have c32:=a5y s[i] 32 (by omega);have c9:=a5y s[i] 9 (by omega);have c35:=a5y s[i] 35 (by omega);simp at c10 c32 c9 c35;by_cases h10:s[i]=10
   .have e:=c10.2 h10;simp[aE,hd,e];refine aX.mk ⟨(i+1,n+1,false),aE,by simp;omega,?_⟩ (by simp[hw]) (by simp;omega);rw[<-hR,a2K,kX,if_pos h10]
   .have e: ¬s[i].toNat=10:=λh=>h10 (c10.1 h);simp[aE,hd,e];cases cm with
    |true=>
     try simp
     refine aX.mk ⟨(i+1,n,true),aE,by simp;omega,?_⟩ (by simp) (by simp;omega);rw[<-hR,a2K,kX,if_neg h10,if_pos (.inl rfl)]
    |false=>
     try simp
     by_cases h32:s[i]=32
     .have e2:=c32.2 h32;simp[e2];refine aX.mk ⟨(i+1,n,false),aE,by simp;omega,?_⟩ (by simp) (by simp;omega);rw[<-hR,a2K,kX,if_neg h10,if_pos (.inr (.inl h32))]
     .have e2: ¬s[i].toNat=32:=λh=>h32 (c32.1 h);simp[e2];by_cases h9:s[i]=9
      .have e3:=c9.2 h9;simp[e3];refine aX.mk ⟨(i+1,n,false),aE,by simp;omega,?_⟩ (by simp) (by simp;omega);rw[<-hR,a2K,kX,if_neg h10,if_pos (.inr (.inr h9))]
      .have e3: ¬s[i].toNat=9:=λh=>h9 (c9.1 h);simp[e3];by_cases h35:s[i]=35
       .have e4:=c35.2 h35;simp[e4];refine aX.mk ⟨(i+1,n,true),aE,by simp;omega,?_⟩ (by simp) (by simp;omega);rw[<-hR,a2K,kX,if_neg h10,if_neg (by simp[h32,h9]),if_pos h35]
       .have e4: ¬s[i].toNat=35:=λh=>h35 (c35.1 h);have hZ:res=(s.drop i,n):=by rw[<-hR,a2K,kX,if_neg h10,if_neg (by simp[h32,h9]),if_neg h35]
        simp[e4,hZ,hle]
  .obtain⟨h1,h2,h3,h4⟩:=d2Z aE (by omega);obtain⟨rw,hrw⟩:∃rw,Utf8.decode ⟨s.toArray⟩ i=rw:=⟨_,rfl⟩;rw[hrw]at h1 h2 h3 h4;have e10: ¬((rw.1:Int)=10):=by omega
   have e32: ¬((rw.1:Int)=32):=by omega
   have e9: ¬((rw.1:Int)=9):=by omega
   have e35: ¬((rw.1:Int)=35):=by omega
   have hbb:∀k,k<128->s[i]≠UInt8.ofNat k:=λk hk e=>by rw[e]at hb;simp at hb;omega
   have b10:s[i]≠10:=hbb 10 (by omega);have b32:s[i]≠32:=hbb 32 (by omega);have b9:s[i]≠9:=hbb 9 (by omega);have b35:s[i]≠35:=hbb 35 (by omega);simp[aE,hrw,e10];cases cm with
   |true=>simp;refine aX.mk ⟨(i+rw.2,n,true),h3,by simp;omega,?_⟩ (by simp) (by simp;omega);rw[<-hR,c3I s n rw.2 i h4]
   |false=>
    have hZ:res=(s.drop i,n):=by rw[<-hR,a2K,kX,if_neg b10,if_neg (by simp[b32,b9]),if_neg b35]
    simp[e32,e9,e35,hZ,hle]
 .have:i=s.length:=by omega
  subst this;rw[List.drop_length]at hR;have hZ:res=([],n):=by rw[<-hR,kX]
  simp[hZ]
end Go.Proofs.YtjpodcmhcenjjaaGreatDoor
end
section
namespace Go.Proofs.YtjpodcmhcenjjaaGreatDoor
open Go Go.VM
variable {G:GT}
def xZ:List D:=[.sl (cE.map λt=>[D.str t])]
theorem d3D(b:UInt8):smI b.toNat=smU b:=by rw[Bool.eq_iff_iff];simp only[smI,smU,f7H,decide_eq_true_eq];omega
theorem d3E(b:UInt8):caI b.toNat=caU b:=by rw[Bool.eq_iff_iff];simp only[caI,caU,f7H,decide_eq_true_eq];omega
theorem c8k(b:UInt8):dgI b.toNat=dgU b:=by rw[Bool.eq_iff_iff];simp only[dgI,dgU,f7H,decide_eq_true_eq];omega
theorem e8g(b:UInt8):inI b.toNat=inU b:=by unfold inI inU;rw[d3D,d3E,c8k];congr 1;simp only[decide_eq_decide];omega
theorem e8h{c:Int}(h:128<=c):inI c=false:=by simp only[inI,smI,caI,dgI,Bool.or_eq_false_iff,Bool.and_eq_false_iff,decide_eq_false_iff_not];omega
theorem e8i{c:Int}(h:128<=c):dgI c=false:=by simp only[dgI,Bool.and_eq_false_iff,decide_eq_false_iff_not];omega
theorem a9D(p:UInt8->Bool)(s:List UInt8):s.take (s.takeWhile p).length=s.takeWhile p:=by have h:=List.takeWhile_prefix (l:=s) p;exact(List.prefix_iff_eq_take.1 h).symm
theorem d3F(p:UInt8->Bool)(s:List UInt8):(s.takeWhile p).length<=s.length:=(List.takeWhile_prefix (l:=s) p).length_le
theorem w32(c:UInt8):IntKind.i32.wrap (c.toNat:Int)=c.toNat:=by have:=c.toNat_lt;unfold IntKind.wrap;simp[IntKind.bits,IntKind.signed];omega
theorem c0n(c:UInt8):dgU c=vT c:=by rw[Bool.eq_iff_iff];simp only[dgU,vT,f7H,decide_eq_true_eq]
theorem c6A{p:UInt8->Bool}:∀ {s:List UInt8} {b:UInt8},b∈s.takeWhile p->p b=true
 |[],b,h=>by simp at h
 |c::r,b,h=>by
  rw[List.takeWhile_cons]at h;split at h
  .rename_i hc;rcases List.mem_cons.1 h with rfl|h
   .exact hc
   .exact c6A h
  .cases h
def a5z(s:List UInt8):List D:=[.int .i64 (firstT gB s).1,.str (firstT gB s).2.1,.int .i64 (firstT gB s).2.2.1,.int .i64 0]
theorem c8l(s:List UInt8):CH prog G 160 ⟨[.d (.str s),.fn 161],[],[]⟩ ⟨[.d (.int .i64 (s.takeWhile inU).length)],[],[]⟩:=b1Z 161 inI inU b6Y c0i e8g (λ_=>e8h) s
theorem d9o(s:List UInt8):CH prog G 160 ⟨[.d (.str s),.fn 163],[],[]⟩ ⟨[.d (.int .i64 (s.takeWhile dgU).length)],[],[]⟩:=b1Z 163 dgI dgU a2i a3A c8k (λ_=>e8i) s
theorem c8m{s:List UInt8}{i:Nat}(h:i<cE.length)(hn:∀t∈cE.take i,t.isPrefixOf s=false)(hp:cE[i].isPrefixOf s=true):sL s=cE[i]:=by
 have e:cE=cE.take i++cE[i]::cE.drop (i+1):=by rw[<-f7U h,List.take_append_drop]
 generalize cE[i]=x at e hp|-;unfold sL;rw[e,List.find?_append];have h0:(cE.take i).find? (λt=>t.isPrefixOf s)=none:=List.find?_eq_none.2 λt ht=>by rw[hn t ht];simp
 rw[h0];simp[List.find?_cons,hp]
theorem b8y{s:List UInt8}(hn:∀t∈cE,t.isPrefixOf s=false):sL s=[]:=by
 unfold sL;rw[List.find?_eq_none.2 λt ht=>by rw[hn t ht];simp]
 rfl
theorem d9p:∀t∈cE,t≠[]:=by decide
theorem b4N:VM.Enters prog 160:=.mk func160 rfl
theorem b7b:VM.Enters prog 113:=.mk func113 rfl
theorem c0o(hS:G 0=some xZ)(c:UInt8)(r:List UInt8)(hl:(c::r).length<=900000000):CS prog G 113 [.str (c::r)] (.bY [.agg (a5z (c::r)),.bool (firstT gB (c::r)).2.2.2]) none:=by
 obtain⟨s,hs⟩:∃s,c::r=s:=⟨_,rfl⟩;have h0:0<s.length:=by rw[<-hs];simp
 have wL:s[0]=c:=by subst hs;rfl
 have hf:firstT gB s=if smU c then(1,s.takeWhile inU,0,true) else if caU c then(2,s.takeWhile inU,0,true)
  else if dgU c then(3,s.takeWhile dgU,(gB (s.takeWhile dgU)).1,(gB (s.takeWhile dgU)).2)
  else if sL s=[] then(0,[],0,false) else(4,sL s,0,true):=by subst hs;rfl
 rw[hs]at hl|-
 clear hs
 have hw:=w32 c;have l1:=d3F inU s;have l2:=d3F dgU s;have t1:=a9D inU s;have t2:=a9D dgU s;refine CS.aR func113 rfl ntmps113 rfl ?_;simp[h0,wL,hw];refine aD.mk a7i (a9B (c.toNat:Int)) ?_;rw[d3D];by_cases h1:smU c=true
 .simp[h1];refine eY.ro b4N (c8l s) [] (by simp) (by simp) (by simp) (by simp) (by simp) ?_;simp[l1,t1,a5z,hf,h1]
 simp[h1];refine aD.mk a4k (a5x (c.toNat:Int)) ?_;rw[d3E];by_cases h2:caU c=true
 .simp[h2];refine eY.ro b4N (c8l s) [] (by simp) (by simp) (by simp) (by simp) (by simp) ?_;simp[l1,t1,a5z,hf,h1,h2]
 simp[h2];refine aD.mk a2i (a3A (c.toNat:Int)) ?_;rw[c8k];by_cases h3:dgU c=true
 .simp[h3];refine eY.ro b4N (d9o s) [] (by simp) (by simp) (by simp) (by simp) (by simp) ?_;simp[l2,t2];refine aD.mk b4M (b7a (s.takeWhile dgU) (λb hb=>by rw[<-c0n];exact c6A hb)) ?_;simp[a5z,hf,h1,h2,h3]
 simp[h3,hS,xZ];have hlen:(cE.map λt=>[D.str t]).length=cE.length:=by simp
 refine SW.eE (ι:={i:Nat//i<=cE.length/\∀t∈cE.take i,t.isPrefixOf s=false}) (λi=>[(47,.d (.int .i64 i.1))]) (λ_=>[(2,.cells [.d (.int .i64 0),.d (.str []),.d (.int .i64 0),.d (.int .i64 0)])]) (λ_=>[]) (λi=>cE.length-i.1) ⟨0,by simp⟩ (by simp) ?_;rintro⟨i,hi,hn⟩
 try simp only at hi hn
 by_cases aE:i<cE.length
 .have hsl:cE.length=31:=rfl;have hw2:=aY (show i<9223372036854775807 by omega);have hg:(cE.map λt=>[D.str t])[i]? =some [.str cE[i]]:=by simp[aE]
  simp[aE,hg];refine aD.mk b6Z (c0k s cE[i]) ?_;by_cases hp:cE[i].isPrefixOf s=true
  .have hsg:=c8m aE hn hp;have eF:=d9p _ (List.getElem_mem aE);simp[hp,a5z,hf,h1,h2,h3,hsg,eF]
  .have hp':cE[i].isPrefixOf s=false:=Bool.eq_false_iff.2 hp;simp[hp'];refine aX.mk ⟨i+1,aE,λt ht=>?_⟩ (by simp[hw2]) (by simp;omega);rw[f7W aE]at ht;rcases List.mem_append.1 ht with ht|ht
   .exact hn t ht
   .simp at ht;rw[ht];exact hp'
 .have:i=cE.length:=by omega
  subst this;rw[List.take_length]at hn;have hsg:=b8y hn;simp[a5z,hf,h1,h2,h3,hsg]
end Go.Proofs.YtjpodcmhcenjjaaGreatDoor
end
section
namespace Go.Proofs.YtjpodcmhcenjjaaGreatDoor
open Go Go.VM
variable {G:GT}
def bG(t:Tok):List D:=[.int .i64 t.kind,.str t.text,.int .i64 t.n,.int .i64 t.line]
def b2H(l:List Tok):List (List D):=l.map bG
@[simp] theorem e8j(l:List Tok):(b2H l).length=l.length:=by simp[b2H]
@[simp] theorem e8k:b2H []=[]:=rfl
@[simp] theorem e8l(l:List Tok):((b2H l).all λc=>c.length==4)=true:=by simp[b2H,bG]
theorem a6r(l:List Tok)(t:Tok):b2H (l++[t])=b2H l++[[.int .i64 t.kind,.str t.text,.int .i64 t.n,.int .i64 t.line]]:=by simp[b2H,bG]
theorem a6s:∀(s:List UInt8) (n:Nat) (cm:Bool) (ln:Int),kE gB s 0 (ln+n) cm=kE gB (kX s n cm).1 0 (ln+(kX s n cm).2) false
 |[],n,cm,ln=>by simp[kX,kE]
 |c::r,n,cm,ln=>by
  unfold kX;split
  .rename_i h;rw[<-a6s r (n+1) false ln,kE,if_pos h];congr 1;omega
  .rename_i h;split
   .rename_i h2;rw[<-a6s r n cm ln]
    conv=>lhs;rw[kE]
    rw[if_neg h,if_pos h2]
   .rename_i h2;split
    .rename_i h3;rw[<-a6s r n true ln]
     conv=>lhs;rw[kE]
     rw[if_neg h,if_neg h2,if_pos h3]
    .simp only[not_or,Bool.not_eq_true]at h2;rw[h2.1]
theorem a6t:∀(s:List UInt8) (n:Nat) (cm:Bool),(kX s n cm).2+(kX s n cm).1.length<=n+s.length
 |[],n,cm=>by simp[kX]
 |c::r,n,cm=>by
  unfold kX;split
  .have:=a6t r (n+1) false;simp only[List.length_cons];omega
  .split
   .have:=a6t r n cm;simp only[List.length_cons];omega
   .split
    .have:=a6t r n true;simp only[List.length_cons];omega
    .simp only[List.length_cons];omega
theorem a6u:∀(s:List UInt8) (n:Nat) (cm:Bool) (c:UInt8) (r:List UInt8),(kX s n cm).1=c::r->c≠10/\c≠32/\c≠9/\c≠35
 |[],n,cm,c,r,h=>by simp[kX]at h
 |a::s,n,cm,c,r,h=>by
  unfold kX at h;split at h
  .exact a6u s _ _ c r h
  .rename_i h1;split at h
   .exact a6u s _ _ c r h
   .rename_i h2;split at h
    .exact a6u s _ _ c r h
    .rename_i h3;simp only[not_or]at h2;cases h;exact⟨h1,h2.2.1,h2.2.2,h3⟩
def c3K(out:List Tok):Except Int (List Tok)->Except Int (List Tok)
 | .ok l=>.ok (out++l)
 | .error e=>.error e
def c3L:Except Int (List Tok)->D
 | .ok l=>.sl (b2H l)
 | .error _=>.aF
def c3M:Except Int (List Tok)->Int
 | .ok _=>0
 | .error e=>e
def c3N:Except Int (List Tok)->Int
 | .ok _=>0
 | .error _=>14
theorem wB:VM.Enters prog 64:=.mk func64 rfl
theorem b7c(hS:G 0=some xZ)(s:List UInt8)(hl:s.length<=900000000):CS prog G 64 [.str s] (.bY (if 40000<s.length then [.aF,.int .i64 0,.int .i64 7] else
  [c3L (kE gB s 0 1 false),.int .i64 (c3M (kE gB s 0 1 false)),.int .i64 (c3N (kE gB s 0 1 false))])) none:=by
 obtain⟨res,hZ⟩:∃x,kE gB s 0 1 false=x:=⟨_,rfl⟩;rw[hZ];refine CS.aR func64 rfl ntmps64 rfl ?_;by_cases b2a:40000<s.length
 .have h2:(40000:Int)<s.length:=by omega
  simp[b2a,h2]
 have h2: ¬(40000:Int)<s.length:=by omega
 simp[b2a,h2];refine SW.eE (ι:={x:List UInt8×List Tok×Int//x.1.length<=s.length/\1<=x.2.2/\x.2.2+x.1.length<=s.length+1/\x.2.1.length+x.1.length<=s.length/\c3K x.2.1 (kE gB x.1 0 x.2.2 false)=res}) (λx=>[(0,.d (.str x.1.1)),(5,.d (.sl (b2H x.1.2.1))),(6,.d (.int .i64 x.1.2.2))]) (λ_=>[]) (λ_=>[(96,[.t 5])]) (λx=>x.1.1.length) ⟨(s,[],1),by refine⟨f7X _,by simp,by simp;omega,by simp,?_⟩;simp only;rw[hZ];cases res<;>rfl⟩ (by simp) ?_;rintro⟨⟨t,out,ln⟩,ht,hln,hb,ho,hR⟩
 try simp only at ht hln hb ho hR
 obtain⟨q1,q2⟩:=a9C t 0 false;have q3:=a6t t 0 false;have hsk:=a6s t 0 false ln;have hhd:=a6u t 0 false;simp;refine aD.mk c0m (c3J t (by omega)) ?_;obtain⟨⟨rest,n⟩,hrn⟩:∃x,kX t 0 false=x:=⟨_,rfl⟩;rw[hrn]at hsk hhd q1 q2 q3;simp only[Int.natCast_zero,Int.add_zero]at hsk;simp only at hsk hhd q1 q2 q3;rw[hsk]at hR;have hw:IntKind.i64.wrap (ln+n)=ln+n:=wrap64 (by omega);have jG:(out.length+1)*41<=140737488355328:=by omega
 simp[hrn,hw];cases rest with
 |nil=>
  have e:res=.ok (out++[⟨0,[],0,ln+n⟩]):=by rw[<-hR];rfl
  simp[e,c3L,c3M,c3N,a6r,jG]
 |cons c r=>
  obtain⟨g1,g2,g3,g4⟩:=hhd c r rfl;rw[b4l (ln+n) g1 g2 g3 g4]at hR;simp;refine aD.mk b7b (c0o hS c r (by omega)) ?_;obtain⟨ff,hff⟩:∃ff,firstT gB (c::r)=ff:=⟨_,rfl⟩;have mP:= @a9h gB (c::r);rw[hff]at hR mP;obtain⟨k,tx,m,ok⟩:=ff;simp only at hR mP;cases ok with
  |false=>
   have e:res=.error (ln+n):=by rw[<-hR];rfl
   simp[hff,a5z,e,c3L,c3M,c3N]
  |true=>
   obtain⟨p1,p2,_⟩:=mP rfl;have hle:=p2.length_le;have a0E:0<tx.length:=List.length_pos_iff.2 p1;simp only[List.length_cons]at hle q2 q3;simp[hff,a5z,jG,hle];have hR2:c3K (out++[⟨k,tx,m,ln+n⟩]) (kE gB ((c::r).drop tx.length) 0 (ln+n) false)=res:=by
    rw[<-hR,if_pos rfl];generalize kE gB ((c::r).drop tx.length) 0 (ln+n) false=y;cases y with
    |ok l=>simp[c3K]
    |error e=>rfl
   have hdl:((c::r).drop tx.length).length=r.length+1-tx.length:=by simp
   refine aX.mk ⟨((c::r).drop tx.length,out++[⟨k,tx,m,ln+n⟩],ln+n),?_⟩ (by simp[a6r]) (by simp only[hdl];omega);refine⟨by simp only[hdl];omega,by simp only;omega,by simp only[hdl];omega,by simp only[hdl,List.length_append,List.length_cons,List.length_nil];omega,hR2⟩
end Go.Proofs.YtjpodcmhcenjjaaGreatDoor
end
end
namespace Go.Proofs.YtjpodcmhcenjjaaGreatDoor
section
open Go Go.VM
variable {G:GT}
abbrev rdO(l:List Tok)(i:Nat):aW:=.cells [.d (.sl (l.map bG)),.d (.int .i64 i)]
abbrev rH(l:List Tok)(i:Nat):List (Nat×aW):=[(100000,rdO l i)]
abbrev oX(n e:Int):Value:=.iface 127 (.agg #[.int .i64 n,.int .i64 e])
def gX{α:Type}:kN α->Bool
 | .ok _ _=>true
 | .bad _ _=>false
def rdE{α:Type}(l:List Tok)(enc:α->DV)(Y:α->List (Nat×aW))(own:List (TypeId×List VM.Loc)):kN α->VM.Ends
 | .ok a j=>.inl (enc a,rH l j++Y a,own)
 | .bad n e=>.inr (oX n e)
theorem c3O{α:Type}{l:List Tok}{enc:α->DV}{Y:α->List (Nat×aW)}{own:List (TypeId×List VM.Loc)}(r:kN α):(rdE l enc Y own r).isLeft=gX r:=by cases r<;>rfl
def mX(G:GT){α:Type}(f:FuncId)(av:List DV)(X:List (Nat×aW))(own:List (TypeId×List VM.Loc))(l:List Tok)(i:Nat)(r:kN α)(enc:α->DV)(Y:α->List (Nat×aW)):Prop:=CX prog G f ⟨av,rH l i++X,own⟩ (rdE l enc Y own r)
abbrev qT(G:GT){α:Type}(f:FuncId)(ds:List D)(l:List Tok)(i:Nat)(r:kN α)(enc:α->DV):Prop:=mX G f (.ptr 100000 0::ds.map .d) [] [] l i r enc λ_=>[]
structure rV {α:Type} (Q:Exit->St->Prop) (rs:List ResultVar) (l:List Tok) (enc:α->DV) (Y:α->List (Nat×aW)) (own:List (TypeId×List VM.Loc)) (r:kN α):Prop where
 ok:∀a j e s,r=.ok a j->(e=.normal\/e=.ret)->a3z prog s rs (enc a) (rH l j++Y a) own->Q e s
 bad:∀n e s,r=.bad n e->Q (.panic (a0a (oX n e))) s
section
variable {α β:Type} {Q:Exit->St->Prop} {rs:List ResultVar} {l:List Tok} {i j:Nat} {enc:β->DV} {Y:β->List (Nat×aW)} {own:List (TypeId×List VM.Loc)} {n e:Int} {a:α}
theorem rV.step{x:aZ α}{f:α->aZ β}(h:rV Q rs l enc Y own ((x >>=f) i))(hx:x i=.ok a j):rV Q rs l enc Y own (f a j):=by rwa[bN hx]at h
theorem rV.fail{x:aZ α}{f:α->aZ β}(h:rV Q rs l enc Y own ((x >>=f) i))(hx:x i=.bad n e)(s:St):Q (.panic (a0a (oX n e))) s:=h.bad _ _ _ (gQ hx)
theorem rV.ifp{c:Prop}[Decidable c]{x y:kN β}(h:rV Q rs l enc Y own (if c then x else y))(hc:c):rV Q rs l enc Y own x:=by rwa[if_pos hc]at h
theorem rV.wP{c:Prop}[Decidable c]{x y:kN β}(h:rV Q rs l enc Y own (if c then x else y))(hc: ¬c):rV Q rs l enc Y own y:=by rwa[if_neg hc]at h
theorem mX.a1I{f:FuncId}{fn:Func}{c:Code}{k:Nat}{av:List DV}{X:List (Nat×aW)}{r:kN β}(hf:prog.funcs[f]? =some fn)(hb:fn.body=some c)(hn:fn.ntmps=k)(hrs:fn.results.toList=rs)(hT:(own.all λc=>c.2.all λl=>match l with| .t i=>decide (i<av.length)|_=>true)=true)(h:∀Q:Exit->St->Prop,rV Q rs l enc Y own r->SW prog G c ⟨av++List.replicate (k-av.length) (.bY []),rH l i++X,own⟩ Q):mX G f av X own l i r enc Y:=by
 refine CX.b4L hf hb hn hrs hT λQ h1 h2=>h Q ⟨λa j e s hr he hs=>?_,λn e s hr=>?_⟩
 .subst hr;exact h1 _ _ _ e s rfl he hs
 .subst hr;exact h2 _ s rfl
theorem jC(K:List (Nat×Nat)):∀ds:List D,aQ K (ds.map .d)=ds.map .d
 |[]=>rfl
 |d::r=>by simp only[List.map_cons,aQ,bA,jC K r]
theorem dY(K:List (Nat×Nat)):∀ds:List D,(ds.map DV.d).all (aT K)=true
 |[]=>rfl
 |d::r=>by simp only[List.map_cons,List.all_cons,aT,dY K r,Bool.and_self]
theorem a0b{f:FuncId}{av0 av:List DV}{X:List (Nat×aW)}{r:kN β}{st:St}{ls:List (Option VM.Loc)}{dst:Option Tmp}{KK:St->Prop}{rest:List (TypeId×List VM.Loc)}(he:VM.Enters prog f)(hc:mX G f av0 X own l i r enc Y)(K:List (Nat×Nat))(jR:∀a j,r=.ok a j->aJ K ⟨av0,rH l i++X,own⟩ (enc a) (rH l j++Y a)=true)(c3u:aJ K ⟨av0,rH l i++X,own⟩ .undef (rH l i++X)=true)(jI:WkT av (aQ K av0))(hH:WkH st.H (cH K (rH l i++X)))(kJ:uW st st.own (own.map (pK K ls))=some rest)(b6S:zD st.tmps.length ls own=true)(mP:∀a j,r=.ok a j->KK (bD K dst st rest (enc a) (rH l j++Y a) own))(a2F:∀n e,r=.bad n e->Q (.panic (a0a (oX n e))) (a1M st)):sN prog G f av ls dst st KK Q (gX r):=by
 rw[<-c3O (l:=l) (enc:=enc) (Y:=Y) (own:=own) r];refine sN.mk he hc K (λd H1 dM hx=>?_) (λv hx=>c3u) jI hH kJ b6S (λd H1 dM hx=>?_) (λv hx=>?_)
 .cases r with
  |bad n e=>cases hx
  |ok a j=>cases hx;exact jR a j rfl
 .cases r with
  |bad n e=>cases hx
  |ok a j=>cases hx;exact mP a j rfl
 .cases r with
  |bad n e=>cases hx;exact a2F n e rfl
  |ok a j=>cases hx
abbrev K1:List (Nat×Nat):=[(100000,100000)]
theorem rdZ{f:FuncId}{ds:List D}{av:List DV}{r:kN β}{st:St}{ls:List (Option VM.Loc)}{dst:Option Tmp}{KK:St->Prop}(he:VM.Enters prog f)(hc:qT G f ds l i r enc)(mP:∀a j,r=.ok a j->KK ⟨gV dst (enc a) st.tmps,bP 100000 (rdO l j) st.H,eT dst (dropKey 100000 st.own)⟩)(a2F:∀n e,r=.bad n e->Q (.panic (a0a (oX n e))) (a1M st))(hk:∀a,aT K1 (enc a)=true/\bA K1 (enc a)=enc a:=by intro a;exact⟨rfl,rfl⟩)(hw:WkT av (.ptr 100000 0::ds.map .d):=by simp)(hH:getKey 100000 st.H=some (rdO l i):=by simp):sN prog G f av ls dst st KK Q (gX r):=by
 refine a0b he hc K1 (λa j hr=>?_) ?_ ?_ ?_ rfl rfl (λa j hr=>?_) a2F (rest:=st.own)
 .simp[aJ,aT,aN,aM,dY,bC,getKey,(hk a).1]
 .simp[aJ,aT,aN,aM,dY,bC,getKey]
 .simpa[aQ,bA,rk,jC]using hw
 .simp only[cH,rdO,List.append_nil,List.map_cons,List.map_nil,rk,if_true,cP,aQ,bA,WkH,and_true];exact⟨_,hH,by simp[WkO]⟩
 .have:=mP a j hr;simpa[bD,bM,cP,aQ,bA,rk,dJ,(hk a).2]using this
theorem c0p{f:FuncId}{ds:List D}{d:D}{av:List DV}{st:St}{q ro:Bool}{ls:List (Option VM.Loc)}{dst:Option Tmp}{all:Array Oper}{ops:List Oper}{k:List KI}(he:VM.Enters prog f)(hc:CH prog G f ⟨.ptr 100000 0::ds.map .d,rH l i,[]⟩ ⟨[.d d],rH l i,[]⟩)(h:VK prog G (.ops q all ops::k) .normal (finish st dst (.d d) .no) Q)(hw:WkT av (.ptr 100000 0::ds.map .d):=by simp)(hH:getKey 100000 st.H=some (rdO l i):=by simp)(sG:kW [100000] st.own=true:=by simp):eY prog G q ro f av ls dst all ops k st Q:=by
 refine eY.ro he hc K1 ?_ ?_ ?_ sG ?_ h
 .simp[aJ,aT,aN,aM,dY,bC,getKey]
 .simpa[aQ,bA,rk,jC]using hw
 .simp only[cH,rdO,List.map_cons,List.map_nil,rk,if_true,cP,aQ,bA,a7a,and_true];exact hH
 .simp[hH]
theorem mX.bS{f:FuncId}{fn:Func}{c:Code}{k:Nat}{av:List DV}{X:List (Nat×aW)}{r:kN β}(hf:prog.funcs[f]? =some fn)(hb:fn.body=some c)(hn:fn.ntmps=k)(hrs:fn.results.toList=rs)(hT:(own.all λc=>c.2.all λl=>match l with| .t i=>decide (i<av.length)|_=>true)=true)(h:∀Q:Exit->St->Prop,rV Q rs l enc Y own r->XK prog G [.code c] .normal ⟨av++List.replicate (k-av.length) (.bY []),rH l i++X,own⟩ Q):mX G f av X own l i r enc Y:=mX.a1I hf hb hn hrs hT λQ hQ=>SW.xk (h Q hQ)
theorem rdX{f:FuncId}{ds:List D}{av:List DV}{r:kN β}{st:St}{ls:List (Option VM.Loc)}{dst:Option Tmp}{all:Array Oper}{ops:List Oper}{k:List XI}(he:VM.Enters prog f)(hc:qT G f ds l i r enc)(mP:∀a j,r=.ok a j->XK prog G (.ops all ops::k) .normal ⟨gV dst (enc a) st.tmps,bP 100000 (rdO l j) st.H,eT dst (dropKey 100000 st.own)⟩ Q)(a2F:∀n e,r=.bad n e->Q (.panic (a0a (oX n e))) (a1M st))(hk:∀a,aT K1 (enc a)=true/\bA K1 (enc a)=enc a:=by intro a;exact⟨rfl,rfl⟩)(hw:WkT av (.ptr 100000 0::ds.map .d):=by simp)(hH:getKey 100000 st.H=some (rdO l i):=by simp):dC prog G f av ls dst all ops k st Q:=dC.mk (rdZ (hw:=hw) (hH:=hH) he hc mP a2F hk)
theorem pD{γ:Type}{f:FuncId}{ds:List D}{av:List DV}{x:aZ γ}{g:γ->aZ β}{e1:γ->DV}{m:Nat}{A:Prop}{Q':Exit->St->Prop}{st:St}{ls:List (Option VM.Loc)}{dst:Option Tmp}{KK:St->Prop}(Q0:rV Q rs l enc Y own ((x >>=g) i))(p0:A/\i<l.length)(he:VM.Enters prog f)(hc:qT G f ds l i (x i) e1)(ad:aB l m x)(mP:∀a j,x i=.ok a j->rV Q rs l enc Y own (g a j)->i+m<=j/\j<l.length->KK ⟨gV dst (e1 a) st.tmps,bP 100000 (rdO l j) st.H,eT dst (dropKey 100000 st.own)⟩)(hq:∀v s,(∀s,Q (.panic v) s)->Q' (.panic v) s:=by first|exact λ_ _ h=>h _|(intro v s h;simp;first|exact h _|exact h))(hw:WkT av (.ptr 100000 0::ds.map .d):=by simp)(hH:getKey 100000 st.H=some (rdO l i):=by simp)(hk:∀a,aT K1 (e1 a)=true/\bA K1 (e1 a)=e1 a:=by intro a;exact⟨rfl,rfl⟩):sN prog G f av ls dst st KK Q' (gX (x i)):=rdZ (hw:=hw) (hH:=hH) he hc (λa j h=>mP a j h (Q0.step h) (ad i a j p0.2 h)) (λn e h=>hq _ _ λs=>Q0.fail h s) hk
theorem rP{γ:Type}{f:FuncId}{ds:List D}{av:List DV}{x:aZ γ}{g:γ->aZ β}{e1:γ->DV}{m:Nat}{A:Prop}{Q':Exit->St->Prop}{st:St}{ls:List (Option VM.Loc)}{dst:Option Tmp}{all:Array Oper}{ops:List Oper}{k:List XI}(Q0:rV Q rs l enc Y own ((x >>=g) i))(p0:A/\i<l.length)(he:VM.Enters prog f)(hc:qT G f ds l i (x i) e1)(ad:aB l m x)(mP:∀a j,x i=.ok a j->rV Q rs l enc Y own (g a j)->i+m<=j/\j<l.length->XK prog G (.ops all ops::k) .normal ⟨gV dst (e1 a) st.tmps,bP 100000 (rdO l j) st.H,eT dst (dropKey 100000 st.own)⟩ Q')(hq:∀v s,(∀s,Q (.panic v) s)->Q' (.panic v) s:=by first|exact λ_ _ h=>h _|(intro v s h;simp;first|exact h _|exact h))(hw:WkT av (.ptr 100000 0::ds.map .d):=by simp)(hH:getKey 100000 st.H=some (rdO l i):=by simp)(hk:∀a,aT K1 (e1 a)=true/\bA K1 (e1 a)=e1 a:=by intro a;exact⟨rfl,rfl⟩):dC prog G f av ls dst all ops k st Q':=dC.mk (pD (hw:=hw) (hH:=hH) Q0 p0 he hc ad mP hq (hk:=hk))
theorem rdR{f:FuncId}{ds:List D}{av:List DV}{r:kN β}{e1:β->DV}{Q':Exit->St->Prop}{st:St}{ls:List (Option VM.Loc)}{dst:Option Tmp}{all:Array Oper}{ops:List Oper}{k:List XI}(Q0:rV Q rs l enc Y own r)(he:VM.Enters prog f)(hc:qT G f ds l i r e1)(mP:∀a j,r=.ok a j->XK prog G (.ops all ops::k) .normal ⟨gV dst (e1 a) st.tmps,bP 100000 (rdO l j) st.H,eT dst (dropKey 100000 st.own)⟩ Q')(hq:∀v s,(∀s,Q (.panic v) s)->Q' (.panic v) s:=by first|exact λ_ _ h=>h _|(intro v s h;simp;first|exact h _|exact h))(hw:WkT av (.ptr 100000 0::ds.map .d):=by simp)(hH:getKey 100000 st.H=some (rdO l i):=by simp)(hk:∀a,aT K1 (e1 a)=true/\bA K1 (e1 a)=e1 a:=by intro a;exact⟨rfl,rfl⟩):dC prog G f av ls dst all ops k st Q':=rdX (hw:=hw) (hH:=hH) he hc mP (λn e h=>hq _ _ λs=>Q0.bad n e s h) hk
theorem mY{f:FuncId}{ds:List D}{d:DV}{av:List DV}{st:St}{ls:List (Option VM.Loc)}{dst:Option Tmp}{all:Array Oper}{ops:List Oper}{k:List XI}(he:VM.Enters prog f)(hc:CH prog G f ⟨.ptr 100000 0::ds.map .d,rH l i,[]⟩ ⟨[d],rH l j,[]⟩)(h:XK prog G (.ops all ops::k) .normal ⟨gV dst d st.tmps,bP 100000 (rdO l j) st.H,eT dst (dropKey 100000 st.own)⟩ Q)(hk:aT K1 d=true/\bA K1 d=d:=by exact⟨rfl,rfl⟩)(hw:WkT av (.ptr 100000 0::ds.map .d):=by simp)(hH:getKey 100000 st.H=some (rdO l i):=by simp):dC prog G f av ls dst all ops k st Q:=
 rdX (hw:=hw) (hH:=hH) (r:=kN.ok () j) (enc:=λ_=>d) he hc (λa j' hr=>by cases hr;exact h) (λn e hr=>by cases hr) λ_=>hk
end
theorem e8m:List.range 2=[0,1]:=rfl
theorem e8n:List.range 3=[0,1,2]:=rfl
attribute [simp] gV eT e8m e8n
end
section
open Go Go.VM
variable {G:GT}
theorem mC:VM.Enters prog 127:=.mk func127 rfl
theorem kQ:VM.Enters prog 120:=.mk func120 rfl
theorem bR:VM.Enters prog 41:=.mk func41 rfl
theorem eV:VM.Enters prog 76:=.mk func76 rfl
theorem gS:VM.Enters prog 60:=.mk func60 rfl
theorem vB:VM.Enters prog 59:=.mk func59 rfl
theorem kF:VM.Enters prog 43:=.mk func43 rfl
theorem a1R:VM.Enters prog 119:=.mk func119 rfl
theorem cQ:VM.Enters prog 71:=.mk func71 rfl
theorem jD:VM.Enters prog 116:=.mk func116 rfl
theorem a1S:VM.Enters prog 137:=.mk func137 rfl
theorem oD(t:Tok)(s:Nm):CS prog G 127 [.agg (bG t),.str s] (.d (.bool (cK t s))) none:=by
 obtain⟨k,x,n,ln⟩:=t;refine CS.aR func127 rfl ntmps127 rfl ?_;by_cases h1:k=1
 .by_cases h2:x=s<;>simp[bG,cK,h1,h2]
 .by_cases h4:k=4
  .by_cases h2:x=s<;>simp[bG,cK,h4,h2]
  .by_cases h5:k=2
   .by_cases h2:x=s<;>simp[bG,cK,h5,h2]
   .simp[bG,cK,h1,h4,h5]
theorem mR(hG:G 1=some dP)(t:Tok):CS prog G 120 [.agg (bG t)] (.d (.bool (jY aU t))) none:=by
 obtain⟨k,x,n,ln⟩:=t;refine CS.aR func120 rfl ntmps120 rfl ?_;by_cases h1:k=1
 .simp[bG,jY,h1];refine aD.mk xU (zX hG x) ?_;simp
 .simp[bG,jY,h1]
theorem cJ(l:List Tok)(i m:Nat)(x:Int)(hx:(i:Int)+x=m)(hm:m<=l.length+10)(h0:l≠[])(hl:l.length<=2000000):CH prog G 41 ⟨[.ptr 100000 0,.d (.int .i64 x)],rH l i,[]⟩ ⟨[.d (.agg (bG (aK l m)))],rH l i,[]⟩:=by
 have hw:IntKind.i64.wrap ((i:Int)+x)=(m:Int):=by rw[hx,wrap64 (by omega)]
 have hlen:0<l.length:=List.length_pos_iff.2 h0;have hw2:IntKind.i64.wrap ((l.length:Int)-1)=((l.length-1:Nat):Int):=by rw[wrap64 (by omega)];omega
 by_cases h:m<l.length
 .have hg:aK l m=l[m]:=by simp[aK,h]
  rw[hg];obtain⟨T,hT⟩:∃T,l[m]=T:=⟨_,rfl⟩;rw[hT];obtain⟨k,s,n,ln⟩:=T;refine CH.aR func41 rfl ntmps41 rfl (by simp) ?_;simp[hw,h,hT,bG];exact⟨kL.mk (by kernel_rfl),kL.mk (by kernel_rfl)⟩
 .have hl1:l.length-1<l.length:=by omega
  have hg:aK l m=l[l.length-1]:=by simp[aK,h,List.getLastD_eq_getLast?,List.getLast?_eq_getElem?,hl1]
  rw[hg];obtain⟨N,hN⟩:∃N,l.length-1=N:=⟨_,rfl⟩;rw[hN]at hl1 hw2;obtain⟨T,hT⟩:∃T,l[N]=T:=⟨_,rfl⟩;have hT2:l[l.length-1]=T:=by simp only[hN];exact hT
  rw[hT2];obtain⟨k,s,n,ln⟩:=T;refine CH.aR func41 rfl ntmps41 rfl (by simp) ?_;simp[hw,hw2,h,h0,hT,hl1,bG];exact⟨kL.mk (by kernel_rfl),kL.mk (by kernel_rfl)⟩
theorem jS(l:List Tok)(i:Nat)(s:Nm)(hi:i<l.length)(hl:l.length<=2000000):CH prog G 76 ⟨[.ptr 100000 0,.d (.str s)],rH l i,[]⟩ ⟨[.d (.bool (aL l i s))],rH l i,[]⟩:=by have ht:=cJ (G:=G) l i i 0 (by omega) (by omega) (by intro e;subst e;simp at hi) hl;refine CH.aR func76 rfl ntmps76 rfl (by simp) ?_;simp;refine c0p (i:=i) (ds:=[.int .i64 0]) bR ht ?_;simp;refine aD.mk mC (oD (aK l i) s) ?_;simp[aL]
theorem rD(l:List Tok)(i:Nat)(s:Nm)(hi:i<l.length)(hl:l.length<=2000000)(h:aL l i s=true):CH prog G 60 ⟨[.ptr 100000 0,.d (.str s)],rH l i,[]⟩ ⟨[.d (.bool true)],rH l (i+1),[]⟩:=by have hc:=jS (G:=G) l i s hi hl;rw[h]at hc;have hw:=aY (show i<9223372036854775807 by omega);refine CH.aR func60 rfl ntmps60 rfl (by simp) ?_;simp;refine c0p (i:=i) (ds:=[.str s]) eV hc ?_;simp[hw]
theorem b0Q(l:List Tok)(i:Nat)(s:Nm)(hi:i<l.length)(hl:l.length<=2000000)(h:aL l i s=false):CH prog G 60 ⟨[.ptr 100000 0,.d (.str s)],rH l i,[]⟩ ⟨[.d (.bool false)],rH l i,[]⟩:=by have hc:=jS (G:=G) l i s hi hl;rw[h]at hc;refine CH.aR func60 rfl ntmps60 rfl (by simp) ?_;simp;refine c0p (i:=i) (ds:=[.str s]) eV hc ?_;simp
theorem xF{α:Type}(l:List Tok)(i:Nat)(hi:i<l.length)(hl:l.length<=2000000)(enc:α->DV):qT G 59 [] l i (dN l i:kN α) enc:=by have ht:=cJ (G:=G) l i i 0 (by omega) (by omega) (by intro e;subst e;simp at hi) hl;refine mX.a1I func59 rfl ntmps59 rfl (by simp) ?_;intro Q hE;refine SW.lw (LW.app 4 ?_);simp;refine c0p (i:=i) (ds:=[.int .i64 0]) bR ht ?_;generalize hT:aK l i=T;have hb:=λs=>hE.bad T.line 14 s (by unfold dN;rw[hT]);obtain⟨k,s,n,ln⟩:=T;simp[bG];refine LW.c6s (td:=_) (n:=ln) (e:=14) rfl rfl (by simp) (by simp) ?_;exact hb _
end
end Go.Proofs.YtjpodcmhcenjjaaGreatDoor
