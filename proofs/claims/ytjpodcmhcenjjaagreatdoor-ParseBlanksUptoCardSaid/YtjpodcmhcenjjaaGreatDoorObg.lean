/- Lemmas that the law of this claim needs (VmRT VmR5 VmRX VmRS ZB PsA PsB). No condition. -/
import Derived.Test.YtjpodcmhcenjjaaGreatDoorOba
import Derived.Test.YtjpodcmhcenjjaaGreatDoorObc
import Derived.Test.YtjpodcmhcenjjaaGreatDoorObd
import Derived.Test.YtjpodcmhcenjjaaGreatDoorObe
import Derived.Test.YtjpodcmhcenjjaaGreatDoorObf
import Derived.Lib.TrimByte
import Derived.Lib.Repeat
set_option linter.unusedVariables false
set_option linter.unusedSimpArgs false
set_option linter.unusedSectionVars false
set_option maxRecDepth 100000
set_option maxHeartbeats 64000000
open Go.Proofs.Tryz
section
namespace Go.VM
open Go Go.RowKit
section
variable {P:Program} {G:GT} {st:St} {base:cN} {R:Nat->Nat->Prop} {μ:Nat->Nat} {a:Act} {w:World}
def a2l(P:Program)(G:GT)(ops:Array Oper)(m c:Nat)(Q:St->Prop):Nat->Array Bool->St->Prop
 |0,listed,st=>listed=oQ m ops.size/\Q st
 |fuel+1,listed,st=>Region.ready .any ops listed≠[]/\∀i∈Region.ready .any ops listed,i<m/\match ops[i]? with
  |none=>False
  |some o=>mE P G (i !=c) ops o (a2l P G ops m c Q fuel (listed.setIfInBounds i true)) st
theorem b5m{ops:Array Oper}{m c r:Nat}{Q:St->Prop}{QQ:Exit->Act->World->Prop}:∀(fuel:Nat) (listed:Array Bool) (st:St),a2l P G ops m c Q fuel listed st->∀(base:cN) (R:Nat->Nat->Prop) (μ:Nat->Nat) (a:Act) (w:World),Rel P G base R μ st a w->
  (∀s a' w' R' μ',Q s->Rel P G base R' μ' s a' w'->Step base R w R' w'->wpAny P .any ops QQ r (oQ m ops.size) a' w')->wpAny P .any ops QQ (fuel+r) listed a w
 |0,_,st,h,base,R,μ,a,w,hr,hk=>by rw[Nat.zero_add,h.1];exact hk st a w R μ h.2 hr (.refl _ _ _)
 |fuel+1,listed,st,h,base,R,μ,a,w,hr,hk=>by
  rw[show fuel+1+r=(fuel+r)+1 by omega];refine⟨λh0=>absurd h0 h.1,λi hi=>?_⟩;have h1:=(h.2 i hi).2;unfold wpOp;split
  .rename_i ho;rw[ho]at h1;exact h1.elim
  .rename_i o ho;rw[ho]at h1;exact qO h1 hr λs v w' R' μ' h' eK oY=>b5m fuel _ s h' base R' μ' _ w' eK λs a' w2 R2 μ2 q1 q2 q3=>hk s a' w2 R2 μ2 q1 q2 (oY.trans q3)
theorem b2c{ops:Array Oper}{m i:Nat}(him:i<m)(hT:wI ops m=true)(listed:Array Bool)(mO:eB ops listed)(hr:i∈Region.ready .any ops listed):∀j∈Region.ready .any ops listed,j<m:=λj hj=>by apply Classical.byContradiction;intro hjm;obtain⟨_,oj,xI,cY⟩:=mem_ready.1 hj;obtain⟨a0W,_⟩:=mem_ready.1 hr;have h1:=a6r hT (Nat.le_of_not_lt hjm) xI him;rw[cS mO a0W ops.size j λo ho=>by rw[xI]at ho;cases ho;exact cY]at h1;cases h1
theorem b6H{ops:Array Oper}{m c:Nat}{Q:St->Prop}{i:Nat}{oi:Oper}(him:i<m)(hT:wI ops m=true)(hA:oM ops)(hi:ops[i]? =some oi)(hic:i≠c)(hsi:(cO oi.op=true/\kI ops oi=false)\/oD oi=true):
  ∀(fuel:Nat) (listed:Array Bool) (st s:St),eB ops listed->
   (∀j oj,ops[j]? =some oj->j≠i->listed.getD j true=false->eZ ops ops.size j i=false->j≠c/\oi.apart ops oj=true/\pI ops oi oj=true)->
   i∈Region.ready .any ops listed->pK ops listed st->Eff P G ops oi st s->
   a2l P G ops m c Q fuel (listed.setIfInBounds i true) s->a2l P G ops m c Q (fuel+1) listed st:=by
 have qi:(i !=c)=true:=by simpa using hic
 intro fuel
 induction fuel with
 |zero=>
  intro listed st s mO _ hr _ hy H;refine⟨λh=>(by rw[h]at hr;cases hr),λj hj=>⟨b2c him hT listed mO hr j hj,?_⟩⟩;by_cases yD:j=i
  .subst yD;rw[hi,qi];exact(dC hsi).2 ⟨s,hy,H⟩
  .exfalso;obtain⟨vJ,oj,xI,cY⟩:=mem_ready.1 hj;have h1:=b1X vJ yD;rw[H.1]at h1;have h2:=a5B h1;have:=b2c him hT listed mO hr j hj;omega
 |succ fuel ih=>
  intro listed st s mO a0r hr hI hy H;refine⟨λh=>(by rw[h]at hr;cases hr),λj hj=>⟨b2c him hT listed mO hr j hj,?_⟩⟩;by_cases yD:j=i
  .subst yD;rw[hi,qi];exact(dC hsi).2 ⟨s,hy,H⟩
  .have h1:=(H.2 j (ready_mono hj yD)).2;obtain⟨vJ,oj,xI,cY⟩:=mem_ready.1 hj;rw[xI]at h1|-;simp only at h1|-;obtain⟨a0W,oi',b6t,a7i⟩:=mem_ready.1 hr;have a3b:eZ ops ops.size j i=false:=cS mO a0W _ _ λo ho=>by rw[xI]at ho;cases ho;exact cY
   obtain⟨hjc,xE,hpo⟩:=a0r j oj xI yD vJ a3b;have qj:(j !=c)=true:=by simpa using hjc
   rw[qj]at h1|-;have hsj:(cO oj.op=true/\kI ops oj=false)\/oD oj=true:=by
    by_cases hs:oD oj=true
    .exact .inr hs
    .refine .inl ⟨?_,?_⟩
     .unfold pI at hpo;simp only[oD,f2Z,f2N,Bool.not_eq_true']at hpo hs;rcases hpo with((((((h|h)|h)|h)|h)|h)|h)|h
      .exact h.1.2
      .exact absurd (.inl (.inl h.1.2)) hs
      .exact h.1.1.2
      .exact absurd (.inl (.inr h.2)) hs
      .exact h.1.2
      .exact absurd (.inl h.1.2) hs
      .exact absurd (.inr h.2) hs
      .exact(mF (G:=G) (st:=st) h.1.2).1
     .cases hx:kI ops oj with
      |false=>rfl
      |true=>
       have aI:i<ops.size:=(f2W.1 hi).1;rcases sZ hx xI aI (λe=>yD e.symm)with h'|h'
       .have:=cS mO vJ ops.size i λo ho=>by rw[b6t]at ho;cases ho;exact a7i
        rw[h']at this;cases this
       .rw[a3b]at h';cases h'
   obtain⟨s12,hu,hk⟩:=(dC hsj).1 h1;obtain⟨s2,e1,e2⟩:=a7h xE hpo (λhn d hd=>hI i oi d hi hn a0W hd) (λhn d hd=>hI j oj d xI hn vJ hd) hy hu;refine(dC hsj).2 ⟨s2,e1,?_⟩;refine ih (listed.setIfInBounds j true) s2 s12 (mO.set hj) (λk ok hk' hki hun sI=>?_) (ready_mono hr (Ne.symm yD)) (hI.step hA xI λk hf hn=>sK e1 hf hn) e2 ?_
   .exact a0r k ok hk' hki (rQ hun).2 sI
   .rw[Array.setIfInBounds_comm _ _ yD];exact hk
def c8Y(m:Nat)(l:List Nat):Bool:=l.all λi=>decide (i<m)
theorem a6u{ops:Array Oper}{m c:Nat}{Q:St->Prop}(hTA:wI ops m=true)(hN:eA ops=[]):∀(l:List Nat) (listed:Array Bool) (st:St) (fuel:Nat),c8Y m l=true->eB ops listed->a7C ops c l listed=true->
  a3f P G ops c l st (a2l P G ops m c Q fuel (bY l listed))->a2l P G ops m c Q (l.length+fuel) listed st
 |[],listed,st,fuel,_,_,_,h=>by simpa[bY,a3f]using h
 |i::l,listed,st,fuel,oE,mO,hB,h=>by
  have hA:oM ops:=λi j oi oj d hi _ hni _ hdi _=>(b5l hN hi hni hdi).elim;have hI:∀listed st,pK ops listed st:=λ_ _ j oj d hj hn _ hd=>(b5l hN hj hn hd).elim;simp only[c8Y,List.all_cons,f2N,decide_eq_true_eq]at oE;obtain⟨him,e3p⟩:=oE;simp only[a7C,f2N]at hB;obtain⟨hf,hB'⟩:=hB;simp only[a3f]at h;split at h;rotate_left
  .cases h
  rename_i o ho;have he:(i::l).length+fuel=l.length+fuel+1:=by simp only[List.length_cons];omega
  rw[he];unfold b2a at hf;rw[f2Z,beq_iff_eq]at hf;have hri:i∈Region.ready .any ops listed:=by
   rcases hf with hf|hf
   .rw[hf];exact f2U.2 rfl
   .simp only[f2N]at hf;simpa using hf.1.1
  have sB:∀s,a3f P G ops c l s (a2l P G ops m c Q fuel (bY (i::l) listed))->a2l P G ops m c Q (l.length+fuel) (listed.setIfInBounds i true) s:=λs hs=>a6u hTA hN l _ s fuel e3p (mO.set hri) hB' hs;rcases hf with hf|hf
  .refine⟨λh'=>(by rw[h']at hf;cases hf),λj hj=>?_⟩;rw[hf,f2U]at hj;subst hj;rw[ho];exact⟨him,eN sB h⟩
  .rw[ho]at hf;simp only[f2N,f2Z,Bool.not_eq_true',bne_iff_ne,ne_eq]at hf;obtain⟨⟨_,hic⟩,hsi,cY⟩:=hf;have qi:(i !=c)=true:=by simpa using hic
   rw[qi]at h;obtain⟨s,hd,hk⟩:=(dC hsi).1 h;refine b6H him hTA hA ho hic hsi _ listed st s mO (λj oj hj dX hun sI=>?_) hri (hI _ _) hd (sB s hk);rw[f2Q]at cY;have h1:=cY j (List.mem_range.2 (f2W.1 hj).1);simp only[hj,f2Z,beq_iff_eq,dX,false_or,hun,Bool.false_eq_true,sI,f2N,bne_iff_ne,ne_eq]at h1;exact h1
def a5F(ops:Array Oper)(m c:Nat):Ord->Nat->Array Bool->Bool
 | .none,_,_=>true
 | .call rest more,n,listed=>decide (c<ops.size)&&decide (c<m)&&c8Y m rest&&inB ops c rest&&a7C ops c rest (listed.setIfInBounds c true)&&decide (bY rest (listed.setIfInBounds c true)=oQ m ops.size)&&decide (rest.length+1=n)&&a5F ops m c more n listed
 | .op i next more,n,listed=>inB ops c [i]&&decide (i<m)&&decide (2<=n)&& !(Region.ready .any ops (listed.setIfInBounds i true)).isEmpty&&((Region.ready .any ops (listed.setIfInBounds i true)).all λj=>a2k c next j)&&a5F ops m c next (n-1) (listed.setIfInBounds i true)&&a5F ops m c more n listed
theorem a7H{ops:Array Oper}{m c:Nat}{Q:St->Prop}(hTA:wI ops m=true)(hN:eA ops=[]):∀(T:Ord) (n:Nat) (listed:Array Bool) (st:St),eB ops listed->a5F ops m c T (n+1) listed=true->b0s P G ops c Q T st->∀i∈Region.ready .any ops listed,a2k c T i=true->
  i<m/\match ops[i]? with
  |none=>False
  |some o=>mE P G (i !=c) ops o (a2l P G ops m c Q n (listed.setIfInBounds i true)) st
 | .none,_,_,_,_,_,_,_,_,ha=>by cases ha
 | .call rest more,n,listed,st,mO,hB,h,i,hi,ha=>by
  simp only[a5F,f2N,decide_eq_true_eq]at hB;obtain⟨⟨⟨⟨⟨⟨⟨hc,hcm⟩,oE⟩,hin⟩,hs⟩,he⟩,hlen⟩,a3V⟩:=hB;simp only[b0s]at h;simp only[a2k,f2Z,decide_eq_true_eq]at ha;by_cases hic:i=c
  .subst hic;have h1:=h.1;simp only[VK,sel,f3f hc,sE]at h1;simp only[f3f hc,bne_self_eq_false];refine⟨hcm,eN (λs oY=>?_) h1⟩;have hn:n=rest.length+0:=by omega
   rw[hn];exact a6u hTA hN rest _ s 0 oE (mO.set hi) hs (rW (λs hs=>⟨he,hs⟩) _ _ (uM rest s hin oY))
  .exact a7H hTA hN more n listed st mO a3V h.2 i hi (ha.resolve_left hic)
 | .op x next more,n,listed,st,mO,hB,h,i,hi,ha=>by
  simp only[a5F,f2N,decide_eq_true_eq,Bool.not_eq_true',List.isEmpty_eq_false_iff,f2Q]at hB;obtain⟨⟨⟨⟨⟨⟨hin,hxm⟩,hn⟩,dX⟩,cY⟩,sB⟩,a3V⟩:=hB;simp only[b0s]at h;simp only[a2k,f2Z,decide_eq_true_eq]at ha;by_cases hix:i=x
  .subst hix;have h1:=h.1;simp only[inB,List.all_cons,List.all_nil,Bool.and_true,f2N,decide_eq_true_eq]at hin;have qi:(i !=c)=true:=by simpa using hin.2
   simp only[VK,sel,f3f hin.1,sE]at h1;simp only[f3f hin.1,qi];refine⟨hxm,eN (λs oY=>?_) h1⟩;obtain⟨k,rfl⟩:∃k,n=k+1:=⟨n-1,by omega⟩;exact⟨dX,λj hj=>a7H hTA hN next k _ s (mO.set hi) sB oY j hj (cY j hj)⟩
  .exact a7H hTA hN more n listed st mO a3V h.2 i hi (ha.resolve_left hix)
theorem a4N{ops:Array Oper}{m c:Nat}{Z:St->Prop}:∀(T:Ord) (n n':Nat) (listed:Array Bool) (st:St),n<=n'->a5F ops m c T (n+1) listed=true->a2P P G ops Z T st->∀i∈Region.ready .any ops listed,a2k c T i=true->
  if i=c then Z st else match ops[i]? with
  |none=>False
  |some o=>mE P G true ops o (a5E P G ops c Z n' (listed.setIfInBounds i true)) st
 | .none,_,_,_,_,_,_,_,_,_,ha=>by cases ha
 | .call rest more,n,n',listed,st,hn',hB,h,i,hi,ha=>by
  simp only[a5F,f2N]at hB;simp only[a2P]at h;simp only[a2k,f2Z,decide_eq_true_eq]at ha;by_cases hic:i=c
  .rw[if_pos hic];exact h.1
  .exact a4N more n n' listed st hn' hB.2 h.2 i hi (ha.resolve_left hic)
 | .op x next more,n,n',listed,st,hn',hB,h,i,hi,ha=>by
  simp only[a5F,f2N,decide_eq_true_eq,Bool.not_eq_true',List.isEmpty_eq_false_iff,f2Q]at hB;obtain⟨⟨⟨⟨⟨⟨hin,hxm⟩,hn⟩,dX⟩,cY⟩,sB⟩,a3V⟩:=hB;simp only[a2P]at h;simp only[a2k,f2Z,decide_eq_true_eq]at ha;by_cases hix:i=x
  .subst hix;have h1:=h.1;simp only[inB,List.all_cons,List.all_nil,Bool.and_true,f2N,decide_eq_true_eq]at hin;simp only[VK,sel,f3f hin.1,sE]at h1;rw[if_neg hin.2];simp only[f3f hin.1];refine eN (λs oY=>?_) h1;obtain⟨k,rfl⟩:∃k,n=k+1:=⟨n-1,by omega⟩;obtain⟨k',rfl⟩:∃k',n'=k'+1:=⟨n'-1,by omega⟩;exact⟨dX,λj hj=>a4N next k k' _ s (by omega) sB oY j hj (cY j hj)⟩
  .exact a4N more n n' listed st hn' a3V h.2 i hi (ha.resolve_left hix)
abbrev b2d(TT:St->Prop)(Q:Exit->St->Prop):Exit->St->Prop:=λe s=>match e with
 | .normal=>TT s
 |e=>Q e s
end
end Go.VM
end
section
namespace Go.VM
open Go Go.RowKit
section
variable {P:Program} {G:GT} {st:St}
def b0O(ops:Array Oper)(L:Array Bool)(i0 i1 i2 i3 i4:Nat):Bool:=
 let S:=L.setIfInBounds i0 true
 let A:=S.setIfInBounds i1 true
 let B:=S.setIfInBounds i3 true
 (Region.ready .any ops L==[i0])&&(Region.ready .any ops S==[i1,i3])&&(Region.ready .any ops A==[i2,i3])&&(Region.ready .any ops B==[i1,i4])&&
 (Region.ready .any ops (A.setIfInBounds i2 true)==[i3])&&(Region.ready .any ops (A.setIfInBounds i3 true)==[i2,i4])&&(Region.ready .any ops (B.setIfInBounds i1 true)==[i2,i4])&&(Region.ready .any ops (B.setIfInBounds i4 true)==[i1])&&
 (Region.ready .any ops ((A.setIfInBounds i2 true).setIfInBounds i3 true)==[i4])&&(Region.ready .any ops ((A.setIfInBounds i3 true).setIfInBounds i2 true)==[i4])&&(Region.ready .any ops ((A.setIfInBounds i3 true).setIfInBounds i4 true)==[i2])&&
 (Region.ready .any ops ((B.setIfInBounds i1 true).setIfInBounds i2 true)==[i4])&&(Region.ready .any ops ((B.setIfInBounds i1 true).setIfInBounds i4 true)==[i2])&&(Region.ready .any ops ((B.setIfInBounds i4 true).setIfInBounds i1 true)==[i2])&&
 (Region.ready .any ops (((A.setIfInBounds i2 true).setIfInBounds i3 true).setIfInBounds i4 true)==[])&&(Region.ready .any ops (((A.setIfInBounds i3 true).setIfInBounds i2 true).setIfInBounds i4 true)==[])&&(Region.ready .any ops (((A.setIfInBounds i3 true).setIfInBounds i4 true).setIfInBounds i2 true)==[])&&
 (Region.ready .any ops (((B.setIfInBounds i1 true).setIfInBounds i2 true).setIfInBounds i4 true)==[])&&(Region.ready .any ops (((B.setIfInBounds i1 true).setIfInBounds i4 true).setIfInBounds i2 true)==[])&&(Region.ready .any ops (((B.setIfInBounds i4 true).setIfInBounds i1 true).setIfInBounds i2 true)==[])
abbrev tl3(s:St)(dP:List (TypeId×List Loc))(e:TypeId)(r p b:Tmp)(xs:List (List D))(c:List D)(kb off:Nat):St:=finish (tl2 s dP e r p xs c) (some b) (.ptr kb off) .no
theorem c8Z(a:Act){p b:Nat}(u v:Value)(h:p≠b):(a.put (some p) u).put (some b) v=(a.put (some b) v).put (some p) u:=by simp only[Act.put];congr 1;exact Array.setIfInBounds_comm _ _ h
theorem b9N{ops:Array Oper}{i0 i1 i2 i3 i4:Nat}{L0:Array Bool}{t e T:TypeId}{s z r p q x b y:Tmp}{fd fo:Nat}{y0 y1 y2 y3 y4 u:TypeId}{p0 p1 p2 p3 p4:String}{f0 f1 f2 f3 f4:Array Edge}{xs:List (List D)}{z0 c:List D}{dP:List (TypeId×List Loc)}{kb0 uC:Nat}{out:Out}{Q:St->Prop}{QQ:Exit->Act->World->Prop}(h0:ops[i0]? =some ⟨some r,.call {callee:=.builtin .append,args:=#[.tmp s,.tmp z],argTypes:=#[t,t]},y0,p0,f0,none⟩)(h1:ops[i1]? =some ⟨some p,.indexAddr t (.tmp r) (.tmp q),y1,p1,f1,none⟩)(h2:ops[i2]? =some ⟨none,.store e (.tmp p) (.tmp x),y2,p2,f2,none⟩)(h3:ops[i3]? =some ⟨some b,.fieldAddr T (.tmp y) fd,y3,p3,f3,none⟩)(h4:ops[i4]? =some ⟨none,.store t (.tmp b) (.tmp r),y4,p4,f4,none⟩)(hR:b0O ops L0 i0 i1 i2 i3 i4=true)(rK:eY P e=true)(hu:P.underlying t=some (.slice e))(dX:(r≠q/\r≠x/\r≠p/\r≠b/\r≠y)/\(p≠x/\p≠b/\p≠y)/\b≠q/\b≠x)(aI:r<st.tmps.length/\p<st.tmps.length/\b<st.tmps.length)(hsx:st.eval G (.tmp s)=.d (.sl xs))(htk:eV (.t s) st.own=some (e,dP))(hlx:∀c∈xs,c.length=P.cellsOf e)(hx:st.eval G (.tmp z)=.d (.sl [z0]))(hz0:z0.length=P.cellsOf e)(hbd:(xs.length+1)*(P.bytesOf e+1)<=140737488355328)(hq:st.eval G (.tmp q)=.d (.int .i64 (xs.length:Int)))(hxv:st.eval G (.tmp x)=.d (.agg c))(hc:c.length=P.cellsOf e)(hy:st.eval G (.tmp y)=.ptr kb0 uC)(hfo:aH P T fd=some (fo,u))(hfc:P.cellsOf u≠0)(mM:qE P G t (.tmp b) (.tmp r) (tl3 st dP e r p b xs c kb0 (uC+fo))=some out)(hQ:Q out.st){base:cN}{R:Nat->Nat->Prop}{μ:Nat->Nat}{a:Act}{w:World}(hr:Rel P G base R μ st a w)(hk:∀s' a' w' R' μ',Q s'->Rel P G base R' μ' s' a' w'->Step base R w R' w'->QQ .normal a' w'):wpAny P .any ops QQ 5 L0 a w:=by
 obtain⟨⟨n1,n2,n3,n4,n7⟩,⟨n5,n6,n8⟩,n9,n10⟩:=dX;obtain⟨l1,l2,l3⟩:=aI;have hU:=hr.size;obtain⟨_,_,_,_,_,a0V,_,_⟩:=wQ rK;obtain⟨g,cap,a1d,w1,e0,hg,jB,d9N,b4N⟩:=a9T (ty:=y0) hr rK hu (x:=.tmp z) hsx htk hlx hx hz0 hbd;obtain⟨pc,hpc,a8J,b9H⟩:=(hr.jI hxv).a1W;have gO:∀u∈pc.toList,u.oneCell'=true:=λu hu=>by
  obtain⟨j,hj⟩:=f3e hu;have xU:j<c.length:=by rw[<-a8J];simpa using (f2O.1 hj).1
  obtain⟨k1,k2⟩:=b9H j c[j] (by simp[xU]);have:pc.getD j Go.undef=u:=by
   have:pc[j]? =some u:=by simpa using hj
   simp[f2P,this]
  rw[this]at k2;exact k2.a6V k1
 obtain⟨R1,hr1,hV1,hA1,hs1⟩:=b4N pc.toList c (by simpa[a8J]using hc) hc gO (λj d hj=>by
  obtain⟨k1,k2⟩:=b9H j d hj;have xU:j<pc.size:=by rw[a8J];exact(f2O.1 hj).1
  refine⟨k1,pc[j],by simp[xU],?_⟩;simpa[f2P,xU]using k2)
 generalize hvS:(Value.slice (some ⟨g,0,none⟩) (xs.length+1) cap)=vS at *;generalize c8R:spl a1d (xs.length*P.cellsOf e) pc.toList=a8K at *;have hra:r<a.tmps.size:=by rw[hU];exact l1
 have hpa:p<a.tmps.size:=by rw[hU];exact l2
 have d9P:=hr1.put (dst:=some r) (.d _ _ hV1) hA1;have hr2:=d9P.put (dst:=some p) (v:=.pointer (some ⟨g,xs.length*P.cellsOf e,none⟩)) (act:=.no) (.undef _) trivial;generalize ha1:a.put (some r) vS=a1 at *;generalize ha2:a1.put (some p) (.pointer (some ⟨g,xs.length*P.cellsOf e,none⟩))=a2 at *;have z1:a1.tmps.size=a.tmps.size:=by rw[<-ha1];exact size_put _ _ _
 have v1r:a1.eval (.tmp r)=vS:=by rw[<-ha1];exact dB _ _ hra
 have v1q:a1.eval (.tmp q)=a.eval (.tmp q):=by rw[<-ha1];exact bQ _ _ (Ne.symm n1)
 have v1x:a1.eval (.tmp x)=a.eval (.tmp x):=by rw[<-ha1];exact bQ _ _ (Ne.symm n2)
 have v1b:a1.eval (.tmp b)=a.eval (.tmp b):=by rw[<-ha1];exact bQ _ _ (Ne.symm n4)
 have v2p:a2.eval (.tmp p)=.pointer (some ⟨g,xs.length*P.cellsOf e,none⟩):=by rw[<-ha2];exact dB _ _ (z1.symm▸hpa)
 have v2x:a2.eval (.tmp x)=.agg pc:=by rw[<-ha2,bQ _ _ (Ne.symm n5),v1x,hpc]
 have v2r:a2.eval (.tmp r)=vS:=by rw[<-ha2,bQ _ _ n3];exact v1r
 have v2b:a2.eval (.tmp b)=a.eval (.tmp b):=by rw[<-ha2,bQ _ _ (Ne.symm n6)];exact v1b
 have v1y:a1.eval (.tmp y)=.pointer (some ⟨μ kb0,uC,none⟩):=by rw[<-ha1,bQ _ _ (Ne.symm n7)];exact hr.dA hy
 have hb0:b<a.tmps.size:=by rw[hU];exact l3
 have z2:a2.tmps.size=a.tmps.size:=by rw[<-ha2,size_put];exact z1
 have hr3:=hr2.put (dst:=some b) (v:=.pointer (some ⟨μ kb0,uC+fo,none⟩)) (act:=.no) (.ptr kb0 (uC+fo)) trivial;generalize ha3:a2.put (some b) (.pointer (some ⟨μ kb0,uC+fo,none⟩))=a3 at *;generalize hab:a1.put (some b) (.pointer (some ⟨μ kb0,uC+fo,none⟩))=ab at *;have e3r:ab.put (some p) (.pointer (some ⟨g,xs.length*P.cellsOf e,none⟩))=a3:=by rw[<-hab, <- ha3, <- ha2];exact(c8Z a1 _ _ n6).symm
 have v2y:a2.eval (.tmp y)=.pointer (some ⟨μ kb0,uC,none⟩):=by rw[<-ha2,bQ _ _ (Ne.symm n8)];exact v1y
 have v3b:a3.eval (.tmp b)=.pointer (some ⟨μ kb0,uC+fo,none⟩):=by rw[<-ha3];exact dB _ _ (z2.symm▸hb0)
 have v3r:a3.eval (.tmp r)=vS:=by rw[<-ha3,bQ _ _ n4];exact v2r
 have v3p:a3.eval (.tmp p)=.pointer (some ⟨g,xs.length*P.cellsOf e,none⟩):=by rw[<-ha3,bQ _ _ n6];exact v2p
 have v3x:a3.eval (.tmp x)=.agg pc:=by rw[<-ha3,bQ _ _ (Ne.symm n10)];exact v2x
 have vbb:ab.eval (.tmp b)=.pointer (some ⟨μ kb0,uC+fo,none⟩):=by rw[<-hab];exact dB _ _ (z1.symm▸hb0)
 have vbr:ab.eval (.tmp r)=vS:=by rw[<-hab,bQ _ _ n4];exact v1r
 have vbq:ab.eval (.tmp q)=a.eval (.tmp q):=by rw[<-hab,bQ _ _ (Ne.symm n9)];exact v1q
 have a3U:=mM;unfold qE at a3U;split at a3U;rotate_left
 .cases a3U
 rename_i kb off ys hb hys;split at a3U;rotate_left
 .cases a3U
 rename_i cs hkb;split at a3U;rotate_left
 .cases a3U
 rename_i hcd
 clear a3U
 have hHs:(tl3 st dP e r p b xs c kb0 (uC+fo)).H=st.H:=rfl;rw[hHs]at hkb;have hbe:(tl3 st dP e r p b xs c kb0 (uC+fo)).eval G (.tmp b)=.ptr kb0 (uC+fo):=by simp[St.eval,finish,List.getD,l3]
 rw[hbe]at hb;cases hb;have d9S:ys.length=1:=by
  have:(tl3 st dP e r p b xs c kb0 (uC+fo)).eval G (.tmp r)=.d (.sl (xs++[c])):=by simp[St.eval,finish,List.getD,l1,List.getElem?_set,Ne.symm n3,Ne.symm n4]
  rw[this]at hys;simp only[sT,D.cells,List.map_cons,List.map_nil,f2T]at hys;rw[<-hys];rfl
 obtain⟨_,_,vs0,T0,hh0,d9T,_⟩:=hr.gM kb0 _ hkb;obtain⟨hbg,d9U⟩:=d9N kb0 _ hkb;have hvc:vS.cells=#[vS]:=by rw[<-hvS];rfl
 have hvo:vS.oneCell'=true:=by rw[<-hvS];rfl
 have hob:w1.heap[μ kb0]? =some (.cells vs0 T0 (0,0)):=d9U.trans hh0;generalize hX:spl vs0 (uC+fo) [vS]=X;have E0:(execOp a.eval ⟨some r,.call {callee:=.builtin .append,args:=#[.tmp s,.tmp z],argTypes:=#[t,t]},y0,p0,f0,none⟩).run P w=.ok (.value vS) w1:=by simp[execOp,resolve,invoke,builtin,e0]
 have E1:∀(ax:Act) (w':World),ax.eval (.tmp r)=vS->ax.eval (.tmp q)=a.eval (.tmp q)->(execOp ax.eval ⟨some p,.indexAddr t (.tmp r) (.tmp q),y1,p1,f1,none⟩).run P w'=.ok (.value (.pointer (some ⟨g,xs.length*P.cellsOf e,none⟩))) w':=λax w' k1 k2=>a1H rfl hu (k1.trans hvS.symm) (k2.trans (hr.tX hq)) (by omega) a0V
 have E2:∀(ax:Act) (w':World),ax.eval (.tmp p)=.pointer (some ⟨g,xs.length*P.cellsOf e,none⟩)->ax.eval (.tmp x)=.agg pc->w'.heap[g]? =some (.cells a1d e (0,0))->(execOp ax.eval ⟨none,.store e (.tmp p) (.tmp x),y2,p2,f2,none⟩).run P w'=.ok .skip (w'.setRow g a8K):=λax w' kp kx hw'=>by have:=rV (P:=P) (a:=ax) (w:=w') (o:=⟨none,.store e (.tmp p) (.tmp x),y2,p2,f2,none⟩) rfl kp hw' (by rw[kx];show pc.size=_;rw[a8J,hc]) (by omega) (by rw[kx];exact gO) (by rw[kx];show _+pc.size<=_;rw[a8J,hc];exact jB);rw[kx]at this;have mO:(Value.agg pc).cells=pc:=rfl;rw[mO,c8R]at this;exact this
 have E3:∀(ax:Act) (w':World),ax.eval (.tmp y)=.pointer (some ⟨μ kb0,uC,none⟩)->(execOp ax.eval ⟨some b,.fieldAddr T (.tmp y) fd,y3,p3,f3,none⟩).run P w'=.ok (.value (.pointer (some ⟨μ kb0,uC+fo,none⟩))) w':=λax w' ky=>vU (P:=P) rfl hfo hfc ky;have E4:∀(ax:Act) (w':World),ax.eval (.tmp b)=.pointer (some ⟨μ kb0,uC+fo,none⟩)->ax.eval (.tmp r)=vS->w'.heap[μ kb0]? =some (.cells vs0 T0 (0,0))->(execOp ax.eval ⟨none,.store t (.tmp b) (.tmp r),y4,p4,f4,none⟩).run P w'=.ok .skip (w'.setRow (μ kb0) X):=λax w' hb1 hr1 hw'=>by have:=rV (P:=P) (a:=ax) (w:=w') (o:=⟨none,.store t (.tmp b) (.tmp r),y4,p4,f4,none⟩) rfl hb1 hw' (by rw[hr1,hvc, <- hcd.1,d9S];rfl) (by omega) (by rw[hr1,hvc];simpa using hvo) (by rw[hr1,hvc];show uC+fo+1<=_;rw[d9T];omega);rw[hr1,hvc]at this;have:(execOp ax.eval ⟨none,.store t (.tmp b) (.tmp r),y4,p4,f4,none⟩).run P w'=.ok .skip (w'.setRow (μ kb0) (spl vs0 (uC+fo) [vS])):=this;rw[hX]at this;exact this
 have hgX:(w1.setRow (μ kb0) X).heap[g]? =some (.cells a1d e (0,0)):=(setRow_other w1 (μ kb0) g _ (Ne.symm hbg)).trans hg;have hbX:(w1.setRow g a8K).heap[μ kb0]? =some (.cells vs0 T0 (0,0)):=(setRow_other w1 g (μ kb0) _ hbg).trans hob;have b5i:(w1.setRow (μ kb0) X).setRow g a8K=(w1.setRow g a8K).setRow (μ kb0) X:=a9S w1 hbg X a8K;have yH:QQ .normal a3 ((w1.setRow g a8K).setRow (μ kb0) X):=by
  obtain⟨v,w',R',μ',cD,hr4,_,_,hs3⟩:=a4C (o:=⟨none,.store t (.tmp b) (.tmp r),y4,p4,f4,none⟩) rfl mM base R1 μ a3 _ hr3;rw[E4 a3 _ v3b v3r hbX]at cD;rcases cD with cD|⟨cD,_⟩
  .cases cD
  .cases cD;exact hk out.st a3 _ R' μ' hQ hr4 (hs1.trans hs3)
 simp only[b0O,f2N,beq_iff_eq]at hR;obtain⟨⟨⟨⟨⟨⟨⟨⟨⟨⟨⟨⟨⟨⟨⟨⟨⟨⟨⟨r0,r1⟩,rA⟩,rB⟩,rAC⟩,rAB⟩,rBA⟩,rBD⟩,e7a⟩,e7b⟩,e7c⟩,e7d⟩,e7e⟩,e7f⟩,e1⟩,e2⟩,e3⟩,e4⟩,e5⟩,e6⟩:=hR;refine wpAny_all r0 (by simp) λi hi=>?_;simp only[f2U]at hi;subst hi;refine cX h0 rfl (.inl E0) ha1 ?_;refine wpAny_all r1 (by simp) λj hj=>?_;simp only[List.mem_cons,List.not_mem_nil,or_false]at hj;rcases hj with rfl|rfl
 .refine cX h1 rfl (.inl (E1 a1 w1 v1r v1q)) ha2 ?_;refine wpAny_all rA (by simp) λj hj=>?_;simp only[List.mem_cons,List.not_mem_nil,or_false]at hj;rcases hj with rfl|rfl
  .refine cX h2 rfl (.inr ⟨E2 a2 w1 v2p v2x hg,rfl⟩) rfl ?_;refine wpAny_all rAC (by simp) λj hj=>?_;simp only[f2U]at hj;subst hj;refine cX h3 rfl (.inl (E3 a2 _ v2y)) ha3 ?_;refine wpAny_all e7a (by simp) λj hj=>?_;simp only[f2U]at hj;subst hj;exact cX h4 rfl (.inr ⟨E4 a3 _ v3b v3r hbX,rfl⟩) rfl (wpAny_done e1 yH _)
  .refine cX h3 rfl (.inl (E3 a2 _ v2y)) ha3 ?_;refine wpAny_all rAB (by simp) λj hj=>?_;simp only[List.mem_cons,List.not_mem_nil,or_false]at hj;rcases hj with rfl|rfl
   .refine cX h2 rfl (.inr ⟨E2 a3 w1 v3p v3x hg,rfl⟩) rfl ?_;refine wpAny_all e7b (by simp) λj hj=>?_;simp only[f2U]at hj;subst hj;exact cX h4 rfl (.inr ⟨E4 a3 _ v3b v3r hbX,rfl⟩) rfl (wpAny_done e2 yH _)
   .refine cX h4 rfl (.inr ⟨E4 a3 _ v3b v3r hob,rfl⟩) rfl ?_;refine wpAny_all e7c (by simp) λj hj=>?_;simp only[f2U]at hj;subst hj;exact cX h2 rfl (.inr ⟨E2 a3 _ v3p v3x hgX,rfl⟩) rfl (wpAny_done e3 (by rw[b5i];exact yH) _)
 .refine cX h3 rfl (.inl (E3 a1 _ v1y)) hab ?_;refine wpAny_all rB (by simp) λj hj=>?_;simp only[List.mem_cons,List.not_mem_nil,or_false]at hj;rcases hj with rfl|rfl
  .refine cX h1 rfl (.inl (E1 ab _ vbr vbq)) e3r ?_;refine wpAny_all rBA (by simp) λj hj=>?_;simp only[List.mem_cons,List.not_mem_nil,or_false]at hj;rcases hj with rfl|rfl
   .refine cX h2 rfl (.inr ⟨E2 a3 w1 v3p v3x hg,rfl⟩) rfl ?_;refine wpAny_all e7d (by simp) λj hj=>?_;simp only[f2U]at hj;subst hj;exact cX h4 rfl (.inr ⟨E4 a3 _ v3b v3r hbX,rfl⟩) rfl (wpAny_done e4 yH _)
   .refine cX h4 rfl (.inr ⟨E4 a3 _ v3b v3r hob,rfl⟩) rfl ?_;refine wpAny_all e7e (by simp) λj hj=>?_;simp only[f2U]at hj;subst hj;exact cX h2 rfl (.inr ⟨E2 a3 _ v3p v3x hgX,rfl⟩) rfl (wpAny_done e5 (by rw[b5i];exact yH) _)
  .refine cX h4 rfl (.inr ⟨E4 ab _ vbb vbr hob,rfl⟩) rfl ?_;refine wpAny_all rBD (by simp) λj hj=>?_;simp only[f2U]at hj;subst hj;refine cX h1 rfl (.inl (E1 ab _ vbr vbq)) e3r ?_;refine wpAny_all e7f (by simp) λj hj=>?_;simp only[f2U]at hj;subst hj;exact cX h2 rfl (.inr ⟨E2 a3 _ v3p v3x hgX,rfl⟩) rfl (wpAny_done e6 (by rw[b5i];exact yH) _)
def c3W(P:Program)(G:GT)(t e T:TypeId)(s z r p q x b y:Tmp)(fd:Nat)(Q:St->Prop)(st:St):Prop:=
 ∃(xs:List (List D)) (z0 c:List D) (dP:List (TypeId×List Loc)) (kb0 uC fo:Nat) (u:TypeId) (out:Out),(r<st.tmps.length/\p<st.tmps.length/\b<st.tmps.length)/\st.eval G (.tmp s)=.d (.sl xs)/\eV (.t s) st.own=some (e,dP)/\(∀c∈xs,c.length=P.cellsOf e)/\st.eval G (.tmp z)=.d (.sl [z0])/\z0.length=P.cellsOf e/\
  (xs.length+1)*(P.bytesOf e+1)<=140737488355328/\st.eval G (.tmp q)=.d (.int .i64 (xs.length:Int))/\st.eval G (.tmp x)=.d (.agg c)/\c.length=P.cellsOf e/\st.eval G (.tmp y)=.ptr kb0 uC/\aH P T fd=some (fo,u)/\P.cellsOf u≠0/\qE P G t (.tmp b) (.tmp r) (tl3 st dP e r p b xs c kb0 (uC+fo))=some out/\Q out.st
theorem a0H{id:Nat}{ops:Array Oper}{Q:Exit->St->Prop}{m:Nat}{t e T:TypeId}{s z r p q x b y:Tmp}{fd:Nat}{y0 y1 y2 y3 y4:TypeId}{p0 p1 p2 p3 p4:String}{f0 f1 f2 f3 f4:Array Edge}(h0:ops[m]? =some ⟨some r,.call {callee:=.builtin .append,args:=#[.tmp s,.tmp z],argTypes:=#[t,t]},y0,p0,f0,none⟩)(h1:ops[m+1]? =some ⟨some p,.indexAddr t (.tmp r) (.tmp q),y1,p1,f1,none⟩)(h2:ops[m+2]? =some ⟨none,.store e (.tmp p) (.tmp x),y2,p2,f2,none⟩)(h3:ops[m+3]? =some ⟨some b,.fieldAddr T (.tmp y) fd,y3,p3,f3,none⟩)(h4:ops[m+4]? =some ⟨none,.store t (.tmp b) (.tmp r),y4,p4,f4,none⟩)(hB:(P.follows .mixedOrders&&c8Q ops m&&decide (ops.size=m+5)&&b0O ops (oQ m ops.size) m (m+1) (m+2) (m+3) (m+4))=true)(rK:(eY P e&&decide ((r≠q/\r≠x/\r≠p/\r≠b/\r≠y)/\(p≠x/\p≠b/\p≠y)/\b≠q/\b≠x))=true)(hu:P.underlying t=some (.slice e))(hF:a8z ops st=true)(h:VK P G [.ops true ops (ops.toList.take m)] .normal st λ_ s1=>c3W P G t e T s z r p q x b y fd (λs'=>Q .normal s') s1):SW P G (.region id ops true) st Q:=by
 rw[f2N,f2N,f2N,decide_eq_true_eq]at hB;obtain⟨⟨⟨hm,hL⟩,hU⟩,hR⟩:=hB;rw[f2N,decide_eq_true_eq]at rK;have h5:ops.size-m=5:=by rw[hU];exact Nat.add_sub_cancel_left ..
 refine b1Y hm hL hF (c2o h) ?_;rintro s1 base R μ a w QQ ⟨xs,z0,c,dP,kb0,uC,fo,u,out,k0,k1,k2,k3,k4,k5,k6,k7,k8,k9,k10,k11,k12,k13,k14⟩ hr hk;rw[h5];exact b9N (Q:=λs'=>Q .normal s') h0 h1 h2 h3 h4 hR rK.1 hu rK.2 k0 k1 k2 k3 k4 k5 k6 k7 k8 k9 k10 k11 k12 k13 k14 hr hk
end
end Go.VM
end
section
namespace Go.VM
open Go Go.RowKit
section
variable {P:Program} {G:GT} {st:St} {base:cN} {R:Nat->Nat->Prop} {μ:Nat->Nat} {a:Act} {w:World}
def b2e(P:Program)(G:GT)(all:Array Oper):List Oper->St->(Exit->St->Prop)->Prop
 |[],st,Q=>Q .normal st
 |o::rest,st,Q=>
  match dJ o all st.tmps with
  |some true=>
   match gJ G o st with
   |some (f,ds)=>(∃r own,(Enters P f/\CS P G f ds r own)/\b2e P G all rest (finish st o.dst r (a3z own)) Q)\/∃s',(Enters P f/\mP P G f (ds.map .d) (jL o) st o.dst s')/\b2e P G all rest s' Q
   |none=>
    match cR G o st with
    |some (f,f2L)=>∃x0,uN P G f f2L (jL o) o.dst st (λs=>b2e P G all rest s Q) Q x0
    |none=>
     match jT P G o st with
     |some out=>b2e P G all rest (finish out.st o.dst out.v (a7d false all o out.v out.act)) Q
     |none=>False
  |some false=>b2e P G all rest (finish st o.dst (.cJ []) .no) Q
  |none=>False
theorem c3X{all:Array Oper}:∀(l:List Oper) (st:St) (Q:Exit->St->Prop),b2e P G all l st Q->∀(base:cN) (R:Nat->Nat->Prop) (μ:Nat->Nat) (a:Act) (w:World),Rel P G base R μ st a w->
  ∀QQ:Exit->Act->World->Prop,(∀e s a' w' R' μ',Q e s->Rel P G base R' μ' s a' w'->Step base R w R' w'->QQ e a' w')->wpList P all QQ l a w
 |[],st,Q,h,base,R,μ,a,w,hr,QQ,hk=>hk _ st a w R μ h hr (.refl _ _ _)
 |o::rest,st,Q,h,base,R,μ,a,w,hr,QQ,hk=>by
  have go:mE P G false all o (λs=>b2e P G all rest s Q) st->wpList P all QQ (o::rest) a w:=λh1=>by unfold wpList;exact qO h1 hr λs v w' R' μ' h' eK oY=>c3X rest s Q h' base R' μ' _ w' eK QQ λe s a' w2 R2 μ2 q1 q2 q3=>hk e s a' w2 R2 μ2 q1 q2 (oY.trans q3)
  unfold b2e at h;split at h
  .rename_i hw;split at h
   .rename_i f ds hc;refine go ?_;unfold mE;rw[hw,hc];rcases h with⟨r,own,h1,h2⟩|⟨s',h1,h2⟩
    .exact .inl ⟨r,own,h1,λe=>Bool.noConfusion e,by simpa using h2⟩
    .exact .inr ⟨by simp[qN],s',h1,h2⟩
   .rename_i hc;split at h
    .rename_i f f2L hH;obtain⟨x0,h0⟩:=h;unfold uN at h0;obtain⟨he,h1,h2⟩:=h0;cases x0 with
     |true=>obtain⟨s',h3,h4⟩:=h1 rfl;refine go ?_;unfold mE;rw[hw,hc,hH];simp only[qN,Bool.false_and,a0p,Bool.false_eq_true,if_false];exact⟨s',⟨he,h3⟩,h4⟩
     |false=>obtain⟨v,h3,h4⟩:=h2 rfl;unfold wpList;rw[a1x hr hw,if_pos rfl];exact .inl (a6t hH ⟨he,h3⟩ hr λR' w' hs hb=>hk _ _ _ w' R' μ h4 (hr.a7F hs hb) hs)
    .rename_i hH;split at h
     .rename_i out hv;refine go ?_;unfold mE;rw[hw,hc,hH,hv];exact h
     .exact h.elim
  .rename_i hw;refine go ?_;unfold mE;rw[hw];exact h
  .exact h.elim
def XW(P:Program)(G:GT):Code->St->(Exit->St->Prop)->Prop
 | .skip,st,Q=>Q .normal st
 | .region id ops draw,st,Q=>match draw with
  |true=>SW P G (.region id ops true) st Q
  |false=>b2e P G ops ops.toList st Q
 | .seq x y,st,Q=>XW P G x st λe s=>match e with
  | .normal=>XW P G y s Q
  |e=>Q e s
 | .cond c x y,st,Q=>
  match st.eval G c with
  | .d (.bool t)=>if t then XW P G x st Q else XW P G y st Q
  | .pC=>XW P G x st Q/\XW P G y st Q
  |_=>False
 | .block id c,st,Q=>XW P G c st λe s=>match e with
  | .exit id'=>if id'=id then Q .normal s else Q (.exit id') s
  |e=>Q e s
 | .loop c,st,Q=>SW P G (.loop c) st Q
 | .exit id,st,Q=>Q (.exit id) st
 | .ret,st,Q=>Q .ret st
 | .label _,st,Q=>Q .normal st
 | .scope c,st,Q=>XW P G c st λe s=>match e with
  | .goto _=>False
  |e=>Q e s
 |_,_,_=>False
theorem a7J:∀(c:Code) (st:St) (Q:Exit->St->Prop),XW P G c st Q->SW P G c st Q
 | .skip,st,Q,h=>λbase R μ a w hr=>wp_skip ⟨st,R,μ,h,hr,.refl _ _ _⟩
 | .region id ops draw,st,Q,h=>by
  unfold XW at h;cases draw with
  |true=>exact h
  |false=>exact λbase R μ a w hr=>wp_region_list (c3X ops.toList st Q h base R μ a w hr _ λe s a' w' R' μ' q1 q2 q3=>⟨s,R',μ',q1,q2,q3⟩)
 | .seq x y,st,Q,h=>λbase R μ a w hr=>wp_seq (wp_mono (a7J x st _ h base R μ a w hr) λe a1 w1 ⟨s,R1,μ1,q1,q2,q3⟩=>by
   cases e with
   |normal=>exact wp_mono (a7J y s Q q1 base R1 μ1 a1 w1 q2) λe2 a2 w2 ⟨s2,R2,μ2,p1,p2,p3⟩=>⟨s2,R2,μ2,p1,p2,q3.trans p3⟩
   |_=>exact⟨s,R1,μ1,q1,q2,q3⟩)
 | .cond c x y,st,Q,h=>λbase R μ a w hr=>by
  unfold XW at h;split at h
  .rename_i t hc;refine wp_cond (hr.a1w hc) ?_;cases t
   .exact a7J y st Q h base R μ a w hr
   .exact a7J x st Q h base R μ a w hr
  .rename_i hc;obtain⟨t,ht⟩:=hr.c3u hc;refine wp_cond ht ?_;cases t
   .exact a7J y st Q h.2 base R μ a w hr
   .exact a7J x st Q h.1 base R μ a w hr
  .cases h
 | .block id c,st,Q,h=>λbase R μ a w hr=>wp_block (wp_mono (a7J c st _ h base R μ a w hr) λe a1 w1 ⟨s,R1,μ1,q1,q2,q3⟩=>by
   cases e with
   |exit id'=>
    simp only[Exit.inBlock];simp only at q1;by_cases hid:id'=id
    .rw[if_pos hid]at q1|-;exact⟨s,R1,μ1,q1,q2,q3⟩
    .rw[if_neg hid]at q1|-;exact⟨s,R1,μ1,q1,q2,q3⟩
   |_=>exact⟨s,R1,μ1,q1,q2,q3⟩)
 | .loop c,st,Q,h=>h
 | .exit id,st,Q,h=>λbase R μ a w hr=>wp_exit ⟨st,R,μ,h,hr,.refl _ _ _⟩
 | .ret,st,Q,h=>λbase R μ a w hr=>wp_ret ⟨st,R,μ,h,hr,.refl _ _ _⟩
 | .rangeFunc ..,_,_,h=>by simp[XW]at h
 | .scope c,st,Q,h=>λbase R μ a w hr=>wp_scope_straight (wp_mono (a7J c st _ h base R μ a w hr) λe a1 w1 ⟨s,R1,μ1,q1,q2,q3⟩=>by
   cases e with
   |goto l=>exact q1.elim
   |_=>exact⟨s,R1,μ1,q1,q2,q3⟩)
 | .label l,st,Q,h=>λbase R μ a w hr=>wp_label ⟨st,R,μ,h,hr,.refl _ _ _⟩
 | .goto ..,_,_,h=>by simp[XW]at h
inductive XI where
 |code (c:Code)
 |blk (id:Nat)
 |ops (all:Array Oper) (rest:List Oper)
 |scp
def XK(P:Program)(G:GT):List XI->Exit->St->(Exit->St->Prop)->Prop
 |[],e,st,Q=>Q e st
 | .code c::k,.normal,st,Q=>XW P G c st λe s=>XK P G k e s Q
 | .code _::k,e,st,Q=>XK P G k e st Q
 | .blk id::k,.exit id',st,Q=>if id'=id then XK P G k .normal st Q else XK P G k (.exit id') st Q
 | .blk _::k,e,st,Q=>XK P G k e st Q
 | .ops all rest::k,.normal,st,Q=>b2e P G all rest st λe s=>XK P G k e s Q
 | .ops _ _::k,e,st,Q=>XK P G k e st Q
 | .scp::_,.goto _,_,_=>False
 | .scp::k,e,st,Q=>XK P G k e st Q
def b9O(P:Program)(G:GT)(v:DV)(x y:Code)(k:List XI)(st:St)(Q:Exit->St->Prop):Prop:=
 match v with
 | .d (.bool t)=>if t then XK P G (.code x::k) .normal st Q else XK P G (.code y::k) .normal st Q
 | .pC=>XK P G (.code x::k) .normal st Q/\XK P G (.code y::k) .normal st Q
 |_=>False
end
section
variable {P:Program} {G:GT} {k:List XI} {st:St} {Q:Exit->St->Prop}
theorem e0e(e:Exit):XK P G [] e st Q=Q e st:=rfl
theorem d4D:XK P G (.code .skip::k) .normal st Q=XK P G k .normal st Q:=rfl
theorem e0f(x y:Code):XK P G (.code (.seq x y)::k) .normal st Q=XK P G (.code x::.code y::k) .normal st Q:=by simp only[XK,XW];congr 1;funext e s;cases e<;>rfl
theorem d4E(c:Operand)(x y:Code):XK P G (.code (.cond c x y)::k) .normal st Q=b9O P G (st.eval G c) x y k st Q:=rfl
theorem c9a(id:Nat)(c:Code):XK P G (.code (.block id c)::k) .normal st Q=XK P G (.code c::.blk id::k) .normal st Q:=by simp only[XK,XW];congr 1;funext e s;cases e<;>rfl
theorem c9b(l:Nat):XK P G (.code (.label l)::k) .normal st Q=XK P G k .normal st Q:=rfl
theorem b3X:XK P G (.scp::k) .normal st Q=XK P G k .normal st Q:=rfl
theorem c2r:XK P G (.scp::k) .ret st Q=XK P G k .ret st Q:=rfl
theorem b9P(id:Nat):XK P G (.scp::k) (.exit id) st Q=XK P G k (.exit id) st Q:=rfl
theorem c5I(id:Nat)(ops:Array Oper):XK P G (.code (.region id ops false)::k) .normal st Q=XK P G (.ops ops ops.toList::k) .normal st Q:=rfl
theorem c9c(id:Nat)(ops:Array Oper):XK P G (.code (.region id ops true)::k) .normal st Q=SW P G (.region id ops true) st (λe s=>XK P G k e s Q):=rfl
theorem d4F(id:Nat):XK P G (.code (.exit id)::k) .normal st Q=XK P G k (.exit id) st Q:=rfl
theorem e0g:XK P G (.code .ret::k) .normal st Q=XK P G k .ret st Q:=rfl
theorem d4G(c:Code):XK P G (.code (.loop c)::k) .normal st Q=SW P G (.loop c) st (λe s=>XK P G k e s Q):=rfl
theorem b9Q(c:Code):XK P G (.code c::k) .ret st Q=XK P G k .ret st Q:=rfl
theorem b6I(c:Code)(id:Nat):XK P G (.code c::k) (.exit id) st Q=XK P G k (.exit id) st Q:=rfl
theorem b3Y(id:Nat):XK P G (.blk id::k) .normal st Q=XK P G k .normal st Q:=rfl
theorem c2s(id:Nat):XK P G (.blk id::k) .ret st Q=XK P G k .ret st Q:=rfl
theorem b9R(id id':Nat):XK P G (.blk id::k) (.exit id') st Q=if id'=id then XK P G k .normal st Q else XK P G k (.exit id') st Q:=rfl
theorem c2t(all:Array Oper):XK P G (.ops all []::k) .normal st Q=XK P G k .normal st Q:=rfl
theorem a1J(ps:List PanicEntry):∀k:List XI,XK P G k (.panic ps) st Q=Q (.panic ps) st
 |[]=>rfl
 | .code _::k=>by simpa only[XK]using a1J ps k
 | .blk _::k=>by simpa only[XK]using a1J ps k
 | .ops _ _::k=>by simpa only[XK]using a1J ps k
 | .scp::k=>by simpa only[XK]using a1J ps k
def jC(P:Program)(G:GT)(f:FuncId)(ds:List D)(ls:List (Option Loc))(dst:Option Tmp)(all:Array Oper)(rest:List Oper)(k:List XI)(st:St)(Q:Exit->St->Prop):Prop:=
 (∃r own,(Enters P f/\CS P G f ds r own)/\XK P G (.ops all rest::k) .normal (finish st dst r (a3z own)) Q)\/
 (∃s',(Enters P f/\mP P G f (ds.map .d) ls st dst s')/\XK P G (.ops all rest::k) .normal s' Q)
theorem jC.mk{ls:List (Option Loc)}{f:FuncId}{ds:List D}{r:DV}{own:Option TypeId}{dst:Option Tmp}{all:Array Oper}{rest:List Oper}(he:Enters P f)(hc:CS P G f ds r own)(h:XK P G (.ops all rest::k) .normal (finish st dst r (a3z own)) Q):jC P G f ds ls dst all rest k st Q:=.inl ⟨r,own,⟨he,hc⟩,h⟩
def b5n(P:Program)(G:GT)(x:Option Out)(dst:Option Tmp)(all:Array Oper)(rest:List Oper)(k:List XI)(Q:Exit->St->Prop):Prop:=
 match x with
 |some out=>XK P G (.ops all rest::k) .normal (finish out.st dst out.v out.act) Q
 |none=>False
theorem c2u{st':St}{v:DV}{act:OA}{dst:Option Tmp}{all:Array Oper}{rest:List Oper}:b5n P G (some ⟨v,act,st'⟩) dst all rest k Q=XK P G (.ops all rest::k) .normal (finish st' dst v act) Q:=rfl
theorem rX{c:Prop}[Decidable c]{out:Out}{dst:Option Tmp}{all:Array Oper}{rest:List Oper}(hc:c)(h:b5n P G (some out) dst all rest k Q):b5n P G (if c then some out else none) dst all rest k Q:=by rw[if_pos hc];exact h
theorem c2v(x y:Code):b9O P G (.d (.bool true)) x y k st Q=XK P G (.code x::k) .normal st Q:=rfl
theorem c5J(x y:Code):b9O P G .pC x y k st Q=(XK P G (.code x::k) .normal st Q/\XK P G (.code y::k) .normal st Q):=rfl
theorem b9S(x y:Code):b9O P G (.d (.bool false)) x y k st Q=XK P G (.code y::k) .normal st Q:=rfl
def eF(P:Program)(G:GT)(f:FuncId)(f2L:List DV)(ls:List (Option Loc))(dst:Option Tmp)(all:Array Oper)(rest:List Oper)(k:List XI)(st:St)(Q:Exit->St->Prop):Prop:=
 ∃x0,uN P G f f2L ls dst st (λs=>XK P G (.ops all rest::k) .normal s Q) (λe s=>XK P G k e s Q) x0
theorem eF.mk{f:FuncId}{f2L:List DV}{ls:List (Option Loc)}{dst:Option Tmp}{all:Array Oper}{rest:List Oper}{x0:Bool}(h:uN P G f f2L ls dst st (λs=>XK P G (.ops all rest::k) .normal s Q) Q x0):eF P G f f2L ls dst all rest k st Q:=by
 refine⟨x0,?_⟩;unfold uN at h|-;refine⟨h.1,h.2.1,λh0=>?_⟩;obtain⟨v,h1,h2⟩:=h.2.2 h0;refine⟨v,h1,?_⟩
 show XK P G k (.panic (yI v)) (a0F st) Q
 rw[a1J];exact h2
def a3Y(P:Program)(G:GT)(o:Oper)(all:Array Oper)(rest:List Oper)(k:List XI)(st:St)(Q:Exit->St->Prop):Prop:=
 match gJ G o st with
 |some (f,ds)=>jC P G f ds (jL o) o.dst all rest k st Q
 |none=>
  match cR G o st with
  |some (f,f2L)=>eF P G f f2L (jL o) o.dst all rest k st Q
  |none=>b5n P G ((jT P G o st).map λout=>⟨out.v,a7d false all o out.v out.act,out.st⟩) o.dst all rest k Q
def a2m(P:Program)(G:GT)(y:DV)(want:Bool)(o:Oper)(all:Array Oper)(rest:List Oper)(k:List XI)(st:St)(Q:Exit->St->Prop):Prop:=
 match y with
 | .undef=>False
 | .pC=>False
 | .d (.bool b)=>if b=want then a3Y P G o all rest k st Q else XK P G (.ops all rest::k) .normal (finish st o.dst (.cJ []) .no) Q
 |_=>XK P G (.ops all rest::k) .normal (finish st o.dst (.cJ []) .no) Q
theorem a0I(b want:Bool)(o:Oper)(all:Array Oper)(rest:List Oper):a2m P G (.d (.bool b)) want o all rest k st Q=if b=want then a3Y P G o all rest k st Q else XK P G (.ops all rest::k) .normal (finish st o.dst (.cJ []) .no) Q:=rfl
theorem c2w(ds:List D)(want:Bool)(o:Oper)(all:Array Oper)(rest:List Oper):a2m P G (.cJ ds) want o all rest k st Q=XK P G (.ops all rest::k) .normal (finish st o.dst (.cJ []) .no) Q:=rfl
theorem c5K(o:Oper)(all:Array Oper)(rest:List Oper):a2m P G (.d (.bool true)) true o all rest k st Q=a3Y P G o all rest k st Q:=by rw[a0I,if_pos rfl]
theorem c5L(o:Oper)(all:Array Oper)(rest:List Oper):a2m P G (.d (.bool false)) false o all rest k st Q=a3Y P G o all rest k st Q:=by rw[a0I,if_pos rfl]
theorem c5M(o:Oper)(all:Array Oper)(rest:List Oper):a2m P G (.d (.bool true)) false o all rest k st Q=XK P G (.ops all rest::k) .normal (finish st o.dst (.cJ []) .no) Q:=by rw[a0I,if_neg (by decide)]
theorem c5N(o:Oper)(all:Array Oper)(rest:List Oper):a2m P G (.d (.bool false)) true o all rest k st Q=XK P G (.ops all rest::k) .normal (finish st o.dst (.cJ []) .no) Q:=by rw[a0I,if_neg (by decide)]
theorem a9X(all:Array Oper)(o:Oper)(rest:List Oper):XK P G (.ops all (o::rest)::k) .normal st Q=match dJ o all st.tmps with
  |some true=>a3Y P G o all rest k st Q
  |some false=>XK P G (.ops all rest::k) .normal (finish st o.dst (.cJ []) .no) Q
  |none=>False:=by
 simp only[XK,b2e,a3Y,jC,eF,b5n];cases dJ o all st.tmps with
 |none=>rfl
 |some b=>
  cases b with
  |false=>rfl
  |true=>
   simp only;cases gJ G o st with
   |some p=>rfl
   |none=>
    simp only;cases cR G o st with
    |some p=>rfl
    |none=>simp only;cases jT P G o st<;>rfl
theorem b9T(all:Array Oper)(dst:Option Tmp)(op:Op)(ty:TypeId)(pos:String)(after:Array Edge)(rest:List Oper):
  XK P G (.ops all (⟨dst,op,ty,pos,after,none⟩::rest)::k) .normal st Q=a3Y P G ⟨dst,op,ty,pos,after,none⟩ all rest k st Q:=by
 rw[a9X]
 rfl
theorem b6J(all:Array Oper)(dst:Option Tmp)(op:Op)(ty:TypeId)(pos:String)(after:Array Edge)(j:Nat)(want:Bool)(rest:List Oper):
  XK P G (.ops all (⟨dst,op,ty,pos,after,some (j,want)⟩::rest)::k) .normal st Q=a2m P G (sH all st.tmps j) want ⟨dst,op,ty,pos,after,some (j,want)⟩ all rest k st Q:=by
 rw[a9X];simp only[dJ,a2m];generalize sH all st.tmps j=y;cases y with
 |d x=>
  cases x with
  |bool b=>cases b<;>cases want<;>rfl
  |_=>rfl
 |_=>rfl
theorem SW.xk{c:Code}(h:XK P G [.code c] .normal st Q):SW P G c st Q:=a7J c st Q h
theorem SW.vB{c:Code}{ι:Type}(ws:ι->List (Nat×DV))(H:ι->List (Nat×aW))(own:ι->List (TypeId×List Loc))(m:ι->Nat)(x0:ι)(h0:yF st (oI c st (ws x0) (H x0) (own x0)))(round:∀x,XK P G [.code c] .normal (oI c st (ws x) (H x) (own x)) λe s=>match e with
   | .normal=>bJ (λy=>oI c st (ws y) (H y) (own y)) m x s
   |e=>Q e s):SW P G (.loop c) st Q:=SW.e3m ws H own m x0 h0 λx=>SW.xk (round x)
end
attribute [irreducible] XK jC eF b5n b9O a2m
attribute [simp] c9b b3X c2r b9P e0e d4D e0f d4E c9a c5I c9c d4F e0g d4G b9Q b6I b3Y c2s b9R c2t b9T b6J a3Y c2u c2v b9S c5J c2w c5K c5L c5M c5N a1J
end Go.VM
end
section
namespace Go.VM
open Go Go.RowKit
section
variable {P:Program} {G:GT} {st:St} {base:cN} {R:Nat->Nat->Prop} {μ:Nat->Nat} {a:Act} {w:World}
def a4O:Op->Bool
 | .move _=>true
 | .nilCheck _=>true
 | .fieldAddr _ _ _=>true
 |_=>false
theorem b2f{o:Oper}{all:Array Oper}{K:St->Prop}(hg:o.guard=none)(hk:a4O o.op=true)(h:mE P G true all o K st)(hr:Rel P G base R μ st a w):∃v,∀w',(execOp a.eval o).run P w'=.ok (.value v) w':=by
 unfold mE at h;rw[show dJ o all st.tmps=some true from by unfold dJ;rw[hg]]at h;cases mV:o.op with
 |move x=>exact⟨a.eval x,λw'=>by simp[execOp,mV]⟩
 |nilCheck x=>
  simp only[gJ,cR,mV,jT]at h;unfold tG at h;split at h
  .rename_i out ho;split at ho
   .rename_i k off hx;exact⟨_,λw'=>by simp[execOp,mV,hr.dA hx];rfl⟩
   .rename_i cs hx;obtain⟨b,off,he,_⟩:=(hr.mD hx).a3r;exact⟨_,λw'=>by simp[execOp,mV,he];rfl⟩
   .rename_i f hx;exact⟨_,λw'=>by simp[execOp,mV,hr.b1b hx];rfl⟩
   .rename_i f cs hx;obtain⟨vs,he,_,_⟩:=(hr.mD hx).a6Y;exact⟨_,λw'=>by simp[execOp,mV,he];rfl⟩
   .cases ho
  .exact h.elim
 |fieldAddr t x i=>
  simp only[gJ,cR,mV,jT]at h;unfold qY at h;split at h
  .rename_i out ho;split at ho
   .rename_i off u hf;split at ho
    .cases ho
    .rename_i dX;split at ho
     .rename_i k o2 hx;exact⟨_,λw'=>vU (P:=P) mV hf dX (hr.dA hx)⟩
     .rename_i cs hx;obtain⟨b,o2,he,_⟩:=(hr.mD hx).a3r;exact⟨_,λw'=>vU (P:=P) mV hf dX he⟩
     .cases ho
   .cases ho
  .exact h.elim
 |_=>simp[a4O,mV]at hk
theorem b9U{o:Oper}{all:Array Oper}{K:St->Prop}(hg:o.guard=none)(hk:a4O o.op=true)(h:mE P G true all o K st)(hr:Rel P G base R μ st a w):
  ∃v s R' μ',(∀w',(execOp a.eval o).run P w'=.ok (.value v) w')/\K s/\Rel P G base R' μ' s (a.put o.dst v) w/\Step base R w R' w:=by
 obtain⟨v,hv⟩:=b2f hg hk h hr;have h1:=qO (Q:=λ_ _ _=>False) (KK:=λa' w'=>∃s R' μ',K s/\Rel P G base R' μ' s a' w'/\Step base R w R' w') h hr (λs v w' R' μ' q1 q2 q3=>⟨s,R',μ',q1,q2,q3⟩);rw[if_pos (by unfold Region.wanted;rw[hg])]at h1;rcases h1 with h1|⟨_,_,_,h2⟩
 .unfold Oper.wp at h1;rw[hv w]at h1;obtain⟨s,R',μ',q1,q2,q3⟩:=h1;exact⟨v,s,R',μ',hv,q1,q2,q3⟩
 .exact h2.elim
def b2g(ops:Array Oper):List Nat->Array Bool->Bool
 |[],_=>true
 |i::r,listed=>(match ops[i]? with
  |some o=>a4O o.op&&(o.guard==none)&&o.dst.isSome
  |none=>false)&&Region.noSelect ops&&Region.free .any ops listed i&&(Region.ready .any ops listed).contains i&&b2g ops r (listed.setIfInBounds i true)
theorem b6K{ops:Array Oper}{K:St->Prop}{QQ:Exit->Act->World->Prop}(hQ:∀c a a' w,a.defers=a'.defers->a.tmps.size=a'.tmps.size->QQ (.panic c) a w->QQ (.panic c) a' w):∀(l:List Nat) (listed:Array Bool) (fuel:Nat) (st:St),b2g ops l listed=true->sE P G true ops (sel ops l) st K->
  ∀(base:cN) (R:Nat->Nat->Prop) (μ:Nat->Nat) (a:Act) (w:World),Rel P G base R μ st a w->(∀s a' R' μ',K s->Rel P G base R' μ' s a' w->Step base R w R' w->wpAny P .any ops QQ fuel (bY l listed) a' w)->wpAny P .any ops QQ (l.length+fuel) listed a w
 |[],listed,fuel,st,_,h,base,R,μ,a,w,hr,hk=>by simpa[bY]using hk st a R μ h hr (.refl _ _ _)
 |i::l,listed,fuel,st,hB,h,base,R,μ,a,w,hr,hk=>by
  simp only[b2g,f2N]at hB;obtain⟨⟨⟨⟨ho,c9d⟩,hf⟩,hrd⟩,hB'⟩:=hB;split at ho;rotate_left
  .cases ho
  rename_i o hoi;simp only[f2N,beq_iff_eq]at ho;obtain⟨⟨hsk,hg⟩,hd⟩:=ho;simp only[sel,hoi,sE]at h;obtain⟨v,s,R',μ',hv,hK,eK,oY⟩:=b9U hg hsk h hr;rw[show(i::l).length+fuel=(l.length+fuel)+1 by simp only[List.length_cons];omega];refine wpAny_take (v:=v) hoi c9d hf hrd (λc a w h=>hQ c _ _ w ?_ ?_ h) (.inl ⟨by unfold Region.wanted;rw[hg],hv⟩) ?_
  .cases o.dst<;>rfl
  .cases o.dst<;>simp[Act.put]
  .exact b6K hQ l _ fuel s hB' hK base R' μ' _ w eK λs2 a2 R2 μ2 q1 q2 q3=>hk s2 a2 R2 μ2 q1 q2 (oY.trans q3)
def wX(Q:Exit->St->Prop):Exit->St->Prop:=λe s=>match e with
 | .panic c=>∀s,Q (.panic c) s
 |e=>Q e s
theorem b6L{Q:Exit->St->Prop}{s:St}:wX Q .normal s=Q .normal s:=rfl
theorem a3Z{Q:Exit->St->Prop}{s:St}{c:List PanicEntry}:wX Q (.panic c) s=∀s,Q (.panic c) s:=rfl
theorem b2h{Q:Exit->St->Prop}{e:Exit}{s:St}(h:wX Q e s):Q e s:=by cases e<;>first|exact h|exact h s
theorem Rel.b2i(hr:Rel P G base R μ st a w)(a':Act)(hd:a'.defers=[]):Rel P G base R μ ⟨List.replicate a'.tmps.size .undef,[],[]⟩ a' w where
 defers:=hd
 size:=by simp
 tmps:=λi v d _ hd=>by
  rw[List.getElem?_replicate]at hd;split at hd
  .simp at hd;subst hd;exact .undef _
  .cases hd
 gM:=λk o h=>by cases h
 inj:=λk k' o o' h=>by cases h
 dF:=λc hc=>by cases hc
 own:=⟨[],rfl,λi c v h _=>by simp at h,.nil⟩
 tP:=hr.tP
 pE:=hr.pE
 base:=hr.base
 pass:=hr.pass
theorem a4a{ops:Array Oper}:∀(l:List Nat) (listed:Array Bool),b2g ops l listed=true->eB ops listed->eB ops (bY l listed)
 |[],_,_,h=>h
 |i::l,listed,hB,h=>by simp only[b2g,f2N]at hB;exact a4a l _ hB.2 (h.set (by simpa using hB.1.2))
def d7m(ops:Array Oper)(ss:List Nat)(c:Nat)(pS:List Nat)(T:Ord):Bool:=(eA ops).isEmpty&&b2g ops ss (Array.replicate ops.size false)&&decide (ss.length+pS.length+1<=ops.size)&&inB ops c pS&&a7C ops c pS (bY ss (Array.replicate ops.size false))&& !(Region.ready .any ops (bY pS (bY ss (Array.replicate ops.size false)))).isEmpty&&((Region.ready .any ops (bY pS (bY ss (Array.replicate ops.size false)))).all λj=>a2k c T j)&&b2b ops c T (ops.size-ss.length-pS.length) (bY pS (bY ss (Array.replicate ops.size false)))
theorem eB.zero{ops:Array Oper}:eB ops (Array.replicate ops.size false):=λk hk=>by
 rcases Nat.lt_or_ge k ops.size with h'|h'
 .simp[h']at hk
 .simp[Nat.not_lt.2 h']at hk
theorem kN{id:Nat}{ops:Array Oper}{Q:Exit->St->Prop}(ss:List Nat)(c:Nat)(pS:List Nat)(T:Ord)(x0:Bool)(hm:P.follows .mixedOrders=true)(hB:d7m ops ss c pS T=true)(h:VK P G [.ops true ops (sel ops ss)] .normal st λ_ s=>VK P G [.ops true ops (sel ops pS)] .normal s λ_ s=>oR P G ops c (wX Q) x0 T s):SW P G (.region id ops true) st Q:=by
 simp only[d7m,f2N,List.isEmpty_iff,decide_eq_true_eq,Bool.not_eq_true',List.isEmpty_eq_false_iff,f2Q]at hB;obtain⟨⟨⟨⟨⟨⟨⟨hN,mM⟩,hlen⟩,hin⟩,hs⟩,dX⟩,cY⟩,ht⟩:=hB;obtain⟨k,hk⟩:=Nat.exists_eq_add_of_le hlen;have mO:=a4a ss _ mM eB.zero;have e:ops.size-ss.length-pS.length=k+1:=by omega
 rw[e]at ht;refine SW.mono (λe s=>b2h) ?_;intro base R μ a w hr;obtain⟨eK,oY⟩:=hr.drew;refine wp_region_any hm ?_;simp only[VK]at h;have main:=b6K (QQ:=λe a' w'=>∃s' R' μ',wX Q e s'/\Rel P G base R' μ' s' a' w'/\Step base R w R' w') (K:=λs=>sE P G true ops (sel ops pS) s λs=>oR P G ops c (wX Q) x0 T s) (λc a a' w h1 h2 ⟨s',R',μ',q1,q2,q3⟩=>⟨⟨List.replicate a'.tmps.size .undef,[],[]⟩,R',μ',q1,q2.b2i a' (h1▸q2.defers),q3⟩) ss _ (pS.length+(k+1)) st mM h base R μ a w.drew eK λs a' R1 μ1 q1 q2 q3=>by
  cases x0 with
  |false=>have h2:=tL (λs hs=>oR.pan T s hs) _ _ q1;have:=a4M (P:=P) (G:=G) (c:=c) (Z:=a0G P G ops c (wX Q)) hN pS _ s (k+1) mO hin hs (rW (λs oY=>⟨dX,λj hj=>a3W T k _ s ht oY j hj (cY j hj)⟩) _ _ (uM pS s hin h2));exact a7G _ _ s this base R1 μ1 a' w.drew q2 λv s a' w' R' μ' p1 p2 p3=>⟨s,R',μ',p1,p2,oY.trans (q3.trans p3)⟩
  |true=>have h2:=tL (λs hs=>oR.ret T s hs) _ _ q1;have:=a4L (P:=P) (G:=G) (c:=c) (Q:=λs=>wX Q .normal s) hN pS _ s (k+1) mO hs (rW (λs oY=>⟨λh'=>(dX h').elim,λj hj=>a7D hN T k _ s (eB.bY pS _ mO hs) ht oY j hj (cY j hj)⟩) _ _ (uM pS s hin h2)) λ_=>trivial;exact a7B _ _ s this base R1 μ1 a' w.drew q2 λs a' w' R' μ' p1 p2 p3=>⟨s,R',μ',p1,p2,oY.trans (q3.trans p3)⟩
 rw[show ss.length+(pS.length+(k+1))=ops.size by omega]at main;exact main
def b6M(ops:Array Oper)(m:Nat)(ss:List Nat)(c:Nat)(pS:List Nat)(T:Ord):Bool:=(eA ops).isEmpty&&b2g ops ss (Array.replicate ops.size false)&&c8Y m ss&&decide (ss.length+pS.length+1<=m)&&decide (m<=ops.size)&&wI ops m&&c8Y m pS&&inB ops c pS&&a7C ops c pS (bY ss (Array.replicate ops.size false))&& !(Region.ready .any ops (bY pS (bY ss (Array.replicate ops.size false)))).isEmpty&&((Region.ready .any ops (bY pS (bY ss (Array.replicate ops.size false)))).all λj=>a2k c T j)&&a5F ops m c T (m-ss.length-pS.length) (bY pS (bY ss (Array.replicate ops.size false)))
theorem a7K{id:Nat}{ops:Array Oper}{m:Nat}{TT:St->Prop}{Q:Exit->St->Prop}(ss:List Nat)(c:Nat)(pS:List Nat)(T:Ord)(x0:Bool)(hm:P.follows .mixedOrders=true)(hB:b6M ops m ss c pS T=true)(h:VK P G [.ops true ops (sel ops ss)] .normal st λ_ s=>VK P G [.ops true ops (sel ops pS)] .normal s λ_ s=>oR P G ops c (b2d TT (wX Q)) x0 T s)(hT:∀s base R μ a w (QQ:Exit->Act->World->Prop),TT s->Rel P G base R μ s a w->(∀s' a' w' R' μ',Q .normal s'->Rel P G base R' μ' s' a' w'->Step base R w R' w'->QQ .normal a' w')->wpAny P .any ops QQ (ops.size-m) (oQ m ops.size) a w):SW P G (.region id ops true) st Q:=by
 simp only[b6M,f2N,List.isEmpty_iff,decide_eq_true_eq,Bool.not_eq_true',List.isEmpty_eq_false_iff,f2Q]at hB;obtain⟨⟨⟨⟨⟨⟨⟨⟨⟨⟨⟨hN,mM⟩,e8O⟩,hlen⟩,e3a⟩,hTA⟩,oE⟩,hin⟩,hs⟩,dX⟩,cY⟩,ht⟩:=hB;obtain⟨k,hk⟩:=Nat.exists_eq_add_of_le hlen;have mO:=a4a ss _ mM eB.zero;have e:m-ss.length-pS.length=k+1:=by omega
 rw[e]at ht;obtain⟨k',hk'⟩:=Nat.exists_eq_add_of_le (Nat.le_trans hlen e3a);refine SW.mono (λe s=>b2h) ?_;intro base R μ a w hr;obtain⟨eK,oY⟩:=hr.drew;refine wp_region_any hm ?_;simp only[VK]at h;have main:=b6K (QQ:=λe a' w'=>∃s' R' μ',wX Q e s'/\Rel P G base R' μ' s' a' w'/\Step base R w R' w') (K:=λs=>sE P G true ops (sel ops pS) s λs=>oR P G ops c (b2d TT (wX Q)) x0 T s) (λc a a' w h1 h2 ⟨s',R',μ',q1,q2,q3⟩=>⟨⟨List.replicate a'.tmps.size .undef,[],[]⟩,R',μ',q1,q2.b2i a' (h1▸q2.defers),q3⟩) ss _ (pS.length+(k'+1)) st mM h base R μ a w.drew eK λs a' R1 μ1 q1 q2 q3=>by
  cases x0 with
  |false=>have h2:=tL (λs hs=>oR.pan T s hs) _ _ q1;have:=a4M (P:=P) (G:=G) (c:=c) (Z:=a0G P G ops c (b2d TT (wX Q))) hN pS _ s (k'+1) mO hin hs (rW (λs oY=>⟨dX,λj hj=>a4N T k k' _ s (by omega) ht oY j hj (cY j hj)⟩) _ _ (uM pS s hin h2));exact a7G _ _ s this base R1 μ1 a' w.drew q2 λv s a' w' R' μ' p1 p2 p3=>⟨s,R',μ',p1,p2,oY.trans (q3.trans p3)⟩
  |true=>
   have h2:=tL (λs hs=>oR.ret T s hs) _ _ q1;have h3:=a6u (P:=P) (G:=G) (m:=m) (c:=c) (Q:=TT) hTA hN pS _ s (k+1) oE mO hs (rW (λs oY=>⟨dX,λj hj=>a7H hTA hN T k _ s (eB.bY pS _ mO hs) ht oY j hj (cY j hj)⟩) _ _ (uM pS s hin h2));have h4:=b5m (r:=ops.size-m) (QQ:=λe a' w'=>∃s' R' μ',wX Q e s'/\Rel P G base R' μ' s' a' w'/\Step base R w R' w') _ _ s h3 base R1 μ1 a' w.drew q2 λs a' w' R' μ' p1 p2 p3=>hT s base R' μ' a' w' _ p1 p2 λs2 a2 w2 R2 μ2 o1 o2 o3=>⟨s2,R2,μ2,o1,o2,oY.trans (q3.trans (p3.trans o3))⟩
   rw[show pS.length+(k+1)+(ops.size-m)=pS.length+(k'+1) by omega]at h4;exact h4
 rw[show ss.length+(pS.length+(k'+1))=ops.size by omega]at main;exact main
theorem a7L{id:Nat}{ops:Array Oper}{Q:Exit->St->Prop}(m:Nat){t e:TypeId}{s z r p q x b:Tmp}{y0 y1 y2 y3:TypeId}{p0 p1 p2 p3:String}{f0 f1 f2 f3:Array Edge}(ss:List Nat)(c:Nat)(pS:List Nat)(T:Ord)(x0:Bool)(h0:ops[m]? =some ⟨some r,.call {callee:=.builtin .append,args:=#[.tmp s,.tmp z],argTypes:=#[t,t]},y0,p0,f0,none⟩)(h1:ops[m+1]? =some ⟨some p,.indexAddr t (.tmp r) (.tmp q),y1,p1,f1,none⟩)(h2:ops[m+2]? =some ⟨none,.store e (.tmp p) (.tmp x),y2,p2,f2,none⟩)(h3:ops[m+3]? =some ⟨none,.store t (.tmp b) (.tmp r),y3,p3,f3,none⟩)(hB:(P.follows .mixedOrders&&b6M ops m ss c pS T&&b5k ops m)=true)(rK:(eY P e&&decide ((r≠q/\r≠x/\r≠p/\r≠b)/\p≠x/\p≠b))=true)(hu:P.underlying t=some (.slice e))(h:VK P G [.ops true ops (sel ops ss)] .normal st λ_ s1=>VK P G [.ops true ops (sel ops pS)] .normal s1 λ_ s1=>oR P G ops c (b2d (d9X P G t e s z r p q x b (λs'=>Q .normal s')) (wX Q)) x0 T s1):SW P G (.region id ops true) st Q:=by
 rw[f2N,f2N]at hB;obtain⟨⟨hm,hL⟩,hR⟩:=hB;rw[f2N,decide_eq_true_eq]at rK;simp only[b5k,f2N,decide_eq_true_eq,beq_iff_eq]at hR;obtain⟨⟨⟨⟨⟨⟨⟨⟨⟨⟨hU,r0⟩,r1⟩,r2⟩,r3⟩,r4⟩,r5⟩,r6⟩,r7⟩,r8⟩,r9⟩:=hR;have h4:ops.size-m=4:=by rw[hU];exact Nat.add_sub_cancel_left ..
 refine a7K ss c pS T x0 hm hL h ?_;rintro s1 base R μ a w QQ ⟨xs,z0,c,dP,out,k0,k1,k2,k3,k4,k5,k6,k7,k8,k9,k10,k11⟩ hr hk;rw[h4];exact d4y (Q:=λs'=>Q .normal s') h0 h1 h2 h3 r0 r1 r2 r3 r4 r5 r6 r7 r8 r9 rK.1 hu rK.2 k0 k1 k2 k3 k4 k5 k6 k7 k8 k9 k10 k11 hr hk
theorem dI{id:Nat}{ops:Array Oper}{Q:Exit->St->Prop}(m:Nat){t e T:TypeId}{s z r p q x b y:Tmp}{fd:Nat}{y0 y1 y2 y3 y4:TypeId}{p0 p1 p2 p3 p4:String}{f0 f1 f2 f3 f4:Array Edge}(ss:List Nat)(c:Nat)(pS:List Nat)(O:Ord)(x0:Bool)(h0:ops[m]? =some ⟨some r,.call {callee:=.builtin .append,args:=#[.tmp s,.tmp z],argTypes:=#[t,t]},y0,p0,f0,none⟩)(h1:ops[m+1]? =some ⟨some p,.indexAddr t (.tmp r) (.tmp q),y1,p1,f1,none⟩)(h2:ops[m+2]? =some ⟨none,.store e (.tmp p) (.tmp x),y2,p2,f2,none⟩)(h3:ops[m+3]? =some ⟨some b,.fieldAddr T (.tmp y) fd,y3,p3,f3,none⟩)(h4:ops[m+4]? =some ⟨none,.store t (.tmp b) (.tmp r),y4,p4,f4,none⟩)(hB:(P.follows .mixedOrders&&b6M ops m ss c pS O&&decide (ops.size=m+5)&&b0O ops (oQ m ops.size) m (m+1) (m+2) (m+3) (m+4))=true)(rK:(eY P e&&decide ((r≠q/\r≠x/\r≠p/\r≠b/\r≠y)/\(p≠x/\p≠b/\p≠y)/\b≠q/\b≠x))=true)(hu:P.underlying t=some (.slice e))(h:VK P G [.ops true ops (sel ops ss)] .normal st λ_ s1=>VK P G [.ops true ops (sel ops pS)] .normal s1 λ_ s1=>oR P G ops c (b2d (c3W P G t e T s z r p q x b y fd (λs'=>Q .normal s')) (wX Q)) x0 O s1):SW P G (.region id ops true) st Q:=by
 rw[f2N,f2N,f2N,decide_eq_true_eq]at hB;obtain⟨⟨⟨hm,hL⟩,hU⟩,hR⟩:=hB;rw[f2N,decide_eq_true_eq]at rK;have h5:ops.size-m=5:=by rw[hU];exact Nat.add_sub_cancel_left ..
 refine a7K ss c pS O x0 hm hL h ?_;rintro s1 base R μ a w QQ ⟨xs,z0,c,dP,kb0,uC,fo,u,out,k0,k1,k2,k3,k4,k5,k6,k7,k8,k9,k10,k11,k12,k13,k14⟩ hr hk;rw[h5];exact b9N (Q:=λs'=>Q .normal s') h0 h1 h2 h3 h4 hR rK.1 hu rK.2 k0 k1 k2 k3 k4 k5 k6 k7 k8 k9 k10 k11 k12 k13 k14 hr hk
def c9e:List DV->List DV->Prop
 |[],[]=>True
 |d::ds,d'::ds'=>(d'=.undef\/a8A d d')/\c9e ds ds'
 |_,_=>False
def d4H:aW->aW->Prop
 | .cells cs,.cells sX=>c9e cs sX
 |o,o'=>o'=o
def c9f(H:List (Nat×aW)):List (Nat×aW)->Prop
 |[]=>True
 |(k,o')::r=>(∃o,getKey k H=some o/\d4H o o')/\c9f H r
theorem b5o:∀ {cs sX:List DV},c9e cs sX->sX.length=cs.length/\∀(i:Nat) (d':DV),sX[i]? =some d'->∃d,cs[i]? =some d/\(d'=.undef\/a8A d d')
 |[],[],_=>⟨rfl,λi d' h=>by simp at h⟩
 |d::ds,d'::ds',h=>by
  obtain⟨h1,h2⟩:=b5o h.2;refine⟨by simp[h1],λi e he=>?_⟩;cases i with
  |zero=>simp at he;subst he;exact⟨d,rfl,h.1⟩
  |succ i=>simpa using h2 i e (by simpa using he)
theorem b5p{H:List (Nat×aW)}:∀ {H1:List (Nat×aW)},c9f H H1->∀k o',getKey k H1=some o'->∃o,getKey k H=some o/\d4H o o'
 |[],_,k,o',h=>by simp[getKey]at h
 |(k0,o0)::r,hw,k,o',h=>by
  unfold getKey at h;split at h
  .rename_i he;cases h;subst he;exact hw.1
  .exact b5p hw.2 k o' h
theorem d4I{x y:D}(h:WkD x y)(hx:x.one=true):y.one=true:=by cases h<;>first|exact hx|rfl|(simp[D.one]at hx|-)
theorem c5O{d d':DV}(h:a8A d d')(hc:d.cell=true):d'.cell=true:=by cases d<;>cases d'<;>simp only[a8A]at h<;>first|exact d4I h hc|(cases h;exact hc)|(cases h;done)|(simp[DV.cell]at hc)
theorem c9g{b:Nat}{o o':aW}(h:d4H o o')(hr:gK R μ w b o):gK R μ w b o':=by
 cases o with
 |cells cs=>
  cases o' with
  |cells sX=>
   obtain⟨q1,q2⟩:=b5o h;obtain⟨vs,T,h1,h2,h3,h4⟩:=hr;refine⟨vs,T,h1,by rw[h2,q1],λi d' hd'=>?_,λT' hm=>?_⟩
   .obtain⟨d,hd,hc⟩:=q2 i d' hd';obtain⟨p1,p2⟩:=h3 i d hd;rcases hc with rfl|hc
    .exact⟨rfl,.undef _⟩
    .exact⟨c5O hc p1,p2.wk hc⟩
   .obtain⟨i,hi⟩:=f3e hm;obtain⟨d,hd,hc⟩:=q2 i _ hi;rcases hc with hc|hc
    .cases hc
    .have:d=.wL T':=by cases d<;>simp only[a8A]at hc<;>first|exact hc|cases hc
     subst this;exact h4 T' (f2S hd)
  |map es=>cases h
  |iter s p=>cases h
  |bld T u es=>cases h
 |map es=>cases o'<;>first|(cases h;exact hr)|cases h
 |iter s p=>cases o'<;>first|(cases h;exact hr)|cases h
 |bld T u es=>cases o'<;>first|(cases h;exact hr)|cases h
structure c9h (s s':St):Prop where
 tmps:WkT s.tmps s'.tmps
 H:c9f s.H s'.H
 own:a7j s s.own s'.own=true
 keys:bA s'.H s'.own=true
theorem c5P(s s':St):c9h s s'↔WkT s.tmps s'.tmps/\c9f s.H s'.H/\a7j s s.own s'.own=true/\bA s'.H s'.own=true:=⟨λh=>⟨h.tmps,h.H,h.own,h.keys⟩,λh=>⟨h.1,h.2.1,h.2.2.1,h.2.2.2⟩⟩
theorem Rel.d7n{st':St}(hr:Rel P G base R μ st a w)(h:c9h st st'):Rel P G base R μ st' a w:=by
 obtain⟨h1,h2⟩:=zH h.tmps;have h3:=b5p h.H;refine⟨hr.defers,by rw[hr.size,h1],λi v d' hv hd'=>?_,λk o' hk=>?_,λk k' o o' hk hk' he=>?_,λc hc k off hl=>?_,?_,hr.tP,hr.pE,hr.base,hr.pass⟩
 .obtain⟨d,hd,hc⟩:=h2 i d' hd';have:=hr.tmps i v d hv hd;rcases hc with rfl|rfl|⟨rfl,rfl⟩
  .exact .undef _
  .exact this
  .obtain⟨ao,rfl⟩:=this.a6W.jM;exact .d _ _ (.emp _ _)
 .obtain⟨o,ho,hw⟩:=h3 k o' hk;obtain⟨q1,q2,q3⟩:=hr.gM k o ho;exact⟨q1,q2,c9g hw q3⟩
 .obtain⟨o1,ho1,_⟩:=h3 k o hk;obtain⟨o2,ho2,_⟩:=h3 k' o' hk';exact hr.inj k k' o1 o2 ho1 ho2 he
 .have:=f2Q.1 h.keys c hc;have:=f2Q.1 this _ hl;exact Option.isSome_iff_exists.1 this
 .obtain⟨vs,pF⟩:=hr.own;obtain⟨vs',yA,_⟩:=a3G hr st'.own st.own vs ⟨pF.len,pF.one,pF.apart⟩ h.own;refine⟨vs',yA.len,λi c v hc hv=>?_,yA.apart⟩;have ho:=yA.one i c v hc hv;exact⟨ho.dF,ho.own,λk o hk=>by obtain⟨o1,ho1,_⟩:=h3 k o hk;exact ho.keys k o1 ho1⟩
theorem vV(a:List (List D))(x y:List D)(h:WkL x y):d2K (a++[x]) (a++[y]):=by
 refine⟨by simp,λi d d' h1 h2=>?_⟩;by_cases hi:i<a.length
 .rw[f2Y hi]at h1 h2;rw[h1]at h2;cases h2;simp
 .rw[f2V (by omega)]at h1 h2;cases hk:i-a.length with
  |zero=>rw[hk]at h1 h2;simp at h1 h2;subst h1 h2;exact h
  |succ n=>rw[hk]at h1;simp at h1
def a4b(P:Program)(s:St)(rs:List ResultVar)(d:DV)(H1:List (Nat×aW))(dZ:List (TypeId×List Loc)):Prop:=match a0x P s rs with
 |some r=>c9h (a9I s rs r) ⟨[r],H1,dZ⟩/\a8A r d
 |none=>False
theorem Rel.e3z{r d:DV}{H1:List (Nat×aW)}{dZ:List (TypeId×List Loc)}{v:Value}(eK:Rel P G base R μ ⟨[r],H1,dZ⟩ {tmps:=#[v],defers:=[]} w)(hw:a8A r d):Rel P G base R μ ⟨[d],H1,dZ⟩ {tmps:=#[v],defers:=[]} w:=
 ⟨eK.defers,eK.size,λi u d0 hu hd=>by
  cases i with
  |zero=>simp at hd;subst hd;exact(eK.tmps 0 u r hu rfl).wk hw
  |succ i=>simp at hd,eK.gM,eK.inj,eK.dF,by
  obtain⟨vs,h1,h2,h3⟩:=eK.own;exact⟨vs,h1,λi c v hc hv=>⟨(h2 i c v hc hv).dF,(h2 i c v hc hv).own,(h2 i c v hc hv).keys⟩,h3⟩,eK.tP,eK.pE,eK.base,eK.pass⟩
theorem CH.b6N{f:FuncId}{fn:Func}{c:Code}{n:Nat}{s0:St}{d:DV}{H1:List (Nat×aW)}{dZ:List (TypeId×List Loc)}(hf:P.funcs[f]? =some fn)(hb:fn.body=some c)(hn:fn.ntmps=n){rs:List ResultVar}(hrs:fn.results.toList=rs)(hT:(s0.own.all λc=>c.2.all λl=>match l with| .t i=>decide (i<s0.tmps.length)|_=>true)=true)(h:SW P G c ⟨s0.tmps++List.replicate (n-s0.tmps.length) (.cJ []),s0.H,s0.own⟩ λe s=>(e=.normal\/e=.ret)/\a4b P s rs d H1 dZ):CH P G f s0 ⟨[d],H1,dZ⟩:=by
 subst hrs;intro base R μ args w hr;refine calls_of_wp hf hb ?_;have hU:args.size=s0.tmps.length:=hr.size;have jU:Rel P G base R μ ⟨s0.tmps++List.replicate (n-s0.tmps.length) (.cJ []),s0.H,s0.own⟩ {tmps:=args++Array.replicate (fn.ntmps-args.size) undef,defers:=[]} w:=by
  refine⟨rfl,by simp[hU,hn],λi v d hiv hid=>?_,hr.gM,hr.inj,hr.dF,?_,hr.tP,hr.pE,hr.base,hr.pass⟩
  .simp only at hid;by_cases hi:i<s0.tmps.length
   .rw[f2Y hi]at hid;rw[Array.getElem?_append_left (by omega)]at hiv;exact hr.tmps i v d hiv hid
   .rw[f2V (by omega),List.getElem?_replicate]at hid;split at hid<;>simp at hid;subst hid;rw[Array.getElem?_append_right (by omega),Array.getElem?_replicate]at hiv;split at hiv<;>simp at hiv;subst hiv;exact .cJ #[] [] rfl (by simp)
  .obtain⟨vs,hl,h1,xE⟩:=hr.own;refine⟨vs,hl,λi c v hc hv=>?_,xE⟩;have ho:=h1 i c v hc hv;refine⟨λl hl u hu=>?_,ho.own,ho.keys⟩;cases l with
   |t j=>have hj:=f2Q.1 (f2Q.1 hT c (f2S hc)) _ hl;simp only[decide_eq_true_eq]at hj;simp only[bZ]at hu;rw[Array.getElem?_append_left (by omega)]at hu;exact ho.dF _ hl u hu
   |c k off=>exact ho.dF _ hl u hu
 refine wp_mono (h base R μ _ w jU) λe a' w' ⟨s,R',μ',⟨he,a1B⟩,eK,hs⟩=>?_;unfold a4b at a1B;split at a1B
 .rename_i r kC;obtain⟨v,hv1,hv2⟩:=zL eK kC;have a3I:a'.defers=[]/\∃v,(results fn a'.tmps).run P w'=.ok v w'/\∃v' R' μ',Ending.returned v=.returned v'/\Rel P G base R' μ' ⟨[d],H1,dZ⟩ {tmps:=#[v'],defers:=[]} w'/\Step base R w R' w':=
   ⟨eK.defers,v,hv1,v,R',μ',rfl,((eK.ret hv1 hv2).d7n a1B.1).e3z a1B.2,hs⟩
  rcases he with rfl|rfl
  .exact a3I
  .exact a3I
 .exact a1B.elim
theorem CX.b6N{f:FuncId}{fn:Func}{c:Code}{n:Nat}{s0:St}{x:Ends}(hf:P.funcs[f]? =some fn)(hb:fn.body=some c)(hn:fn.ntmps=n){rs:List ResultVar}(hrs:fn.results.toList=rs)(hT:(s0.own.all λc=>c.2.all λl=>match l with| .t i=>decide (i<s0.tmps.length)|_=>true)=true)(h:∀Q:Exit->St->Prop,(∀d H1 dZ e s,x=.inl (d,H1,dZ)->(e=.normal\/e=.ret)->a4b P s rs d H1 dZ->Q e s)->(∀v s,x=.inr v->Q (.panic (yI v)) s)->SW P G c ⟨s0.tmps++List.replicate (n-s0.tmps.length) (.cJ []),s0.H,s0.own⟩ Q):CX P G f s0 x:=by
 match x,h with
 | .inl (d,H1,dZ),h=>exact CH.b6N hf hb hn hrs hT (h _ (λd' H1' e3A e s he=>by cases he;exact λh1 h2=>⟨h1,h2⟩) (λv s he=>by cases he))
 | .inr v,h=>exact CPn.a5w hf hb hn hT (h _ (λd' H1' e3A e s he=>by cases he) (λv' s he=>by cases he;rfl))
theorem b6O{TT:St->Prop}{Q:Exit->St->Prop}{s:St}:b2d TT Q .normal s=TT s:=rfl
theorem b9V{TT:St->Prop}{Q:Exit->St->Prop}{s:St}{c:List PanicEntry}:b2d TT Q (.panic c) s=Q (.panic c) s:=rfl
def a3g(a b d:Nat):Ord:=
 .op a (.op b (.op d (.call [] .none) (.call [d] .none)) (.op d (.op b (.call [] .none) (.call [b] .none)) (.call [b,d] .none)))
  (.op d (.op a (.op b (.call [] .none) (.call [b] .none)) (.call [a,b] .none)) (.call [a,b,d] .none))
attribute [simp] b6L a3Z a4b c5P c9f d4H c9e b6O b9V a3g
end
end Go.VM
end
section
section
namespace Go.Proofs.YtjpodcmhcenjjaaGreatDoor
open Go Go.VM
variable {G:GT}
def smI(c:Int):Bool:=decide (97<=c)&&decide (c<=122)
def caI(c:Int):Bool:=decide (65<=c)&&decide (c<=90)
def dgI(c:Int):Bool:=decide (48<=c)&&decide (c<=57)
def inI(c:Int):Bool:=smI c||caI c||dgI c||decide (c=95)
theorem a5G:VM.Enters prog 159:=.mk func159 rfl
theorem a2Q:VM.Enters prog 162:=.mk func162 rfl
theorem a1e:VM.Enters prog 163:=.mk func163 rfl
theorem b3Z:VM.Enters prog 161:=.mk func161 rfl
theorem a7M(c:Int):CS prog G 159 [.int .i32 c] (.d (.bool (smI c))) none:=by refine CS.aZ func159 rfl ntmps159 rfl ?_;by_cases h:97<=c<;>simp[h,smI]
theorem a4c(c:Int):CS prog G 162 [.int .i32 c] (.d (.bool (caI c))) none:=by refine CS.aZ func162 rfl ntmps162 rfl ?_;by_cases h:65<=c<;>simp[h,caI]
theorem a2n(c:Int):CS prog G 163 [.int .i32 c] (.d (.bool (dgI c))) none:=by refine CS.aZ func163 rfl ntmps163 rfl ?_;by_cases h:48<=c<;>simp[h,dgI]
theorem b6P(c:Int):CS prog G 161 [.int .i32 c] (.d (.bool (inI c))) none:=by
 refine CS.aZ func161 rfl ntmps161 rfl ?_;simp;refine aE.mk a5G (a7M c) ?_;by_cases h1:smI c=true
 .simp[h1,inI]
 .simp[h1];refine aE.mk a2Q (a4c c) ?_;by_cases h2:caI c=true
  .simp[h2,inI]
  .simp[h2];refine aE.mk a1e (a2n c) ?_;by_cases h3:dgI c=true
   .simp[h3,inI]
   .simp[h1,h2,h3,inI]
end Go.Proofs.YtjpodcmhcenjjaaGreatDoor
end
section
namespace Go.Proofs.YtjpodcmhcenjjaaGreatDoor
open Go Go.VM Go.RowKit
variable {G:GT}
theorem b6Q:VM.Enters prog 188:=.mk func188 rfl
theorem b4a:VM.Enters prog 165:=.mk func165 rfl
theorem d7o{args:Array Value}(h:args.size=2):args=#[args.getD 0 undef,args.getD 1 undef]:=by
 obtain⟨l⟩:=args
 match l,h with
 |[a,b],_=>rfl
theorem b9W(s:List UInt8)(c:UInt8)(hc:c.toNat<128):CS prog G 188 [.str s,.str [c]] (.d (.str (Lib.trimLeftB s c))) none:=
 CS.c3L λw R args hg hR hs hv=>by rw[d7o hs,(hv 0 _ rfl).mT,(hv 1 _ rfl).mT];exact(strings_TrimLeft_one ⟨s.toArray⟩ c hc w).mono λe w' ⟨he,hw⟩=>⟨_,he,.str _,hw▸Below.refl _ _⟩
theorem b6R(s p:List UInt8):CS prog G 165 [.str s,.str p] (.d (.bool (p.isPrefixOf s))) none:=
 CS.c3L λw R args hg hR hs hv=>by rw[d7o hs,(hv 0 _ rfl).mT,(hv 1 _ rfl).mT];exact(strings_HasPrefix ⟨s.toArray⟩ ⟨p.toArray⟩ w).mono λe w' ⟨he,hw⟩=>⟨_,he,.bool _,hw▸Below.refl _ _⟩
def oS(s:List UInt8):Int×Bool:=if kL s<=1000000000000 then((kL s:Int),true) else(0,false)
theorem d4J(l:List UInt8):∀a,a*10 ^ l.length<=c2h a l:=by
 induction l with
 |nil=>intro a;simp[c2h]
 |cons c r ih=>
  intro a;have h:=ih (10*a+(c.toNat-48));have e:c2h a (c::r)=c2h (10*a+(c.toNat-48)) r:=rfl;rw[e];refine Nat.le_trans ?_ h;rw[List.length_cons,Nat.pow_succ];have:a*(10 ^ r.length*10)=(10*a)*10 ^ r.length:=by rw[Nat.mul_comm (10 ^ r.length) 10, <- Nat.mul_assoc,Nat.mul_comm a 10]
  rw[this];exact Nat.mul_le_mul_right _ (by omega)
theorem b5q(s:List UInt8):kL (Lib.trimLeftB s 48)=kL s:=by
 unfold Lib.trimLeftB
 induction s with
 |nil=>rfl
 |cons c r ih=>
  by_cases h:c=48
  .subst h;have e:kL (48::r)=kL r:=rfl;rw[e, <- ih];simp
  .have:(c==48)=false:=by simpa using h
   rw[List.dropWhile_cons,this]
   rfl
theorem c5Q{s:List UInt8}(h:Lib.trimLeftB s 48≠[]):∃c r,Lib.trimLeftB s 48=c::r/\c≠48:=by
 unfold Lib.trimLeftB at h|-
 induction s with
 |nil=>exact absurd rfl h
 |cons c r ih=>
  by_cases hc:c=48
  .subst hc;simp only[List.dropWhile_cons,beq_self_eq_true,if_true]at h|-;exact ih h
  .have:(c==48)=false:=by simpa using hc
   rw[List.dropWhile_cons,this];exact⟨c,r,rfl,hc⟩
theorem c9i{s:List UInt8}:∀c∈Lib.trimLeftB s 48,c∈s:=λc hc=>(List.dropWhile_sublist _).subset hc
theorem b6S{s:List UInt8}(hs:∀c∈s,vM c=true)(dX:Lib.trimLeftB s 48≠[]):pL (Lib.trimLeftB s 48)=oS s:=by
 obtain⟨c,r,he,hc⟩:=c5Q dX;have cY:∀x∈c::r,vM x=true:=λx hx=>hs x (c9i x (he▸hx));have hv:kL s=kL (c::r):=by rw[<-he,b5q]
 rw[he];have hcd:=uD.1 (cY c (.head _));have hn:a8F (c::r)=false:=by
  have:c≠45:=by rintro rfl;revert hcd;decide
  simp[a8F,this]
 have hb:pA (c::r)=c::r:=by simp[pA,hn]
 have oE:10 ^ r.length<=kL (c::r):=by
  have h1:1<=c.toNat-48:=by have:c.toNat≠48:=λe=>hc (UInt8.toNat.inj (by simpa using e));omega
  have e:kL (c::r)=c2h (10*0+(c.toNat-48)) r:=rfl;rw[e];refine Nat.le_trans ?_ (d4J r _)
  calc 10 ^ r.length=1*10 ^ r.length:=by rw[Nat.one_mul]
   _<=_:=Nat.mul_le_mul_right _ (by omega)
 have a5y:pU (c::r)=decide (r.length<=12):=by simp only[pU,hb,hn];by_cases h:r.length<=12<;>simp[h,hc]<;>omega
 have hd:(c::r).all vM=true:=f2Q.2 cY;unfold pL oS;rw[a5y,hb,hd,hn,hv];by_cases h:r.length<=12
 .have hup:=a2i _ _ rfl cY;simp[h,sgn,chk];have hi:inB ((kL (c::r):Nat):Int)=decide (kL (c::r)<=1000000000000):=by unfold inB;by_cases h2:kL (c::r)<=1000000000000<;>simp[h2]<;>omega
  rw[hi];by_cases h2:kL (c::r)<=1000000000000<;>simp[h2]
 .have:10 ^ 13<=kL (c::r):=Nat.le_trans (Nat.pow_le_pow_right (by omega) (by omega)) oE;have h2: ¬kL (c::r)<=1000000000000:=by omega
  simp[h,h2]
theorem b2j:VM.Enters prog 164:=.mk func164 rfl
theorem b4b(s:List UInt8)(hs:∀c∈s,vM c=true):CS prog G 164 [.str s] (.cJ [.int .i64 (oS s).1,.bool (oS s).2]) none:=by
 refine CS.aZ func164 rfl ntmps164 rfl ?_;simp;refine aE.mk b6Q (b9W s 48 (by decide)) ?_;by_cases h:Lib.trimLeftB s 48=[]
 .have hv:kL s=0:=by rw[<-b5q,h];rfl
  simp[h,oS,hv]
 .have he:(Lib.trimLeftB s 48).isEmpty=false:=by simpa using h
  simp[he];refine aE.mk b9w (c2j (Lib.trimLeftB s 48)) ?_;simp[b6S hs h]
end Go.Proofs.YtjpodcmhcenjjaaGreatDoor
end
section
namespace Go.Proofs.YtjpodcmhcenjjaaGreatDoor
open Go Go.VM
variable {G:GT}
theorem a4d{p:UInt8->Bool}{s:List UInt8}{i:Nat}(h:i<s.length)(ht:∀b∈s.take i,p b=true)(hn:p s[i]=false):(s.takeWhile p).length=i:=by
 have e:s=s.take i++s[i]::s.drop (i+1):=by rw[<-f3a h,List.take_append_drop]
 generalize hx:s[i]=x at e hn;rw[e,List.takeWhile_append_of_pos ht,List.takeWhile_cons,hn];simp;omega
theorem a1f{p:UInt8->Bool}{s:List UInt8}(ht:∀b∈s,p b=true):s.takeWhile p=s:=by have:=List.takeWhile_append_of_pos (l₂:=[]) ht;simpa using this
theorem a9Y(F:FuncId)(p:Int->Bool)(pb:UInt8->Bool)(hF:VM.Enters prog F)(pR:∀c,CS prog G F [.int .i32 c] (.d (.bool (p c))) none)(tQ:∀b:UInt8,p b.toNat=pb b)(hhi:∀c,128<=c->p c=false)(s:List UInt8):
  CH prog G 160 ⟨[.d (.str s),.fn F],[],[]⟩ ⟨[.d (.int .i64 (s.takeWhile pb).length)],[],[]⟩:=by
 refine CH.aZ func160 rfl ntmps160 rfl (by simp) ?_;simp;refine SW.eL (ι:={i:Nat//i<=s.length/\∀b∈s.take i,pb b=true}) (λ_=>[]) (λi=>[(8,.iter s i.1)]) (λ_=>[]) (λi=>s.length-i.1) ⟨0,by simp⟩ (by simp) ?_;rintro⟨i,hi,ht⟩
 try simp only at hi ht
 by_cases aI:i<s.length
 .simp[aI];refine aE.mk hF (pR _) ?_;by_cases hb:s[i].toNat<128
  .have hd:=c8I aI hb;have hpl:=tQ s[i];by_cases hpb:pb s[i]=true
   .rw[hpb]at hpl;simp[hd,hpl];refine bJ.mk ⟨i+1,aI,λb hm=>?_⟩ (by simp) (by simp;omega);rw[f3c aI]at hm;rcases List.mem_append.1 hm with hm|hm
    .exact ht b hm
    .simp at hm;rw[hm];exact hpb
   .have hpf:pb s[i]=false:=by simpa using hpb
    rw[hpf]at hpl;simp[hd,hpl,a4d aI ht hpf]
  .obtain⟨h1,_⟩:=c8J aI (by omega);have hpf:pb s[i]=false:=by rw[<-tQ];exact hhi _ (by omega)
   have hpl:=hhi ((Utf8.decode ⟨s.toArray⟩ i).1:Int) (by omega);simp[hpl,a4d aI ht hpf]
 .have:i=s.length:=by omega
  subst this;rw[List.take_length]at ht;simp[a1f ht]
def jY:List UInt8->Nat->Bool->List UInt8×Nat
 |[],n,_=>([],n)
 |c::r,n,cm=>if c=10 then jY r (n+1) false else if cm=true\/c=32\/c=9 then jY r n cm else if c=35 then jY r n true else(c::r,n)
theorem a7N:∀(s:List UInt8) (n:Nat) (cm:Bool),(jY s n cm).2<=n+s.length/\(jY s n cm).1.length<=s.length
 |[],n,cm=>by simp[jY]
 |c::r,n,cm=>by
  unfold jY;split
  .have:=a7N r (n+1) false;simp only[List.length_cons];omega
  .split
   .have:=a7N r n cm;simp only[List.length_cons];omega
   .split
    .have:=a7N r n true;simp only[List.length_cons];omega
    .simp only[List.length_cons];omega
theorem b9X(s:List UInt8)(n:Nat):∀(k i:Nat),(∀j,i<=j->j<i+k->∃h:j<s.length,128<=s[j].toNat)->jY (s.drop i) n true=jY (s.drop (i+k)) n true
 |0,i,_=>rfl
 |k+1,i,h=>by
  obtain⟨hi,hb⟩:=h i (by omega) (by omega);have ih:=b9X s n k (i+1) λj h1 h2=>h j (by omega) (by omega);have h10:s[i]≠10:=λe=>by rw[e]at hb;simp at hb
  rw[f3a hi,jY,if_neg h10,if_pos (.inl rfl),ih];congr 2;omega
theorem a8L(c:UInt8)(k:Nat)(hk:k<256):((c.toNat:Int)=(k:Int))↔c=UInt8.ofNat k:=by
 constructor
 .intro h;apply UInt8.toNat.inj;simp;omega
 .rintro rfl;simp;omega
theorem b6T:VM.Enters prog 112:=.mk func112 rfl
theorem b9Y(s:List UInt8)(hl:s.length<=900000000):CS prog G 112 [.str s] (.cJ [.str (jY s 0 false).1,.int .i64 (jY s 0 false).2]) none:=by
 obtain⟨res,d7p⟩:∃x,jY s 0 false=x:=⟨_,rfl⟩;rw[d7p];refine CS.aZ func112 rfl ntmps112 rfl ?_;simp;refine SW.eL (ι:={x:Nat×Nat×Bool//x.1<=s.length/\x.2.1<=x.1/\jY (s.drop x.1) x.2.1 x.2.2=res}) (λx=>[(4,.d (.int .i64 x.1.2.1)),(5,.d (.bool x.1.2.2))]) (λx=>[(9,.iter s x.1.1)]) (λ_=>[]) (λx=>s.length-x.1.1) ⟨(0,0,false),by simp[d7p]⟩ (by simp) ?_;rintro⟨⟨i,n,cm⟩,hi,hn,hR⟩
 try simp only at hi hn hR
 by_cases aI:i<s.length
 .have hw:=bC (show n<9223372036854775807 by omega);have hle:=Nat.le_of_lt aI;have b2k:s.drop i=s[i]::s.drop (i+1):=f3a aI;by_cases hb:s[i].toNat<128
  .have hd:=c8I aI hb;have c10:=a8L s[i] 10 (by omega);have c32:=a8L s[i] 32 (by omega);have c9:=a8L s[i] 9 (by omega);have c35:=a8L s[i] 35 (by omega);simp at c10 c32 c9 c35;by_cases h10:s[i]=10
   .have e:=c10.2 h10;simp[aI,hd,e];refine bJ.mk ⟨(i+1,n+1,false),aI,by simp;omega,?_⟩ (by simp[hw]) (by simp;omega);rw[<-hR,b2k,jY,if_pos h10]
   .have e: ¬s[i].toNat=10:=λh=>h10 (c10.1 h);simp[aI,hd,e];cases cm with
    |true=>
     try simp
     refine bJ.mk ⟨(i+1,n,true),aI,by simp;omega,?_⟩ (by simp) (by simp;omega);rw[<-hR,b2k,jY,if_neg h10,if_pos (.inl rfl)]
    |false=>
     try simp
     by_cases h32:s[i]=32
     .have e2:=c32.2 h32;simp[e2];refine bJ.mk ⟨(i+1,n,false),aI,by simp;omega,?_⟩ (by simp) (by simp;omega);rw[<-hR,b2k,jY,if_neg h10,if_pos (.inr (.inl h32))]
     .have e2: ¬s[i].toNat=32:=λh=>h32 (c32.1 h);simp[e2];by_cases h9:s[i]=9
      .have e3:=c9.2 h9;simp[e3];refine bJ.mk ⟨(i+1,n,false),aI,by simp;omega,?_⟩ (by simp) (by simp;omega);rw[<-hR,b2k,jY,if_neg h10,if_pos (.inr (.inr h9))]
      .have e3: ¬s[i].toNat=9:=λh=>h9 (c9.1 h);simp[e3];by_cases h35:s[i]=35
       .have e4:=c35.2 h35;simp[e4];refine bJ.mk ⟨(i+1,n,true),aI,by simp;omega,?_⟩ (by simp) (by simp;omega);rw[<-hR,b2k,jY,if_neg h10,if_neg (by simp[h32,h9]),if_pos h35]
       .have e4: ¬s[i].toNat=35:=λh=>h35 (c35.1 h);have kC:res=(s.drop i,n):=by rw[<-hR,b2k,jY,if_neg h10,if_neg (by simp[h32,h9]),if_neg h35]
        simp[e4,kC,hle]
  .obtain⟨h1,h2,h3,h4⟩:=c8J aI (by omega);obtain⟨rw,hrw⟩:∃rw,Utf8.decode ⟨s.toArray⟩ i=rw:=⟨_,rfl⟩;rw[hrw]at h1 h2 h3 h4;have e10: ¬((rw.1:Int)=10):=by omega
   have e32: ¬((rw.1:Int)=32):=by omega
   have e9: ¬((rw.1:Int)=9):=by omega
   have e35: ¬((rw.1:Int)=35):=by omega
   have hbb:∀k,k<128->s[i]≠UInt8.ofNat k:=λk hk e=>by rw[e]at hb;simp at hb;omega
   have b10:s[i]≠10:=hbb 10 (by omega);have b32:s[i]≠32:=hbb 32 (by omega);have b9:s[i]≠9:=hbb 9 (by omega);have b35:s[i]≠35:=hbb 35 (by omega);simp[aI,hrw,e10];cases cm with
   |true=>simp;refine bJ.mk ⟨(i+rw.2,n,true),h3,by simp;omega,?_⟩ (by simp) (by simp;omega);rw[<-hR,b9X s n rw.2 i h4]
   |false=>
    have kC:res=(s.drop i,n):=by rw[<-hR,b2k,jY,if_neg b10,if_neg (by simp[b32,b9]),if_neg b35]
    simp[e32,e9,e35,kC,hle]
 .have:i=s.length:=by omega
  subst this;rw[List.drop_length]at hR;have kC:res=([],n):=by rw[<-hR,jY]
  simp[kC]
end Go.Proofs.YtjpodcmhcenjjaaGreatDoor
end
section
namespace Go.Proofs.YtjpodcmhcenjjaaGreatDoor
open Go Go.VM
variable {G:GT}
def wJ:List D:=[.sl (eT.map λt=>[D.str t])]
theorem d7q(b:UInt8):smI b.toNat=smU b:=by rw[Bool.eq_iff_iff];simp only[smI,smU,f2N,decide_eq_true_eq];omega
theorem d7r(b:UInt8):caI b.toNat=caU b:=by rw[Bool.eq_iff_iff];simp only[caI,caU,f2N,decide_eq_true_eq];omega
theorem c9j(b:UInt8):dgI b.toNat=dgU b:=by rw[Bool.eq_iff_iff];simp only[dgI,dgU,f2N,decide_eq_true_eq];omega
theorem e3B(b:UInt8):inI b.toNat=inU b:=by unfold inI inU;rw[d7q,d7r,c9j];congr 1;simp only[decide_eq_decide];omega
theorem e3C{c:Int}(h:128<=c):inI c=false:=by simp only[inI,smI,caI,dgI,Bool.or_eq_false_iff,Bool.and_eq_false_iff,decide_eq_false_iff_not];omega
theorem e3D{c:Int}(h:128<=c):dgI c=false:=by simp only[dgI,Bool.and_eq_false_iff,decide_eq_false_iff_not];omega
theorem c3Y(p:UInt8->Bool)(s:List UInt8):s.take (s.takeWhile p).length=s.takeWhile p:=by have h:=List.takeWhile_prefix (l:=s) p;exact(List.prefix_iff_eq_take.1 h).symm
theorem d7s(p:UInt8->Bool)(s:List UInt8):(s.takeWhile p).length<=s.length:=(List.takeWhile_prefix (l:=s) p).length_le
theorem w32(c:UInt8):IntKind.i32.wrap (c.toNat:Int)=c.toNat:=by have:=c.toNat_lt;unfold IntKind.wrap;simp[IntKind.bits,IntKind.signed];omega
theorem d4L(c:UInt8):dgU c=vM c:=by rw[Bool.eq_iff_iff];simp only[dgU,vM,f2N,decide_eq_true_eq]
theorem c9k{p:UInt8->Bool}:∀ {s:List UInt8} {b:UInt8},b∈s.takeWhile p->p b=true
 |[],b,h=>by simp at h
 |c::r,b,h=>by
  rw[List.takeWhile_cons]at h;split at h
  .rename_i hc;rcases List.mem_cons.1 h with rfl|h
   .exact hc
   .exact c9k h
  .cases h
def a4e(s:List UInt8):List D:=[.int .i64 (firstT oS s).1,.str (firstT oS s).2.1,.int .i64 (firstT oS s).2.2.1,.int .i64 0]
theorem c3Z(s:List UInt8):CH prog G 160 ⟨[.d (.str s),.fn 161],[],[]⟩ ⟨[.d (.int .i64 (s.takeWhile inU).length)],[],[]⟩:=a9Y 161 inI inU b3Z b6P e3B (λ_=>e3C) s
theorem d4M(s:List UInt8):CH prog G 160 ⟨[.d (.str s),.fn 163],[],[]⟩ ⟨[.d (.int .i64 (s.takeWhile dgU).length)],[],[]⟩:=a9Y 163 dgI dgU a1e a2n c9j (λ_=>e3D) s
theorem d4N{s:List UInt8}{i:Nat}(h:i<eT.length)(hn:∀t∈eT.take i,t.isPrefixOf s=false)(hp:eT[i].isPrefixOf s=true):sL s=eT[i]:=by
 have e:eT=eT.take i++eT[i]::eT.drop (i+1):=by rw[<-f3a h,List.take_append_drop]
 generalize eT[i]=x at e hp|-;unfold sL;rw[e,List.find?_append];have h0:(eT.take i).find? (λt=>t.isPrefixOf s)=none:=List.find?_eq_none.2 λt ht=>by rw[hn t ht];simp
 rw[h0];simp[List.find?_cons,hp]
theorem c5R{s:List UInt8}(hn:∀t∈eT,t.isPrefixOf s=false):sL s=[]:=by
 unfold sL;rw[List.find?_eq_none.2 λt ht=>by rw[hn t ht];simp]
 rfl
theorem d4O:∀t∈eT,t≠[]:=by decide
theorem b2l:VM.Enters prog 160:=.mk func160 rfl
theorem b4d:VM.Enters prog 113:=.mk func113 rfl
theorem b6U(hS:G 0=some wJ)(c:UInt8)(r:List UInt8)(hl:(c::r).length<=900000000):CS prog G 113 [.str (c::r)] (.cJ [.agg (a4e (c::r)),.bool (firstT oS (c::r)).2.2.2]) none:=by
 obtain⟨s,hs⟩:∃s,c::r=s:=⟨_,rfl⟩;have h0:0<s.length:=by rw[<-hs];simp
 have xZ:s[0]=c:=by subst hs;rfl
 have hf:firstT oS s=if smU c then(1,s.takeWhile inU,0,true) else if caU c then(2,s.takeWhile inU,0,true)
  else if dgU c then(3,s.takeWhile dgU,(oS (s.takeWhile dgU)).1,(oS (s.takeWhile dgU)).2)
  else if sL s=[] then(0,[],0,false) else(4,sL s,0,true):=by subst hs;rfl
 rw[hs]at hl|-
 clear hs
 have hw:=w32 c;have l1:=d7s inU s;have l2:=d7s dgU s;have t1:=c3Y inU s;have t2:=c3Y dgU s;refine CS.aZ func113 rfl ntmps113 rfl ?_;simp[h0,xZ,hw];refine aE.mk a5G (a7M (c.toNat:Int)) ?_;rw[d7q];by_cases h1:smU c=true
 .simp[h1];refine eR.ro b2l (c3Z s) [] (by simp) (by simp) (by simp) (by simp) (by simp) ?_;simp[l1,t1,a4e,hf,h1]
 simp[h1];refine aE.mk a2Q (a4c (c.toNat:Int)) ?_;rw[d7r];by_cases h2:caU c=true
 .simp[h2];refine eR.ro b2l (c3Z s) [] (by simp) (by simp) (by simp) (by simp) (by simp) ?_;simp[l1,t1,a4e,hf,h1,h2]
 simp[h2];refine aE.mk a1e (a2n (c.toNat:Int)) ?_;rw[c9j];by_cases h3:dgU c=true
 .simp[h3];refine eR.ro b2l (d4M s) [] (by simp) (by simp) (by simp) (by simp) (by simp) ?_;simp[l2,t2];refine aE.mk b2j (b4b (s.takeWhile dgU) (λb hb=>by rw[<-d4L];exact c9k hb)) ?_;simp[a4e,hf,h1,h2,h3]
 simp[h3,hS,wJ];have hlen:(eT.map λt=>[D.str t]).length=eT.length:=by simp
 refine SW.eL (ι:={i:Nat//i<=eT.length/\∀t∈eT.take i,t.isPrefixOf s=false}) (λi=>[(47,.d (.int .i64 i.1))]) (λ_=>[(2,.cells [.d (.int .i64 0),.d (.str []),.d (.int .i64 0),.d (.int .i64 0)])]) (λ_=>[]) (λi=>eT.length-i.1) ⟨0,by simp⟩ (by simp) ?_;rintro⟨i,hi,hn⟩
 try simp only at hi hn
 by_cases aI:i<eT.length
 .have hsl:eT.length=31:=rfl;have hw2:=bC (show i<9223372036854775807 by omega);have hg:(eT.map λt=>[D.str t])[i]? =some [.str eT[i]]:=by simp[aI]
  simp[aI,hg];refine aE.mk b4a (b6R s eT[i]) ?_;by_cases hp:eT[i].isPrefixOf s=true
  .have hsg:=d4N aI hn hp;have dX:=d4O _ (List.getElem_mem aI);simp[hp,a4e,hf,h1,h2,h3,hsg,dX]
  .have hp':eT[i].isPrefixOf s=false:=Bool.eq_false_iff.2 hp;simp[hp'];refine bJ.mk ⟨i+1,aI,λt ht=>?_⟩ (by simp[hw2]) (by simp;omega);rw[f3c aI]at ht;rcases List.mem_append.1 ht with ht|ht
   .exact hn t ht
   .simp at ht;rw[ht];exact hp'
 .have:i=eT.length:=by omega
  subst this;rw[List.take_length]at hn;have hsg:=c5R hn;simp[a4e,hf,h1,h2,h3,hsg]
end Go.Proofs.YtjpodcmhcenjjaaGreatDoor
end
section
namespace Go.Proofs.YtjpodcmhcenjjaaGreatDoor
open Go Go.VM
variable {G:GT}
def cH(t:Tok):List D:=[.int .i64 t.kind,.str t.text,.int .i64 t.n,.int .i64 t.line]
def b4e(l:List Tok):List (List D):=l.map cH
@[simp] theorem e3E(l:List Tok):(b4e l).length=l.length:=by simp[b4e]
@[simp] theorem e3F:b4e []=[]:=rfl
@[simp] theorem e3G(l:List Tok):((b4e l).all λc=>c.length==4)=true:=by simp[b4e,cH]
theorem b5r(l:List Tok)(t:Tok):b4e (l++[t])=b4e l++[[.int .i64 t.kind,.str t.text,.int .i64 t.n,.int .i64 t.line]]:=by simp[b4e,cH]
theorem a4P:∀(s:List UInt8) (n:Nat) (cm:Bool) (ln:Int),jH oS s 0 (ln+n) cm=jH oS (jY s n cm).1 0 (ln+(jY s n cm).2) false
 |[],n,cm,ln=>by simp[jY,jH]
 |c::r,n,cm,ln=>by
  unfold jY;split
  .rename_i h;rw[<-a4P r (n+1) false ln,jH,if_pos h];congr 1;omega
  .rename_i h;split
   .rename_i h2;rw[<-a4P r n cm ln]
    conv=>lhs;rw[jH]
    rw[if_neg h,if_pos h2]
   .rename_i h2;split
    .rename_i h3;rw[<-a4P r n true ln]
     conv=>lhs;rw[jH]
     rw[if_neg h,if_neg h2,if_pos h3]
    .simp only[not_or,Bool.not_eq_true]at h2;rw[h2.1]
theorem a4Q:∀(s:List UInt8) (n:Nat) (cm:Bool),(jY s n cm).2+(jY s n cm).1.length<=n+s.length
 |[],n,cm=>by simp[jY]
 |c::r,n,cm=>by
  unfold jY;split
  .have:=a4Q r (n+1) false;simp only[List.length_cons];omega
  .split
   .have:=a4Q r n cm;simp only[List.length_cons];omega
   .split
    .have:=a4Q r n true;simp only[List.length_cons];omega
    .simp only[List.length_cons];omega
theorem a4R:∀(s:List UInt8) (n:Nat) (cm:Bool) (c:UInt8) (r:List UInt8),(jY s n cm).1=c::r->c≠10/\c≠32/\c≠9/\c≠35
 |[],n,cm,c,r,h=>by simp[jY]at h
 |a::s,n,cm,c,r,h=>by
  unfold jY at h;split at h
  .exact a4R s _ _ c r h
  .rename_i h1;split at h
   .exact a4R s _ _ c r h
   .rename_i h2;split at h
    .exact a4R s _ _ c r h
    .rename_i h3;simp only[not_or]at h2;cases h;exact⟨h1,h2.2.1,h2.2.2,h3⟩
def e0j(out:List Tok):Except Int (List Tok)->Except Int (List Tok)
 | .ok l=>.ok (out++l)
 | .error e=>.error e
def e0k:Except Int (List Tok)->D
 | .ok l=>.sl (b4e l)
 | .error _=>.aJ
def e0l:Except Int (List Tok)->Int
 | .ok _=>0
 | .error e=>e
def e0m:Except Int (List Tok)->Int
 | .ok _=>0
 | .error _=>14
theorem uO:VM.Enters prog 64:=.mk func64 rfl
theorem b4f(hS:G 0=some wJ)(s:List UInt8)(hl:s.length<=900000000):CS prog G 64 [.str s] (.cJ (if 40000<s.length then [.aJ,.int .i64 0,.int .i64 7] else
  [e0k (jH oS s 0 1 false),.int .i64 (e0l (jH oS s 0 1 false)),.int .i64 (e0m (jH oS s 0 1 false))])) none:=by
 obtain⟨res,kC⟩:∃x,jH oS s 0 1 false=x:=⟨_,rfl⟩;rw[kC];refine CS.aZ func64 rfl ntmps64 rfl ?_;by_cases d7t:40000<s.length
 .have h2:(40000:Int)<s.length:=by omega
  simp[d7t,h2]
 have h2: ¬(40000:Int)<s.length:=by omega
 simp[d7t,h2];refine SW.eL (ι:={x:List UInt8×List Tok×Int//x.1.length<=s.length/\1<=x.2.2/\x.2.2+x.1.length<=s.length+1/\x.2.1.length+x.1.length<=s.length/\e0j x.2.1 (jH oS x.1 0 x.2.2 false)=res}) (λx=>[(0,.d (.str x.1.1)),(5,.d (.sl (b4e x.1.2.1))),(6,.d (.int .i64 x.1.2.2))]) (λ_=>[]) (λ_=>[(96,[.t 5])]) (λx=>x.1.1.length) ⟨(s,[],1),by refine⟨f3d _,by simp,by simp;omega,by simp,?_⟩;simp only;rw[kC];cases res<;>rfl⟩ (by simp) ?_;rintro⟨⟨t,out,ln⟩,ht,hln,hb,ho,hR⟩
 try simp only at ht hln hb ho hR
 obtain⟨q1,q2⟩:=a7N t 0 false;have q3:=a4Q t 0 false;have hsk:=a4P t 0 false ln;have hhd:=a4R t 0 false;simp;refine aE.mk b6T (b9Y t (by omega)) ?_;obtain⟨⟨rest,n⟩,hrn⟩:∃x,jY t 0 false=x:=⟨_,rfl⟩;rw[hrn]at hsk hhd q1 q2 q3;simp only[Int.natCast_zero,Int.add_zero]at hsk;simp only at hsk hhd q1 q2 q3;rw[hsk]at hR;have hw:IntKind.i64.wrap (ln+n)=ln+n:=wrap64 (by omega);have hU:(out.length+1)*41<=140737488355328:=by omega
 simp[hrn,hw];cases rest with
 |nil=>
  have e:res=.ok (out++[⟨0,[],0,ln+n⟩]):=by rw[<-hR];rfl
  simp[e,e0k,e0l,e0m,b5r,hU]
 |cons c r=>
  obtain⟨g1,g2,g3,g4⟩:=hhd c r rfl;rw[c2l (ln+n) g1 g2 g3 g4]at hR;simp;refine aE.mk b4d (b6U hS c r (by omega)) ?_;obtain⟨ff,hff⟩:∃ff,firstT oS (c::r)=ff:=⟨_,rfl⟩;have rK:= @a7s oS (c::r);rw[hff]at hR rK;obtain⟨k,tx,m,ok⟩:=ff;simp only at hR rK;cases ok with
  |false=>
   have e:res=.error (ln+n):=by rw[<-hR];rfl
   simp[hff,a4e,e,e0k,e0l,e0m]
  |true=>
   obtain⟨p1,p2,_⟩:=rK rfl;have hle:=p2.length_le;have a0V:0<tx.length:=List.length_pos_iff.2 p1;simp only[List.length_cons]at hle q2 q3;simp[hff,a4e,hU,hle];have hR2:e0j (out++[⟨k,tx,m,ln+n⟩]) (jH oS ((c::r).drop tx.length) 0 (ln+n) false)=res:=by
    rw[<-hR,if_pos rfl];generalize jH oS ((c::r).drop tx.length) 0 (ln+n) false=y;cases y with
    |ok l=>simp[e0j]
    |error e=>rfl
   have hdl:((c::r).drop tx.length).length=r.length+1-tx.length:=by simp
   refine bJ.mk ⟨((c::r).drop tx.length,out++[⟨k,tx,m,ln+n⟩],ln+n),?_⟩ (by simp[b5r]) (by simp only[hdl];omega);refine⟨by simp only[hdl];omega,by simp only;omega,by simp only[hdl];omega,by simp only[hdl,List.length_append,List.length_cons,List.length_nil];omega,hR2⟩
end Go.Proofs.YtjpodcmhcenjjaaGreatDoor
end
end
namespace Go.Proofs.YtjpodcmhcenjjaaGreatDoor
section
open Go Go.VM
variable {G:GT}
abbrev rdO(l:List Tok)(i:Nat):aW:=.cells [.d (.sl (l.map cH)),.d (.int .i64 i)]
abbrev rH(l:List Tok)(i:Nat):List (Nat×aW):=[(100000,rdO l i)]
abbrev oA(n e:Int):Value:=.iface 127 (.agg #[.int .i64 n,.int .i64 e])
def gL{α:Type}:kX α->Bool
 | .ok _ _=>true
 | .bad _ _=>false
def rdE{α:Type}(l:List Tok)(enc:α->DV)(Y:α->List (Nat×aW))(own:List (TypeId×List VM.Loc)):kX α->VM.Ends
 | .ok a j=>.inl (enc a,rH l j++Y a,own)
 | .bad n e=>.inr (oA n e)
theorem c0a{α:Type}{l:List Tok}{enc:α->DV}{Y:α->List (Nat×aW)}{own:List (TypeId×List VM.Loc)}(r:kX α):(rdE l enc Y own r).isLeft=gL r:=by cases r<;>rfl
def kZ(G:GT){α:Type}(f:FuncId)(av:List DV)(X:List (Nat×aW))(own:List (TypeId×List VM.Loc))(l:List Tok)(i:Nat)(r:kX α)(enc:α->DV)(Y:α->List (Nat×aW)):Prop:=CX prog G f ⟨av,rH l i++X,own⟩ (rdE l enc Y own r)
abbrev pW(G:GT){α:Type}(f:FuncId)(ds:List D)(l:List Tok)(i:Nat)(r:kX α)(enc:α->DV):Prop:=kZ G f (.ptr 100000 0::ds.map .d) [] [] l i r enc λ_=>[]
structure qT {α:Type} (Q:Exit->St->Prop) (rs:List ResultVar) (l:List Tok) (enc:α->DV) (Y:α->List (Nat×aW)) (own:List (TypeId×List VM.Loc)) (r:kX α):Prop where
 ok:∀a j e s,r=.ok a j->(e=.normal\/e=.ret)->a4b prog s rs (enc a) (rH l j++Y a) own->Q e s
 bad:∀n e s,r=.bad n e->Q (.panic (yI (oA n e))) s
section
variable {α β:Type} {Q:Exit->St->Prop} {rs:List ResultVar} {l:List Tok} {i j:Nat} {enc:β->DV} {Y:β->List (Nat×aW)} {own:List (TypeId×List VM.Loc)} {n e:Int} {a:α}
theorem qT.step{x:bB α}{f:α->bB β}(h:qT Q rs l enc Y own ((x >>=f) i))(hx:x i=.ok a j):qT Q rs l enc Y own (f a j):=by rwa[cU hx]at h
theorem qT.fail{x:bB α}{f:α->bB β}(h:qT Q rs l enc Y own ((x >>=f) i))(hx:x i=.bad n e)(s:St):Q (.panic (yI (oA n e))) s:=h.bad _ _ _ (hM hx)
theorem qT.ifp{c:Prop}[Decidable c]{x y:kX β}(h:qT Q rs l enc Y own (if c then x else y))(hc:c):qT Q rs l enc Y own x:=by rwa[if_pos hc]at h
theorem qT.ifn{c:Prop}[Decidable c]{x y:kX β}(h:qT Q rs l enc Y own (if c then x else y))(hc: ¬c):qT Q rs l enc Y own y:=by rwa[if_neg hc]at h
theorem kZ.a5w{f:FuncId}{fn:Func}{c:Code}{k:Nat}{av:List DV}{X:List (Nat×aW)}{r:kX β}(hf:prog.funcs[f]? =some fn)(hb:fn.body=some c)(hn:fn.ntmps=k)(hrs:fn.results.toList=rs)(hT:(own.all λc=>c.2.all λl=>match l with| .t i=>decide (i<av.length)|_=>true)=true)(h:∀Q:Exit->St->Prop,qT Q rs l enc Y own r->SW prog G c ⟨av++List.replicate (k-av.length) (.cJ []),rH l i++X,own⟩ Q):kZ G f av X own l i r enc Y:=by
 refine CX.b6N hf hb hn hrs hT λQ h1 h2=>h Q ⟨λa j e s hr he hs=>?_,λn e s hr=>?_⟩
 .subst hr;exact h1 _ _ _ e s rfl he hs
 .subst hr;exact h2 _ s rfl
theorem kD(K:List (Nat×Nat)):∀ds:List D,aO K (ds.map .d)=ds.map .d
 |[]=>rfl
 |d::r=>by simp only[List.map_cons,aO,bD,kD K r]
theorem eW(K:List (Nat×Nat)):∀ds:List D,(ds.map DV.d).all (aP K)=true
 |[]=>rfl
 |d::r=>by simp only[List.map_cons,List.all_cons,aP,eW K r,Bool.and_self]
theorem yJ{f:FuncId}{av0 av:List DV}{X:List (Nat×aW)}{r:kX β}{st:St}{ls:List (Option VM.Loc)}{dst:Option Tmp}{KK:St->Prop}{rest:List (TypeId×List VM.Loc)}(he:VM.Enters prog f)(hc:kZ G f av0 X own l i r enc Y)(K:List (Nat×Nat))(jB:∀a j,r=.ok a j->aK K ⟨av0,rH l i++X,own⟩ (enc a) (rH l j++Y a)=true)(b9M:aK K ⟨av0,rH l i++X,own⟩ .undef (rH l i++X)=true)(kR:WkT av (aO K av0))(hH:WkH st.H (cI K (rH l i++X)))(kF:tH st st.own (own.map (oN K ls))=some rest)(b3V:xJ st.tmps.length ls own=true)(rK:∀a j,r=.ok a j->KK (bE K dst st rest (enc a) (rH l j++Y a) own))(a1D:∀n e,r=.bad n e->Q (.panic (yI (oA n e))) (a0F st)):uN prog G f av ls dst st KK Q (gL r):=by
 rw[<-c0a (l:=l) (enc:=enc) (Y:=Y) (own:=own) r];refine uN.mk he hc K (λd H1 dZ hx=>?_) (λv hx=>b9M) kR hH kF b3V (λd H1 dZ hx=>?_) (λv hx=>?_)
 .cases r with
  |bad n e=>cases hx
  |ok a j=>cases hx;exact jB a j rfl
 .cases r with
  |bad n e=>cases hx
  |ok a j=>cases hx;exact rK a j rfl
 .cases r with
  |bad n e=>cases hx;exact a1D n e rfl
  |ok a j=>cases hx
abbrev K1:List (Nat×Nat):=[(100000,100000)]
theorem rdZ{f:FuncId}{ds:List D}{av:List DV}{r:kX β}{st:St}{ls:List (Option VM.Loc)}{dst:Option Tmp}{KK:St->Prop}(he:VM.Enters prog f)(hc:pW G f ds l i r enc)(rK:∀a j,r=.ok a j->KK ⟨mG dst (enc a) st.tmps,bU 100000 (rdO l j) st.H,kK dst (dropKey 100000 st.own)⟩)(a1D:∀n e,r=.bad n e->Q (.panic (yI (oA n e))) (a0F st))(hk:∀a,aP K1 (enc a)=true/\bD K1 (enc a)=enc a:=by intro a;exact⟨rfl,rfl⟩)(hw:WkT av (.ptr 100000 0::ds.map .d):=by simp)(hH:getKey 100000 st.H=some (rdO l i):=by simp):uN prog G f av ls dst st KK Q (gL r):=by
 refine yJ he hc K1 (λa j hr=>?_) ?_ ?_ ?_ rfl rfl (λa j hr=>?_) a1D (rest:=st.own)
 .simp[aK,aP,aM,aL,eW,bA,getKey,(hk a).1]
 .simp[aK,aP,aM,aL,eW,bA,getKey]
 .simpa[aO,bD,rk,kD]using hw
 .simp only[cI,rdO,List.append_nil,List.map_cons,List.map_nil,rk,if_true,cQ,aO,bD,WkH,and_true];exact⟨_,hH,by simp[WkO]⟩
 .have:=rK a j hr;simpa[bE,bO,cQ,aO,bD,rk,dQ,(hk a).2]using this
theorem b6W{f:FuncId}{ds:List D}{d:D}{av:List DV}{st:St}{q ro:Bool}{ls:List (Option VM.Loc)}{dst:Option Tmp}{all:Array Oper}{ops:List Oper}{k:List KI}(he:VM.Enters prog f)(hc:CH prog G f ⟨.ptr 100000 0::ds.map .d,rH l i,[]⟩ ⟨[.d d],rH l i,[]⟩)(h:VK prog G (.ops q all ops::k) .normal (finish st dst (.d d) .no) Q)(hw:WkT av (.ptr 100000 0::ds.map .d):=by simp)(hH:getKey 100000 st.H=some (rdO l i):=by simp)(sI:jW [100000] st.own=true:=by simp):eR prog G q ro f av ls dst all ops k st Q:=by
 refine eR.ro he hc K1 ?_ ?_ ?_ sI ?_ h
 .simp[aK,aP,aM,aL,eW,bA,getKey]
 .simpa[aO,bD,rk,kD]using hw
 .simp only[cI,rdO,List.map_cons,List.map_nil,rk,if_true,cQ,aO,bD,a5x,and_true];exact hH
 .simp[hH]
theorem kZ.cP{f:FuncId}{fn:Func}{c:Code}{k:Nat}{av:List DV}{X:List (Nat×aW)}{r:kX β}(hf:prog.funcs[f]? =some fn)(hb:fn.body=some c)(hn:fn.ntmps=k)(hrs:fn.results.toList=rs)(hT:(own.all λc=>c.2.all λl=>match l with| .t i=>decide (i<av.length)|_=>true)=true)(h:∀Q:Exit->St->Prop,qT Q rs l enc Y own r->XK prog G [.code c] .normal ⟨av++List.replicate (k-av.length) (.cJ []),rH l i++X,own⟩ Q):kZ G f av X own l i r enc Y:=kZ.a5w hf hb hn hrs hT λQ hQ=>SW.xk (h Q hQ)
theorem rdX{f:FuncId}{ds:List D}{av:List DV}{r:kX β}{st:St}{ls:List (Option VM.Loc)}{dst:Option Tmp}{all:Array Oper}{ops:List Oper}{k:List XI}(he:VM.Enters prog f)(hc:pW G f ds l i r enc)(rK:∀a j,r=.ok a j->XK prog G (.ops all ops::k) .normal ⟨mG dst (enc a) st.tmps,bU 100000 (rdO l j) st.H,kK dst (dropKey 100000 st.own)⟩ Q)(a1D:∀n e,r=.bad n e->Q (.panic (yI (oA n e))) (a0F st))(hk:∀a,aP K1 (enc a)=true/\bD K1 (enc a)=enc a:=by intro a;exact⟨rfl,rfl⟩)(hw:WkT av (.ptr 100000 0::ds.map .d):=by simp)(hH:getKey 100000 st.H=some (rdO l i):=by simp):eF prog G f av ls dst all ops k st Q:=eF.mk (rdZ (hw:=hw) (hH:=hH) he hc rK a1D hk)
theorem oF{γ:Type}{f:FuncId}{ds:List D}{av:List DV}{x:bB γ}{g:γ->bB β}{e1:γ->DV}{m:Nat}{A:Prop}{Q':Exit->St->Prop}{st:St}{ls:List (Option VM.Loc)}{dst:Option Tmp}{KK:St->Prop}(Q0:qT Q rs l enc Y own ((x >>=g) i))(p0:A/\i<l.length)(he:VM.Enters prog f)(hc:pW G f ds l i (x i) e1)(ad:aA l m x)(rK:∀a j,x i=.ok a j->qT Q rs l enc Y own (g a j)->i+m<=j/\j<l.length->KK ⟨mG dst (e1 a) st.tmps,bU 100000 (rdO l j) st.H,kK dst (dropKey 100000 st.own)⟩)(hq:∀v s,(∀s,Q (.panic v) s)->Q' (.panic v) s:=by first|exact λ_ _ h=>h _|(intro v s h;simp;first|exact h _|exact h))(hw:WkT av (.ptr 100000 0::ds.map .d):=by simp)(hH:getKey 100000 st.H=some (rdO l i):=by simp)(hk:∀a,aP K1 (e1 a)=true/\bD K1 (e1 a)=e1 a:=by intro a;exact⟨rfl,rfl⟩):uN prog G f av ls dst st KK Q' (gL (x i)):=rdZ (hw:=hw) (hH:=hH) he hc (λa j h=>rK a j h (Q0.step h) (ad i a j p0.2 h)) (λn e h=>hq _ _ λs=>Q0.fail h s) hk
theorem qI{γ:Type}{f:FuncId}{ds:List D}{av:List DV}{x:bB γ}{g:γ->bB β}{e1:γ->DV}{m:Nat}{A:Prop}{Q':Exit->St->Prop}{st:St}{ls:List (Option VM.Loc)}{dst:Option Tmp}{all:Array Oper}{ops:List Oper}{k:List XI}(Q0:qT Q rs l enc Y own ((x >>=g) i))(p0:A/\i<l.length)(he:VM.Enters prog f)(hc:pW G f ds l i (x i) e1)(ad:aA l m x)(rK:∀a j,x i=.ok a j->qT Q rs l enc Y own (g a j)->i+m<=j/\j<l.length->XK prog G (.ops all ops::k) .normal ⟨mG dst (e1 a) st.tmps,bU 100000 (rdO l j) st.H,kK dst (dropKey 100000 st.own)⟩ Q')(hq:∀v s,(∀s,Q (.panic v) s)->Q' (.panic v) s:=by first|exact λ_ _ h=>h _|(intro v s h;simp;first|exact h _|exact h))(hw:WkT av (.ptr 100000 0::ds.map .d):=by simp)(hH:getKey 100000 st.H=some (rdO l i):=by simp)(hk:∀a,aP K1 (e1 a)=true/\bD K1 (e1 a)=e1 a:=by intro a;exact⟨rfl,rfl⟩):eF prog G f av ls dst all ops k st Q':=eF.mk (oF (hw:=hw) (hH:=hH) Q0 p0 he hc ad rK hq (hk:=hk))
theorem rdR{f:FuncId}{ds:List D}{av:List DV}{r:kX β}{e1:β->DV}{Q':Exit->St->Prop}{st:St}{ls:List (Option VM.Loc)}{dst:Option Tmp}{all:Array Oper}{ops:List Oper}{k:List XI}(Q0:qT Q rs l enc Y own r)(he:VM.Enters prog f)(hc:pW G f ds l i r e1)(rK:∀a j,r=.ok a j->XK prog G (.ops all ops::k) .normal ⟨mG dst (e1 a) st.tmps,bU 100000 (rdO l j) st.H,kK dst (dropKey 100000 st.own)⟩ Q')(hq:∀v s,(∀s,Q (.panic v) s)->Q' (.panic v) s:=by first|exact λ_ _ h=>h _|(intro v s h;simp;first|exact h _|exact h))(hw:WkT av (.ptr 100000 0::ds.map .d):=by simp)(hH:getKey 100000 st.H=some (rdO l i):=by simp)(hk:∀a,aP K1 (e1 a)=true/\bD K1 (e1 a)=e1 a:=by intro a;exact⟨rfl,rfl⟩):eF prog G f av ls dst all ops k st Q':=rdX (hw:=hw) (hH:=hH) he hc rK (λn e h=>hq _ _ λs=>Q0.bad n e s h) hk
theorem mA{f:FuncId}{ds:List D}{d:DV}{av:List DV}{st:St}{ls:List (Option VM.Loc)}{dst:Option Tmp}{all:Array Oper}{ops:List Oper}{k:List XI}(he:VM.Enters prog f)(hc:CH prog G f ⟨.ptr 100000 0::ds.map .d,rH l i,[]⟩ ⟨[d],rH l j,[]⟩)(h:XK prog G (.ops all ops::k) .normal ⟨mG dst d st.tmps,bU 100000 (rdO l j) st.H,kK dst (dropKey 100000 st.own)⟩ Q)(hk:aP K1 d=true/\bD K1 d=d:=by exact⟨rfl,rfl⟩)(hw:WkT av (.ptr 100000 0::ds.map .d):=by simp)(hH:getKey 100000 st.H=some (rdO l i):=by simp):eF prog G f av ls dst all ops k st Q:=
 rdX (hw:=hw) (hH:=hH) (r:=kX.ok () j) (enc:=λ_=>d) he hc (λa j' hr=>by cases hr;exact h) (λn e hr=>by cases hr) λ_=>hk
end
theorem e3H:List.range 2=[0,1]:=rfl
theorem e3I:List.range 3=[0,1,2]:=rfl
attribute [simp] mG kK e3H e3I
end
section
open Go Go.VM
variable {G:GT}
theorem kE:VM.Enters prog 127:=.mk func127 rfl
theorem jP:VM.Enters prog 120:=.mk func120 rfl
theorem bP:VM.Enters prog 41:=.mk func41 rfl
theorem eO:VM.Enters prog 76:=.mk func76 rfl
theorem gH:VM.Enters prog 60:=.mk func60 rfl
theorem tM:VM.Enters prog 59:=.mk func59 rfl
theorem jK:VM.Enters prog 43:=.mk func43 rfl
theorem a0J:VM.Enters prog 119:=.mk func119 rfl
theorem cL:VM.Enters prog 71:=.mk func71 rfl
theorem gU:VM.Enters prog 116:=.mk func116 rfl
theorem a0K:VM.Enters prog 137:=.mk func137 rfl
theorem mI(t:Tok)(s:Nm):CS prog G 127 [.agg (cH t),.str s] (.d (.bool (gF t s))) none:=by
 obtain⟨k,x,n,ln⟩:=t;refine CS.aZ func127 rfl ntmps127 rfl ?_;by_cases h1:k=1
 .by_cases h2:x=s<;>simp[cH,gF,h1,h2]
 .by_cases h4:k=4
  .by_cases h2:x=s<;>simp[cH,gF,h4,h2]
  .by_cases h5:k=2
   .by_cases h2:x=s<;>simp[cH,gF,h5,h2]
   .simp[cH,gF,h1,h4,h5]
theorem kT(hG:G 1=some dK)(t:Tok):CS prog G 120 [.agg (cH t)] (.d (.bool (mH aX t))) none:=by
 obtain⟨k,x,n,ln⟩:=t;refine CS.aZ func120 rfl ntmps120 rfl ?_;by_cases h1:k=1
 .simp[cH,mH,h1];refine aE.mk wF (yG hG x) ?_;simp
 .simp[cH,mH,h1]
theorem cF(l:List Tok)(i m:Nat)(x:Int)(hx:(i:Int)+x=m)(hm:m<=l.length+10)(h0:l≠[])(hl:l.length<=2000000):CH prog G 41 ⟨[.ptr 100000 0,.d (.int .i64 x)],rH l i,[]⟩ ⟨[.d (.agg (cH (aR l m)))],rH l i,[]⟩:=by
 have hw:IntKind.i64.wrap ((i:Int)+x)=(m:Int):=by rw[hx,wrap64 (by omega)]
 have hlen:0<l.length:=List.length_pos_iff.2 h0;have hw2:IntKind.i64.wrap ((l.length:Int)-1)=((l.length-1:Nat):Int):=by rw[wrap64 (by omega)];omega
 by_cases h:m<l.length
 .have hg:aR l m=l[m]:=by simp[aR,h]
  rw[hg];obtain⟨T,hT⟩:∃T,l[m]=T:=⟨_,rfl⟩;rw[hT];obtain⟨k,s,n,ln⟩:=T;refine CH.aZ func41 rfl ntmps41 rfl (by simp) ?_;simp[hw,h,hT,cH];exact⟨gE.mk (by kernel_rfl),gE.mk (by kernel_rfl)⟩
 .have hl1:l.length-1<l.length:=by omega
  have hg:aR l m=l[l.length-1]:=by simp[aR,h,List.getLastD_eq_getLast?,List.getLast?_eq_getElem?,hl1]
  rw[hg];obtain⟨N,hN⟩:∃N,l.length-1=N:=⟨_,rfl⟩;rw[hN]at hl1 hw2;obtain⟨T,hT⟩:∃T,l[N]=T:=⟨_,rfl⟩;have hT2:l[l.length-1]=T:=by simp only[hN];exact hT
  rw[hT2];obtain⟨k,s,n,ln⟩:=T;refine CH.aZ func41 rfl ntmps41 rfl (by simp) ?_;simp[hw,hw2,h,h0,hT,hl1,cH];exact⟨gE.mk (by kernel_rfl),gE.mk (by kernel_rfl)⟩
theorem jD(l:List Tok)(i:Nat)(s:Nm)(hi:i<l.length)(hl:l.length<=2000000):CH prog G 76 ⟨[.ptr 100000 0,.d (.str s)],rH l i,[]⟩ ⟨[.d (.bool (aQ l i s))],rH l i,[]⟩:=by have ht:=cF (G:=G) l i i 0 (by omega) (by omega) (by intro e;subst e;simp at hi) hl;refine CH.aZ func76 rfl ntmps76 rfl (by simp) ?_;simp;refine b6W (i:=i) (ds:=[.int .i64 0]) bP ht ?_;simp;refine aE.mk kE (mI (aR l i) s) ?_;simp[aQ]
theorem qA(l:List Tok)(i:Nat)(s:Nm)(hi:i<l.length)(hl:l.length<=2000000)(h:aQ l i s=true):CH prog G 60 ⟨[.ptr 100000 0,.d (.str s)],rH l i,[]⟩ ⟨[.d (.bool true)],rH l (i+1),[]⟩:=by have hc:=jD (G:=G) l i s hi hl;rw[h]at hc;have hw:=bC (show i<9223372036854775807 by omega);refine CH.aZ func60 rfl ntmps60 rfl (by simp) ?_;simp;refine b6W (i:=i) (ds:=[.str s]) eO hc ?_;simp[hw]
theorem a8M(l:List Tok)(i:Nat)(s:Nm)(hi:i<l.length)(hl:l.length<=2000000)(h:aQ l i s=false):CH prog G 60 ⟨[.ptr 100000 0,.d (.str s)],rH l i,[]⟩ ⟨[.d (.bool false)],rH l i,[]⟩:=by have hc:=jD (G:=G) l i s hi hl;rw[h]at hc;refine CH.aZ func60 rfl ntmps60 rfl (by simp) ?_;simp;refine b6W (i:=i) (ds:=[.str s]) eO hc ?_;simp
theorem vW{α:Type}(l:List Tok)(i:Nat)(hi:i<l.length)(hl:l.length<=2000000)(enc:α->DV):pW G 59 [] l i (dU l i:kX α) enc:=by have ht:=cF (G:=G) l i i 0 (by omega) (by omega) (by intro e;subst e;simp at hi) hl;refine kZ.a5w func59 rfl ntmps59 rfl (by simp) ?_;intro Q hE;refine SW.lw (LW.app 4 ?_);simp;refine b6W (i:=i) (ds:=[.int .i64 0]) bP ht ?_;generalize hT:aR l i=T;have hb:=λs=>hE.bad T.line 14 s (by unfold dU;rw[hT]);obtain⟨k,s,n,ln⟩:=T;simp[cH];refine LW.c2q (td:=_) (n:=ln) (e:=14) rfl rfl (by simp) (by simp) ?_;exact hb _
end
end Go.Proofs.YtjpodcmhcenjjaaGreatDoor
