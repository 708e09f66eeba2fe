/- Lemmas that the law of this claim needs (PtG PtH PrM PrN PtI PrQ PtJ VmRH PvA PvD PvE PuA PuD PuE PuG PvF). No condition. -/
import Derived.Test.YtjpodcmhcenjjaaGreatDoorOba
import Derived.Test.YtjpodcmhcenjjaaGreatDoorObd
import Derived.Test.YtjpodcmhcenjjaaGreatDoorObe
import Derived.Test.YtjpodcmhcenjjaaGreatDoorObg
import Derived.Test.YtjpodcmhcenjjaaGreatDoorObh
import Derived.Test.YtjpodcmhcenjjaaGreatDoorObj
import Derived.Test.YtjpodcmhcenjjaaGreatDoorObk
import Derived.OrdersHeld
set_option linter.unusedVariables false
set_option linter.unusedSimpArgs false
set_option linter.unusedSectionVars false
set_option maxRecDepth 100000
set_option maxHeartbeats 64000000
open Go.Proofs.Tryz
namespace Go.Proofs.YtjpodcmhcenjjaaGreatDoor
section
open Go Go.VM
variable {G:GT}
abbrev b3n(s:List UInt8)(F:FuncId)(l:List Tok)(ds:List D):St:=⟨[.d (.str s),.clo F [.ptr 100001 0],.undef,.undef,.ptr 4 0,.ptr 5 0,.undef,.undef,.ptr 22 0]++List.replicate 19 .undef,[(4,.cells [.d (.int .i64 0)]),(5,.cells [.d (.int .i64 0)]),(22,rdO l 0),(100001,.cells (ds.map .d))],[]⟩
theorem d0t{α:Type}{aG:List Tok->Nat->Nat->kX Pr}{l:List Tok}(hV:kU G aG l)(C:α->List D)(a0:α)(n e:Int){F:FuncId}(he:VM.Enters prog F){s:List UInt8}(hlx:CS prog G 64 [.str s] (.cJ [.sl (l.map cH),.int .i64 0,.int .i64 0]) none)(hc:kZ G F [.ptr 100000 0,.ptr 100001 0] [(100001,.cells ((C a0).map .d))] [] l 0 (.bad n e:kX α) (λ_=>.cJ []) (λa=>[(100001,.cells ((C a).map .d))])):
  CHd prog G 32 ⟨[.d (.str s),.clo F [.ptr 100001 0]],[(100001,.cells ((C a0).map .d))],[]⟩ (.cJ [.int .i64 n,.int .i64 e]):=by
 intro base R μ args w hr;refine calls_of_wp_defers func32 rfl ?_;have hr0:=Rel.frame ntmps32 rfl hr;refine SW.d5u (T:=λe' s'=>e'=.normal/\yF s' (b3m s F l [(100001,.cells ((C a0).map .d))])) ?h hr0 (λs' R' μ' a' w' q1 q2 q3=>?_) (λe' s' R' μ' a' w' q0 q1 q2 q3=>(q0 q1.1).elim)
 case h=>refine SW.xk ?_;simp;refine SW.xk ?_;simp;refine jC.mk uO hlx ?_;simp;refine SW.xk ?_;simp[List.replicate]
 .refine a6L rfl (q2.a0X q1.2) λa1 hr1=>?_;refine wp_seq (wp_mono (DW.frame (t:=4) (u:=5) (Q:=λe s'=>e=.normal/\yF s' (b3n s F l (C a0))) ?hD (by decide) (by decide) hr1) λe2 a2 w2 ⟨⟨⟨a3,s3,R3,μ3,h0,⟨h1,h2⟩,h3,h4⟩,f4⟩,f5⟩=>?_)
  case hD=>simp[List.replicate]
  .subst h0 h1;have hr3:=h3.a0X h2;have f4:a3.eval (.tmp 4)=a1.eval (.tmp 4):=f4 (by simp);have f5:a3.eval (.tmp 5)=a1.eval (.tmp 5):=f5 (by simp);have m4:μ3 4=μ' 4:=by have k1:=hr3.dA (x:=.tmp 4) (k:=4) (off:=0) rfl;have k2:=hr1.dA (x:=.tmp 4) (k:=4) (off:=0) rfl;rw[f4,k2]at k1;exact((Addr.mk.inj (Option.some.inj (Value.pointer.inj k1))).1).symm
   have m5:μ3 5=μ' 5:=by have k1:=hr3.dA (x:=.tmp 5) (k:=5) (off:=0) rfl;have k2:=hr1.dA (x:=.tmp 5) (k:=5) (off:=0) rfl;rw[f5,k2]at k1;exact((Addr.mk.inj (Option.some.inj (Value.pointer.inj k1))).1).symm
   have hz:a3.tmps.size=28:=hr3.size;obtain⟨vs,e7T,pF,hvc⟩:=(hr3.mD (x:=.tmp 1) rfl).a6Y;obtain⟨vc,rfl⟩:∃vc,vs=#[vc]:=by
    obtain⟨L⟩:=vs
    match L,pF with
    |[x],_=>exact⟨x,rfl⟩
   have h8:a3.eval (.tmp 8)=.pointer (some ⟨μ3 22,0,none⟩):=hr3.dA rfl;refine wp_seq (wp_region_list ?_);have hr4:=hr3.put (dst:=some 23) (v:=.func (.func F) #[] #[vc]) (dv:=.undef) (act:=.no) (.undef _) trivial;have hr5:=hr4.put (dst:=some 24) (v:=.pointer (some ⟨μ3 22,0,none⟩)) (dv:=.undef) (act:=.no) (.undef _) trivial;have yH:finish (finish (b3n s F l (C a0)) (some 23) .undef .no) (some 24) .undef .no=b3n s F l (C a0):=by simp[finish,jV,cE,mG,List.replicate]
   rw[yH]at hr5;refine pQ (w':=w2) (v:=.func (.func F) #[] #[vc]) rfl (.inl (by show(pure (Next.value (a3.eval (.tmp 1))):Sem Next).run _ w2=_;rw[e7T];rfl)) rfl ?_;refine pQ (w':=w2) (v:=.pointer (some ⟨μ3 22,0,none⟩)) rfl (.inl (by show(pure (Next.value (((a3.put (some 23) (.func (.func F) #[] #[vc]))).eval (.tmp 8))):Sem Next).run _ w2=_;rw[bQ _ _ (by decide),h8];rfl)) rfl ?_
   change wpList _ _ _ _ { (a3.put (some 23) (.func (.func F) #[] #[vc])).put (some 24) (.pointer (some ⟨μ3 22,0,none⟩))with defers:=[c6Q (.pointer (some ⟨μ' 4,0,none⟩)) (.pointer (some ⟨μ' 5,0,none⟩))]} w2
   generalize ha5:(a3.put (some 23) (.func (.func F) #[] #[vc])).put (some 24) (.pointer (some ⟨μ3 22,0,none⟩))=a5 at hr5|-;have e23:a5.eval (.tmp 23)=.func (.func F) #[] #[vc]:=by rw[<-ha5,bQ _ _ (by decide)];exact dB _ _ (by omega)
   have e24:a5.eval (.tmp 24)=.pointer (some ⟨μ3 22,0,none⟩):=by rw[<-ha5];exact dB _ _ (by rw[size_put];omega)
   have hd5:a5.defers=[]:=hr5.defers;have hw:∀(o:Oper) y,o.guard=none->Region.wanted o y=true:=λo y hg=>by unfold Region.wanted;rw[hg]
   unfold wpList;rw[if_pos (hw _ _ rfl)];left;unfold Oper.wp;have e2:∀(o:Oper),o.op=.call {callee:=.value (.tmp 23),args:=#[.tmp 24],argTypes:=#[85]}->(execOp a5.eval o).run prog w2=.ok (.enter F (#[.pointer (some ⟨μ3 22,0,none⟩)]++ #[vc])) w2:=λo ho=>by have hi:=yN he #[.pointer (some ⟨μ3 22,0,none⟩)] #[vc] w2;simp[execOp,ho,resolve,e23,e24,Deferred.ofValue];exact hi
   show Oper.upon _ _ _ _ _ ((execOp a5.eval _).run prog w2)
   rw[e2 _ (by rfl),Oper.upon_enter];refine(a7E.b6e (st:=b3n s F l (C a0)) hc [(100000,22),(100001,100001)] («f2L» :=[.ptr 22 0,.ptr 100001 0]) (ls:=[]) (rest:=[]) (a4u 0 0) (by simp[aK,aP,aM,aL,bA,getKey]) (by simp[aO,bD,rk]) (by simp[aO,bD,rk,cI,cQ,kD]) rfl rfl (λk o hk=>?_) hr5 rfl (λi d hd=>?_) (λi l h=>by simp at h)).mono ?_
   .simp only[a4u,getKey]at hk;split at hk
    .rename_i hk4;subst hk4;exact⟨by simpa[getKey]using hk,by simp[rk]⟩
    .split at hk
     .rename_i hk5;subst hk5;exact⟨by simpa[getKey]using hk,by simp[rk]⟩
     .cases hk
   .match i,hd with
    |0,hd=>simp at hd;subst hd;exact(TV.ptr 22 0:TV R3 μ3 w2 (.pointer (some ⟨μ3 22,0,none⟩)) _)
    |1,hd=>simp at hd;subst hd;exact hvc 0 (.ptr 100001 0) rfl
   .rintro e' w4 ⟨R4,rfl,hr6,hs6⟩;have hP:=a5N n e hr6 rfl rfl (λen w'=>∃v R',en=.returned v/\(∀μ',TV R' μ' w' v (.cJ [.int .i64 n,.int .i64 e]))/\Step base R w R' w'/\∀b o,R' b o->b<w'.heap.size) λv R7 w7 hv hs7 hb7=>by exact⟨v,R7,rfl,hv,((q3.trans h4).trans hs6).trans hs7,hb7⟩
    rw[m4,m5]at hP;exact hP
end
section
open Go Go.VM
variable {G:GT}
abbrev b7K(s:List UInt8)(F:FuncId)(l:List Tok)(j:Nat)(ds:List D):St:=⟨[.d (.str s),.clo F [.ptr 100001 0],.undef,.undef,.ptr 4 0,.ptr 5 0,.undef,.undef,.ptr 22 0]++List.replicate 19 .undef,[(4,.cells [.d (.int .i64 0)]),(5,.cells [.d (.int .i64 0)]),(22,rdO l j),(100001,.cells (ds.map .d))],[]⟩
theorem c6T{α:Type}{aG:List Tok->Nat->Nat->kX Pr}{l:List Tok}(hV:kU G aG l)(C:α->List D)(a0 a:α)(j:Nat)(n e:Int){F:FuncId}(he:VM.Enters prog F){s:List UInt8}(hlx:CS prog G 64 [.str s] (.cJ [.sl (l.map cH),.int .i64 0,.int .i64 0]) none)(hc:kZ G F [.ptr 100000 0,.ptr 100001 0] [(100001,.cells ((C a0).map .d))] [] l 0 (.ok a j) (λ_=>.cJ []) (λa=>[(100001,.cells ((C a).map .d))]))(hj:j<l.length)(a1B:uY l j=.bad n e):
  CHd prog G 32 ⟨[.d (.str s),.clo F [.ptr 100001 0]],[(100001,.cells ((C a0).map .d))],[]⟩ (.cJ [.int .i64 n,.int .i64 e]):=by
 intro base R μ args w hr;refine calls_of_wp_defers func32 rfl ?_;have hr0:=Rel.frame ntmps32 rfl hr;refine SW.d5u (T:=λe' s'=>e'=.normal/\yF s' (b3m s F l [(100001,.cells ((C a0).map .d))])) ?h hr0 (λs' R' μ' a' w' q1 q2 q3=>?_) (λe' s' R' μ' a' w' q0 q1 q2 q3=>(q0 q1.1).elim)
 case h=>refine SW.xk ?_;simp;refine SW.xk ?_;simp;refine jC.mk uO hlx ?_;simp;refine SW.xk ?_;simp[List.replicate]
 .refine a6L rfl (q2.a0X q1.2) λa1 hr1=>?_;refine wp_seq (wp_mono (DW.frame (t:=4) (u:=5) (Q:=λe s'=>e=.normal/\yF s' (b3n s F l (C a0))) ?hD (by decide) (by decide) hr1) λe2 a2 w2 ⟨⟨⟨a3,s3,R3,μ3,h0,⟨h1,h2⟩,h3,h4⟩,f4⟩,f5⟩=>?_)
  case hD=>simp[List.replicate]
  .subst h0 h1;have hr3:=h3.a0X h2;have f4:a3.eval (.tmp 4)=a1.eval (.tmp 4):=f4 (by simp);have f5:a3.eval (.tmp 5)=a1.eval (.tmp 5):=f5 (by simp);have m4:μ3 4=μ' 4:=by have k1:=hr3.dA (x:=.tmp 4) (k:=4) (off:=0) rfl;have k2:=hr1.dA (x:=.tmp 4) (k:=4) (off:=0) rfl;rw[f4,k2]at k1;exact((Addr.mk.inj (Option.some.inj (Value.pointer.inj k1))).1).symm
   have m5:μ3 5=μ' 5:=by have k1:=hr3.dA (x:=.tmp 5) (k:=5) (off:=0) rfl;have k2:=hr1.dA (x:=.tmp 5) (k:=5) (off:=0) rfl;rw[f5,k2]at k1;exact((Addr.mk.inj (Option.some.inj (Value.pointer.inj k1))).1).symm
   have hz:a3.tmps.size=28:=hr3.size;refine wp_seq (wp_mono (DW.frame (t:=4) (u:=5) (Q:=λe s'=>e=.normal/\yF s' (b7K s F l j (C a))) ?hD2 (by decide) (by decide) hr3) λe5 a5 w5 ⟨⟨⟨a6,s6,R6,μ6,h0',⟨h1',h2'⟩,h3',h4'⟩,g4⟩,g5⟩=>?_)
   case hD2=>
    simp[List.replicate];refine a7Z.mk (yJ he hc [(100000,22),(100001,100001)] (λa j hx=>?_) ?_ ?_ ?_ rfl rfl (λa2 j2 hx=>?_) (λn e hx=>by cases hx))
    .simp[aK,aP,aM,aL,bA,getKey,eW]
    .simp[aK,aP,aM,aL,bA,getKey,eW]
    .simp[aO,bD,rk]
    .simp[aO,bD,rk,cI,cQ,kD]
    .cases hx;simp[bE,aO,bD,rk,cI,cQ,bO,gP,eS,dQ,kD]
   .subst h0' h1';have hr6:=h3'.a0X h2';have g4:a6.eval (.tmp 4)=a3.eval (.tmp 4):=g4 (by simp);have g5:a6.eval (.tmp 5)=a3.eval (.tmp 5):=g5 (by simp);have n4:μ6 4=μ' 4:=by have k1:=hr6.dA (x:=.tmp 4) (k:=4) (off:=0) rfl;have k2:=hr1.dA (x:=.tmp 4) (k:=4) (off:=0) rfl;rw[g4,f4,k2]at k1;exact((Addr.mk.inj (Option.some.inj (Value.pointer.inj k1))).1).symm
    have n5:μ6 5=μ' 5:=by have k1:=hr6.dA (x:=.tmp 5) (k:=5) (off:=0) rfl;have k2:=hr1.dA (x:=.tmp 5) (k:=5) (off:=0) rfl;rw[g5,f5,k2]at k1;exact((Addr.mk.inj (Option.some.inj (Value.pointer.inj k1))).1).symm
    have h8:a6.eval (.tmp 8)=.pointer (some ⟨μ6 22,0,none⟩):=hr6.dA rfl;have hz6:a6.tmps.size=28:=hr6.size;refine wp_seq (wp_region_list ?_);have hr7:=hr6.put (dst:=some 26) (v:=.pointer (some ⟨μ6 22,0,none⟩)) (dv:=.undef) (act:=.no) (.undef _) trivial;have yH:finish (b7K s F l j (C a)) (some 26) .undef .no=b7K s F l j (C a):=by simp[finish,jV,cE,mG,List.replicate]
    rw[yH]at hr7;refine pQ (w':=w5) (v:=.pointer (some ⟨μ6 22,0,none⟩)) rfl (.inl (by show(pure (Next.value (a6.eval (.tmp 8))):Sem Next).run _ w5=_;rw[h8];rfl)) rfl ?_
    change wpList _ _ _ _ {a6.put (some 26) (.pointer (some ⟨μ6 22,0,none⟩))with defers:=[c6Q (.pointer (some ⟨μ' 4,0,none⟩)) (.pointer (some ⟨μ' 5,0,none⟩))]} w5
    generalize ha7:a6.put (some 26) (.pointer (some ⟨μ6 22,0,none⟩))=a7 at hr7|-;have e26:a7.eval (.tmp 26)=.pointer (some ⟨μ6 22,0,none⟩):=by rw[<-ha7];exact dB _ _ (by omega)
    have hw:∀(o:Oper) y,o.guard=none->Region.wanted o y=true:=λo y hg=>by unfold Region.wanted;rw[hg]
    unfold wpList;rw[if_pos (hw _ _ rfl)];left;unfold Oper.wp;have e2:∀(o:Oper),o.op=.call {callee:=.value (.func 66),args:=#[.tmp 26],argTypes:=#[85]}->(execOp a7.eval o).run prog w5=.ok (.enter 66 (#[.pointer (some ⟨μ6 22,0,none⟩)]++ #[])) w5:=λo ho=>by
     have hi:=yN b3b #[.pointer (some ⟨μ6 22,0,none⟩)] #[] w5;have e7V:a7.tmps[26]?.getD undef=.pointer (some ⟨μ6 22,0,none⟩):=by simpa[Act.eval]using e26
     simp[execOp,ho,resolve,e7V,Deferred.ofValue,Act.eval]at hi|-;exact hi
    show Oper.upon _ _ _ _ _ ((execOp a7.eval _).run prog w5)
    rw[e2 _ (by rfl),Oper.upon_enter];have hce:=b5J (G:=G) hV j hj;rw[a1B]at hce;refine(a7E.b6e (st:=b7K s F l j (C a)) hce [(100000,22)] («f2L» :=[.ptr 22 0]) (ls:=[]) (rest:=[]) (a4u 0 0) (by simp[aK,aP,aM,aL,bA,getKey]) (by simp[aO,bD,rk]) (by simp[aO,bD,rk,cI,cQ,kD]) rfl rfl (λk o hk=>?_) hr7 rfl (λi d hd=>?_) (λi l h=>by simp at h)).mono ?_
    .simp only[a4u,getKey]at hk;split at hk
     .rename_i hk4;subst hk4;exact⟨by simpa[getKey]using hk,by simp[rk]⟩
     .split at hk
      .rename_i hk5;subst hk5;exact⟨by simpa[getKey]using hk,by simp[rk]⟩
      .cases hk
    .match i,hd with
     |0,hd=>simp at hd;subst hd;exact(TV.ptr 22 0:TV R6 μ6 w5 (.pointer (some ⟨μ6 22,0,none⟩)) _)
    .rintro e' w8 ⟨R8,rfl,hr8,hs8⟩;have hP:=a5N n e hr8 rfl rfl (λen w'=>∃v R',en=.returned v/\(∀μ',TV R' μ' w' v (.cJ [.int .i64 n,.int .i64 e]))/\Step base R w R' w'/\∀b o,R' b o->b<w'.heap.size) λv R9 w9 hv hs9 hb9=>by exact⟨v,R9,rfl,hv,(((q3.trans h4).trans h4').trans hs8).trans hs9,hb9⟩
     rw[n4,n5]at hP;exact hP
end
section
def aD{α:Type}(l:List Tok)(low:Nat)(x:bB α):Prop:=∀(i:Nat) (n e:Int),low<=i->i<l.length->x i=.bad n e->e≠0
section
variable {kw:Nm->Bool} {l:List Tok} {low m:Nat} {α β:Type}
theorem aD.up{x:bB α}{k:Nat}(h:aD l low x)(hk:low<=k):aD l k x:=λi n e h1 h2 h3=>h i n e (by omega) h2 h3
theorem aD.aT(a:α):aD l low (pure a:bB α):=λi n e _ _ h=>by cases h
theorem aD.bind{x:bB α}{f:α->bB β}(hx:aD l low x)(ax:aA l m x)(hf:∀a,aD l (low+m) (f a)):aD l low (x >>=f):=λi n e h1 h2 h3=>by
 rw[hZ]at h3;cases hk:x i with
 |bad n' e'=>rw[hk]at h3;cases h3;exact hx i n e h1 h2 hk
 |ok a j=>rw[hk]at h3;have:=ax i a j h2 hk;exact hf a j n e (by omega) this.2 h3
theorem aD.ite{c:Prop}[Decidable c]{x y:bB α}(hx:aD l low x)(hy:aD l low y):aD l low (if c then x else y):=by
 split
 .exact hx
 .exact hy
theorem aD.failed:aD l low (dU l:bB α):=λi n e _ _ h=>by unfold dU at h;cases h;decide
theorem aD.exp(hE:qS l):∀s:List Nm,aD l low (aV l s)
 |[]=>aD.aT ()
 |s::r=>λi n e h1 h2 h3=>by
  have h3:(if aQ l i s=true then aV l r (i+1) else dU l i)=.bad n e:=h3;split at h3
  .rename_i hs;exact aD.exp hE r (i+1) n e (by omega) (aF hE h2 hs) h3
  .exact aD.failed (low:=low) i n e h1 h2 h3
theorem aD.skip(s:Nm):aD l low (dR l s):=λi n e _ _ h=>by unfold dR at h;split at h<;>cases h
theorem aD.take(ok:Tok->Bool):aD l low (mQ l ok):=λi n e h1 h2 h=>by
 unfold mQ at h;split at h
 .cases h
 .exact aD.failed (low:=low) i n e h1 h2 h
theorem aD.loop(hE:qS l){c:Nm}{one:α->bB α}(h0:∀a,aD l low (one a))(a0:∀a,aA l 0 (one a)):∀(g:Nat) (a:α) (i:Nat) (n e:Int),low<=i->i<l.length->l.length<g+i->jN l c one g a i=.bad n e->e≠0
 |0,a,i,n,e,_,h2,h3,_=>by omega
 |g+1,a,i,n,e,h1,h2,h3,h=>by
  unfold jN at h;split at h
  .rename_i n' e' hb;cases h;exact h0 a i n e h1 h2 hb
  .rename_i b j hb;have:=a0 a i b j h2 hb;split at h
   .rename_i hs;exact aD.loop hE h0 a0 g b (j+1) n e (by omega) (aF hE this.2 hs) (by omega) h
   .cases h
theorem aD.list(hE:qS l){c:Nm}{one:α->bB α}(h0:∀a,aD l low (one a))(a0:∀a,aA l 0 (one a))(a:α):aD l low (gA l c one a):=λi n e h1 h2 h=>aD.loop hE h0 a0 _ a i n e h1 h2 (by omega) h
theorem aD.b9B{c:Nat->Bool}{one:α->bB α}(h0:∀a,aD l low (one a))(a1:∀a i b j,i<l.length->c i=true->one a i=.ok b j->i+1<=j/\j<l.length):∀(g:Nat) (a:α) (i:Nat) (n e:Int),low<=i->i<l.length->l.length<g+i->cV c one g a i=.bad n e->e≠0
 |0,a,i,n,e,_,h2,h3,_=>by omega
 |g+1,a,i,n,e,h1,h2,h3,h=>by
  unfold cV at h;split at h
  .rename_i hc;split at h
   .rename_i n' e' hb;cases h;exact h0 a i n e h1 h2 hb
   .rename_i b j hb;have:=a1 a i b j h2 hc hb;exact aD.b9B h0 a1 g b j n e (by omega) this.2 (by omega) h
  .cases h
theorem aD.many{c:Nat->Bool}{one:α->bB α}(h0:∀a,aD l low (one a))(a1:∀a i b j,i<l.length->c i=true->one a i=.ok b j->i+1<=j/\j<l.length)(a:α):aD l low (mX l c one a):=λi n e h1 h2 h=>aD.b9B h0 a1 _ a i n e h1 h2 (by omega) h
theorem aD.b0{x:bB α}{f:α->bB β}(hx:aD l low x)(ax:aA l m x)(hf:∀a,aD l low (f a)):aD l low (x >>=f):=aD.bind hx ax λa=>(hf a).up (by omega)
section
variable {andP:Pr->Pr->Pr} {aG:List Tok->Nat->Nat->kX Pr} (hE:qS l) (hB:zR aG l) (hN:∀i e n x,i<l.length->aG l i e=.bad n x->x≠0)
include hE
theorem aD.word:aD l low (bS kw l):=aD.take _
theorem aD.title:aD l low (gI l):=aD.take _
theorem aD.sort:aD l low (vN kw l):=aD.take _
theorem aD.words:aD l low (dH kw l):=by unfold dH;exact aD.b0 (aD.exp hE _) (aA.exp hE _ _) λ_=>aD.b0 (aD.list hE (λa=>aD.b0 (aD.word hE) (aA.word hE) λ_=>aD.aT _) (λa=>((aA.word hE).le (by omega)).bl λ_=>aA.aT _) _) (aA.list hE (m:=0) (λa=>((aA.word hE).le (by omega)).bl λ_=>aA.aT _) _) λ_=>aD.b0 (aD.exp hE _) (aA.exp hE _ _) λ_=>aD.aT _
theorem aD.vars(v:Bool):aD l low (qG kw l v):=by
 unfold qG;refine aD.list hE (λa=>?_) (λa=>?_) _
 .refine aD.b0 (m:=0) (aD.ite (aD.skip _) (aD.aT _)) (aA.ite (aA.skip hE _) (aA.aT _)) λb=>?_;refine aD.b0 (m:=0) (aD.ite (aD.aT _) (aD.word hE)) (aA.ite (aA.aT _) ((aA.word hE).le (by omega))) λnm=>?_;exact aD.b0 (aD.exp hE _) (aA.exp hE _ _) λ_=>aD.b0 (aD.sort hE) (aA.sort hE) λ_=>aD.aT _
 .refine aA.br (aA.ite (aA.skip hE _) (aA.aT _)) λb=>?_;refine aA.br (aA.ite (aA.aT _) ((aA.word hE).le (by omega))) λnm=>?_;exact((aA.exp hE _ _).le (by omega)).bl λ_=>((aA.sort hE).le (by omega)).bl λ_=>aA.aT _
include hN in
omit hE in
theorem aD.pred:aD l low (gB aG l):=λi n e h1 h2 h=>hN i _ n e h2 h
omit hE in
theorem aD.base:aD l low (gS kw l):=λi n e h1 h2 h=>by
 unfold gS at h
 repeat' split at h
 all_goals cases h
end
section
variable {andP:Pr->Pr->Pr} {aG:List Tok->Nat->Nat->kX Pr} (hE:qS l) (hB:zR aG l) (hN:∀i e n x,i<l.length->aG l i e=.bad n x->x≠0)
include hE hB hN
section
variable {ty:bB Ty} (mN:aD l (low+1) ty) (oV:aA l 1 ty)
include mN oV
theorem aD.b6E:aD l low (tB andP aG l ty):=by unfold tB;refine aD.bind (m:=1) (aD.exp hE _) (aA.exp hE _ _) λ_=>aD.b0 mN oV λt=>aD.ite aD.failed ?_;exact aD.b0 (aD.exp hE _) (aA.exp hE _ _) λ_=>aD.b0 (aD.pred hN) hB.pred λ_=>aD.b0 (aD.exp hE _) (aA.exp hE _ _) λ_=>aD.aT _
theorem aD.uL:aD l low (gT kw andP aG l ty):=by
 unfold gT;refine aD.b0 aD.base (aA.base hE) λo=>?_;cases o with
 |some t=>exact aD.aT _
 |none=>
  intro i n e h1 h2 h3;simp only at h3;split at h3
  .cases h3
  .split at h3
   .exact aD.b6E hE hB hN mN oV i n e h1 h2 h3
   .exact(aD.bind (m:=1) (aD.exp hE _) (aA.exp hE _ _) λ_=>aD.b0 mN oV λt=>aD.b0 (aD.exp hE _) (aA.exp hE _ _) λ_=>aD.aT _:aD l low _) i n e h1 h2 h3
theorem aD.b9C:aD l low (qP kw andP aG l ty):=by unfold qP;have hs:aD l low (gT kw andP aG l ty):=aD.uL hE hB hN mN oV;have ash:aA l 1 (gT kw andP aG l ty):=aA.uL hE (oV.le (by omega)) hB.pred;refine aD.b0 (aD.title hE) (aA.title hE) λnm=>aD.b0 (aD.many (λa=>aD.b0 hs ash λ_=>aD.aT _) (λa i b j hi hc h=>(ash.bl λ_=>aA.aT _) i b j hi h) _) (aA.many (λa=>(ash.le (by omega)).bl λ_=>aA.aT _) _) λargs=>aD.b0 (aD.skip _) (aA.skip hE _) λb=>aD.ite ?_ (aD.aT _);refine aD.b0 (m:=0) (aD.list hE (λa=>aD.b0 (aD.exp hE _) (aA.exp hE _ _) λ_=>aD.b0 (aD.pred hN) hB.pred λ_=>aD.aT _) (λa=>((aA.exp hE _ _).le (by omega)).bl λ_=>hB.pred.bl λ_=>aA.aT _) _) (aA.list hE (λa=>((aA.exp hE _ _).le (by omega)).bl λ_=>hB.pred.bl λ_=>aA.aT _) _) λps=>aD.b0 (aD.exp hE _) (aA.exp hE _ _) λ_=>aD.aT _
theorem aD.c5F:aD l low (uF kw l ty):=by
 unfold uF;have n1:∀out:List Nm×List Ty,aD l (low+1) (do
   let w <- bS kw l
   aV l [[58]]
   let t <- ty
   pure (out.1++[w],out.2++[t]):bB (List Nm×List Ty)):=λout=>aD.b0 (aD.word hE) (aA.word hE) λ_=>aD.b0 (aD.exp hE _) (aA.exp hE _ _) λ_=>aD.b0 mN oV λ_=>aD.aT _
 have n2:∀out:List Nm×List Ty,aD l (low+1) (do
   let t <- ty
   pure (out.1,out.2++[t]):bB (List Nm×List Ty)):=λout=>aD.b0 mN oV λ_=>aD.aT _
 have a1:∀out:List Nm×List Ty,aA l 0 (do
   let w <- bS kw l
   aV l [[58]]
   let t <- ty
   pure (out.1++[w],out.2++[t]):bB (List Nm×List Ty)):=λout=>((aA.word hE).le (by omega)).bl λ_=>((aA.exp hE _ _).le (by omega)).bl λ_=>(oV.le (by omega)).bl λ_=>aA.aT _
 have a2:∀out:List Nm×List Ty,aA l 0 (do
   let t <- ty
   pure (out.1,out.2++[t]):bB (List Nm×List Ty)):=λout=>(oV.le (by omega)).bl λ_=>aA.aT _
 refine aD.bind (m:=1) (aD.exp hE _) (aA.exp hE _ _) λ_=>aD.b0 (m:=0) (λi n e h1 h2 h3=>?_) (λi a j h2 h3=>?_) λq=>?_
 .split at h3
  .exact aD.list hE n1 a1 _ i n e h1 h2 h3
  .exact aD.list hE n2 a2 _ i n e h1 h2 h3
 .split at h3
  .exact aA.list hE a1 _ i a j h2 h3
  .exact aA.list hE a2 _ i a j h2 h3
 .obtain⟨ns,ts⟩:=q;refine aD.b0 (aD.exp hE _) (aA.exp hE _ _) λ_=>λi n e h1 h2 h3=>?_;simp only at h3;split at h3
  .cases h3
  .exact(aD.b0 (aD.exp hE _) (aA.exp hE _ _) λ_=>aD.b0 mN oV λ_=>aD.aT _:aD l (low+1) _) i n e h1 h2 h3
theorem aD.c5G:aD l low (uG kw andP aG l ty):=by
 unfold uG;refine aD.b0 aD.base (aA.base hE) λo=>?_;cases o with
 |some t=>exact aD.aT _
 |none=>
  intro i n e h1 h2 h3;simp only at h3;split at h3
  .exact aD.b9C hE hB hN mN oV i n e h1 h2 h3
  .split at h3
   .exact aD.b6E hE hB hN mN oV i n e h1 h2 h3
   .exact aD.c5F hE hB hN mN oV i n e h1 h2 h3
end
theorem aD.b0q:∀(n:Nat) (low:Nat),l.length<n+low->aD l low (vO kw andP aG l n)
 |0,low,h=>λi n e h1 h2 h3=>by omega
 |n+1,low,h=>aD.c5G hE hB hN (aD.b0q n (low+1) (by omega)) (aA.b0q hE hB.pred n)
theorem aD.typ:aD l low (dW kw andP aG l):=aD.b0q hE hB hN _ low (by omega)
theorem aD.types:aD l low (qQ kw andP aG l):=by unfold qQ;have ht:aD l low (dW kw andP aG l):=aD.typ hE hB hN;have hta:aA l 1 (dW kw andP aG l):=aA.typ hE hB.pred;exact aD.b0 (aD.skip _) (aA.skip hE _) λb=>aD.ite (aD.b0 (m:=0) (aD.list hE (λa=>aD.b0 ht hta λ_=>aD.aT _) (λa=>(hta.le (by omega)).bl λ_=>aA.aT _) _) (aA.list hE (λa=>(hta.le (by omega)).bl λ_=>aA.aT _) _) λ_=>aD.b0 (aD.exp hE _) (aA.exp hE _ _) λ_=>aD.aT _) (aD.aT _)
section
variable {ex:Nat->bB eM} (hx:∀k,aD l (low+1) (ex k)) (ax:∀k,aA l 1 (ex k))
include hx ax
theorem aD.jX:aD l low (jJ l ex):=by unfold jJ;exact aD.bind (m:=1) (aD.exp hE _) (aA.exp hE _ _) λ_=>aD.b0 (m:=0) (aD.list hE (λa=>aD.b0 (hx 0) (ax 0) λ_=>aD.aT _) (λa=>((ax 0).le (by omega)).bl λ_=>aA.aT _) _) (aA.list hE (λa=>((ax 0).le (by omega)).bl λ_=>aA.aT _) _) λ_=>aD.b0 (aD.exp hE _) (aA.exp hE _ _) λ_=>aD.aT _
theorem aD.b9D(op:Int):aD l low (vP l ex op):=by unfold vP;exact aD.bind (m:=1) (aD.exp hE _) (aA.exp hE _ _) λ_=>aD.b0 (hx 0) (ax 0) λ_=>aD.b0 (aD.exp hE _) (aA.exp hE _ _) λ_=>aD.aT _
theorem aD.c8M:aD l (low+1) (xK kw andP aG l ex):=by unfold xK;refine aD.b0 (aD.word hE) (aA.word hE) λ_=>aD.b0 (aD.skip _) (aA.skip hE _) λb=>aD.b0 (m:=0) (aD.ite (aD.b0 (aD.typ hE hB hN) (aA.typ hE hB.pred) λ_=>aD.aT _) (aD.aT _)) (aA.ite (((aA.typ hE hB.pred).le (by omega)).bl λ_=>aA.aT _) (aA.aT _)) λ_=>?_;exact aD.b0 (aD.exp hE _) (aA.exp hE _ _) λ_=>aD.b0 (hx 0) (ax 0) λ_=>aD.b0 (aD.exp hE _) (aA.exp hE _ _) λ_=>aD.b0 (hx 0) (ax 0) λ_=>aD.aT _
theorem aD.b1T:aD l (low+1) (pV kw l ex):=by
 unfold pV;have aw:aA l 0 (λi=>if aQ l i [40] then dH kw l i else .ok [] i:bB (List Nm)):=λi b j hi h=>by
  simp only at h;split at h
  .exact((aA.words hE).le (by omega)) _ _ _ hi h
  .cases h;omega
 have nw:aD l (low+1) (λi=>if aQ l i [40] then dH kw l i else .ok [] i:bB (List Nm)):=λi n e h1 h2 h=>by
  simp only at h;split at h
  .exact aD.words hE (low:=low+1) i n e h1 h2 h
  .cases h
 refine aD.b0 (hx 0) (ax 0) λ_=>aD.b0 (aD.exp hE _) (aA.exp hE _ _) λ_=>aD.b0 (m:=0) (aD.list hE (λa=>?_) (λa=>?_) _) (aA.list hE (λa=>?_) _) λ_=>aD.b0 (aD.exp hE _) (aA.exp hE _ _) λ_=>aD.aT _
 .exact aD.b0 (aD.title hE) (aA.title hE) λ_=>aD.b0 nw aw λ_=>aD.b0 (aD.exp hE _) (aA.exp hE _ _) λ_=>aD.b0 (hx 0) (ax 0) λ_=>aD.aT _
 all_goals exact((aA.title hE).le (by omega)).bl λ_=>aw.bl λ_=>((aA.exp hE _ _).le (by omega)).bl λ_=>((ax 0).le (by omega)).bl λ_=>aA.aT _
theorem aD.c8N:aD l (low+1) (xL kw andP aG l ex):=by
 unfold xL;refine aD.b0 (aD.exp hE _) (aA.exp hE _ _) λ_=>aD.b0 (m:=0) (aD.list hE (λa=>?_) (λa=>?_) _) (aA.list hE (λa=>?_) _) λ_=>aD.b0 (aD.exp hE _) (aA.exp hE _ _) λ_=>aD.b0 (hx 0) (ax 0) λ_=>aD.aT _
 .exact aD.b0 (aD.word hE) (aA.word hE) λ_=>aD.b0 (aD.skip _) (aA.skip hE _) λ_=>aD.b0 (m:=0) (aD.ite (aD.typ hE hB hN) (aD.aT _)) (aA.ite ((aA.typ hE hB.pred).le (by omega)) (aA.aT _)) λ_=>aD.aT _
 all_goals exact((aA.word hE).le (by omega)).bl λ_=>(aA.skip hE _).bl λ_=>aA.bl (aA.ite ((aA.typ hE hB.pred).le (by omega)) (aA.aT _)) λ_=>aA.aT _
theorem aD.a7w:aD l low (kY kw andP aG l ex):=by
 unfold kY;refine aD.bind (m:=1) (aD.exp hE _) (aA.exp hE _ _) λ_=>λi n e h1 h2 h=>?_;split at h
 .cases h
 .exact(aD.b0 (hx 0) (ax 0) λ_=>aD.b0 (aD.skip _) (aA.skip hE _) λ_=>aD.b0 (m:=0) (aD.ite (aD.b0 (aD.typ hE hB hN) (aA.typ (kw:=kw) (andP:=andP) hE hB.pred) λ_=>aD.aT _) (aD.aT _)) (aA.ite (((aA.typ hE hB.pred).le (by omega)).bl λ_=>aA.aT _) (aA.aT _)) λ_=>aD.b0 (aD.exp hE _) (aA.exp hE _ _) λ_=>aD.aT _:aD l (low+1) _) i n e h1 h2 h
theorem aD.b9E:aD l low (sQ kw andP aG l ex):=λi n e h1 h2 h=>by
 unfold sQ at h;split at h
 .cases h
 split at h
 .cases h
 split at h
 .cases h
 split at h
 .rename_i hs;exact aD.b9D hE hB hN hx ax 22 (i+1) n e (by omega) (aF hE h2 hs) h
 split at h
 .rename_i hs;exact aD.b9D hE hB hN hx ax 23 (i+1) n e (by omega) (aF hE h2 hs) h
 split at h
 .rename_i hs;exact(aD.b0 (aD.exp hE _) (aA.exp hE _ _) λ_=>aD.b0 (hx 0) (ax 0) λ_=>aD.b0 (aD.exp hE _) (aA.exp hE _ _) λ_=>aD.b0 (hx 0) (ax 0) λ_=>aD.b0 (aD.exp hE _) (aA.exp hE _ _) λ_=>aD.aT _:aD l (low+1) _) (i+1) n e (by omega) (aF hE h2 hs) h
 split at h
 .rename_i hs;have hn:i+1<l.length:=rU hE h2 (by unfold mH at hs;simp only[f2N,decide_eq_true_eq]at hs;omega);split at h
  .cases h
  .exact(aD.b0 (aD.types hE hB hN) (aA.types hE hB.pred) λ_=>aD.b0 (aD.jX hE hB hN hx ax) (aA.jX hE ax) λ_=>aD.aT _:aD l low _) (i+1) n e (by omega) hn h
 split at h
 .rename_i hs;have hn:i+1<l.length:=rU hE h2 (by unfold sM at hs;simp only[decide_eq_true_eq]at hs;omega);refine(aD.b0 (aD.types hE hB hN) (aA.types hE hB.pred) λ_=>aD.b0 (m:=0) (λi n e h1 h2 h=>?_) (λi b j hi h=>?_) λ_=>aD.aT _:aD l low _) (i+1) n e (by omega) hn h
  .split at h
   .exact aD.jX hE hB hN hx ax i n e h1 h2 h
   .cases h
  .split at h
   .exact((aA.jX hE ax).le (by omega)) _ _ _ hi h
   .cases h;omega
 .exact aD.a7w hE hB hN hx ax i n e h1 h2 h
theorem aD.unG:aD l low (a0B kw andP aG l ex):=λi n e h1 h2 h=>by
 unfold a0B at h;split at h
 .rename_i hs;exact(aD.b0 (hx 7) (ax 7) λ_=>aD.aT _:aD l (low+1) _) (i+1) n e (by omega) (aF hE h2 hs) h
 .exact aD.b9E hE hB hN hx ax i n e h1 h2 h
omit hx ax hB hN in
theorem aD.chain{ops:List (Nm×Int)}{one:bB eM}(h0:aD l low one)(a0:aA l 0 one):∀(g:Nat) (e0:eM) (i:Nat) (n e:Int),low<=i->i<l.length->l.length<g+i->dY l ops one g e0 i=.bad n e->e≠0
 |0,e0,i,n,e,_,h2,h3,_=>by omega
 |g+1,e0,i,n,e,h1,h2,h3,h=>by
  unfold dY at h;split at h
  .cases h
  .rename_i p hp;have hs:aQ l i p.1=true:=by simpa using List.find?_some hp
   have hn:=aF hE h2 hs;split at h
   .rename_i n' e' hb;cases h;exact h0 (i+1) n e (by omega) hn hb
   .rename_i x j hb;have:=a0 (i+1) x j hn hb;exact aD.chain h0 a0 g _ j n e (by omega) this.2 (by omega) h
omit hx ax hB hN in
theorem aD.lvl{ops:List (Nm×Int)}{one:bB eM}(h0:aD l low one)(a1:aA l 1 one):aD l low (wV l ops one):=by unfold wV;exact aD.b0 h0 a1 λe0=>λi n e h1 h2 h=>aD.chain hE h0 (a1.le (by omega)) _ e0 i n e h1 h2 (by omega) h
theorem aD.a5e:aD l low (jO kw andP aG l ex):=aD.lvl hE (aD.lvl hE (aD.unG hE hB hN hx ax) (aA.unG hE ax hB.pred)) (aA.c3T hE ax hB.pred)
theorem aD.a5f:aD l low (xM kw andP aG l ex):=by
 unfold xM;have hs:aD l low (jO kw andP aG l ex):=aD.a5e hE hB hN hx ax;have ha:aA l 1 (jO kw andP aG l ex):=aA.a5e hE ax hB.pred;have one:∀(f:eM->eM) (i:Nat) (n e:Int) (w:Nm),low<=i->i<l.length->aQ l i w=true->(jO kw andP aG l ex >>=λx=>pure (f x)) (i+1)=.bad n e->e≠0:=λf i n e w h1 h2 hw h=>(aD.b0 hs ha λ_=>aD.aT _:aD l low _) (i+1) n e (by omega) (aF hE h2 hw) h;refine aD.b0 hs ha λe0=>λi n e h1 h2 h=>?_;split at h
 .rename_i hw;exact one _ i n e _ h1 h2 hw h
 split at h
 .rename_i hw;exact one _ i n e _ h1 h2 hw h
 split at h
 .rename_i hw;exact one _ i n e _ h1 h2 hw h
 split at h
 .rename_i hw;exact one _ i n e _ h1 h2 hw h
 split at h
 .rename_i hw;exact one _ i n e _ h1 h2 hw h
 split at h
 .rename_i hw;exact one _ i n e _ h1 h2 hw h
 .cases h
theorem aD.a7x:aD l low (uH kw andP aG l ex):=λi n e h1 h2 h=>by
 unfold uH at h;split at h
 .rename_i hs;exact(aD.b0 (hx 3) (ax 3) λ_=>aD.aT _:aD l (low+1) _) (i+1) n e (by omega) (aF hE h2 hs) h
 .exact aD.a5f hE hB hN hx ax i n e h1 h2 h
theorem aD.orG:aD l low (b5g kw andP aG l ex):=aD.lvl hE (aD.lvl hE (aD.a7x hE hB hN hx ax) (aA.a7x hE ax hB.pred)) (aA.lvl hE (aA.a7x hE ax hB.pred))
theorem aD.exG:aD l low (a2O kw andP aG l ex):=λi n e h1 h2 h=>by
 unfold a2O at h;split at h
 .rename_i hs;exact aD.c8M hE hB hN hx ax (i+1) n e (by omega) (aF hE h2 hs) h
 split at h
 .rename_i hs;exact(aD.b0 (hx 0) (ax 0) λ_=>aD.b0 (aD.exp hE _) (aA.exp hE _ _) λ_=>aD.b0 (hx 0) (ax 0) λ_=>aD.b0 (aD.exp hE _) (aA.exp hE _ _) λ_=>aD.b0 (hx 0) (ax 0) λ_=>aD.aT _:aD l (low+1) _) (i+1) n e (by omega) (aF hE h2 hs) h
 split at h
 .rename_i hs;exact aD.b1T hE hB hN hx ax (i+1) n e (by omega) (aF hE h2 hs) h
 split at h
 .rename_i hs;exact aD.c8N hE hB hN hx ax (i+1) n e (by omega) (aF hE h2 hs) h
 split at h
 .rename_i hs;exact(aD.b0 (aD.word hE) (aA.word hE) λ_=>aD.b0 ((aD.jX hE hB hN hx ax).up (by omega)) (aA.jX hE ax) λ_=>aD.b0 (aD.exp hE _) (aA.exp hE _ _) λ_=>aD.b0 (hx 0) (ax 0) λ_=>aD.aT _:aD l (low+1) _) (i+1) n e (by omega) (aF hE h2 hs) h
 .exact aD.orG hE hB hN hx ax i n e h1 h2 h
end
theorem aD.exF:∀(n:Nat) (low:Nat),l.length<n+low->∀k,aD l low (sC kw andP aG l n k)
 |0,low,h,k=>λi n e h1 h2 h3=>by omega
 |n+1,low,h,k=>by
  have hx:=aD.exF n (low+1) (by omega);have ax:=aA.exF (kw:=kw) (andP:=andP) hE hB.pred n;unfold sC;split
  .exact aD.unG hE hB hN hx ax
  .split
   .exact aD.a7x hE hB hN hx ax
   .exact aD.exG hE hB hN hx ax
theorem aD.expr:aD l low (zP kw andP aG l):=aD.exF hE hB hN _ low (by omega) 0
end
end
end
section
section
variable {kw:Nm->Bool} {l:List Tok} {low m:Nat} {α β:Type}
variable {andP:Pr->Pr->Pr} {aG:List Tok->Nat->Nat->kX Pr} (hE:qS l) (hB:zR aG l) (hN:∀i e n x,i<l.length->aG l i e=.bad n x->x≠0)
include hE
theorem aD.oP:aD l low (pN kw l):=by unfold pN;exact aD.list hE (λa=>aD.b0 (aD.title hE) (aA.title hE) λ_=>aD.b0 (aD.word hE) (aA.word hE) λ_=>aD.aT _) (λa=>((aA.title hE).le (by omega)).bl λ_=>((aA.word hE).le (by omega)).bl λ_=>aA.aT _) _
theorem b5S(a:List Nm)(i:Nat)(b:List Nm)(j:Nat)(hi:i<l.length)(h:(do let w <- bS kw l;pure (a++[w]):bB (List Nm)) i=.ok b j):i+1<=j/\j<l.length:=((aA.word hE).bl λ_=>aA.aT _:aA l 1 _) i b j hi h
theorem aD.head(mode:Int):aD l low (uI kw l mode):=by
 unfold uI;refine aD.b0 (aD.word hE) (aA.word hE) λnm=>aD.b0 (m:=0) (λi n e h1 h2 h=>?_) (λi a j hi h=>?_) λ_=>aD.aT _
 .split at h
  .split at h
   .cases h
   .exact aD.words hE (low:=low) i n e h1 h2 h
  .cases h
 .split at h
  .rename_i hs;have h1:=aF hE hi hs;split at h
   .rename_i hf;have h2:=rU hE h1 (zQ hE hf);cases h;omega
   .exact((aA.words hE).le (by omega)) _ _ _ hi h
  .cases h;omega
include hB hN
theorem aD.bound:aD l low (pO kw aG l):=by unfold pO;exact aD.b0 (aD.word hE) (aA.word hE) λ_=>aD.b0 (aD.exp hE _) (aA.exp hE _ _) λ_=>aD.b0 (aD.vars hE _) (aA.vars hE _) λ_=>aD.b0 (aD.exp hE _) (aA.exp hE _ _) λ_=>aD.b0 (aD.pred hN) hB.pred λ_=>aD.b0 (aD.exp hE _) (aA.exp hE _ _) λ_=>aD.b0 (aD.pred hN) hB.pred λ_=>aD.b0 (aD.exp hE _) (aA.exp hE _ _) λ_=>aD.aT _
theorem aD.con:aD l low (a1E kw andP aG l):=by
 unfold a1E;have n1:∀out:List Nm×List Ty,aD l low (do
   let w <- bS kw l
   aV l [[58]]
   let t <- dW kw andP aG l
   pure (out.1++[w],out.2++[t]):bB (List Nm×List Ty)):=λout=>aD.b0 (aD.word hE) (aA.word hE) λ_=>aD.b0 (aD.exp hE _) (aA.exp hE _ _) λ_=>aD.b0 (aD.typ hE hB hN) (aA.typ hE hB.pred) λ_=>aD.aT _
 have a1:∀out:List Nm×List Ty,aA l 0 (do
   let w <- bS kw l
   aV l [[58]]
   let t <- dW kw andP aG l
   pure (out.1++[w],out.2++[t]):bB (List Nm×List Ty)):=λout=>((aA.word hE).le (by omega)).bl λ_=>((aA.exp hE _ _).le (by omega)).bl λ_=>((aA.typ hE hB.pred).le (by omega)).bl λ_=>aA.aT _
 exact aD.b0 (aD.title hE) (aA.title hE) λ_=>aD.b0 (aD.skip _) (aA.skip hE _) λ_=>aD.ite (aD.b0 (m:=0) (aD.list hE n1 a1 _) (aA.list hE a1 _) λ_=>aD.b0 (aD.exp hE _) (aA.exp hE _ _) λ_=>aD.aT _) (aD.aT _)
theorem aD.data:aD l low (uK kw andP aG l):=by unfold uK;refine aD.b0 (aD.title hE) (aA.title hE) λ_=>aD.b0 (m:=0) (aD.many (λa=>aD.b0 (aD.word hE) (aA.word hE) λ_=>aD.aT _) (λa i b j hi _ h=>b5S hE a i b j hi h) _) (aA.many (λa=>((aA.word hE).le (by omega)).bl λ_=>aA.aT _) _) λ_=>aD.b0 (aD.skip _) (aA.skip hE _) λ_=>?_;refine aD.b0 (m:=0) (aD.ite (aD.b0 (aD.vars hE _) (aA.vars hE _) λ_=>aD.b0 (aD.exp hE _) (aA.exp hE _ _) λ_=>aD.aT _) (aD.aT _)) (aA.ite (((aA.vars hE _).le (by omega)).bl λ_=>((aA.exp hE _ _).le (by omega)).bl λ_=>aA.aT _) (aA.aT _)) λ_=>aD.b0 (aD.exp hE _) (aA.exp hE _ _) λ_=>?_;exact aD.b0 (m:=0) (aD.list hE (λa=>aD.b0 (aD.con hE hB hN) (aA.con hE hB.pred) λ_=>aD.aT _) (λa=>((aA.con hE hB.pred).le (by omega)).bl λ_=>aA.aT _) _) (aA.list hE (λa=>((aA.con hE hB.pred).le (by omega)).bl λ_=>aA.aT _) _) λ_=>aD.aT _
theorem aD.cls:aD l low (qR kw andP aG l):=by
 unfold qR;have n1:∀out:List (Nm×Ty),aD l low (do
   let w <- bS kw l
   aV l [[58]]
   let t <- dW kw andP aG l
   pure (out++[(w,t)]):bB (List (Nm×Ty))):=λout=>aD.b0 (aD.word hE) (aA.word hE) λ_=>aD.b0 (aD.exp hE _) (aA.exp hE _ _) λ_=>aD.b0 (aD.typ hE hB hN) (aA.typ hE hB.pred) λ_=>aD.aT _
 have a1:∀out:List (Nm×Ty),aA l 0 (do
   let w <- bS kw l
   aV l [[58]]
   let t <- dW kw andP aG l
   pure (out++[(w,t)]):bB (List (Nm×Ty))):=λout=>((aA.word hE).le (by omega)).bl λ_=>((aA.exp hE _ _).le (by omega)).bl λ_=>((aA.typ hE hB.pred).le (by omega)).bl λ_=>aA.aT _
 exact aD.b0 (aD.title hE) (aA.title hE) λ_=>aD.b0 (aD.word hE) (aA.word hE) λ_=>aD.b0 (aD.exp hE _) (aA.exp hE _ _) λ_=>aD.b0 (m:=0) (aD.list hE n1 a1 _) (aA.list hE a1 _) λ_=>aD.aT _
theorem aD.c2m:aD l low (vR kw aG l):=by
 unfold vR;have aw:aA l 0 (λi=>if aQ l i [40] then dH kw l i else .ok [] i:bB (List Nm)):=λi b j hi h=>by
  simp only at h;split at h
  .exact((aA.words hE).le (by omega)) _ _ _ hi h
  .cases h;omega
 have nw:aD l low (λi=>if aQ l i [40] then dH kw l i else .ok [] i:bB (List Nm)):=λi n e h1 h2 h=>by
  simp only at h;split at h
  .exact aD.words hE (low:=low) i n e h1 h2 h
  .cases h
 refine aD.b0 (aD.word hE) (aA.word hE) λ_=>aD.b0 (aD.exp hE _) (aA.exp hE _ _) λ_=>aD.b0 (aD.title hE) (aA.title hE) λ_=>aD.b0 (aD.exp hE _) (aA.exp hE _ _) λ_=>aD.b0 (aD.sort hE) (aA.sort hE) λ_=>aD.b0 (aD.exp hE _) (aA.exp hE _ _) λ_=>?_;refine aD.b0 (m:=0) (aD.list hE (λa=>?_) (λa=>?_) _) (aA.list hE (λa=>?_) _) λ_=>aD.b0 (aD.exp hE _) (aA.exp hE _ _) λ_=>aD.b0 (aD.skip _) (aA.skip hE _) λ_=>aD.b0 (m:=0) (aD.ite (aD.pred hN) (aD.aT _)) (aA.ite hB.pred (aA.aT _)) λ_=>aD.aT _
 .exact aD.b0 (aD.title hE) (aA.title hE) λ_=>aD.b0 nw aw λ_=>aD.b0 (aD.exp hE _) (aA.exp hE _ _) λ_=>aD.b0 (aD.pred hN) hB.pred λ_=>aD.aT _
 all_goals exact((aA.title hE).le (by omega)).bl λ_=>aw.bl λ_=>((aA.exp hE _ _).le (by omega)).bl λ_=>hB.pred.bl λ_=>aA.aT _
theorem aD.c2n:aD l low (vT kw aG l):=by unfold vT;exact aD.b0 (aD.word hE) (aA.word hE) λ_=>aD.b0 (aD.exp hE _) (aA.exp hE _ _) λ_=>aD.b0 (aD.vars hE _) (aA.vars hE _) λ_=>aD.b0 (aD.exp hE _) (aA.exp hE _ _) λ_=>aD.b0 (aD.pred hN) hB.pred λ_=>aD.aT _
theorem aD.body(d:eX):aD l low (uJ kw andP aG l d):=by unfold uJ;exact aD.b0 (aD.exp hE _) (aA.exp hE _ _) λ_=>aD.b0 (aD.expr hE hB hN) (aA.expr hE hB.pred) λ_=>aD.aT _
theorem aD.sig:aD l low (wW kw andP aG l):=by
 unfold wW;refine aD.b0 (aD.skip _) (aA.skip hE _) λb=>aD.b0 (m:=0) (aD.ite (aD.b0 (aD.word hE) (aA.word hE) λ_=>aD.b0 (m:=0) (aD.many (λa=>aD.b0 (aD.word hE) (aA.word hE) λ_=>aD.aT _) (λa i b j hi _ h=>b5S hE a i b j hi h) _) (aA.many (λa=>((aA.word hE).le (by omega)).bl λ_=>aA.aT _) _) λ_=>aD.b0 (aD.exp hE _) (aA.exp hE _ _) λ_=>aD.aT _) (aD.aT _)) (aA.ite (((aA.word hE).le (by omega)).bl λ_=>(aA.many (λa=>((aA.word hE).le (by omega)).bl λ_=>aA.aT _) _).bl λ_=>((aA.exp hE _ _).le (by omega)).bl λ_=>aA.aT _) (aA.aT _)) λ_=>?_;refine aD.b0 (aD.skip _) (aA.skip hE _) λb=>aD.b0 (m:=0) (aD.ite (aD.b0 (aD.oP hE) (aA.oP hE) λ_=>aD.b0 (aD.exp hE _) (aA.exp hE _ _) λ_=>aD.aT _) (aD.aT _)) (aA.ite (((aA.oP hE).le (by omega)).bl λ_=>((aA.exp hE _ _).le (by omega)).bl λ_=>aA.aT _) (aA.aT _)) λ_=>?_;refine aD.b0 (aD.skip _) (aA.skip hE _) λb=>aD.b0 (m:=0) (aD.ite (aD.b0 (aD.vars hE _) (aA.vars hE _) λ_=>aD.b0 (aD.exp hE _) (aA.exp hE _ _) λ_=>aD.aT _) (aD.aT _)) (aA.ite (((aA.vars hE _).le (by omega)).bl λ_=>((aA.exp hE _ _).le (by omega)).bl λ_=>aA.aT _) (aA.aT _)) λ_=>?_;refine aD.b0 (m:=0) (aD.many (λa=>aD.b0 (aD.exp hE _) (aA.exp hE _ _) λ_=>aD.b0 (aD.bound hE hB hN) (aA.bound hE hB.pred) λ_=>aD.aT _) (λa i b j hi _ h=>((aA.exp hE _ _).bl λ_=>((aA.bound hE hB.pred).le (by omega)).bl λ_=>aA.aT _:aA l 1 _) i b j hi h) _) (aA.many (λa=>((aA.exp hE _ _).le (by omega)).bl λ_=>((aA.bound hE hB.pred).le (by omega)).bl λ_=>aA.aT _) _) λ_=>?_;have am:∀(i0:Nat) (a:List Pr),aA l 0 (do
  let p <- (λj=>aG l j (tR l (l.length+1) 0 i0):bB Pr)
  pure (a++[p]):bB (List Pr)):=λi0 a=>aA.bl (m:=0) (λi' p j' hi' h'=>by have:=hB _ _ _ _ hi' h';omega) λ_=>aA.aT _
 have nm:∀(i0:Nat) (a:List Pr),aD l low (do
  let p <- (λj=>aG l j (tR l (l.length+1) 0 i0):bB Pr)
  pure (a++[p]):bB (List Pr)):=λi0 a=>aD.b0 (m:=0) (λi' n e _ h2 h=>hN _ _ n e h2 h) (λi' p j' hi' h'=>by have:=hB _ _ _ _ hi' h';omega) λ_=>aD.aT _
 refine aD.b0 (aD.typ hE hB hN) (aA.typ hE hB.pred) λ_=>aD.b0 (aD.skip _) (aA.skip hE _) λb=>aD.b0 (m:=0) (aD.ite (λi n e h1 h2 h=>?_) (aD.aT _)) (aA.ite (λi a j hi h=>?_) (aA.aT _)) λ_=>aD.aT _
 .exact aD.list hE (nm i) (am i) _ i n e h1 h2 h
 .exact aA.list hE (am i) _ i a j hi h
theorem aD.defn:aD l low (tJ kw andP aG l):=λi n e h1 h2 h=>by
 unfold tJ at h;have d5w:aA l 1 (wW kw andP aG l):=aA.sig hE hB;split at h
 .rename_i hs;refine(aD.b0 (aD.head hE _) (aA.head hE _) λ_=>aD.b0 (aD.skip _) (aA.skip hE _) λ_=>aD.b0 (m:=0) (aD.ite (aD.b0 (aD.sig hE hB hN) d5w λ_=>aD.aT _) (aD.aT _)) (aA.ite ((d5w.le (by omega:0<=1)).bl λ_=>aA.aT _) (aA.aT _)) λ_=>aD.body hE hB hN _:aD l low _) (i+1) n e (by omega) (aF hE h2 hs) h
 split at h
 .rename_i hs;exact(aD.b0 (aD.head hE _) (aA.head hE _) λ_=>aD.b0 (aD.exp hE _) (aA.exp hE _ _) λ_=>aD.b0 (aD.sig hE hB hN) d5w λ_=>aD.aT _:aD l low _) (i+1) n e (by omega) (aF hE h2 hs) h
 split at h
 .rename_i hs;exact(aD.b0 (aD.head hE _) (aA.head hE _) λ_=>aD.b0 (aD.exp hE _) (aA.exp hE _ _) λ_=>aD.b0 (aD.sig hE hB hN) d5w λ_=>aD.body hE hB hN _:aD l low _) (i+1) n e (by omega) (aF hE h2 hs) h
 .cases h
theorem aD.inst:aD l low (vQ kw andP aG l):=by
 unfold vQ;have n1:∀ds:List eX,aD l low (do
  let d <- tJ kw andP aG l
  aV l [[59]]
  pure (ds++[d.getD ⟨[],[],zO,0,false,uV⟩]):bB (List eX)):=λds=>aD.b0 (m:=0) (aD.defn hE hB hN) (aA.b3W hE hB) λ_=>aD.b0 (aD.exp hE _) (aA.exp hE _ _) λ_=>aD.aT _
 have a1:∀ds:List eX,aA l 1 (do
  let d <- tJ kw andP aG l
  aV l [[59]]
  pure (ds++[d.getD ⟨[],[],zO,0,false,uV⟩]):bB (List eX)):=λds=>aA.br (aA.b3W hE hB) λ_=>(aA.exp hE _ _).bl λ_=>aA.aT _
 refine aD.b0 (aD.title hE) (aA.title hE) λ_=>aD.b0 (aD.uL hE hB hN (aD.typ hE hB hN) (aA.typ hE hB.pred)) (aA.uL hE ((aA.typ hE hB.pred).le (by omega)) hB.pred) λ_=>aD.b0 (aD.skip _) (aA.skip hE _) λ_=>aD.b0 (m:=0) (aD.ite (aD.oP hE) (aD.aT _)) (aA.ite ((aA.oP hE).le (by omega)) (aA.aT _)) λ_=>aD.b0 (aD.exp hE _) (aA.exp hE _ _) λ_=>?_;exact aD.b0 (m:=0) (aD.many n1 (λa i b j hi _ h=>a1 a i b j hi h) _) (aA.many (λa=>(a1 a).le (by omega)) _) λ_=>aD.b0 (aD.exp hE _) (aA.exp hE _ _) λ_=>aD.aT _
theorem aD.decl(m:gZ):aD l low (pP kw andP aG l m):=λi n e h1 h2 h=>by
 unfold pP at h;split at h
 .rename_i hs;exact(aD.b0 (aD.data hE hB hN) (aA.data hE hB.pred) λ_=>aD.aT _:aD l low _) (i+1) n e (by omega) (aF hE h2 hs) h
 split at h
 .rename_i hs;exact(aD.b0 (aD.cls hE hB hN) (aA.cls hE hB.pred) λ_=>aD.aT _:aD l low _) (i+1) n e (by omega) (aF hE h2 hs) h
 split at h
 .rename_i hs;exact(aD.b0 (aD.inst hE hB hN) (aA.inst hE hB) λ_=>aD.aT _:aD l low _) (i+1) n e (by omega) (aF hE h2 hs) h
 split at h
 .rename_i hs;exact(aD.b0 (aD.c2m hE hB hN) (aA.c2m hE hB.pred) λ_=>aD.aT _:aD l low _) (i+1) n e (by omega) (aF hE h2 hs) h
 split at h
 .rename_i hs;exact(aD.b0 (aD.c2n hE hB hN) (aA.c2n hE hB.pred) λ_=>aD.aT _:aD l low _) (i+1) n e (by omega) (aF hE h2 hs) h
 refine(aD.b0 (m:=0) (aD.defn hE hB hN) (aA.b3W hE hB) λd=>?_:aD l low _) i n e h1 h2 h;cases d with
 |none=>exact aD.failed
 |some d=>exact aD.aT _
theorem aD.mod:aD l low (a3R kw andP aG l):=by
 unfold a3R;have n1:∀m:gZ,aD l low (do
  let m <- pP kw andP aG l m
  aV l [[59]]
  pure m:bB gZ):=λm=>aD.b0 (aD.decl hE hB hN m) (aA.decl hE hB m) λ_=>aD.b0 (aD.exp hE _) (aA.exp hE _ _) λ_=>aD.aT _
 have a1:∀m:gZ,aA l 1 (do
  let m <- pP kw andP aG l m
  aV l [[59]]
  pure m:bB gZ):=λm=>(aA.decl hE hB m).bl λ_=>((aA.exp hE _ _).le (by omega)).bl λ_=>aA.aT _
 exact aD.many n1 (λa i b j hi _ h=>a1 a i b j hi h) _
end
end
section
open Go Go.VM
variable {G:GT}
theorem a1A{α:Type}(hG:G 1=some dK)(hS:G 0=some wJ)(C:α->List D)(a0:α){F:FuncId}(he:VM.Enters prog F)(x:List Tok->bB α)(s:List UInt8)(hs:s.length<=900000000)(hc:∀l:List Tok,kU G rdQ l->(∀i, -9223372036854775807<=(aR l i).n/\(aR l i).n<=9223372036854775807)->0<l.length->kZ G F [.ptr 100000 0,.ptr 100001 0] [(100001,.cells ((C a0).map .d))] [] l 0 (x l 0) (λ_=>.cJ []) λa=>[(100001,.cells ((C a).map .d))])(ha:∀(l:List Tok) a j,qS l->zR rdQ l->x l 0=.ok a j->j<l.length):
  match cG x s with
  | .ok a _=>CH prog G 32 ⟨[.d (.str s),.clo F [.ptr 100001 0]],[(100001,.cells ((C a0).map .d))],[]⟩ ⟨[.cJ [.int .i64 0,.int .i64 0]],[(100001,.cells ((C a).map .d))],[]⟩
  | .bad n e=>CHd prog G 32 ⟨[.d (.str s),.clo F [.ptr 100001 0]],[(100001,.cells ((C a0).map .d))],[]⟩ (.cJ [.int .i64 n,.int .i64 e]):=by
 have hlx:=b4f hS s hs;unfold cG;by_cases hl:40000<s.length
 .rw[if_pos hl]at hlx|-;exact b3l _ F s 0 7 (by decide) hlx
 .rw[if_neg hl]at hlx|-;cases hr:jH oS s 0 1 false with
  |error n=>rw[hr]at hlx;exact b3l _ F s n 14 (by decide) hlx
  |ok l=>
   rw[hr]at hlx;have hV:kU G rdQ l:=a5b hG hr (by omega);have hN:=c6O hr;have a0V:0<l.length:=List.length_pos_iff.2 hV.fin.1;have mO:=hc l hV hN a0V;simp only;cases hx:x l 0 with
   |bad n e=>rw[hx]at mO;exact d0t hV C a0 n e he hlx mO
   |ok a j=>
    rw[hx]at mO;have hj:=ha l a j hV.fin hV.oB hx;simp only;cases a1B:uY l j with
    |bad n e=>exact c6T hV C a0 a j n e he hlx mO hj a1B
    |ok u k=>
     have hk:uY l j=.ok () j:=by
      unfold uY at a1B|-;split at a1B
      .rename_i h0;rw[if_pos h0]
      .unfold dU at a1B;cases a1B
     exact d5v hV C a0 a j he hlx mO hj hk
theorem a8g{α:Type}{x:List Tok->bB α}{s:List UInt8}(h:∀(l:List Tok) n e,qS l->zR rdQ l->0<l.length->x l 0=.bad n e->e≠0){n e:Int}(hb:cG x s=.bad n e):e≠0:=by
 unfold cG at hb;split at hb
 .cases hb;decide
 .split at hb
  .cases hb;decide
  .rename_i l hl;have hE:=b7I (a0z s 0 1 false l hl);have a0V:0<l.length:=List.length_pos_iff.2 hE.1;have yH:qS l:=by
    refine⟨hE.1,hE.2 _ ?_⟩;unfold aR;rw[if_pos (by omega),List.getD_eq_getElem?_getD,f2R (by omega)]
    rfl
   split at hb
   .rename_i n' e' hx;cases hb;exact h l _ _ yH (λe i p j hi hx=>c4x hE.2 e i p j hi hx) a0V hx
   .rename_i a j hx;split at hb
    .rename_i n' e' he;cases hb;unfold uY at he;split at he
     .cases he
     .unfold dU at he;cases he;decide
    .cases hb
theorem b7L(l:List Tok):∀i e n x,i<l.length->rdQ l i e=.bad n x->x≠0:=λi e n x _ h=>by
 unfold rdQ at h;split at h
 .cases h;decide
 .split at h
  .cases h
  .rename_i hc;cases h;exact hc
abbrev moN:List D:=[.aJ,.aJ,.aJ,.aJ,.aJ,.aJ]
def moC:Option gZ->List D
 |none=>moN
 |some m=>a0E m
def a6M{α:Type}:kX α->kX (Option α)
 | .ok a j=>.ok (some a) j
 | .bad n e=>.bad n e
section
variable {aG:List Tok->Nat->Nat->kX Pr} {l:List Tok} (hV:kU G aG l) (hN:∀i, -9223372036854775807<=(aR l i).n/\(aR l i).n<=9223372036854775807)
include hV hN
theorem b3o(i:Nat)(hi:i<l.length):kZ G 40 [.ptr 100000 0,.ptr 100001 0] [(100001,.cells ((moC none).map .d))] [] l i (a6M (a3R aX bI aG l i)) (λ_=>.cJ []) λa=>[(100001,.cells ((moC a).map .d))]:=by
 have h:=b4y hV hN i hi;cases hr:a3R aX bI aG l i with
 |ok m j=>rw[hr]at h;intro base R μ args w jU;refine(h base R μ args w (jU.a0X ⟨by simp[moC],by simp[wY,moC],by simp[moC],by simp[bA,moC,wY,getKey]⟩)).mono ?_;rintro e w' ⟨v,R',μ',h1,h2,h3⟩;exact⟨v,R',μ',h1,h2.a0X ⟨by simp[moC,a0E],by simp[wY,moC,a0E],by simp[moC,a0E],by simp[bA,moC,a0E]⟩,h3⟩
 |bad n e=>rw[hr]at h;intro base R μ args w jU;exact h base R μ args w (jU.a0X ⟨by simp[moC],by simp[wY,moC],by simp[moC],by simp[bA,moC,wY,getKey]⟩)
end
end
section
abbrev tyM(l:List Tok):bB Ty:=dW aX bI rdQ l
abbrev exM(l:List Tok):bB eM:=zP aX bI rdQ l
abbrev moQ(l:List Tok):bB gZ:=a3R aX bI rdQ l
def tS{α:Type}(z:α):kX α->α
 | .ok a _=>a
 | .bad _ _=>z
def a1k{α:Type}:kX α->Int
 | .ok _ _=>0
 | .bad _ e=>e
def c0T{α:Type}:kX α->Int
 | .ok _ _=>0
 | .bad n _=>n
end
section
open Go Go.VM
variable {G:GT}
theorem uT:VM.Enters prog 17:=.mk func17 rfl
theorem eR.mkd{P:Program}{q ro:Bool}{ls:List (Option VM.Loc)}{f:FuncId}{s0:St}{r:DV}{st:St}{«f2L» :List DV}{dst:Option Tmp}{all:Array Oper}{ops:List Oper}{k:List KI}{Q:Exit->St->Prop}{rest:List (TypeId×List VM.Loc)}(he:VM.Enters P f)(hch:CHd P G f s0 r)(K:List (Nat×Nat))(H':List (Nat×aW))(jB:aK K s0 .undef s0.H=true)(kR:WkT «f2L» (aO K s0.tmps))(hH:WkH st.H (cI K s0.H))(kF:tH st st.own (s0.own.map (oN K ls))=some rest)(b3V:xJ st.tmps.length ls s0.own=true)(hK:∀k o,getKey k H'=some o->getKey k st.H=some o/\∀p∈s0.H,k≠rk K p.1)(h:VK P G (.ops q all ops::k) .normal ⟨mG dst r st.tmps,H',[]⟩ Q)(hro:ro=false:=by kernel_rfl):eR P G q ro f «f2L» ls dst all ops k st Q:=eR.mk' ⟨_,⟨he,mP.e0L hch K H' jB kR hH kF b3V hK⟩,h⟩ hro
theorem wK(hG:G 1=some dK)(hS:G 0=some wJ)(s:List UInt8)(hs:s.length<=900000000):CS prog G 17 [.str s] (.cJ [.agg (tyD (tS sF (cG tyM s))),.int .i64 (a1k (cG tyM s))]) none:=by
 have hrd:=a1A hG hS (C:=tyD) sF a8X tyM s hs (λl hV hN hp=>c0C hV sF 0 hp) (λl a j hE hB hx=>((aA.typ hE hB.pred) 0 a j (List.length_pos_iff.2 hE.1) hx).2);have hnz:∀n e,cG tyM s=.bad n e->e≠0:=λn e h=>a8g (λl n e hE hB hp h=>aD.typ (low:=0) hE hB (b7L l) 0 n e (Nat.zero_le _) hp h) h;cases hr:cG tyM s with
 |ok t j=>
  rw[hr]at hrd;refine CS.aZ func17 rfl ntmps17 rfl ?_;simp;refine eR.mk jR hrd [(100001,4)] ?_ ?_ ?_ rfl rfl ?_ (rest:=[])
  .simp[aK,aP,aM,aL,bA,getKey]
  .simp[aO,bD,rk]
  .simp[aO,bD,rk,cI,cQ,sF,mL,strs]
  .simp[bE,aO,bD,rk,cI,cQ,bO,gP,eS,dQ,tS,a1k]
 |bad n e=>
  rw[hr]at hrd;have he:=hnz n e hr;refine CS.aZ func17 rfl ntmps17 rfl ?_;simp;refine eR.mkd jR hrd [(100001,4)] [(2,.cells [.d (.int .i64 0),.d (.str []),.d .aJ,.d .aJ,.d (.int .i64 0),.d (.str []),.d (.int .i64 0),.d .aJ,.d .aJ])] ?_ ?_ ?_ rfl rfl ?_ ?_ (rest:=[])
  .simp[aK,aP,aM,aL,bA,getKey]
  .simp[aO,bD,rk]
  .simp[aO,bD,rk,cI,cQ,sF,mL,strs]
  .intro k o hk;simp only[getKey]at hk;split at hk
   .rename_i h2;subst h2;exact⟨by simpa[getKey]using hk,by simp[rk]⟩
   .cases hk
  .simp[tS,a1k,he,sF,mL,strs]
theorem jS:VM.Enters prog 14:=.mk func14 rfl
theorem kW(hG:G 1=some dK)(hS:G 0=some wJ)(s:List UInt8)(hs:s.length<=900000000):CS prog G 14 [.str s] (.cJ [.agg (xS (tS zO (cG exM s))),.int .i64 (a1k (cG exM s))]) none:=by
 have hrd:=a1A hG hS (C:=xS) zO a8W exM s hs (λl hV hN hp=>c0D hV hN zO 0 hp) (λl a j hE hB hx=>((aA.exF hE hB.pred _ 0) 0 a j (List.length_pos_iff.2 hE.1) hx).2);have hnz:∀n e,cG exM s=.bad n e->e≠0:=λn e h=>a8g (λl n e hE hB hp h=>aD.expr (low:=0) hE hB (b7L l) 0 n e (Nat.zero_le _) hp h) h;cases hr:cG exM s with
 |ok t j=>
  rw[hr]at hrd;refine CS.aZ func14 rfl ntmps14 rfl ?_;simp;refine eR.mk jR hrd [(100001,4)] ?_ ?_ ?_ rfl rfl ?_ (rest:=[])
  .simp[aK,aP,aM,aL,bA,getKey]
  .simp[aO,bD,rk]
  .simp[aO,bD,rk,cI,cQ,zO,xS,strs]
  .simp[bE,aO,bD,rk,cI,cQ,bO,gP,eS,dQ,tS,a1k]
 |bad n e=>
  rw[hr]at hrd;have he:=hnz n e hr;refine CS.aZ func14 rfl ntmps14 rfl ?_;simp;refine eR.mkd jR hrd [(100001,4)] [(2,.cells [.d (.int .i64 0),.d (.str []),.d (.int .i64 0),.d .aJ,.d .aJ,.d .aJ,.d .aJ])] ?_ ?_ ?_ rfl rfl ?_ ?_ (rest:=[])
  .simp[aK,aP,aM,aL,bA,getKey]
  .simp[aO,bD,rk]
  .simp[aO,bD,rk,cI,cQ,zO,xS,strs]
  .intro k o hk;simp only[getKey]at hk;split at hk
   .rename_i h2;subst h2;exact⟨by simpa[getKey]using hk,by simp[rk]⟩
   .cases hk
  .simp[tS,a1k,he,zO,xS,strs]
theorem d0u{l:List Tok}(hE:qS l)(hB:zR rdQ l):aA l 0 (a1j rdQ l):=aA.bl (aA.b3W hE hB) λd=>by
 cases d with
 |none=>exact aA.failed
 |some d=>exact(aA.skip hE _).bl λ_=>aA.aT _
theorem d5x{l:List Tok}(hE:qS l)(hB:zR rdQ l):aD l 0 (a1j rdQ l):=aD.b0 (m:=0) (aD.defn hE hB (b7L l)) (aA.b3W hE hB) λd=>by
 cases d with
 |none=>exact aD.failed
 |some d=>exact aD.b0 (aD.skip _) (aA.skip hE _) λ_=>aD.aT _
theorem b4B:VM.Enters prog 27:=.mk func27 rfl
theorem b7M(hG:G 1=some dK)(hS:G 0=some wJ)(s:List UInt8)(hs:s.length<=900000000):CS prog G 27 [.str s] (.cJ [.agg (a7Y (tS b0A (cG (a1j rdQ) s))),.int .i64 (a1k (cG (a1j rdQ) s))]) none:=by
 have hrd:=a1A hG hS (C:=a7Y) b0A b0D (a1j rdQ) s hs (λl hV hN hp=>c2U hV hN b0A 0 hp) (λl a j hE hB hx=>((d0u hE hB) 0 a j (List.length_pos_iff.2 hE.1) hx).2);have hnz:∀n e,cG (a1j rdQ) s=.bad n e->e≠0:=λn e h=>a8g (λl n e hE hB hp h=>d5x hE hB 0 n e (Nat.zero_le _) hp h) h;cases hr:cG (a1j rdQ) s with
 |ok t j=>
  rw[hr]at hrd;refine CS.aZ func27 rfl ntmps27 rfl ?_;simp;refine eR.mk jR hrd [(100001,4)] ?_ ?_ ?_ rfl rfl ?_ (rest:=[])
  .simp[aK,aP,aM,aL,bA,getKey]
  .simp[aO,bD,rk]
  .simp[aO,bD,rk,cI,cQ,b0A,a7Y,b2L,uV,sF,mL,zO,dL,strs]
  .simp[bE,aO,bD,rk,cI,cQ,bO,gP,eS,dQ,tS,a1k]
 |bad n e=>
  rw[hr]at hrd;have he:=hnz n e hr;refine CS.aZ func27 rfl ntmps27 rfl ?_;simp;refine eR.mkd jR hrd [(100001,4)] [(2,.cells [.d (.str []),.d .aJ,.d (.int .i64 0),.d (.str []),.d (.int .i64 0),.d .aJ,.d .aJ,.d .aJ,.d .aJ,.d (.int .i64 0),.d (.bool false),.d .aJ,.d .aJ,.d .aJ,.d .aJ,.d (.int .i64 0),.d (.str []),.d .aJ,.d .aJ,.d (.int .i64 0),.d (.str []),.d (.int .i64 0),.d .aJ,.d .aJ,.d .aJ])] ?_ ?_ ?_ rfl rfl ?_ ?_ (rest:=[])
  .simp[aK,aP,aM,aL,bA,getKey]
  .simp[aO,bD,rk]
  .simp[aO,bD,rk,cI,cQ,b0A,a7Y,b2L,uV,sF,mL,zO,dL,strs]
  .intro k o hk;simp only[getKey]at hk;split at hk
   .rename_i h2;subst h2;exact⟨by simpa[getKey]using hk,by simp[rk]⟩
   .cases hk
  .simp[tS,a1k,he,b0A,a7Y,b2L,uV,sF,mL,zO,dL,strs]
theorem oX:VM.Enters prog 21:=.mk func21 rfl
abbrev b4C:gZ:=⟨[],[],[],[],[],[]⟩
theorem c3h{α:Type}(x:List Tok->bB α)(s:List UInt8):cG (λl=>(λi=>a6M (x l i):bB (Option α))) s=a6M (cG x s):=by
 unfold cG;split
 .rfl
 .split
  .rfl
  .rename_i l hl;simp only;cases x l 0 with
   |bad n e=>rfl
   |ok a j=>simp only[a6M];cases uY l j<;>rfl
theorem pX(hG:G 1=some dK)(hS:G 0=some wJ)(s:List UInt8)(hs:s.length<=900000000):CS prog G 21 [.str s] (.cJ [.agg (a0E (tS b4C (cG moQ s))),.int .i64 (c0T (cG moQ s)),.int .i64 (a1k (cG moQ s))]) none:=by
 have hrd:=a1A hG hS (C:=moC) none a6H (λl=>(λi=>a6M (moQ l i):bB (Option gZ))) s hs (λl hV hN hp=>b3o hV hN 0 hp) (λl a j hE hB hx=>by
  cases hm:moQ l 0 with
  |bad n e=>simp[hm,a6M]at hx
  |ok m k=>simp only[hm,a6M]at hx;cases hx;have oB:aA l 0 (moQ l):=aA.many (λm=>(aA.decl hE hB m).le (by omega) |>.bl λ_=>((aA.exp hE _ _).le (by omega)).bl λ_=>aA.aT _) _;exact(oB 0 _ _ (List.length_pos_iff.2 hE.1) hm).2)
 rw[c3h]at hrd;have hnz:∀n e,cG moQ s=.bad n e->e≠0:=λn e h=>a8g (λl n e hE hB hp h=>aD.mod (low:=0) hE hB (b7L l) 0 n e (Nat.zero_le _) hp h) h;cases hr:cG moQ s with
 |ok t j=>
  rw[hr]at hrd;refine CS.aZ func21 rfl ntmps21 rfl ?_;simp;refine eR.mk jR hrd [(100001,5)] ?_ ?_ ?_ rfl rfl ?_ (rest:=[])
  .simp[aK,aP,aM,aL,bA,getKey,moC,a0E]
  .simp[aO,bD,rk]
  .simp[aO,bD,rk,cI,cQ,moC]
  .simp[bE,aO,bD,rk,cI,cQ,bO,gP,eS,dQ,tS,a1k,c0T,moC,a0E]
 |bad n e=>
  rw[hr]at hrd;have he:=hnz n e hr;refine CS.aZ func21 rfl ntmps21 rfl ?_;simp;refine eR.mkd jR hrd [(100001,5)] [(2,.cells [.d .aJ,.d .aJ,.d .aJ,.d .aJ,.d .aJ,.d .aJ])] ?_ ?_ ?_ rfl rfl ?_ ?_ (rest:=[])
  .simp[aK,aP,aM,aL,bA,getKey,moC]
  .simp[aO,bD,rk]
  .simp[aO,bD,rk,cI,cQ,moC]
  .intro k o hk;simp only[getKey]at hk;split at hk
   .rename_i h2;subst h2;exact⟨by simpa[getKey]using hk,by simp[rk]⟩
   .cases hk
  .simp[tS,a1k,c0T,he,a0E]
end
end Go.Proofs.YtjpodcmhcenjjaaGreatDoor
section
namespace Go.VM
open Go Go.RowKit
section
variable {P:Program} {G:GT} {st:St} {base:cN} {R:Nat->Nat->Prop} {μ:Nat->Nat} {a:Act} {w w':World}
theorem c0U{c:Array Value}{T:TypeId}{fr:Nat×Nat}{ad:Addr}{v:Value}{w1:World}(h1:w.heap[ad.block]? =some (.cells c T fr))(h2:w'.heap[ad.block]? =some (.cells c T fr))(h:(load ad).run P w=.ok v w1):(load ad).run P w'=.ok v w':=by
 rw[run_load]at h|-;have e:w'.cell? ad=w.cell? ad:=by unfold World.cell?;rw[h1,h2]
 rw[e];cases hc:w.cell? ad with
 |some u=>rw[hc]at h;cases h;rfl
 |none=>
  rw[hc]at h;have:∃x,w.farLoad P ad (Mode.plain==Mode.atomic)=.error x:=by unfold World.farLoad;rw[h1];exact⟨_,rfl⟩
  obtain⟨x,hx⟩:=this;rw[hx]at h;cases h
theorem a5O{c:Array Value}{T:TypeId}{fr:Nat×Nat}{b off:Nat}(h1:w.heap[b]? =some (.cells c T fr))(h2:w'.heap[b]? =some (.cells c T fr)):∀(n i:Nat) (acc vs:Array Value) (w1:World),(loadCellsFrom ⟨b,off,none⟩ i n acc).run P w=.ok vs w1->(loadCellsFrom ⟨b,off,none⟩ i n acc).run P w'=.ok vs w'
 |0,i,acc,vs,w1,h=>by
  simp only[loadCellsFrom,Sem.run_pure]at h|-;cases h
  rfl
 |n+1,i,acc,vs,w1,h=>by
  simp only[loadCellsFrom,Sem.run_bind]at h|-;have hb:(Addr.add ⟨b,off,none⟩ i).block=b:=by rw[kG]
  cases hl:(load (Addr.add ⟨b,off,none⟩ i)).run P w with
  |halt x w2=>rw[hl]at h;cases h
  |ok v w2=>
   have hw2:w2=w:=by
    rw[run_load]at hl;split at hl
    .cases hl;rfl
    .split at hl
     .cases hl;rfl
     .cases hl
   rw[hw2]at hl;rw[hl]at h;rw[c0U (by rw[hb];exact h1) (by rw[hb];exact h2) hl];simp only[Result.andThen_ok]at h|-;exact a5O h1 h2 n (i+1) _ vs w1 h
theorem c0V{c:Array Value}{T:TypeId}{fr:Nat×Nat}{b off:Nat}{t:TypeId}{v:Value}{w1:World}(h1:w.heap[b]? =some (.cells c T fr))(h2:w'.heap[b]? =some (.cells c T fr))(h:(loadVar t ⟨b,off,none⟩).run P w=.ok v w1):(loadVar t ⟨b,off,none⟩).run P w'=.ok v w':=by
 unfold loadVar at h|-;cases hu:P.underlying t with
 |none=>
  have:∀w:World,∃x,(isAgg t).run P w=.halt x w:=λw=>by unfold isAgg;simp[underlying,hu]
  obtain⟨x,hx⟩:=this w;rw[Sem.run_bind,hx]at h;cases h
 |some d=>
  simp only[Sem.run_bind,pZ hu,Result.andThen_ok]at h|-;cases hd:mS d with
  |false=>simp only[hd,Bool.false_eq_true,if_false]at h|-;exact c0U h1 h2 h
  |true=>
   simp only[hd,if_true,Sem.run_bind]at h|-;cases hi:P.info? t with
   |none=>
    have:∃x,(sizeOf t).run P w=.halt x w:=by simp[sizeOf,typeInfo,hi]
    obtain⟨x,hx⟩:=this;rw[hx]at h;cases h
   |some i=>
    have hs:∀w,(sizeOf t).run P w=.ok (P.cellsOf t) w:=oH (by rw[hi];rfl);simp only[hs,Result.andThen_ok]at h|-;cases hl:(loadCells ⟨b,off,none⟩ (P.cellsOf t)).run P w with
    |halt x w2=>rw[hl]at h;cases h
    |ok vs w2=>
     rw[hl]at h;rw[show(loadCells ⟨b,off,none⟩ (P.cellsOf t)).run P w'=.ok vs w' from a5O h1 h2 _ _ _ _ _ hl];simp only[Result.andThen_ok,Sem.run_pure]at h|-;cases h
     rfl
def a5j(w w':World):Prop:=∀b,b<w.heap.size->w'.heap[b]? =w.heap[b]?
def c4A:Op->Bool
 | .load _ _=>true
 | .indexAddr _ _ _=>true
 |o=>a4O o
theorem d0v{o:Oper}{all:Array Oper}{K:St->Prop}(hg:o.guard=none)(hk:c4A o.op=true)(h:mE P G true all o K st)(hr:Rel P G base R μ st a w):∃v,∀w',a5j w w'->(execOp a.eval o).run P w'=.ok (.value v) w':=by
 by_cases mM:a4O o.op=true
 .obtain⟨v,hv⟩:=b2f hg mM h hr;exact⟨v,λw' _=>hv w'⟩
 unfold mE at h;rw[show dJ o all st.tmps=some true from by unfold dJ;rw[hg]]at h;cases mV:o.op with
 |load t x=>
  simp only[gJ,cR,mV,jT]at h;split at h;rotate_left
  .exact h.elim
  rename_i out ho;obtain⟨v,w1,_,_,cD,_⟩:=b8n mV ho base R μ a w hr;have key:∀ {b off:Nat} {c:Array Value} {T:TypeId} {fr:Nat×Nat},a.eval x=.pointer (some ⟨b,off,none⟩)->w.heap[b]? =some (.cells c T fr)->∃v,∀w',a5j w w'->(execOp a.eval o).run P w'=.ok (.value v) w':=λ{b off c T fr} hx hb=>by
   have aI:b<w.heap.size:=(f2W.1 hb).1;have e:∀w,(execOp a.eval o).run P w=((loadVar t ⟨b,off,none⟩).run P w).andThen λv w=>.ok (.value v) w:=λw=>by simp[execOp,mV,hx,Instr.loadAt,Instr.sureAddr]
   cases hl:(loadVar t ⟨b,off,none⟩).run P w with
   |halt y w2=>rw[e,hl]at cD;rcases cD with cD|⟨cD,_⟩<;>cases cD
   |ok u w2=>
    refine⟨u,λw' hw'=>?_⟩;rw[e,c0V hb ((hw' b aI).trans hb) hl]
    rfl
  unfold a9p at ho;split at ho
  .rename_i k off hx;split at ho
   .rename_i cs sW;obtain⟨_,_,vs,T,hh,_⟩:=hr.gM k _ sW;exact key (hr.dA hx) hh
   .cases ho
  .rename_i cs hx;obtain⟨b,off,he,e4A⟩:=(hr.mD hx).a3r;simp only[f2M]at ho;obtain⟨y,hy,_⟩:=ho;cases cs with
   |nil=>
    unfold takeD at hy;split at hy
    .rename_i d hd;split at hy
     .rename_i a5W;split at hy
      .rename_i hle;have h0:P.cellsOf t=0:=by simpa using hle
       have hv0:∀w',(loadVar t ⟨b,off,none⟩).run P w'=.ok (.agg #[]) w':=λw'=>by
        unfold loadVar;simp only[Sem.run_bind,pZ hd,Result.andThen_ok,a5W,if_true,run_sizeOf hd,h0]
        rfl
       exact⟨.agg #[],λw' _=>by simp[execOp,mV,he,Instr.loadAt,Instr.sureAddr,hv0]⟩
      .cases hy
     .cases hy
    .cases hy
   |cons d r=>
    obtain⟨_,_,u,hu,_⟩:=e4A 0 d rfl;unfold World.cell? at hu;split at hu
    .rename_i c T fr hb;exact key he hb
    .cases hu
  .cases ho
 |indexAddr t x i=>
  simp only[gJ,cR,mV,jT]at h;split at h;rotate_left
  .exact h.elim
  rename_i out ho;unfold qX at ho;split at ho
  .rename_i e es n hu hx hi;simp only[f3b]at ho;obtain⟨j,hj,cs,pR,ho⟩:=ho;split at ho<;>simp at ho;rename_i hlen;obtain⟨k,hk,xU⟩:=a8x hr hi hj;obtain⟨ao,cap,hv,b1e,dX⟩:=(hr.jI hx).xH;obtain⟨b,off,size,rfl,hs0,hs1,cD⟩:=dX (by rintro rfl;simp at pR);have hU:size=P.cellsOf e:=by rw[<-hlen,hs1 cs (f2S pR)]
   refine⟨.pointer (some ⟨b,off+j*size,none⟩),λw' _=>?_⟩;have hso:=oH (dM (P:=P) (t:=e) (by omega)) w';simp[execOp,mV,hv,hk,Instr.indexAt,run_underlying hu,asIntOf,xU,hso,kG,hU]
  .rename_i len e k off n hu hx hi;split at ho
   .cases ho
   .rename_i dX;simp only[f2M]at ho;obtain⟨j,hj,_⟩:=ho;obtain⟨q,hq,xU⟩:=a8x hr hi hj;exact⟨.pointer (some ⟨μ k,off+j*P.cellsOf e,none⟩),λw' _=>by simp[execOp,mV,hr.dA hx,hq,Instr.indexAt,run_underlying hu,asIntOf,Instr.sureAddr,xU,oH (dM dX) w',kG]⟩
  .rename_i len e cs n hu hx hi;split at ho
   .cases ho
   .rename_i dX;simp only[f2M]at ho;obtain⟨j,hj,_⟩:=ho;obtain⟨q,hq,xU⟩:=a8x hr hi hj;obtain⟨b,off,he,cD⟩:=(hr.mD hx).a3r;exact⟨.pointer (some ⟨b,off+j*P.cellsOf e,none⟩),λw' _=>by simp[execOp,mV,he,hq,Instr.indexAt,run_underlying hu,asIntOf,Instr.sureAddr,xU,oH (dM dX) w',kG]⟩
  .cases ho
 |_=>simp[c4A,mV]at hk<;>simp[mV,hk]at mM
theorem a5j.refl(w:World):a5j w w:=λ_ _=>rfl
theorem c6U{o:Oper}{all:Array Oper}{K:St->Prop}(hg:o.guard=none)(hk:c4A o.op=true)(h:mE P G true all o K st)(hr:Rel P G base R μ st a w):
  ∃v s R' μ',(∀w',a5j w w'->(execOp a.eval o).run P w'=.ok (.value v) w')/\K s/\Rel P G base R' μ' s (a.put o.dst v) w/\Step base R w R' w:=by
 obtain⟨v,hv⟩:=d0v hg hk h hr;have h1:=qO (Q:=λ_ _ _=>False) (KK:=λa' w'=>∃s R' μ',K s/\Rel P G base R' μ' s a' w'/\Step base R w R' w') h hr (λs v w' R' μ' q1 q2 q3=>⟨s,R',μ',q1,q2,q3⟩);rw[if_pos (by unfold Region.wanted;rw[hg])]at h1;rcases h1 with h1|⟨_,_,_,h2⟩
 .unfold Oper.wp at h1;rw[hv w (a5j.refl w)]at h1;obtain⟨s,R',μ',q1,q2,q3⟩:=h1;exact⟨v,s,R',μ',hv,q1,q2,q3⟩
 .exact h2.elim
def c4B(ops:Array Oper):List Nat->Array Bool->Bool
 |[],_=>true
 |i::r,listed=>(match ops[i]? with
  |some o=>c4A o.op&&(o.guard==none)&&o.dst.isSome
  |none=>false)&&Region.noSelect ops&&Region.free .any ops listed i&&(Region.ready .any ops listed).contains i&&c4B ops r (listed.setIfInBounds i true)
theorem c4C{ops:Array Oper}{K:St->Prop}{QQ:Exit->Act->World->Prop}(hQ:∀c a a' w,a.defers=a'.defers->a.tmps.size=a'.tmps.size->QQ (.panic c) a w->QQ (.panic c) a' w):∀(l:List Nat) (listed:Array Bool) (fuel:Nat) (st:St),c4B ops l listed=true->sE P G true ops (sel ops l) st K->
  ∀(base:cN) (R:Nat->Nat->Prop) (μ:Nat->Nat) (a:Act) (w:World),Rel P G base R μ st a w->(∀s a' R' μ',K s->a'.tmps.size=a.tmps.size->Rel P G base R' μ' s a' w->Step base R w R' w->wpAnyH P .any ops QQ (a5j w) fuel (bY l listed) a' w)->wpAnyH P .any ops QQ (a5j w) (l.length+fuel) listed a w
 |[],listed,fuel,st,_,h,base,R,μ,a,w,hr,hk=>by simpa[bY]using hk st a R μ h rfl hr (.refl _ _ _)
 |i::l,listed,fuel,st,hB,h,base,R,μ,a,w,hr,hk=>by
  simp only[c4B,f2N]at hB;obtain⟨⟨⟨⟨ho,c9d⟩,hf⟩,hrd⟩,hB'⟩:=hB;split at ho;rotate_left
  .cases ho
  rename_i o hoi;simp only[f2N,beq_iff_eq]at ho;obtain⟨⟨hsk,hg⟩,hd⟩:=ho;simp only[sel,hoi,sE]at h;obtain⟨v,s,R',μ',hv,hK,eK,oY⟩:=c6U hg hsk h hr;rw[show(i::l).length+fuel=(l.length+fuel)+1 by simp only[List.length_cons];omega];refine wpAnyH_take (v:=v) hoi c9d hf hrd (λc a w h=>hQ c _ _ w ?_ ?_ h) (.inl ⟨by unfold Region.wanted;rw[hg],hv⟩) (a5j.refl w) ?_
  .cases o.dst<;>rfl
  .cases o.dst<;>simp[Act.put]
  .exact c4C hQ l _ fuel s hB' hK base R' μ' _ w eK λs2 a2 R2 μ2 q1 q0 q2 q3=>hk s2 a2 R2 μ2 q1 (q0.trans (size_put _ _ _)) q2 (oY.trans q3)
theorem b7N{o:Oper}{e:TypeId}{ev:Operand->Value}{v:Value}{w1:World}(ho:o.op=.alloc e)(h:(execOp ev o).run P w=.ok (.value v) w1):v=.pointer (some ⟨w.heap.size,0,none⟩)/\∀b,b<w.heap.size->w1.heap[b]? =w.heap[b]? :=by
 cases hz:(P.info? e).bind (·.zero)with
 |none=>
  exfalso;cases hi:P.info? e with
  |none=>simp[execOp,ho,Instr.alloc,zeroValue,typeInfo,hi]at h
  |some i=>rw[hi]at hz;simp at hz;simp[execOp,ho,Instr.alloc,zeroValue,typeInfo,hi,hz]at h
 |some z=>
  obtain⟨i,hi,hz⟩:=f3b.1 hz;have hr:(execOp ev o).run P w=.ok (.value (.pointer (some ⟨w.heap.size,0,none⟩))) (w.alloc (.cells z.cells e)):=by simp[execOp,ho,Instr.alloc,zeroValue,typeInfo,hi,hz,newVar,newRow]
  rw[hr]at h;cases h;refine⟨rfl,λb hb=>?_⟩
  show(w.heap.push _)[b]? =w.heap[b]?
  rw[Array.getElem?_push,if_neg (Nat.ne_of_lt hb)]
theorem b7O{o:Oper}{t:TypeId}{ad x:Operand}{out:Out}(ho:o.op=.store t ad x)(h:qE P G t ad x st=some out)(hr:Rel P G base R μ st a w):∃w1 b off,a.eval ad=.pointer (some ⟨b,off,none⟩)/\(execOp a.eval o).run P w=.ok .skip w1/\∀j,j≠b->w1.heap[j]? =w.heap[j]? :=by
 unfold qE at h;split at h
 .rename_i k off ys ha hx;split at h
  .rename_i cs hk;split at h
   .rename_i hc;obtain⟨hlen,dX,hle⟩:=hc;obtain⟨hbk,hnR,cur,T,hh,hU,c7u,b0l⟩:=hr.gM k _ hk;have hv:=hr.eval x;obtain⟨pF,hvc⟩:=a1v hv hx;have gO:∀u∈(a.eval x).cells.toList,u.oneCell'=true:=λu hu=>by
     obtain⟨i,hi⟩:=f3e hu;have tT:i<ys.length:=by rw[<-pF];simpa using (f2O.1 hi).1
     obtain⟨_,_,h2⟩:=hvc i ys[i] (by simp[tT]);have:(a.eval x).cells.getD i undef=u:=by
      have:(a.eval x).cells[i]? =some u:=by simpa using hi
      simp[f2P,this]
     rw[this]at h2;exact h2
    exact⟨_,μ k,off,hr.dA ha,rV ho (hr.dA ha) hh (by rw[pF,hlen]) dX gO (by rw[pF,hU];omega),λj hj=>setRow_other w (μ k) j _ hj⟩
   .cases h
  .cases h
 .cases h
def a8h(ops:Array Oper)(m:Nat):OT->List Tmp->Bool
 | .stop,_=>true
 | .none,_=>true
 | .op i next more,D=>(match ops[i]? with
  |some o=>(o.guard==none)&&(match o.op,o.dst with
   | .alloc _,some k=> !D.contains k&&decide (k<m)&&a8h ops m next (k::D)
   | .store _ (.tmp k) _,none=>D.contains k&&a8h ops m next D
   |_,_=>false)
  |none=>false)&&a8h ops m more D
def e4B(w0:World)(a:Act)(D:List Tmp):Prop:=∀k∈D,∃b,a.eval (.tmp k)=.pointer (some ⟨b,0,none⟩)/\w0.heap.size<=b
theorem c0W{ops:Array Oper}{Q:Exit->St->Prop}{i n m:Nat}{listed:Array Bool}{D:List Tmp}:∀(T:OT),a0R ops T (n+1) listed=true->a8h ops m T D=true->a8a i T=true->VT P G ops Q T st->∃next more,okT ops next (listed.setIfInBounds i true)=true/\a0R ops next n (listed.setIfInBounds i true)=true/\a8h ops m (.op i next more) D=true/\∃o,ops[i]? =some o/\a4q P G ops o st (VT P G ops Q next) Q
 | .stop,_,_,h,_=>by simp[a8a]at h
 | .none,_,_,h,_=>by simp[a8a]at h
 | .op j next more,ht,hf,ha,hv=>by
  simp only[a0R,f2N]at ht;simp only[a8a,f2Z,beq_iff_eq]at ha;simp only[VT]at hv;rcases ha with rfl|ha
  .refine⟨next,more,ht.1.1,ht.1.2,hf,?_⟩;have:=hv.1;split at this
   .rename_i o ho;exact⟨o,ho,this⟩
   .exact this.elim
  .simp only[a8h,f2N]at hf;exact c0W more ht.2 hf.2 ha hv.2
theorem b3p{ops:Array Oper}{Q:Exit->St->Prop}{m:Nat}(w0:World):∀(n:Nat) (T:OT) (D:List Tmp) (listed:Array Bool) (st:St),okT ops T listed=true->a0R ops T n listed=true->a8h ops m T D=true->VT P G ops Q T st->∀(base:cN) (R:Nat->Nat->Prop) (μ:Nat->Nat) (a:Act) (w:World),Rel P G base R μ st a w->a5j w0 w->w0.heap.size<=w.heap.size->e4B w0 a D->m<=a.tmps.size->
  ∀QQ:Exit->Act->World->Prop,(∀e s a' w' R' μ',Q e s->Rel P G base R' μ' s a' w'->Step base R w R' w'->QQ e a' w')->wpAnyH P .any ops QQ (a5j w0) n listed a w
 |0,T,D,listed,st,ho,ht,hf,hv,base,R,μ,a,w,hr,hH,hU,hF,hD,QQ,hk=>by
  cases T with
  |stop=>exact⟨by simpa[okT]using ho,hk _ st a w R μ hv hr (.refl _ _ _)⟩
  |none=>simp only[okT,f2N,Bool.not_eq_true',List.isEmpty_eq_false_iff,f2Q]at ho;obtain⟨h1,h2⟩:=ho;obtain⟨x,hx⟩:=List.exists_mem_of_ne_nil _ h1;have:=h2 x hx;simp[a8a]at this
  |op i next more=>simp[a0R]at ht
 |n+1,T,D,listed,st,ho,ht,hf,hv,base,R,μ,a,w,hr,hH,hU,hF,hD,QQ,hk=>by
  cases T with
  |stop=>
   have hrd:Region.ready .any ops listed=[]:=by simpa[okT]using ho
   refine⟨λ_=>hk _ st a w R μ hv hr (.refl _ _ _),λi hi=>?_⟩;rw[hrd]at hi;cases hi
  |none=>simp only[okT,f2N,Bool.not_eq_true',List.isEmpty_eq_false_iff,f2Q]at ho;obtain⟨h1,h2⟩:=ho;obtain⟨x,hx⟩:=List.exists_mem_of_ne_nil _ h1;have:=h2 x hx;simp[a8a]at this
  |op i0 e4l e4m=>
   simp only[okT,f2N,Bool.not_eq_true',List.isEmpty_eq_false_iff,f2Q]at ho;refine⟨λh=>(ho.1 h).elim,λi hi=>?_⟩;obtain⟨next,more,q1,q2,q0,o,q3,q4⟩:=c0W _ ht hf (ho.2 i hi) hv;simp only[a8h,q3,f2N,beq_iff_eq]at q0;obtain⟨⟨hg,q0⟩,_⟩:=q0;have hw:Region.wanted o (yielded ops a.tmps)=true:=by unfold Region.wanted;rw[hg]
   have hgD:dJ o ops st.tmps=some true:=by unfold dJ;rw[hg]
   unfold wpOp;rw[q3];simp only;rw[if_pos hw];left;have gO:∀out,gJ G o st=none->cR G o st=none->jT P G o st=some out->o.wp P a w (λa' w'=>∃s R' μ',VT P G ops Q next s/\Rel P G base R' μ' s a' w'/\Step base R w R' w') λ_ _ _=>False:=λout c1 c2 c3=>by
    have h1:mE P G false ops o (VT P G ops Q next) st:=by unfold a4q at q4;unfold mE;rw[hgD,c1,c2,c3]at q4;rw[hgD,c1,c2,c3];exact q4
    have h2:=qO (Q:=λ_ _ _=>False) (KK:=λa' w'=>∃s R' μ',VT P G ops Q next s/\Rel P G base R' μ' s a' w'/\Step base R w R' w') h1 hr (λs v w' R' μ' p1 p2 p3=>⟨s,R',μ',p1,p2,p3⟩);rw[if_pos hw]at h2;rcases h2 with h2|⟨_,_,_,h2⟩
    .exact h2
    .exact h2.elim
   split at q0
   ·
    rename_i e k mV d0w;simp only[f2N,Bool.not_eq_true']at q0;have c1:gJ G o st=none:=by simp only[gJ,mV]
    have c2:cR G o st=none:=by simp only[cR,mV]
    have rN:∃out,jT P G o st=some out:=by
     unfold a4q at q4;rw[hgD,c1,c2]at q4;simp only at q4;split at q4
     .rename_i out ho2;exact⟨out,ho2⟩
     .exact q4.elim
    obtain⟨out,rN⟩:=rN;have hx:=gO out c1 c2 rN;unfold Oper.wp at hx|-;have cD:∃v w1,(execOp a.eval o).run P w=.ok (.value v) w1:=by
     cases hz:(P.info? e).bind (·.zero)with
     |none=>
      exfalso;cases hi:P.info? e with
      |none=>simp[execOp,mV,Instr.alloc,zeroValue,typeInfo,hi,Oper.upon]at hx
      |some i=>rw[hi]at hz;simp at hz;simp[execOp,mV,Instr.alloc,zeroValue,typeInfo,hi,hz,Oper.upon]at hx
     |some z=>exact⟨_,_,b6G mV hz⟩
    obtain⟨v,w1,cD⟩:=cD;obtain⟨e1,e2⟩:=b7N mV cD;rw[cD]at hx|-;obtain⟨s,R',μ',p1,p2,p3⟩:=hx;have hH1:a5j w0 w1:=λb hb=>(e2 b (by omega)).trans (hH b hb);have e7W:w.heap.size<=w1.heap.size:=p3.below.size;refine⟨hH1,b3p w0 n next (k::D) _ s q1 q2 q0.2 p1 base R' μ' _ w1 p2 hH1 (by omega) (λk' hk'=>?_) (by rw[d0w,size_put];exact hD) QQ λe s a' w2 R2 μ2 k1 k2 k3=>hk e s a' w2 R2 μ2 k1 k2 (p3.trans k3)⟩;obtain⟨⟨q5,q6⟩,_⟩:=q0;simp only[decide_eq_true_eq]at q6;rw[d0w];by_cases sW:k'=k
    .subst sW;refine⟨w.heap.size,?_,hU⟩;have aI:k'<a.tmps.size:=Nat.lt_of_lt_of_le q6 hD;rw[dB _ _ aI,e1]
    .have xF:k'∈D:=by
      rcases List.mem_cons.1 hk' with h|h
      .exact absurd h sW
      .exact h
     obtain⟨b,g1,g2⟩:=hF k' xF;exact⟨b,by rw[bQ _ _ sW];exact g1,g2⟩
   ·
    rename_i t k x mV d0w;simp only[f2N]at q0;have c1:gJ G o st=none:=by simp only[gJ,mV]
    have c2:cR G o st=none:=by simp only[cR,mV]
    have rN:∃out,jT P G o st=some out:=by
     unfold a4q at q4;rw[hgD,c1,c2]at q4;simp only at q4;split at q4
     .rename_i out ho2;exact⟨out,ho2⟩
     .exact q4.elim
    obtain⟨out,rN⟩:=rN;have hx:=gO out c1 c2 rN;have mM:qE P G t (.tmp k) x st=some out:=by unfold jT at rN;rw[mV]at rN;exact rN
    obtain⟨w1,b,off,r1,r2,r3⟩:=b7O mV mM hr;obtain⟨b',g1,g2⟩:=hF k (by simpa using q0.1);rw[g1]at r1;cases r1;unfold Oper.wp at hx|-;rw[r2]at hx|-;obtain⟨s,R',μ',p1,p2,p3⟩:=hx;have hH1:a5j w0 w1:=λj hj=>(r3 j (by omega)).trans (hH j hj);have e7W:w.heap.size<=w1.heap.size:=p3.below.size;refine⟨hH1,b3p w0 n next D _ s q1 q2 q0.2 p1 base R' μ' _ w1 p2 hH1 (by omega) (λk' hk'=>?_) (by rw[d0w];exact hD) QQ λe s a' w2 R2 μ2 k1 k2 k3=>hk e s a' w2 R2 μ2 k1 k2 (p3.trans k3)⟩;rw[d0w];exact hF k' hk'
   .cases q0
theorem c4D{id:Nat}{ops:Array Oper}{Q:Exit->St->Prop}(L:List Nat)(T:OT)(m:Nat)(hm:P.follows .mixedOrders=true)(hB:(c4B ops L (Array.replicate ops.size false)&&decide (L.length<=ops.size)&&okT ops T (bY L (Array.replicate ops.size false))&&a0R ops T (ops.size-L.length) (bY L (Array.replicate ops.size false))&&a8h ops m T [])=true)(hl:m<=st.tmps.length)(h:VK P G [.ops true ops (sel ops L)] .normal st λ_ s=>VT P G ops (wX Q) T s):SW P G (.region id ops true) st Q:=by
 simp only[f2N,decide_eq_true_eq]at hB;obtain⟨⟨⟨⟨h1,h2⟩,h3⟩,h4⟩,h5⟩:=hB;obtain⟨k,hk⟩:=Nat.exists_eq_add_of_le h2;have e:ops.size-L.length=k:=by omega
 rw[e]at h4;refine SW.mono (λe s=>b2h) ?_;intro base R μ a w hr;obtain⟨eK,oY⟩:=hr.drew;simp only[VK]at h;refine wp_region_held (S:=a5j w.drew) hm ?_;have key:wpAnyH P .any ops (λe a' w'=>∃st' R' μ',wX Q e st'/\Rel P G base R' μ' st' a' w'/\Step base R w R' w') (a5j w.drew) (L.length+k) (Array.replicate ops.size false) a w.drew:=by
  refine c4C (λc a a' w' e1 e2 hq=>?_) L _ k st h1 h base R μ a w.drew eK λs a' R' μ' q1 q0 q2 q3=>?_
  .obtain⟨s,R',μ',q1,q2,q3⟩:=hq;have hd:a'.defers=[]:=by rw[<-e1];exact q2.defers
   rw[a3Z]at q1;exact⟨_,R',μ',by rw[a3Z];exact q1,q2.b2i a' hd,q3⟩
  .exact b3p w.drew k T [] _ s h3 h4 h5 q1 base R' μ' a' w.drew q2 (a5j.refl _) (f3d _) (λk hk=>by cases hk) (by rw[q0,hr.size];exact hl) _ λe s a' w' R2 μ2 k1 k2 k3=>⟨s,R2,μ2,k1,k2,(oY.trans q3).trans k3⟩
 rw[<-hk]at key;exact key
end
end Go.VM
end
namespace Go.Proofs.YtjpodcmhcenjjaaGreatDoor
section
open Go Go.VM
variable {G:GT}
mutual
theorem tO:∀p:Pr,a5g p p=true
 |⟨op,nm,n,l⟩=>by simp[a5g,b3q l]
theorem b3q:∀l:List Pr,tN l l=true
 |[]=>by simp[tN]
 |a::r=>by simp[tN,tO a,b3q r]
end
inductive WB (B:Nat):Ty->Prop
 |mk (op:Int) (nm:Nm) (l:List Ty) (ns:List Nm) (p:Pr) (ps:List Pr):l.length<=B->ns.length<=B->cB p<=B->ps.length<=B->(∀q∈ps,cB q<=B)->(∀k∈l,WB B k)->WB B ⟨op,nm,l,ns,p,ps⟩
inductive WE (B:Nat):eM->Prop
 |mk (e:eM):e.kids.length<=B->e.params.length<=B->e.alts.length<=B->e.types.length<=B->(∀k∈e.kids,WE B k)->(∀p∈e.params,WB B p.2)->(∀a∈e.alts,a.2.1.length<=B)->(∀a∈e.alts,WE B a.2.2)->(∀t∈e.types,WB B t)->WE B e
theorem gV:VM.Enters prog 37:=.mk func37 rfl
theorem gC(l:List Nm)(hl:l.length<=900000000):CS prog G 37 [.sl (strs l),.sl (strs l)] (.d (.bool true)) none:=by
 refine CS.aZ func37 rfl ntmps37 rfl ?_;simp;refine SW.eL (ι:={i:Nat//i<=l.length}) (λi=>[(5,.d (.int .i64 i.1))]) (λ_=>[]) (λ_=>[]) (λi=>l.length-i.1) ⟨0,by simp⟩ (by simp) ?_;rintro⟨i,hi⟩;by_cases aI:i<l.length
 .have hg:=b9k aI;have hw:=bC (show i<9223372036854775807 by omega);simp[aI,hg];refine⟨gE.mk (by kernel_rfl),?_⟩;exact bJ.mk ⟨i+1,aI⟩ (by simp[hw]) (by simp;omega)
 .have hie:i=l.length:=by omega
  subst hie;simp
theorem uU:VM.Enters prog 36:=.mk func36 rfl
theorem mB:VM.Enters prog 25:=.mk func25 rfl
theorem wB(l:List Ty)(hl:l.length<=900000000)(ih:∀k∈l,CS prog G 25 [.agg (tyD k),.agg (tyD k)] (.d (.bool true)) none):CS prog G 36 [.sl (l.map tyC),.sl (l.map tyC)] (.d (.bool true)) none:=by
 refine CS.aZ func36 rfl ntmps36 rfl ?_;simp;refine SW.eL (ι:={i:Nat//i<=l.length}) (λi=>[(5,.d (.int .i64 i.1))]) (λ_=>[]) (λ_=>[]) (λi=>l.length-i.1) ⟨0,by simp⟩ (by simp) ?_;rintro⟨i,hi⟩;by_cases aI:i<l.length
 .have hg:=d4r aI;have hw:=bC (show i<9223372036854775807 by omega);simp[aI,hg];refine⟨gE.mk (by kernel_rfl),?_⟩;refine aE.mk mB (ih l[i] (List.getElem_mem aI)) ?_;simp;exact bJ.mk ⟨i+1,aI⟩ (by simp[hw]) (by simp;omega)
 .have hie:i=l.length:=by omega
  subst hie;simp
theorem gW:∀t:Ty,WB 900000000 t->CS prog G 25 [.agg (tyD t),.agg (tyD t)] (.d (.bool true)) none:=by
 refine Ty.ind λt ih=>?_;obtain⟨op,nm,l,ns,p,ps⟩:=t;simp only at ih;intro hw;cases hw with
 |mk _ _ _ _ _ _ w1 w2 w3 w4 w5 w6=>
 have hts:=wB (G:=G) l w1 λk hk=>ih k hk (w6 k hk);have hns:=gC (G:=G) ns w2;have hsp:=rG (G:=G) p p w3;rw[tO]at hsp;refine CS.aZ func25 rfl ntmps25 rfl ?_;simp;refine aE.mk gV hns ?_;simp;refine aE.mk mU hsp ?_;simp;refine SW.eL (ι:={i:Nat//i<=ps.length}) (λi=>[(5,.d (.int .i64 i.1))]) (λ_=>[(2,.cells [.d (.int .i64 op),.d (.str nm),.d (.sl (l.map tyC)),.d (.sl (strs ns)),.d (.int .i64 p.op),.d (.str p.name),.d (.int .i64 p.n),.d (.sl (p.kids.map oO)),.d (.sl (ps.map oO))]),(3,.cells [.d (.int .i64 op),.d (.str nm),.d (.sl (l.map tyC)),.d (.sl (strs ns)),.d (.int .i64 p.op),.d (.str p.name),.d (.int .i64 p.n),.d (.sl (p.kids.map oO)),.d (.sl (ps.map oO))])]) (λ_=>[]) (λi=>ps.length-i.1) ⟨0,by simp⟩ (by simp) ?_;rintro⟨i,hi⟩;by_cases aI:i<ps.length
 .have hg:=wH aI;have hw:=bC (show i<9223372036854775807 by omega);have hsi:=rG (G:=G) ps[i] ps[i] (w5 _ (List.getElem_mem aI));rw[tO]at hsi;simp[aI,hg];refine⟨gE.mk (by kernel_rfl),?_⟩;refine aE.mk mU hsi ?_;simp;exact bJ.mk ⟨i+1,aI⟩ (by simp[hw]) (by simp;omega)
 .have hie:i=ps.length:=by omega
  subst hie;simp;refine aE.mk uU hts ?_;simp
theorem a6N:VM.Enters prog 35:=.mk func35 rfl
theorem a5k(l:List (Nm×Ty))(hl:l.length<=900000000)(ht:∀p∈l,WB 900000000 p.2):CS prog G 35 [.sl (l.map a2j),.sl (l.map a2j)] (.d (.bool true)) none:=by
 refine CS.aZ func35 rfl ntmps35 rfl ?_;simp;refine SW.eL (ι:={i:Nat//i<=l.length}) (λi=>[(5,.d (.int .i64 i.1))]) (λ_=>[]) (λ_=>[]) (λi=>l.length-i.1) ⟨0,by simp⟩ (by simp) ?_;rintro⟨i,hi⟩;by_cases aI:i<l.length
 .have hg:=a0O l[i];have hw:=bC (show i<9223372036854775807 by omega);have hsi:=gW (G:=G) l[i].2 (ht _ (List.getElem_mem aI));simp[aI,hg];refine⟨gE.mk (by kernel_rfl),?_⟩;refine aE.mk mB hsi ?_;simp;exact bJ.mk ⟨i+1,aI⟩ (by simp[hw]) (by simp;omega)
 .have hie:i=l.length:=by omega
  subst hie;simp
theorem yO:VM.Enters prog 15:=.mk func15 rfl
abbrev d5y(a b x y:Nat):OT:=.op a (.op b (.op x (.op y .stop .none) (.op y (.op x .stop .none) .none)) (.op x (.op b (.op y .stop .none) .none) .none)) (.op b (.op a (.op x (.op y .stop .none) (.op y (.op x .stop .none) .none)) (.op y (.op a (.op x .stop .none) .none) .none)) .none)
theorem a5P(e:eM)(h:WE 900000000 e):CS prog G 15 [.agg (xS e),.agg (xS e)] (.d (.bool true)) none:=by
 induction h with
 |mk e h1 h2 h3 h4 h5 h6 h7 h8 h9 ih1 ih2=>
  obtain⟨op,nm,n,ks,ps,al,ts⟩:=e;simp only at h1 h2 h3 h4 h5 h6 h7 h8 h9 ih1 ih2;have hpa:=a5k (G:=G) ps h2 h6;have mN:=wB (G:=G) ts h4 λt ht=>gW t (h9 t ht);refine CS.b1V func15 rfl ntmps15 rfl (SW.xk ?_);simp;refine jC.mk a6N hpa ?_;simp;refine jC.mk uU mN ?_;simp;refine SW.vB (ι:={i:Nat//i<=ks.length}) (λi=>[(5,.d (.int .i64 i.1))]) (λ_=>[(2,.cells [.d (.int .i64 op),.d (.str nm),.d (.int .i64 n),.d (.sl (ks.map a1G)),.d (.sl (ps.map a2j)),.d (.sl (al.map b0r)),.d (.sl (ts.map tyC))]),(3,.cells [.d (.int .i64 op),.d (.str nm),.d (.int .i64 n),.d (.sl (ks.map a1G)),.d (.sl (ps.map a2j)),.d (.sl (al.map b0r)),.d (.sl (ts.map tyC))])]) (λ_=>[]) (λi=>ks.length-i.1) ⟨0,by simp⟩ (by simp) ?_;rintro⟨i,hi⟩;by_cases aI:i<ks.length
  .have hg:=dL ks[i];have hw:=bC (show i<9223372036854775807 by omega);simp[aI];refine SW.vk ?_;simp[aI,hg];refine⟨gE.mk (by kernel_rfl),?_⟩;refine aE.mk yO (ih1 _ (List.getElem_mem aI)) ?_;simp;exact bJ.mk ⟨i+1,aI⟩ (by simp[hw]) (by simp;omega)
  .have hie:i=ks.length:=by omega
   subst hie;simp;refine SW.vB (ι:={i:Nat//i<=al.length}) (λi=>[(6,.d (.int .i64 i.1))]) (λ_=>[(2,.cells [.d (.int .i64 op),.d (.str nm),.d (.int .i64 n),.d (.sl (ks.map a1G)),.d (.sl (ps.map a2j)),.d (.sl (al.map b0r)),.d (.sl (ts.map tyC))]),(3,.cells [.d (.int .i64 op),.d (.str nm),.d (.int .i64 n),.d (.sl (ks.map a1G)),.d (.sl (ps.map a2j)),.d (.sl (al.map b0r)),.d (.sl (ts.map tyC))])]) (λ_=>[]) (λi=>al.length-i.1) ⟨0,by simp⟩ (by simp) ?_;rintro⟨i,hi⟩;by_cases aI:i<al.length
   .have hg:=a7U al[i];have hw:=bC (show i<9223372036854775807 by omega);have hns:=gC (G:=G) al[i].2.1 (h7 _ (List.getElem_mem aI));simp[aI];refine c4D [0,1,2,3,4,5,6,7,8,9] (d5y 10 11 12 13) 117 (by kernel_rfl) (by kernel_rfl) (by simp) ?_;simp[aI,hg,d5y];refine jC.mk gV hns ?_;simp;refine jC.mk yO (ih2 _ (List.getElem_mem aI)) ?_;simp;exact bJ.mk ⟨i+1,aI⟩ (by simp[hw]) (by simp;omega)
   .have hie:i=al.length:=by omega
    subst hie;simp
end
section
open Go Go.VM
def G0:GT:=λg=>if g=1 then some dK else if g=0 then some wJ else none
theorem sP:G0 1=some dK:=rfl
theorem vC:G0 0=some wJ:=rfl
abbrev num(n:Int):eM:=⟨1,[],n,[],[],[],[]⟩
abbrev var(c:UInt8):eM:=⟨3,[c],0,[],[],[],[]⟩
theorem ex1:cG exM [49,32,45,32,50,32,45,32,51]=.ok (dG 11 [dG 11 [num 1,num 2],num 3]) 5:=by kernel_rfl
theorem ex2:cG exM [40,45,51,41]=.ok (num (-3)) 4:=by kernel_rfl
theorem ex3:cG exM [45,32,51]=.ok (dG 15 [num 3]) 2:=by kernel_rfl
theorem ex4:cG exM [102,32,40,40,45,51,41,41]=.ok ({dG 5 [num (-3)]with name:=[102]}) 7:=by kernel_rfl
theorem ex5:cG exM [40,97,32,60,32,98,41,32,61,61,32,99]=.ok (dG 16 [dG 17 [var 97,var 98],var 99]) 7:=by kernel_rfl
theorem ex6:cG exM [97,32,60,32,98,32,60,32,99]=.bad 1 14:=by kernel_rfl
abbrev exT:Ty:=⟨6,[],[psT 1 [],⟨1,[],[],[],⟨12,[],0,[⟨3,[120],0,[]⟩,⟨3,[118],0,[]⟩]⟩,[]⟩,⟨4,[76,105,115,116],[psT 1 []],[],mL,[⟨12,[],0,[⟨1,[],0,[]⟩,⟨3,[118],0,[]⟩]⟩]⟩],[[120],[121]],mL,[]⟩
theorem ex8:cG tyM [40,73,110,116,44,32,73,110,116,41]=.bad 1 14:=by kernel_rfl
theorem ex9:cG moQ [100,101,102,32,102,32,40,120,41,32,61,32,120,32,43,10,59]=.bad 2 14:=by kernel_rfl
theorem e7X:cG moQ [100,101,102,32,102,32,40,120,41,32,61,32,63]=.bad 1 14:=by kernel_rfl
def e4D:kX gZ->Bool
 | .ok m _=>match m.uW,m.uX,m.defs with
  |[d],[me],[df]=>decide (d.cons.length=2)&&decide (me.cases.length=2)&&decide (df.sig.a6m.length=1)&&decide (df.body.op=8)
  |_,_,_=>false
 | .bad _ _=>false
def e4E:kX eX->Bool
 | .ok d _=>decide (d.mode=1)&&d.typed
 | .bad _ _=>false
abbrev txM:List UInt8:=[100,97,116,97,32,76,105,115,116,32,61,32,78,105,108,32,124,32,67,111,110,115,32,40,120,32,58,32,73,110,116,44,32,114,101,115,116,32,58,32,76,105,115,116,41,59,32,109,101,97,115,117,114,101,32,108,101,110,32,58,32,76,105,115,116,32,45,62,32,73,110,116,32,123,32,78,105,108,32,61,32,48,59,32,67,111,110,115,32,40,120,44,32,114,101,115,116,41,32,61,32,49,32,43,32,108,101,110,40,114,101,115,116,41,32,125,32,105,110,118,97,114,105,97,110,116,32,48,32,60,61,32,118,59,32,100,101,102,32,100,111,119,110,32,40,110,41,32,58,32,40,110,32,58,32,123,118,32,58,32,73,110,116,32,124,32,48,32,60,61,32,118,125,41,32,45,62,32,73,110,116,32,109,101,116,114,105,99,32,110,32,61,32,105,102,32,110,32,61,61,32,48,32,116,104,101,110,32,48,32,101,108,115,101,32,100,111,119,110,32,40,110,32,45,32,49,41,59]
abbrev txD:List UInt8:=[97,115,115,117,109,101,32,114,101,97,100,32,40,120,41,32,58,32,40,120,32,58,32,73,110,116,41,32,45,62,32,123,118,32,58,32,73,110,116,32,124,32,120,32,60,61,32,118,125]
abbrev txT:List UInt8:=[40,120,32,58,32,73,110,116,44,32,121,32,58,32,123,118,32,58,32,73,110,116,32,124,32,120,32,60,32,118,125,41,32,45,62,32,76,105,115,116,32,73,110,116,32,60,118,46,32,48,32,60,32,118,62]
theorem ex7:cG tyM txT=.ok exT 27:=by kernel_rfl
theorem e8a:e4D (cG moQ txM)=true:=by kernel_rfl
theorem e8b:e4E (cG (a1j rdQ) txD)=true:=by kernel_rfl
theorem e4F:∃m j d me df,cG moQ txM=.ok m j/\m.uW=[d]/\m.uX=[me]/\m.defs=[df]/\d.cons.length=2/\me.cases.length=2/\df.sig.a6m.length=1/\df.body.op=8:=by
 have h:=e8a;unfold e4D at h;split at h
 .rename_i m j hm;split at h
  .rename_i d me df h1 h2 h3;simp only[f2N,decide_eq_true_eq]at h;exact⟨m,j,d,me,df,hm,h1,h2,h3,h.1.1.1,h.1.1.2,h.1.2,h.2⟩
  .cases h
 .cases h
theorem e4G:∃d j,cG (a1j rdQ) txD=.ok d j/\d.mode=1/\d.typed=true:=by
 have h:=e8b;unfold e4E at h;split at h
 .rename_i d j hd;simp only[f2N,decide_eq_true_eq]at h;exact⟨d,j,hd,h.1,h.2⟩
 .cases h
end
section
open Go Go.VM
theorem a1m:VM.Enters prog 13:=.mk func13 rfl
theorem a2B:CS prog G0 13 [] (.d (.bool true)) none:=by have h1:=kW (G:=G0) sP vC [49,32,45,32,50,32,45,32,51] (by decide);have h2:=kW (G:=G0) sP vC [40,45,51,41] (by decide);have h3:=kW (G:=G0) sP vC [45,32,51] (by decide);have h4:=kW (G:=G0) sP vC [102,32,40,40,45,51,41,41] (by decide);have h5:=wK (G:=G0) sP vC txT (by decide);have h6:=wK (G:=G0) sP vC [40,73,110,116,44,32,73,110,116,41] (by decide);have h7:=pX (G:=G0) sP vC [100,101,102,32,102,32,40,120,41,32,61,32,120,32,43,10,59] (by decide);have h8:=pX (G:=G0) sP vC [100,101,102,32,102,32,40,120,41,32,61,32,63] (by decide);have h9:=kW (G:=G0) sP vC [97,32,60,32,98,32,60,32,99] (by decide);have h10:=kW (G:=G0) sP vC [40,97,32,60,32,98,41,32,61,61,32,99] (by decide);have h11:=pX (G:=G0) sP vC txM (by decide);have h12:=b7M (G:=G0) sP vC txD (by decide);obtain⟨m,jm,d,me,df,e11,m1,m2,m3,m4,m5,m6,m7⟩:=e4F;obtain⟨dd,jd,e12,d1,d2⟩:=e4G;rw[ex1]at h1;rw[ex2]at h2;rw[ex3]at h3;rw[ex4]at h4;rw[ex7]at h5;rw[ex8]at h6;rw[ex9]at h7;rw[e7X]at h8;rw[ex6]at h9;rw[ex5]at h10;rw[e11]at h11;rw[e12]at h12;obtain⟨md,mc,mi,mm,mq,mf⟩:=m;simp only at m1 m2 m3;subst m1 m2 m3;simp[tS,a1k,c0T,dG,dL]at h1 h2 h3 h4 h9 h10;simp[tS,a1k,c0T,psT,cM,eH,sF,mL,strs]at h5 h6;simp[tS,a1k,c0T,a0E]at h7 h8 h11;simp[tS,a1k,d1,d2]at h12;have k1:=dL ⟨11,[],0,[num 1,num 2],[],[],[]⟩;have k2:=dL (num (-3));have k3:=λt=>cM t;refine CS.aZ func13 rfl ntmps13 rfl ?_;simp;refine aE.mk jS h1 ?_;simp;refine aE.mk jS h2 ?_;simp;refine aE.mk jS h3 ?_;simp;refine aE.mk jS h4 ?_;simp;refine aE.mk uT h5 ?_;simp;refine aE.mk uT h6 ?_;simp;refine aE.mk oX h7 ?_;simp;refine aE.mk oX h8 ?_;simp;refine aE.mk jS h9 ?_;simp;refine aE.mk jS h10 ?_;simp (maxSteps:=1000000) [k1,k2];refine aE.mk oX h11 ?_;simp;refine aE.mk b4B h12 ?_;simp (maxSteps:=1000000) [uZ,zS,a1c,d4t,dL,m4,m5,m6,m7,d1,d2]
end
section
structure d0x (l l':List Tok) (N d:Nat) (u:Nm):Prop where
 len:N<l.length
 f2a:N+d<l'.length
 le:l.length<=l'.length
 kind:∀i,i<N->(aR l' (i+d)).kind=(aR l i).kind
 text:∀i,i<N->(aR l' (i+d)).text=(aR l i).text
 n:∀i,i<N->(aR l' (i+d)).n=(aR l i).n
 stp:(aR l N).kind=0\/((aR l N).kind=4/\(aR l N).text=u)
 e4H:(aR l' (N+d)).kind=4/\(aR l' (N+d)).text=u
 uu:u=[41]\/u=[59]
def d7J{α:Type}(N d:Nat)(W:Nat->Prop)(x y:bB α):Prop:=∀i a j,i<=N->x i=.ok a j->j<=N->W j->y (i+d)=.ok a (j+d)
section
variable {α β:Type} {kw:Nm->Bool} {andP:Pr->Pr->Pr} {aG:List Tok->Nat->Nat->kX Pr} {l l':List Tok} {N d:Nat} {W W':Nat->Prop} {u:Nm}
variable (hE:qS l) (hN:d0x l l' N d u)
include hE hN
omit hE in
theorem d0y{i:Nat}(hi:i<N)(s:Nm):gF (aR l' (i+d)) s=gF (aR l i) s:=by unfold gF;rw[hN.kind i hi,hN.text i hi]
omit hE in
theorem d5z{i:Nat}(hi:i<N)(s:Nm):aQ l' (i+d) s=aQ l i s:=d0y hN hi s
omit hE in
theorem d5A{i:Nat}(hi:i<N):mH kw (aR l' (i+d))=mH kw (aR l i):=by unfold mH;rw[hN.kind i hi,hN.text i hi]
omit hE in
theorem e4I{s:Nm}(h1:s≠[41])(h2:s≠[59]):u≠s:=by
 rcases hN.uu with rfl|rfl
 .exact λe=>h1 e.symm
 .exact λe=>h2 e.symm
omit hE in
theorem e8c{s:Nm}(h1:s≠[41])(h2:s≠[59]):aQ l N s=false:=by
 unfold aQ gF;rcases hN.stp with h|⟨h,h3⟩
 .simp[h]
 .simp[h3,e4I hN h1 h2]
omit hE in
theorem e4J{s:Nm}(h1:s≠[41])(h2:s≠[59]):aQ l' (N+d) s=false:=by unfold aQ gF;obtain⟨h,h3⟩:=hN.e4H;simp[h3,e4I hN h1 h2]
omit hE in
theorem e8d:mH kw (aR l N)=false:=by unfold mH;rcases hN.stp with h|⟨h,_⟩<;>simp[h]
omit hE in
theorem e4K:mH kw (aR l' (N+d))=false:=by unfold mH;simp[hN.e4H.1]
omit hE in
theorem b7P{s:Nm}(h1:s≠[41])(h2:s≠[59]){i:Nat}(hi:i<=N):aQ l' (i+d) s=aQ l i s:=by
 by_cases h:i=N
 .subst h;rw[e8c hN h1 h2,e4J hN h1 h2]
 .exact d5z hN (by omega) s
omit hE in
theorem d5B{i:Nat}(hi:i<=N):mH kw (aR l' (i+d))=mH kw (aR l i):=by
 by_cases h:i=N
 .subst h;rw[e8d hN,e4K hN]
 .exact d5A hN (by omega)
end
end
section
def c6V(t:Tok):Int:=if t.text=[40] then 1 else if t.text=[41] then -1 else 0
def c3i(l:List Tok)(i:Nat):Int:=match l[i]? with
 |some t=>c6V t
 |none=>0
def e4L(l:List Tok):Nat->Nat->Int
 |_,0=>0
 |i,m+1=>c3i l i+e4L l (i+1) m
def par(l:List Tok)(i j:Nat):Int:=e4L l i (j-i)
section
variable {l:List Tok}
theorem c0X(i:Nat):par l i i=0:=by
 unfold par;rw[Nat.sub_self]
 rfl
theorem d5C{i j:Nat}(h:i<j):par l i j=c3i l i+par l (i+1) j:=by
 unfold par;rw[show j-i=(j-(i+1))+1 by omega]
 rfl
theorem b3r{i:Nat}:par l i (i+1)=c3i l i:=by rw[d5C (by omega),c0X];omega
def WfD(l:List Tok):Prop:=∀(i:Nat) (t:Tok),l[i]? =some t->t.kind≠4->c6V t=0
end
end
section
def c4E{α:Type}(l:List Tok)(c:Int)(x:bB α):Prop:=∀i a j,i<l.length->x i=.ok a j->i<=j/\j<l.length/\par l i j=c
def d5D(s:Nm):Int:=c6V ⟨4,s,0,0⟩
section
variable {α β:Type} {kw:Nm->Bool} {andP:Pr->Pr->Pr} {aG:List Tok->Nat->Nat->kX Pr} {l:List Tok} {c c1 c2:Int}
theorem d0z{i:Nat}(hi:i<l.length):c3i l i=c6V (aR l i):=by
 unfold c3i aR;rw[if_pos hi,List.getD_eq_getElem?_getD,f2R hi]
 rfl
theorem d5E{t:Tok}{s:Nm}(h:gF t s=true):c6V t=d5D s:=by unfold gF at h;simp only[f2N,decide_eq_true_eq]at h;unfold d5D c6V;rw[h.2]
theorem e0R{i:Nat}{s:Nm}(hi:i<l.length)(h:aQ l i s=true):c3i l i=d5D s:=by rw[d0z hi,d5E h]
theorem d0A(hW:WfD l){i:Nat}(hi:i<l.length)(h:(aR l i).kind≠4):c3i l i=0:=by
 rw[d0z hi];refine hW i _ ?_ h;unfold aR;rw[if_pos hi,List.getD_eq_getElem?_getD,f2R hi]
 rfl
variable (hE:qS l) (hW:WfD l)
include hE
include hW
theorem c4E.take{ok:Tok->Bool}(hk:∀t,ok t=true->t.kind≠0/\t.kind≠4):c4E l 0 (mQ l ok):=λi a j hi h=>by
 unfold mQ at h;split at h
 .rename_i hs;have h1:=hk _ hs;have:=rU hE hi h1.1;cases h;exact⟨by omega,this,by rw[b3r,d0A hW hi h1.2]⟩
 .unfold dU at h;cases h
theorem c4E.base:c4E l 0 (gS kw l):=λi a j hi h=>by
 have nx:∀ {s:Nm},d5D s=0->aQ l i s=true->i<=i+1/\i+1<l.length/\par l i (i+1)=0:=λhs h1=>⟨by omega,aF hE hi h1,by rw[b3r,e0R hi h1,hs]⟩;unfold gS at h;split at h
 .rename_i h1;cases h;exact nx rfl h1
 split at h
 .rename_i h1;cases h;exact nx rfl h1
 split at h
 .rename_i h1;cases h;exact nx rfl h1
 split at h
 .rename_i h1;have hn:=a4J hE hi h1;cases h;refine⟨by omega,hn,?_⟩;rw[b3r,d0A hW hi];unfold mH at h1;simp only[f2N,decide_eq_true_eq]at h1;omega
 .cases h;exact⟨f3d _,hi,c0X _⟩
end
end
section
abbrev eTk(ln:Int):Tok:=⟨0,[],0,ln⟩
end
section
open Go Go.VM
variable {G:GT}
def hasB(c:UInt8)(s:List UInt8):Bool:=s.any λb=>decide (b=c)
theorem d5F{c:UInt8}{s:List UInt8}(h:∀b∈s,b≠c):hasB c s=false:=by unfold hasB;rw[List.any_eq_false];intro b hb;simpa using h b hb
theorem d5G{c:UInt8}{s:List UInt8}{i:Nat}(hi:i<s.length)(h:s[i]=c):hasB c s=true:=by unfold hasB;rw[List.any_eq_true];exact⟨s[i],List.getElem_mem hi,by simpa using h⟩
theorem c3j{c:UInt8}{s:List UInt8}(h:hasB c s=false):∀b∈s,b≠c:=λb hb e=>by unfold hasB at h;rw[List.any_eq_false]at h;exact h b hb (by simpa using e)
theorem b3s(s:List UInt8)(hl:s.length<=900000000):CS prog G 11 [.str s] (.d (.bool (hasB 35 s))) none:=by
 refine CS.aZ (func11) rfl (ntmps11) rfl ?_;simp;refine SW.eL (ι:={i:Nat//i<=s.length/\∀b∈s.take i,b≠35}) (λi=>[(3,.d (.int .i64 i.1))]) (λ_=>[]) (λ_=>[]) (λi=>s.length-i.1) ⟨0,by simp⟩ (by simp) ?_;rintro⟨i,hi,hn⟩
 try simp only at hi hn
 by_cases aI:i<s.length
 .have hw:=bC (show i<9223372036854775807 by omega);have cc:=a8L s[i] 35 (by omega);simp at cc;by_cases hc:s[i]=35
  .have e:=cc.2 hc;simp[aI,e,d5G aI hc]
  .have e: ¬s[i].toNat=35:=λh=>hc (cc.1 h);simp[aI,e];refine bJ.mk ⟨i+1,aI,λb hb=>?_⟩ (by simp[hw]) (by simp;omega);rw[f3c aI]at hb;rcases List.mem_append.1 hb with hb|hb
   .exact hn b hb
   .simp at hb;rw[hb];exact hc
 .have hie:i=s.length:=by omega
  subst hie;rw[List.take_length]at hn;simp[d5F hn]
theorem a2V:VM.Enters prog 11:=.mk func11 rfl
end
end Go.Proofs.YtjpodcmhcenjjaaGreatDoor
