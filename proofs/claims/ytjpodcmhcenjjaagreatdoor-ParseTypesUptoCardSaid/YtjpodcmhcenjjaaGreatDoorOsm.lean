/- Lemmas that the law of this claim needs (PtF VmRF PtG PtH PrM PrN PtI Rk Ro Rp Lh Li Lj Se Sf Sg Sj Pn Po). No condition. -/
import Derived.Test.YtjpodcmhcenjjaaGreatDoorOsa
import Derived.Test.YtjpodcmhcenjjaaGreatDoorOsc
import Derived.Test.YtjpodcmhcenjjaaGreatDoorOsd
import Derived.Test.YtjpodcmhcenjjaaGreatDoorOse
import Derived.Test.YtjpodcmhcenjjaaGreatDoorOsg
import Derived.Test.YtjpodcmhcenjjaaGreatDoorOsi
import Derived.Test.YtjpodcmhcenjjaaGreatDoorOsj
import Derived.Test.YtjpodcmhcenjjaaGreatDoorOsl
set_option linter.unusedVariables false
set_option linter.unusedSimpArgs false
set_option linter.unusedSectionVars false
set_option maxRecDepth 100000
set_option maxHeartbeats 64000000
open Go.Proofs.Tryz
namespace Go.Proofs.YtjpodcmhcenjjaaGreatDoor
section
open Go Go.VM
variable {G:GT}
abbrev a5W(x y:Int):List (Nat×aW):=[(4,.cells [.d (.int .i64 x)]),(5,.cells [.d (.int .i64 y)])]
theorem a7q{base:cT}{R:Nat->Nat->Prop}{μ:Nat->Nat}{a:Act}{w:World}{tmps:List DV}{x y:Int}(n e:Int)(hr:Rel prog G base R μ ⟨tmps,a5W x y,[]⟩ a w)(h4:tmps[4]? =some (.ptr 4 0))(h5:tmps[5]? =some (.ptr 5 0))(RR:Ending->World->Prop)(hR:∀v R' w',(∀μ',TV R' μ' w' v (.bY [.int .i64 n,.int .i64 e]))->Step base R w R' w'->(∀b o,R' b o->b<w'.heap.size)->RR (.returned v) w'):
  Leaves prog f32 a.tmps RR [d0W (.pointer (some ⟨μ 4,0,none⟩)) (.pointer (some ⟨μ 5,0,none⟩))] (.panicking (a0a (oX n e))) w:=by
 refine leaves_cons (f:=65) (args:=#[.pointer (some ⟨μ 4,0,none⟩),.pointer (some ⟨μ 5,0,none⟩)]) (by simp) (a0j a2R #[] #[.pointer (some ⟨μ 4,0,none⟩),.pointer (some ⟨μ 5,0,none⟩)] w) ?_;obtain⟨jP,sub,a0N,a0B⟩:=b6h (s0:=⟨[.ptr 100000 0,.ptr 100001 0],d4X x y,[]⟩) (args:=#[.pointer (some ⟨μ 4,0,none⟩),.pointer (some ⟨μ 5,0,none⟩)]) [(100000,4),(100001,5)] («f7F» :=[.ptr 4 0,.ptr 5 0]) (ls:=[]) (rest:=[]) (by simp[aJ,aT,aN,aM,bC,getKey]) (by simp[aQ,bA,rk]) (by simp[aQ,bA,rk,cH,cP]) rfl rfl hr rfl (λi d hd=>by
  match i,hd with
  |0,hd=>simp at hd;subst hd;exact .ptr 4 0
  |1,hd=>simp at hd;subst hd;exact .ptr 5 0) (λi l h=>by simp at h)
 refine(e0c n e a0N).mono ?_;rintro e' u' w' ⟨rfl,rfl,R',μ',a',eM,hs⟩;have qP:Step base R w R' w':=⟨hs.below.mono sub,hs.mono,λb o h1 h2=>sub b (hs.new b o h1 h2),hs.cells⟩;have m4:μ' 100000=μ 4:=(eM.pass 100000 (by omega)).trans (a0N.pass 100000 (by omega)).symm;have m5:μ' 100001=μ 5:=(eM.pass 100001 (by omega)).trans (a0N.pass 100001 (by omega)).symm;have yO:Rel prog G base R' μ ⟨tmps,a5W n e,[]⟩ a w':=by
  refine⟨hr.defers,hr.size,λi u d hu hd=>(hr.tmps i u d hu hd).bI qP,λk o hk=>?_,λk k' o o' hk hk' he'=>?_,(λc hc=>by cases hc),⟨[],rfl,λi c v h _=>by simp at h,.nil⟩,hr.tQ.bI qP,eM.pH,λb hb=>hr.base b (Nat.le_trans hs.below.size hb),hr.pass⟩
  .simp only[a5W,getKey]at hk;split at hk
   .rename_i hk4;cases hk;subst hk4;obtain⟨q1,q2,q3⟩:=eM.gY 100000 (.cells [.d (.int .i64 n)]) rfl;rw[m4]at q1 q2 q3;exact⟨sub _ q1,q2,q3.b7O (ν:=μ') (K:=[]) (λk hk=>by simp at hk) rfl⟩
   .split at hk
    .rename_i hk5;cases hk;subst hk5;obtain⟨q1,q2,q3⟩:=eM.gY 100001 (.cells [.d (.int .i64 e)]) rfl;rw[m5]at q1 q2 q3;exact⟨sub _ q1,q2,q3.b7O (ν:=μ') (K:=[]) (λk hk=>by simp at hk) rfl⟩
    .cases hk
  .have one:∀k o,getKey k (a5W n e)=some o->∃o1,getKey k (a5W x y)=some o1:=λk o h=>by
    simp only[a5W,getKey]at h|-;split at h
    .exact⟨_,by rw[if_pos (by assumption)]⟩
    .split at h
     .exact⟨_,by rw[if_neg (by assumption),if_pos (by assumption)]⟩
     .cases h
   obtain⟨o1,h1⟩:=one k o hk;obtain⟨o2,h2⟩:=one k' o' hk';exact hr.inj k k' o1 o2 h1 h2 he'
 have d1R:settle (.panicking [{v:=oX n e,recovered:=true}])=.returning:=by simp[settle]
 show Leaves _ _ _ _ [] (settle _) _
 rw[d1R];have hZ:a1H prog ⟨tmps,a5W n e,[]⟩ (f32).results.toList=some (.bY [.int .i64 n,.int .i64 e]):=by simp[a1H,h4,h5]
 obtain⟨v,hv1,hv2⟩:=a0M (fn:=f32) yO hZ;exact⟨v,hv1,hR v R' w' (λμ'=>TV.c8K hv2) qP eM.pH⟩
end
end Go.Proofs.YtjpodcmhcenjjaaGreatDoor
section
namespace Go.VM
open Go Go.RowKit
section
variable {P:Program} {G:GT} {st:St}
theorem a0p{a:Act}{dst:Option Tmp}{t:Tmp}(hd:dst≠some t)(v:Value):(a.put dst v).eval (.tmp t)=a.eval (.tmp t):=by
 cases dst with
 |none=>rfl
 |some x=>exact bV _ _ (λe=>hd (by rw[e]))
theorem d4Z{o:Oper}{a:Act}{w:World}{K:Act->World->Prop}{Q:Exit->Act->World->Prop}{t:Tmp}(hd:o.dst≠some t)(h:o.wp P a w K Q):o.wp P a w (λa' w'=>K a' w'/\a'.eval (.tmp t)=a.eval (.tmp t)) (λe a' w'=>Q e a' w'/\(e≠ .outgrown->a'.eval (.tmp t)=a.eval (.tmp t))):=by
 unfold Oper.wp at h|-;generalize (execOp a.eval o).run P w=r at h|-;unfold Oper.upon at h|-;split at h
 .exact⟨h,a0p hd _⟩
 .exact⟨h,a0p hd _⟩
 .rename_i d w';exact⟨h,(a0p (a:={a with defers:=d::a.defers}) hd _).trans rfl⟩
 .refine h.mono λe w' hx=>?_;cases e with
  |returned v=>exact⟨hx,a0p hd _⟩
  |panicked chain=>exact⟨hx,λ_=>rfl⟩
  |outgrown=>obtain⟨a0,w0,h0⟩:=hx;exact⟨a0,w0,h0,λh=>(h rfl).elim⟩
 .exact h.mono λv w' hx=>⟨hx,a0p hd _⟩
 .exact⟨h,λ_=>rfl⟩
 .exact h.elim
theorem a3S{all:Array Oper}{QQ:Exit->Act->World->Prop}{t:Tmp}:∀(l:List Oper) (a:Act) (w:World),(∀o∈l,o.dst≠some t)->wpList P all QQ l a w->wpList P all (λe a' w'=>QQ e a' w'/\(e≠ .outgrown->a'.eval (.tmp t)=a.eval (.tmp t))) l a w
 |[],a,w,_,h=>⟨h,λ_=>rfl⟩
 |o::rest,a,w,hd,h=>by
  have h0:=hd o (by simp);have hr:=λo' (ho:o'∈rest)=>hd o' (by simp[ho]);have mono:∀(a1:Act) (w1:World),a1.eval (.tmp t)=a.eval (.tmp t)->wpList P all QQ rest a1 w1->wpList P all (λe a' w'=>QQ e a' w'/\(e≠ .outgrown->a'.eval (.tmp t)=a.eval (.tmp t))) rest a1 w1:=λa1 w1 he hx=>by
   have:=a3S rest a1 w1 hr hx
   rwa[he]at this
  unfold wpList at h|-;split at h
  .rename_i hw;rw[if_pos hw];rcases h with h|⟨h1,a0,w0,h2⟩
   .exact .inl (Oper.wp_mono (λa1 w1 hx=>mono a1 w1 hx.2 hx.1) (d4Z h0 h))
   .exact .inr ⟨h1,a0,w0,h2,λh=>(h rfl).elim⟩
  .rename_i hw;rw[if_neg hw];exact mono _ _ (a0p h0 _) h
theorem DW.frame{ds:List Deferred}{id:Nat}{ops:Array Oper}{Q:Exit->St->Prop}{t u:Tmp}(h:d0V P G ops Q ops.toList st)(ht:∀o∈ops.toList,o.dst≠some t)(hu:∀o∈ops.toList,o.dst≠some u){base:cT}{R:Nat->Nat->Prop}{μ:Nat->Nat}{a:Act}{w:World}(hr:Rel P G base R μ st a w):
  (Code.region id ops false).wp P (λe a' w'=>((∃a0 s R' μ',a'={a0 with defers:=ds}/\Q e s/\Rel P G base R' μ' s a0 w'/\Step base R w R' w')/\(e≠ .outgrown->a'.eval (.tmp t)=a.eval (.tmp t)))/\(e≠ .outgrown->a'.eval (.tmp u)=a.eval (.tmp u))) {a with defers:=ds} w:=
 wp_region_list (a3S ops.toList _ w hu (a3S ops.toList _ w ht (c1i ds ops.toList st h base R μ a w hr _ λe s a' w' R' μ' q1 q2 q3=>⟨a',s,R',μ',rfl,q1,q2,q3⟩)))
end
end Go.VM
end
namespace Go.Proofs.YtjpodcmhcenjjaaGreatDoor
section
open Go Go.VM
variable {G:GT}
abbrev b6k(s:List UInt8)(F:FuncId)(l:List Tok)(ds:List D):St:=⟨[.d (.str s),.clo F [.ptr 100001 0],.undef,.undef,.ptr 4 0,.ptr 5 0,.undef,.undef,.ptr 22 0]++List.replicate 19 .undef,[(4,.cells [.d (.int .i64 0)]),(5,.cells [.d (.int .i64 0)]),(22,rdO l 0),(100001,.cells (ds.map .d))],[]⟩
theorem d5a{α:Type}{aI:List Tok->Nat->Nat->kN Pr}{l:List Tok}(hV:oS G aI l)(C:α->List D)(a0:α)(n e:Int){F:FuncId}(he:VM.Enters prog F){s:List UInt8}(hlx:CS prog G 64 [.str s] (.bY [.sl (l.map bG),.int .i64 0,.int .i64 0]) none)(hc:mX G F [.ptr 100000 0,.ptr 100001 0] [(100001,.cells ((C a0).map .d))] [] l 0 (.bad n e:kN α) (λ_=>.bY []) (λa=>[(100001,.cells ((C a).map .d))])):
  CHd prog G 32 ⟨[.d (.str s),.clo F [.ptr 100001 0]],[(100001,.cells ((C a0).map .d))],[]⟩ (.bY [.int .i64 n,.int .i64 e]):=by
 intro base R μ args w hr;refine calls_of_wp_defers func32 rfl ?_;have hr0:=Rel.frame ntmps32 rfl hr;refine SW.e0d (T:=λe' s'=>e'=.normal/\uN s' (b6j s F l [(100001,.cells ((C a0).map .d))])) ?h hr0 (λs' R' μ' a' w' q1 q2 q3=>?_) (λe' s' R' μ' a' w' q0 q1 q2 q3=>(q0 q1.1).elim)
 case h=>refine SW.xk ?_;simp;refine SW.xk ?_;simp;refine mQ.mk wB hlx ?_;simp;refine SW.xk ?_;simp[List.replicate]
 .refine a8C rfl (q2.a0H q1.2) λa1 hr1=>?_;refine wp_seq (wp_mono (DW.frame (t:=4) (u:=5) (Q:=λe s'=>e=.normal/\uN s' (b6k s F l (C a0))) ?hD (by decide) (by decide) hr1) λe2 a2 w2 ⟨⟨⟨a3,s3,R3,μ3,h0,⟨h1,h2⟩,h3,h4⟩,f4⟩,f5⟩=>?_)
  case hD=>simp[List.replicate]
  .subst h0 h1;have hr3:=h3.a0H h2;have f4:a3.eval (.tmp 4)=a1.eval (.tmp 4):=f4 (by simp);have f5:a3.eval (.tmp 5)=a1.eval (.tmp 5):=f5 (by simp);have m4:μ3 4=μ' 4:=by have k1:=hr3.eC (x:=.tmp 4) (k:=4) (off:=0) rfl;have k2:=hr1.eC (x:=.tmp 4) (k:=4) (off:=0) rfl;rw[f4,k2]at k1;exact((Addr.mk.inj (Option.some.inj (Value.pointer.inj k1))).1).symm
   have m5:μ3 5=μ' 5:=by have k1:=hr3.eC (x:=.tmp 5) (k:=5) (off:=0) rfl;have k2:=hr1.eC (x:=.tmp 5) (k:=5) (off:=0) rfl;rw[f5,k2]at k1;exact((Addr.mk.inj (Option.some.inj (Value.pointer.inj k1))).1).symm
   have hz:a3.tmps.size=28:=hr3.size;obtain⟨vs,f2J,rK,hvc⟩:=(hr3.oT (x:=.tmp 1) rfl).a8Q;obtain⟨vc,rfl⟩:∃vc,vs=#[vc]:=by
    obtain⟨L⟩:=vs
    match L,rK with
    |[x],_=>exact⟨x,rfl⟩
   have h8:a3.eval (.tmp 8)=.pointer (some ⟨μ3 22,0,none⟩):=hr3.eC rfl;refine wp_seq (wp_region_list ?_);have hr4:=hr3.put (dst:=some 23) (v:=.func (.func F) #[] #[vc]) (dv:=.undef) (act:=.no) (.undef _) trivial;have hr5:=hr4.put (dst:=some 24) (v:=.pointer (some ⟨μ3 22,0,none⟩)) (dv:=.undef) (act:=.no) (.undef _) trivial;have yO:finish (finish (b6k s F l (C a0)) (some 23) .undef .no) (some 24) .undef .no=b6k s F l (C a0):=by simp[finish,kV,cG,gV,List.replicate]
   rw[yO]at hr5;refine qL (w':=w2) (v:=.func (.func F) #[] #[vc]) rfl (.inl (by show(pure (Next.value (a3.eval (.tmp 1))):Sem Next).run _ w2=_;rw[f2J];rfl)) rfl ?_;refine qL (w':=w2) (v:=.pointer (some ⟨μ3 22,0,none⟩)) rfl (.inl (by show(pure (Next.value (((a3.put (some 23) (.func (.func F) #[] #[vc]))).eval (.tmp 8))):Sem Next).run _ w2=_;rw[bV _ _ (by decide),h8];rfl)) rfl ?_
   change wpList _ _ _ _ { (a3.put (some 23) (.func (.func F) #[] #[vc])).put (some 24) (.pointer (some ⟨μ3 22,0,none⟩))with defers:=[d0W (.pointer (some ⟨μ' 4,0,none⟩)) (.pointer (some ⟨μ' 5,0,none⟩))]} w2
   generalize ha5:(a3.put (some 23) (.func (.func F) #[] #[vc])).put (some 24) (.pointer (some ⟨μ3 22,0,none⟩))=a5 at hr5|-;have e23:a5.eval (.tmp 23)=.func (.func F) #[] #[vc]:=by rw[<-ha5,bV _ _ (by decide)];exact dR _ _ (by omega)
   have e24:a5.eval (.tmp 24)=.pointer (some ⟨μ3 22,0,none⟩):=by rw[<-ha5];exact dR _ _ (by rw[size_put];omega)
   have hd5:a5.defers=[]:=hr5.defers;have hw:∀(o:Oper) y,o.guard=none->Region.wanted o y=true:=λo y hg=>by unfold Region.wanted;rw[hg]
   unfold wpList;rw[if_pos (hw _ _ rfl)];left;unfold Oper.wp;have e2:∀(o:Oper),o.op=.call {callee:=.value (.tmp 23),args:=#[.tmp 24],argTypes:=#[85]}->(execOp a5.eval o).run prog w2=.ok (.enter F (#[.pointer (some ⟨μ3 22,0,none⟩)]++ #[vc])) w2:=λo ho=>by have hi:=a0j he #[.pointer (some ⟨μ3 22,0,none⟩)] #[vc] w2;simp[execOp,ho,resolve,e23,e24,Deferred.ofValue];exact hi
   show Oper.upon _ _ _ _ _ ((execOp a5.eval _).run prog w2)
   rw[e2 _ (by rfl),Oper.upon_enter];refine(a9t.wK (st:=b6k s F l (C a0)) hc [(100000,22),(100001,100001)] («f7F» :=[.ptr 22 0,.ptr 100001 0]) (ls:=[]) (rest:=[]) (a5W 0 0) (by simp[aJ,aT,aN,aM,bC,getKey]) (by simp[aQ,bA,rk]) (by simp[aQ,bA,rk,cH,cP,jC]) rfl rfl (λk o hk=>?_) hr5 rfl (λi d hd=>?_) (λi l h=>by simp at h)).mono ?_
   .simp only[a5W,getKey]at hk;split at hk
    .rename_i hk4;subst hk4;exact⟨by simpa[getKey]using hk,by simp[rk]⟩
    .split at hk
     .rename_i hk5;subst hk5;exact⟨by simpa[getKey]using hk,by simp[rk]⟩
     .cases hk
   .match i,hd with
    |0,hd=>simp at hd;subst hd;exact(TV.ptr 22 0:TV R3 μ3 w2 (.pointer (some ⟨μ3 22,0,none⟩)) _)
    |1,hd=>simp at hd;subst hd;exact hvc 0 (.ptr 100001 0) rfl
   .rintro e' w4 ⟨R4,rfl,hr6,hs6⟩;have hP:=a7q n e hr6 rfl rfl (λen w'=>∃v R',en=.returned v/\(∀μ',TV R' μ' w' v (.bY [.int .i64 n,.int .i64 e]))/\Step base R w R' w'/\∀b o,R' b o->b<w'.heap.size) λv R7 w7 hv hs7 hb7=>by exact⟨v,R7,rfl,hv,((q3.trans h4).trans hs6).trans hs7,hb7⟩
    rw[m4,m5]at hP;exact hP
end
section
open Go Go.VM
variable {G:GT}
abbrev c1j(s:List UInt8)(F:FuncId)(l:List Tok)(j:Nat)(ds:List D):St:=⟨[.d (.str s),.clo F [.ptr 100001 0],.undef,.undef,.ptr 4 0,.ptr 5 0,.undef,.undef,.ptr 22 0]++List.replicate 19 .undef,[(4,.cells [.d (.int .i64 0)]),(5,.cells [.d (.int .i64 0)]),(22,rdO l j),(100001,.cells (ds.map .d))],[]⟩
theorem d0Z{α:Type}{aI:List Tok->Nat->Nat->kN Pr}{l:List Tok}(hV:oS G aI l)(C:α->List D)(a0 a:α)(j:Nat)(n e:Int){F:FuncId}(he:VM.Enters prog F){s:List UInt8}(hlx:CS prog G 64 [.str s] (.bY [.sl (l.map bG),.int .i64 0,.int .i64 0]) none)(hc:mX G F [.ptr 100000 0,.ptr 100001 0] [(100001,.cells ((C a0).map .d))] [] l 0 (.ok a j) (λ_=>.bY []) (λa=>[(100001,.cells ((C a).map .d))]))(hj:j<l.length)(a1p:a2G l j=.bad n e):
  CHd prog G 32 ⟨[.d (.str s),.clo F [.ptr 100001 0]],[(100001,.cells ((C a0).map .d))],[]⟩ (.bY [.int .i64 n,.int .i64 e]):=by
 intro base R μ args w hr;refine calls_of_wp_defers func32 rfl ?_;have hr0:=Rel.frame ntmps32 rfl hr;refine SW.e0d (T:=λe' s'=>e'=.normal/\uN s' (b6j s F l [(100001,.cells ((C a0).map .d))])) ?h hr0 (λs' R' μ' a' w' q1 q2 q3=>?_) (λe' s' R' μ' a' w' q0 q1 q2 q3=>(q0 q1.1).elim)
 case h=>refine SW.xk ?_;simp;refine SW.xk ?_;simp;refine mQ.mk wB hlx ?_;simp;refine SW.xk ?_;simp[List.replicate]
 .refine a8C rfl (q2.a0H q1.2) λa1 hr1=>?_;refine wp_seq (wp_mono (DW.frame (t:=4) (u:=5) (Q:=λe s'=>e=.normal/\uN s' (b6k s F l (C a0))) ?hD (by decide) (by decide) hr1) λe2 a2 w2 ⟨⟨⟨a3,s3,R3,μ3,h0,⟨h1,h2⟩,h3,h4⟩,f4⟩,f5⟩=>?_)
  case hD=>simp[List.replicate]
  .subst h0 h1;have hr3:=h3.a0H h2;have f4:a3.eval (.tmp 4)=a1.eval (.tmp 4):=f4 (by simp);have f5:a3.eval (.tmp 5)=a1.eval (.tmp 5):=f5 (by simp);have m4:μ3 4=μ' 4:=by have k1:=hr3.eC (x:=.tmp 4) (k:=4) (off:=0) rfl;have k2:=hr1.eC (x:=.tmp 4) (k:=4) (off:=0) rfl;rw[f4,k2]at k1;exact((Addr.mk.inj (Option.some.inj (Value.pointer.inj k1))).1).symm
   have m5:μ3 5=μ' 5:=by have k1:=hr3.eC (x:=.tmp 5) (k:=5) (off:=0) rfl;have k2:=hr1.eC (x:=.tmp 5) (k:=5) (off:=0) rfl;rw[f5,k2]at k1;exact((Addr.mk.inj (Option.some.inj (Value.pointer.inj k1))).1).symm
   have hz:a3.tmps.size=28:=hr3.size;refine wp_seq (wp_mono (DW.frame (t:=4) (u:=5) (Q:=λe s'=>e=.normal/\uN s' (c1j s F l j (C a))) ?hD2 (by decide) (by decide) hr3) λe5 a5 w5 ⟨⟨⟨a6,s6,R6,μ6,h0',⟨h1',h2'⟩,h3',h4'⟩,g4⟩,g5⟩=>?_)
   case hD2=>
    simp[List.replicate];refine b0h.mk (a0b he hc [(100000,22),(100001,100001)] (λa j hx=>?_) ?_ ?_ ?_ rfl rfl (λa2 j2 hx=>?_) (λn e hx=>by cases hx))
    .simp[aJ,aT,aN,aM,bC,getKey,dY]
    .simp[aJ,aT,aN,aM,bC,getKey,dY]
    .simp[aQ,bA,rk]
    .simp[aQ,bA,rk,cH,cP,jC]
    .cases hx;simp[bD,aQ,bA,rk,cH,cP,bM,jA,eZ,dJ,jC]
   .subst h0' h1';have hr6:=h3'.a0H h2';have g4:a6.eval (.tmp 4)=a3.eval (.tmp 4):=g4 (by simp);have g5:a6.eval (.tmp 5)=a3.eval (.tmp 5):=g5 (by simp);have n4:μ6 4=μ' 4:=by have k1:=hr6.eC (x:=.tmp 4) (k:=4) (off:=0) rfl;have k2:=hr1.eC (x:=.tmp 4) (k:=4) (off:=0) rfl;rw[g4,f4,k2]at k1;exact((Addr.mk.inj (Option.some.inj (Value.pointer.inj k1))).1).symm
    have n5:μ6 5=μ' 5:=by have k1:=hr6.eC (x:=.tmp 5) (k:=5) (off:=0) rfl;have k2:=hr1.eC (x:=.tmp 5) (k:=5) (off:=0) rfl;rw[g5,f5,k2]at k1;exact((Addr.mk.inj (Option.some.inj (Value.pointer.inj k1))).1).symm
    have h8:a6.eval (.tmp 8)=.pointer (some ⟨μ6 22,0,none⟩):=hr6.eC rfl;have hz6:a6.tmps.size=28:=hr6.size;refine wp_seq (wp_region_list ?_);have hr7:=hr6.put (dst:=some 26) (v:=.pointer (some ⟨μ6 22,0,none⟩)) (dv:=.undef) (act:=.no) (.undef _) trivial;have yO:finish (c1j s F l j (C a)) (some 26) .undef .no=c1j s F l j (C a):=by simp[finish,kV,cG,gV,List.replicate]
    rw[yO]at hr7;refine qL (w':=w5) (v:=.pointer (some ⟨μ6 22,0,none⟩)) rfl (.inl (by show(pure (Next.value (a6.eval (.tmp 8))):Sem Next).run _ w5=_;rw[h8];rfl)) rfl ?_
    change wpList _ _ _ _ {a6.put (some 26) (.pointer (some ⟨μ6 22,0,none⟩))with defers:=[d0W (.pointer (some ⟨μ' 4,0,none⟩)) (.pointer (some ⟨μ' 5,0,none⟩))]} w5
    generalize ha7:a6.put (some 26) (.pointer (some ⟨μ6 22,0,none⟩))=a7 at hr7|-;have e26:a7.eval (.tmp 26)=.pointer (some ⟨μ6 22,0,none⟩):=by rw[<-ha7];exact dR _ _ (by omega)
    have hw:∀(o:Oper) y,o.guard=none->Region.wanted o y=true:=λo y hg=>by unfold Region.wanted;rw[hg]
    unfold wpList;rw[if_pos (hw _ _ rfl)];left;unfold Oper.wp;have e2:∀(o:Oper),o.op=.call {callee:=.value (.func 66),args:=#[.tmp 26],argTypes:=#[85]}->(execOp a7.eval o).run prog w5=.ok (.enter 66 (#[.pointer (some ⟨μ6 22,0,none⟩)]++ #[])) w5:=λo ho=>by
     have hi:=a0j b6b #[.pointer (some ⟨μ6 22,0,none⟩)] #[] w5;have f2L:a7.tmps[26]?.getD undef=.pointer (some ⟨μ6 22,0,none⟩):=by simpa[Act.eval]using e26
     simp[execOp,ho,resolve,f2L,Deferred.ofValue,Act.eval]at hi|-;exact hi
    show Oper.upon _ _ _ _ _ ((execOp a7.eval _).run prog w5)
    rw[e2 _ (by rfl),Oper.upon_enter];have hce:=b9c (G:=G) hV j hj;rw[a1p]at hce;refine(a9t.wK (st:=c1j s F l j (C a)) hce [(100000,22)] («f7F» :=[.ptr 22 0]) (ls:=[]) (rest:=[]) (a5W 0 0) (by simp[aJ,aT,aN,aM,bC,getKey]) (by simp[aQ,bA,rk]) (by simp[aQ,bA,rk,cH,cP,jC]) rfl rfl (λk o hk=>?_) hr7 rfl (λi d hd=>?_) (λi l h=>by simp at h)).mono ?_
    .simp only[a5W,getKey]at hk;split at hk
     .rename_i hk4;subst hk4;exact⟨by simpa[getKey]using hk,by simp[rk]⟩
     .split at hk
      .rename_i hk5;subst hk5;exact⟨by simpa[getKey]using hk,by simp[rk]⟩
      .cases hk
    .match i,hd with
     |0,hd=>simp at hd;subst hd;exact(TV.ptr 22 0:TV R6 μ6 w5 (.pointer (some ⟨μ6 22,0,none⟩)) _)
    .rintro e' w8 ⟨R8,rfl,hr8,hs8⟩;have hP:=a7q n e hr8 rfl rfl (λen w'=>∃v R',en=.returned v/\(∀μ',TV R' μ' w' v (.bY [.int .i64 n,.int .i64 e]))/\Step base R w R' w'/\∀b o,R' b o->b<w'.heap.size) λv R9 w9 hv hs9 hb9=>by exact⟨v,R9,rfl,hv,(((q3.trans h4).trans h4').trans hs8).trans hs9,hb9⟩
     rw[n4,n5]at hP;exact hP
end
section
def aC{α:Type}(l:List Tok)(low:Nat)(x:aZ α):Prop:=∀(i:Nat) (n e:Int),low<=i->i<l.length->x i=.bad n e->e≠0
section
variable {kw:Nm->Bool} {l:List Tok} {low m:Nat} {α β:Type}
theorem aC.up{x:aZ α}{k:Nat}(h:aC l low x)(hk:low<=k):aC l k x:=λi n e h1 h2 h3=>h i n e (by omega) h2 h3
theorem aC.bE(a:α):aC l low (pure a:aZ α):=λi n e _ _ h=>by cases h
theorem aC.bind{x:aZ α}{f:α->aZ β}(hx:aC l low x)(ax:aB l m x)(hf:∀a,aC l (low+m) (f a)):aC l low (x >>=f):=λi n e h1 h2 h3=>by
 rw[cX]at h3;cases hk:x i with
 |bad n' e'=>rw[hk]at h3;cases h3;exact hx i n e h1 h2 hk
 |ok a j=>rw[hk]at h3;have:=ax i a j h2 hk;exact hf a j n e (by omega) this.2 h3
theorem aC.ite{c:Prop}[Decidable c]{x y:aZ α}(hx:aC l low x)(hy:aC l low y):aC l low (if c then x else y):=by
 split
 .exact hx
 .exact hy
theorem aC.failed:aC l low (dN l:aZ α):=λi n e _ _ h=>by unfold dN at h;cases h;decide
theorem aC.exp(hE:jJ l):∀s:List Nm,aC l low (aV l s)
 |[]=>aC.bE ()
 |s::r=>λi n e h1 h2 h3=>by
  have h3:(if aL l i s=true then aV l r (i+1) else dN l i)=.bad n e:=h3;split at h3
  .rename_i hs;exact aC.exp hE r (i+1) n e (by omega) (aH hE h2 hs) h3
  .exact aC.failed (low:=low) i n e h1 h2 h3
theorem aC.skip(s:Nm):aC l low (cY l s):=λi n e _ _ h=>by unfold cY at h;split at h<;>cases h
theorem aC.take(ok:Tok->Bool):aC l low (mB l ok):=λi n e h1 h2 h=>by
 unfold mB at h;split at h
 .cases h
 .exact aC.failed (low:=low) i n e h1 h2 h
theorem aC.loop(hE:jJ l){c:Nm}{one:α->aZ α}(h0:∀a,aC l low (one a))(a0:∀a,aB l 0 (one a)):∀(g:Nat) (a:α) (i:Nat) (n e:Int),low<=i->i<l.length->l.length<g+i->gA l c one g a i=.bad n e->e≠0
 |0,a,i,n,e,_,h2,h3,_=>by omega
 |g+1,a,i,n,e,h1,h2,h3,h=>by
  unfold gA at h;split at h
  .rename_i n' e' hb;cases h;exact h0 a i n e h1 h2 hb
  .rename_i b j hb;have:=a0 a i b j h2 hb;split at h
   .rename_i hs;exact aC.loop hE h0 a0 g b (j+1) n e (by omega) (aH hE this.2 hs) (by omega) h
   .cases h
theorem aC.list(hE:jJ l){c:Nm}{one:α->aZ α}(h0:∀a,aC l low (one a))(a0:∀a,aB l 0 (one a))(a:α):aC l low (dE l c one a):=λi n e h1 h2 h=>aC.loop hE h0 a0 _ a i n e h1 h2 (by omega) h
theorem aC.b4y{c:Nat->Bool}{one:α->aZ α}(h0:∀a,aC l low (one a))(a1:∀a i b j,i<l.length->c i=true->one a i=.ok b j->i+1<=j/\j<l.length):∀(g:Nat) (a:α) (i:Nat) (n e:Int),low<=i->i<l.length->l.length<g+i->dQ c one g a i=.bad n e->e≠0
 |0,a,i,n,e,_,h2,h3,_=>by omega
 |g+1,a,i,n,e,h1,h2,h3,h=>by
  unfold dQ at h;split at h
  .rename_i hc;split at h
   .rename_i n' e' hb;cases h;exact h0 a i n e h1 h2 hb
   .rename_i b j hb;have:=a1 a i b j h2 hc hb;exact aC.b4y h0 a1 g b j n e (by omega) this.2 (by omega) h
  .cases h
theorem aC.many{c:Nat->Bool}{one:α->aZ α}(h0:∀a,aC l low (one a))(a1:∀a i b j,i<l.length->c i=true->one a i=.ok b j->i+1<=j/\j<l.length)(a:α):aC l low (rN l c one a):=λi n e h1 h2 h=>aC.b4y h0 a1 _ a i n e h1 h2 (by omega) h
theorem aC.b0{x:aZ α}{f:α->aZ β}(hx:aC l low x)(ax:aB l m x)(hf:∀a,aC l low (f a)):aC l low (x >>=f):=aC.bind hx ax λa=>(hf a).up (by omega)
section
variable {andP:Pr->Pr->Pr} {aI:List Tok->Nat->Nat->kN Pr} (hE:jJ l) (hB:vY aI l) (hN:∀i e n x,i<l.length->aI l i e=.bad n x->x≠0)
include hE
theorem aC.word:aC l low (bL kw l):=aC.take _
theorem aC.title:aC l low (jB l):=aC.take _
theorem aC.sort:aC l low (xA kw l):=aC.take _
theorem aC.words:aC l low (gG kw l):=by unfold gG;exact aC.b0 (aC.exp hE _) (aB.exp hE _ _) λ_=>aC.b0 (aC.list hE (λa=>aC.b0 (aC.word hE) (aB.word hE) λ_=>aC.bE _) (λa=>((aB.word hE).le (by omega)).bl λ_=>aB.bE _) _) (aB.list hE (m:=0) (λa=>((aB.word hE).le (by omega)).bl λ_=>aB.bE _) _) λ_=>aC.b0 (aC.exp hE _) (aB.exp hE _ _) λ_=>aC.bE _
theorem aC.vars(v:Bool):aC l low (rO kw l v):=by
 unfold rO;refine aC.list hE (λa=>?_) (λa=>?_) _
 .refine aC.b0 (m:=0) (aC.ite (aC.skip _) (aC.bE _)) (aB.ite (aB.skip hE _) (aB.bE _)) λb=>?_;refine aC.b0 (m:=0) (aC.ite (aC.bE _) (aC.word hE)) (aB.ite (aB.bE _) ((aB.word hE).le (by omega))) λnm=>?_;exact aC.b0 (aC.exp hE _) (aB.exp hE _ _) λ_=>aC.b0 (aC.sort hE) (aB.sort hE) λ_=>aC.bE _
 .refine aB.br (aB.ite (aB.skip hE _) (aB.bE _)) λb=>?_;refine aB.br (aB.ite (aB.bE _) ((aB.word hE).le (by omega))) λnm=>?_;exact((aB.exp hE _ _).le (by omega)).bl λ_=>((aB.sort hE).le (by omega)).bl λ_=>aB.bE _
include hN in
omit hE in
theorem aC.pred:aC l low (kO aI l):=λi n e h1 h2 h=>hN i _ n e h2 h
omit hE in
theorem aC.base:aC l low (eO kw l):=λi n e h1 h2 h=>by
 unfold eO at h
 repeat' split at h
 all_goals cases h
end
section
variable {andP:Pr->Pr->Pr} {aI:List Tok->Nat->Nat->kN Pr} (hE:jJ l) (hB:vY aI l) (hN:∀i e n x,i<l.length->aI l i e=.bad n x->x≠0)
include hE hB hN
section
variable {ty:aZ Ty} (kH:aC l (low+1) ty) (mT:aB l 1 ty)
include kH mT
theorem aC.b9W:aC l low (vW andP aI l ty):=by unfold vW;refine aC.bind (m:=1) (aC.exp hE _) (aB.exp hE _ _) λ_=>aC.b0 kH mT λt=>aC.ite aC.failed ?_;exact aC.b0 (aC.exp hE _) (aB.exp hE _ _) λ_=>aC.b0 (aC.pred hN) hB.pred λ_=>aC.b0 (aC.exp hE _) (aB.exp hE _ _) λ_=>aC.bE _
theorem aC.zF:aC l low (gR kw andP aI l ty):=by
 unfold gR;refine aC.b0 aC.base (aB.base hE) λo=>?_;cases o with
 |some t=>exact aC.bE _
 |none=>
  intro i n e h1 h2 h3;simp only at h3;split at h3
  .cases h3
  .split at h3
   .exact aC.b9W hE hB hN kH mT i n e h1 h2 h3
   .exact(aC.bind (m:=1) (aC.exp hE _) (aB.exp hE _ _) λ_=>aC.b0 kH mT λt=>aC.b0 (aC.exp hE _) (aB.exp hE _ _) λ_=>aC.bE _:aC l low _) i n e h1 h2 h3
theorem aC.d3c:aC l low (uB kw andP aI l ty):=by unfold uB;have hs:aC l low (gR kw andP aI l ty):=aC.zF hE hB hN kH mT;have ash:aB l 1 (gR kw andP aI l ty):=aB.zF hE (mT.le (by omega)) hB.pred;refine aC.b0 (aC.title hE) (aB.title hE) λnm=>aC.b0 (aC.many (λa=>aC.b0 hs ash λ_=>aC.bE _) (λa i b j hi hc h=>(ash.bl λ_=>aB.bE _) i b j hi h) _) (aB.many (λa=>(ash.le (by omega)).bl λ_=>aB.bE _) _) λargs=>aC.b0 (aC.skip _) (aB.skip hE _) λb=>aC.ite ?_ (aC.bE _);refine aC.b0 (m:=0) (aC.list hE (λa=>aC.b0 (aC.exp hE _) (aB.exp hE _ _) λ_=>aC.b0 (aC.pred hN) hB.pred λ_=>aC.bE _) (λa=>((aB.exp hE _ _).le (by omega)).bl λ_=>hB.pred.bl λ_=>aB.bE _) _) (aB.list hE (λa=>((aB.exp hE _ _).le (by omega)).bl λ_=>hB.pred.bl λ_=>aB.bE _) _) λps=>aC.b0 (aC.exp hE _) (aB.exp hE _ _) λ_=>aC.bE _
theorem aC.c9E:aC l low (vX kw l ty):=by
 unfold vX;have n1:∀out:List Nm×List Ty,aC l (low+1) (do
   let w <- bL kw l
   aV l [[58]]
   let t <- ty
   pure (out.1++[w],out.2++[t]):aZ (List Nm×List Ty)):=λout=>aC.b0 (aC.word hE) (aB.word hE) λ_=>aC.b0 (aC.exp hE _) (aB.exp hE _ _) λ_=>aC.b0 kH mT λ_=>aC.bE _
 have n2:∀out:List Nm×List Ty,aC l (low+1) (do
   let t <- ty
   pure (out.1,out.2++[t]):aZ (List Nm×List Ty)):=λout=>aC.b0 kH mT λ_=>aC.bE _
 have a1:∀out:List Nm×List Ty,aB l 0 (do
   let w <- bL kw l
   aV l [[58]]
   let t <- ty
   pure (out.1++[w],out.2++[t]):aZ (List Nm×List Ty)):=λout=>((aB.word hE).le (by omega)).bl λ_=>((aB.exp hE _ _).le (by omega)).bl λ_=>(mT.le (by omega)).bl λ_=>aB.bE _
 have a2:∀out:List Nm×List Ty,aB l 0 (do
   let t <- ty
   pure (out.1,out.2++[t]):aZ (List Nm×List Ty)):=λout=>(mT.le (by omega)).bl λ_=>aB.bE _
 refine aC.bind (m:=1) (aC.exp hE _) (aB.exp hE _ _) λ_=>aC.b0 (m:=0) (λi n e h1 h2 h3=>?_) (λi a j h2 h3=>?_) λq=>?_
 .split at h3
  .exact aC.list hE n1 a1 _ i n e h1 h2 h3
  .exact aC.list hE n2 a2 _ i n e h1 h2 h3
 .split at h3
  .exact aB.list hE a1 _ i a j h2 h3
  .exact aB.list hE a2 _ i a j h2 h3
 .obtain⟨ns,ts⟩:=q;refine aC.b0 (aC.exp hE _) (aB.exp hE _ _) λ_=>λi n e h1 h2 h3=>?_;simp only at h3;split at h3
  .cases h3
  .exact(aC.b0 (aC.exp hE _) (aB.exp hE _ _) λ_=>aC.b0 kH mT λ_=>aC.bE _:aC l (low+1) _) i n e h1 h2 h3
theorem aC.c9F:aC l low (xB kw andP aI l ty):=by
 unfold xB;refine aC.b0 aC.base (aB.base hE) λo=>?_;cases o with
 |some t=>exact aC.bE _
 |none=>
  intro i n e h1 h2 h3;simp only at h3;split at h3
  .exact aC.d3c hE hB hN kH mT i n e h1 h2 h3
  .split at h3
   .exact aC.b9W hE hB hN kH mT i n e h1 h2 h3
   .exact aC.c9E hE hB hN kH mT i n e h1 h2 h3
end
theorem aC.a7W:∀(n:Nat) (low:Nat),l.length<n+low->aC l low (zE kw andP aI l n)
 |0,low,h=>λi n e h1 h2 h3=>by omega
 |n+1,low,h=>aC.c9F hE hB hN (aC.a7W n (low+1) (by omega)) (aB.a7W hE hB.pred n)
theorem aC.typ:aC l low (kP kw andP aI l):=aC.a7W hE hB hN _ low (by omega)
theorem aC.types:aC l low (a1L kw andP aI l):=by unfold a1L;have ht:aC l low (kP kw andP aI l):=aC.typ hE hB hN;have hta:aB l 1 (kP kw andP aI l):=aB.typ hE hB.pred;exact aC.b0 (aC.skip _) (aB.skip hE _) λb=>aC.ite (aC.b0 (m:=0) (aC.list hE (λa=>aC.b0 ht hta λ_=>aC.bE _) (λa=>(hta.le (by omega)).bl λ_=>aB.bE _) _) (aB.list hE (λa=>(hta.le (by omega)).bl λ_=>aB.bE _) _) λ_=>aC.b0 (aC.exp hE _) (aB.exp hE _ _) λ_=>aC.bE _) (aC.bE _)
section
variable {ex:Nat->aZ jL} (hx:∀k,aC l (low+1) (ex k)) (ax:∀k,aB l 1 (ex k))
include hx ax
theorem aC.mE:aC l low (qJ l ex):=by unfold qJ;exact aC.bind (m:=1) (aC.exp hE _) (aB.exp hE _ _) λ_=>aC.b0 (m:=0) (aC.list hE (λa=>aC.b0 (hx 0) (ax 0) λ_=>aC.bE _) (λa=>((ax 0).le (by omega)).bl λ_=>aB.bE _) _) (aB.list hE (λa=>((ax 0).le (by omega)).bl λ_=>aB.bE _) _) λ_=>aC.b0 (aC.exp hE _) (aB.exp hE _ _) λ_=>aC.bE _
theorem aC.d3d(op:Int):aC l low (a5k l ex op):=by unfold a5k;exact aC.bind (m:=1) (aC.exp hE _) (aB.exp hE _ _) λ_=>aC.b0 (hx 0) (ax 0) λ_=>aC.b0 (aC.exp hE _) (aB.exp hE _ _) λ_=>aC.bE _
theorem aC.e4l:aC l (low+1) (a7S kw andP aI l ex):=by unfold a7S;refine aC.b0 (aC.word hE) (aB.word hE) λ_=>aC.b0 (aC.skip _) (aB.skip hE _) λb=>aC.b0 (m:=0) (aC.ite (aC.b0 (aC.typ hE hB hN) (aB.typ hE hB.pred) λ_=>aC.bE _) (aC.bE _)) (aB.ite (((aB.typ hE hB.pred).le (by omega)).bl λ_=>aB.bE _) (aB.bE _)) λ_=>?_;exact aC.b0 (aC.exp hE _) (aB.exp hE _ _) λ_=>aC.b0 (hx 0) (ax 0) λ_=>aC.b0 (aC.exp hE _) (aB.exp hE _ _) λ_=>aC.b0 (hx 0) (ax 0) λ_=>aC.bE _
theorem aC.c6m:aC l (low+1) (a0Q kw l ex):=by
 unfold a0Q;have aw:aB l 0 (λi=>if aL l i [40] then gG kw l i else .ok [] i:aZ (List Nm)):=λi b j hi h=>by
  simp only at h;split at h
  .exact((aB.words hE).le (by omega)) _ _ _ hi h
  .cases h;omega
 have nw:aC l (low+1) (λi=>if aL l i [40] then gG kw l i else .ok [] i:aZ (List Nm)):=λi n e h1 h2 h=>by
  simp only at h;split at h
  .exact aC.words hE (low:=low+1) i n e h1 h2 h
  .cases h
 refine aC.b0 (hx 0) (ax 0) λ_=>aC.b0 (aC.exp hE _) (aB.exp hE _ _) λ_=>aC.b0 (m:=0) (aC.list hE (λa=>?_) (λa=>?_) _) (aB.list hE (λa=>?_) _) λ_=>aC.b0 (aC.exp hE _) (aB.exp hE _ _) λ_=>aC.bE _
 .exact aC.b0 (aC.title hE) (aB.title hE) λ_=>aC.b0 nw aw λ_=>aC.b0 (aC.exp hE _) (aB.exp hE _ _) λ_=>aC.b0 (hx 0) (ax 0) λ_=>aC.bE _
 all_goals exact((aB.title hE).le (by omega)).bl λ_=>aw.bl λ_=>((aB.exp hE _ _).le (by omega)).bl λ_=>((ax 0).le (by omega)).bl λ_=>aB.bE _
theorem aC.e4m:aC l (low+1) (a7T kw andP aI l ex):=by
 unfold a7T;refine aC.b0 (aC.exp hE _) (aB.exp hE _ _) λ_=>aC.b0 (m:=0) (aC.list hE (λa=>?_) (λa=>?_) _) (aB.list hE (λa=>?_) _) λ_=>aC.b0 (aC.exp hE _) (aB.exp hE _ _) λ_=>aC.b0 (hx 0) (ax 0) λ_=>aC.bE _
 .exact aC.b0 (aC.word hE) (aB.word hE) λ_=>aC.b0 (aC.skip _) (aB.skip hE _) λ_=>aC.b0 (m:=0) (aC.ite (aC.typ hE hB hN) (aC.bE _)) (aB.ite ((aB.typ hE hB.pred).le (by omega)) (aB.bE _)) λ_=>aC.bE _
 all_goals exact((aB.word hE).le (by omega)).bl λ_=>(aB.skip hE _).bl λ_=>aB.bl (aB.ite ((aB.typ hE hB.pred).le (by omega)) (aB.bE _)) λ_=>aB.bE _
theorem aC.b9X:aC l low (uX kw andP aI l ex):=by
 unfold uX;refine aC.bind (m:=1) (aC.exp hE _) (aB.exp hE _ _) λ_=>λi n e h1 h2 h=>?_;split at h
 .cases h
 .exact(aC.b0 (hx 0) (ax 0) λ_=>aC.b0 (aC.skip _) (aB.skip hE _) λ_=>aC.b0 (m:=0) (aC.ite (aC.b0 (aC.typ hE hB hN) (aB.typ (kw:=kw) (andP:=andP) hE hB.pred) λ_=>aC.bE _) (aC.bE _)) (aB.ite (((aB.typ hE hB.pred).le (by omega)).bl λ_=>aB.bE _) (aB.bE _)) λ_=>aC.b0 (aC.exp hE _) (aB.exp hE _ _) λ_=>aC.bE _:aC l (low+1) _) i n e h1 h2 h
theorem aC.d3e:aC l low (a3r kw andP aI l ex):=λi n e h1 h2 h=>by
 unfold a3r at h;split at h
 .cases h
 split at h
 .cases h
 split at h
 .cases h
 split at h
 .rename_i hs;exact aC.d3d hE hB hN hx ax 22 (i+1) n e (by omega) (aH hE h2 hs) h
 split at h
 .rename_i hs;exact aC.d3d hE hB hN hx ax 23 (i+1) n e (by omega) (aH hE h2 hs) h
 split at h
 .rename_i hs;exact(aC.b0 (aC.exp hE _) (aB.exp hE _ _) λ_=>aC.b0 (hx 0) (ax 0) λ_=>aC.b0 (aC.exp hE _) (aB.exp hE _ _) λ_=>aC.b0 (hx 0) (ax 0) λ_=>aC.b0 (aC.exp hE _) (aB.exp hE _ _) λ_=>aC.bE _:aC l (low+1) _) (i+1) n e (by omega) (aH hE h2 hs) h
 split at h
 .rename_i hs;have hn:i+1<l.length:=oQ hE h2 (by unfold jY at hs;simp only[f7H,decide_eq_true_eq]at hs;omega);split at h
  .cases h
  .exact(aC.b0 (aC.types hE hB hN) (aB.types hE hB.pred) λ_=>aC.b0 (aC.mE hE hB hN hx ax) (aB.mE hE ax) λ_=>aC.bE _:aC l low _) (i+1) n e (by omega) hn h
 split at h
 .rename_i hs;have hn:i+1<l.length:=oQ hE h2 (by unfold rM at hs;simp only[decide_eq_true_eq]at hs;omega);refine(aC.b0 (aC.types hE hB hN) (aB.types hE hB.pred) λ_=>aC.b0 (m:=0) (λi n e h1 h2 h=>?_) (λi b j hi h=>?_) λ_=>aC.bE _:aC l low _) (i+1) n e (by omega) hn h
  .split at h
   .exact aC.mE hE hB hN hx ax i n e h1 h2 h
   .cases h
  .split at h
   .exact((aB.mE hE ax).le (by omega)) _ _ _ hi h
   .cases h;omega
 .exact aC.b9X hE hB hN hx ax i n e h1 h2 h
theorem aC.unG:aC l low (a9m kw andP aI l ex):=λi n e h1 h2 h=>by
 unfold a9m at h;split at h
 .rename_i hs;exact(aC.b0 (hx 7) (ax 7) λ_=>aC.bE _:aC l (low+1) _) (i+1) n e (by omega) (aH hE h2 hs) h
 .exact aC.d3e hE hB hN hx ax i n e h1 h2 h
omit hx ax hB hN in
theorem aC.chain{ops:List (Nm×Int)}{one:aZ jL}(h0:aC l low one)(a0:aB l 0 one):∀(g:Nat) (e0:jL) (i:Nat) (n e:Int),low<=i->i<l.length->l.length<g+i->jM l ops one g e0 i=.bad n e->e≠0
 |0,e0,i,n,e,_,h2,h3,_=>by omega
 |g+1,e0,i,n,e,h1,h2,h3,h=>by
  unfold jM at h;split at h
  .cases h
  .rename_i p hp;have hs:aL l i p.1=true:=by simpa using List.find?_some hp
   have hn:=aH hE h2 hs;split at h
   .rename_i n' e' hb;cases h;exact h0 (i+1) n e (by omega) hn hb
   .rename_i x j hb;have:=a0 (i+1) x j hn hb;exact aC.chain h0 a0 g _ j n e (by omega) this.2 (by omega) h
omit hx ax hB hN in
theorem aC.lvl{ops:List (Nm×Int)}{one:aZ jL}(h0:aC l low one)(a1:aB l 1 one):aC l low (a4h l ops one):=by unfold a4h;exact aC.b0 h0 a1 λe0=>λi n e h1 h2 h=>aC.chain hE h0 (a1.le (by omega)) _ e0 i n e h1 h2 (by omega) h
theorem aC.b2E:aC l low (pL kw andP aI l ex):=aC.lvl hE (aC.lvl hE (aC.unG hE hB hN hx ax) (aB.unG hE ax hB.pred)) (aB.d3f hE ax hB.pred)
theorem aC.a7X:aC l low (a7U kw andP aI l ex):=by
 unfold a7U;have hs:aC l low (pL kw andP aI l ex):=aC.b2E hE hB hN hx ax;have ha:aB l 1 (pL kw andP aI l ex):=aB.b2E hE ax hB.pred;have one:∀(f:jL->jL) (i:Nat) (n e:Int) (w:Nm),low<=i->i<l.length->aL l i w=true->(pL kw andP aI l ex >>=λx=>pure (f x)) (i+1)=.bad n e->e≠0:=λf i n e w h1 h2 hw h=>(aC.b0 hs ha λ_=>aC.bE _:aC l low _) (i+1) n e (by omega) (aH hE h2 hw) h;refine aC.b0 hs ha λe0=>λi n e h1 h2 h=>?_;split at h
 .rename_i hw;exact one _ i n e _ h1 h2 hw h
 split at h
 .rename_i hw;exact one _ i n e _ h1 h2 hw h
 split at h
 .rename_i hw;exact one _ i n e _ h1 h2 hw h
 split at h
 .rename_i hw;exact one _ i n e _ h1 h2 hw h
 split at h
 .rename_i hw;exact one _ i n e _ h1 h2 hw h
 split at h
 .rename_i hw;exact one _ i n e _ h1 h2 hw h
 .cases h
theorem aC.b9Y:aC l low (a3s kw andP aI l ex):=λi n e h1 h2 h=>by
 unfold a3s at h;split at h
 .rename_i hs;exact(aC.b0 (hx 3) (ax 3) λ_=>aC.bE _:aC l (low+1) _) (i+1) n e (by omega) (aH hE h2 hs) h
 .exact aC.a7X hE hB hN hx ax i n e h1 h2 h
theorem aC.orG:aC l low (c3i kw andP aI l ex):=aC.lvl hE (aC.lvl hE (aC.b9Y hE hB hN hx ax) (aB.b9Y hE ax hB.pred)) (aB.lvl hE (aB.b9Y hE ax hB.pred))
theorem aC.exG:aC l low (b4w kw andP aI l ex):=λi n e h1 h2 h=>by
 unfold b4w at h;split at h
 .rename_i hs;exact aC.e4l hE hB hN hx ax (i+1) n e (by omega) (aH hE h2 hs) h
 split at h
 .rename_i hs;exact(aC.b0 (hx 0) (ax 0) λ_=>aC.b0 (aC.exp hE _) (aB.exp hE _ _) λ_=>aC.b0 (hx 0) (ax 0) λ_=>aC.b0 (aC.exp hE _) (aB.exp hE _ _) λ_=>aC.b0 (hx 0) (ax 0) λ_=>aC.bE _:aC l (low+1) _) (i+1) n e (by omega) (aH hE h2 hs) h
 split at h
 .rename_i hs;exact aC.c6m hE hB hN hx ax (i+1) n e (by omega) (aH hE h2 hs) h
 split at h
 .rename_i hs;exact aC.e4m hE hB hN hx ax (i+1) n e (by omega) (aH hE h2 hs) h
 split at h
 .rename_i hs;exact(aC.b0 (aC.word hE) (aB.word hE) λ_=>aC.b0 ((aC.mE hE hB hN hx ax).up (by omega)) (aB.mE hE ax) λ_=>aC.b0 (aC.exp hE _) (aB.exp hE _ _) λ_=>aC.b0 (hx 0) (ax 0) λ_=>aC.bE _:aC l (low+1) _) (i+1) n e (by omega) (aH hE h2 hs) h
 .exact aC.orG hE hB hN hx ax i n e h1 h2 h
end
theorem aC.exF:∀(n:Nat) (low:Nat),l.length<n+low->∀k,aC l low (zQ kw andP aI l n k)
 |0,low,h,k=>λi n e h1 h2 h3=>by omega
 |n+1,low,h,k=>by
  have hx:=aC.exF n (low+1) (by omega);have ax:=aB.exF (kw:=kw) (andP:=andP) hE hB.pred n;unfold zQ;split
  .exact aC.unG hE hB hN hx ax
  .split
   .exact aC.b9Y hE hB hN hx ax
   .exact aC.exG hE hB hN hx ax
theorem aC.expr:aC l low (a7V kw andP aI l):=aC.exF hE hB hN _ low (by omega) 0
end
end
end
section
section
variable {kw:Nm->Bool} {l:List Tok} {low m:Nat} {α β:Type}
variable {andP:Pr->Pr->Pr} {aI:List Tok->Nat->Nat->kN Pr} (hE:jJ l) (hB:vY aI l) (hN:∀i e n x,i<l.length->aI l i e=.bad n x->x≠0)
include hE
theorem aC.a0P:aC l low (xW kw l):=by unfold xW;exact aC.list hE (λa=>aC.b0 (aC.title hE) (aB.title hE) λ_=>aC.b0 (aC.word hE) (aB.word hE) λ_=>aC.bE _) (λa=>((aB.title hE).le (by omega)).bl λ_=>((aB.word hE).le (by omega)).bl λ_=>aB.bE _) _
theorem b9i(a:List Nm)(i:Nat)(b:List Nm)(j:Nat)(hi:i<l.length)(h:(do let w <- bL kw l;pure (a++[w]):aZ (List Nm)) i=.ok b j):i+1<=j/\j<l.length:=((aB.word hE).bl λ_=>aB.bE _:aB l 1 _) i b j hi h
theorem aC.head(mode:Int):aC l low (a3t kw l mode):=by
 unfold a3t;refine aC.b0 (aC.word hE) (aB.word hE) λnm=>aC.b0 (m:=0) (λi n e h1 h2 h=>?_) (λi a j hi h=>?_) λ_=>aC.bE _
 .split at h
  .split at h
   .cases h
   .exact aC.words hE (low:=low) i n e h1 h2 h
  .cases h
 .split at h
  .rename_i hs;have h1:=aH hE hi hs;split at h
   .rename_i hf;have h2:=oQ hE h1 (a0S hE hf);cases h;omega
   .exact((aB.words hE).le (by omega)) _ _ _ hi h
  .cases h;omega
include hB hN
theorem aC.bound:aC l low (xX kw aI l):=by unfold xX;exact aC.b0 (aC.word hE) (aB.word hE) λ_=>aC.b0 (aC.exp hE _) (aB.exp hE _ _) λ_=>aC.b0 (aC.vars hE _) (aB.vars hE _) λ_=>aC.b0 (aC.exp hE _) (aB.exp hE _ _) λ_=>aC.b0 (aC.pred hN) hB.pred λ_=>aC.b0 (aC.exp hE _) (aB.exp hE _ _) λ_=>aC.b0 (aC.pred hN) hB.pred λ_=>aC.b0 (aC.exp hE _) (aB.exp hE _ _) λ_=>aC.bE _
theorem aC.con:aC l low (b1R kw andP aI l):=by
 unfold b1R;have n1:∀out:List Nm×List Ty,aC l low (do
   let w <- bL kw l
   aV l [[58]]
   let t <- kP kw andP aI l
   pure (out.1++[w],out.2++[t]):aZ (List Nm×List Ty)):=λout=>aC.b0 (aC.word hE) (aB.word hE) λ_=>aC.b0 (aC.exp hE _) (aB.exp hE _ _) λ_=>aC.b0 (aC.typ hE hB hN) (aB.typ hE hB.pred) λ_=>aC.bE _
 have a1:∀out:List Nm×List Ty,aB l 0 (do
   let w <- bL kw l
   aV l [[58]]
   let t <- kP kw andP aI l
   pure (out.1++[w],out.2++[t]):aZ (List Nm×List Ty)):=λout=>((aB.word hE).le (by omega)).bl λ_=>((aB.exp hE _ _).le (by omega)).bl λ_=>((aB.typ hE hB.pred).le (by omega)).bl λ_=>aB.bE _
 exact aC.b0 (aC.title hE) (aB.title hE) λ_=>aC.b0 (aC.skip _) (aB.skip hE _) λ_=>aC.ite (aC.b0 (m:=0) (aC.list hE n1 a1 _) (aB.list hE a1 _) λ_=>aC.b0 (aC.exp hE _) (aB.exp hE _ _) λ_=>aC.bE _) (aC.bE _)
theorem aC.data:aC l low (a3v kw andP aI l):=by unfold a3v;refine aC.b0 (aC.title hE) (aB.title hE) λ_=>aC.b0 (m:=0) (aC.many (λa=>aC.b0 (aC.word hE) (aB.word hE) λ_=>aC.bE _) (λa i b j hi _ h=>b9i hE a i b j hi h) _) (aB.many (λa=>((aB.word hE).le (by omega)).bl λ_=>aB.bE _) _) λ_=>aC.b0 (aC.skip _) (aB.skip hE _) λ_=>?_;refine aC.b0 (m:=0) (aC.ite (aC.b0 (aC.vars hE _) (aB.vars hE _) λ_=>aC.b0 (aC.exp hE _) (aB.exp hE _ _) λ_=>aC.bE _) (aC.bE _)) (aB.ite (((aB.vars hE _).le (by omega)).bl λ_=>((aB.exp hE _ _).le (by omega)).bl λ_=>aB.bE _) (aB.bE _)) λ_=>aC.b0 (aC.exp hE _) (aB.exp hE _ _) λ_=>?_;exact aC.b0 (m:=0) (aC.list hE (λa=>aC.b0 (aC.con hE hB hN) (aB.con hE hB.pred) λ_=>aC.bE _) (λa=>((aB.con hE hB.pred).le (by omega)).bl λ_=>aB.bE _) _) (aB.list hE (λa=>((aB.con hE hB.pred).le (by omega)).bl λ_=>aB.bE _) _) λ_=>aC.bE _
theorem aC.cls:aC l low (zZ kw andP aI l):=by
 unfold zZ;have n1:∀out:List (Nm×Ty),aC l low (do
   let w <- bL kw l
   aV l [[58]]
   let t <- kP kw andP aI l
   pure (out++[(w,t)]):aZ (List (Nm×Ty))):=λout=>aC.b0 (aC.word hE) (aB.word hE) λ_=>aC.b0 (aC.exp hE _) (aB.exp hE _ _) λ_=>aC.b0 (aC.typ hE hB hN) (aB.typ hE hB.pred) λ_=>aC.bE _
 have a1:∀out:List (Nm×Ty),aB l 0 (do
   let w <- bL kw l
   aV l [[58]]
   let t <- kP kw andP aI l
   pure (out++[(w,t)]):aZ (List (Nm×Ty))):=λout=>((aB.word hE).le (by omega)).bl λ_=>((aB.exp hE _ _).le (by omega)).bl λ_=>((aB.typ hE hB.pred).le (by omega)).bl λ_=>aB.bE _
 exact aC.b0 (aC.title hE) (aB.title hE) λ_=>aC.b0 (aC.word hE) (aB.word hE) λ_=>aC.b0 (aC.exp hE _) (aB.exp hE _ _) λ_=>aC.b0 (m:=0) (aC.list hE n1 a1 _) (aB.list hE a1 _) λ_=>aC.bE _
theorem aC.d3g:aC l low (a5m kw aI l):=by
 unfold a5m;have aw:aB l 0 (λi=>if aL l i [40] then gG kw l i else .ok [] i:aZ (List Nm)):=λi b j hi h=>by
  simp only at h;split at h
  .exact((aB.words hE).le (by omega)) _ _ _ hi h
  .cases h;omega
 have nw:aC l low (λi=>if aL l i [40] then gG kw l i else .ok [] i:aZ (List Nm)):=λi n e h1 h2 h=>by
  simp only at h;split at h
  .exact aC.words hE (low:=low) i n e h1 h2 h
  .cases h
 refine aC.b0 (aC.word hE) (aB.word hE) λ_=>aC.b0 (aC.exp hE _) (aB.exp hE _ _) λ_=>aC.b0 (aC.title hE) (aB.title hE) λ_=>aC.b0 (aC.exp hE _) (aB.exp hE _ _) λ_=>aC.b0 (aC.sort hE) (aB.sort hE) λ_=>aC.b0 (aC.exp hE _) (aB.exp hE _ _) λ_=>?_;refine aC.b0 (m:=0) (aC.list hE (λa=>?_) (λa=>?_) _) (aB.list hE (λa=>?_) _) λ_=>aC.b0 (aC.exp hE _) (aB.exp hE _ _) λ_=>aC.b0 (aC.skip _) (aB.skip hE _) λ_=>aC.b0 (m:=0) (aC.ite (aC.pred hN) (aC.bE _)) (aB.ite hB.pred (aB.bE _)) λ_=>aC.bE _
 .exact aC.b0 (aC.title hE) (aB.title hE) λ_=>aC.b0 nw aw λ_=>aC.b0 (aC.exp hE _) (aB.exp hE _ _) λ_=>aC.b0 (aC.pred hN) hB.pred λ_=>aC.bE _
 all_goals exact((aB.title hE).le (by omega)).bl λ_=>aw.bl λ_=>((aB.exp hE _ _).le (by omega)).bl λ_=>hB.pred.bl λ_=>aB.bE _
theorem aC.d3h:aC l low (a5n kw aI l):=by unfold a5n;exact aC.b0 (aC.word hE) (aB.word hE) λ_=>aC.b0 (aC.exp hE _) (aB.exp hE _ _) λ_=>aC.b0 (aC.vars hE _) (aB.vars hE _) λ_=>aC.b0 (aC.exp hE _) (aB.exp hE _ _) λ_=>aC.b0 (aC.pred hN) hB.pred λ_=>aC.bE _
theorem aC.body(d:oB):aC l low (a3u kw andP aI l d):=by unfold a3u;exact aC.b0 (aC.exp hE _) (aB.exp hE _ _) λ_=>aC.b0 (aC.expr hE hB hN) (aB.expr hE hB.pred) λ_=>aC.bE _
theorem aC.sig:aC l low (a4i kw andP aI l):=by
 unfold a4i;refine aC.b0 (aC.skip _) (aB.skip hE _) λb=>aC.b0 (m:=0) (aC.ite (aC.b0 (aC.word hE) (aB.word hE) λ_=>aC.b0 (m:=0) (aC.many (λa=>aC.b0 (aC.word hE) (aB.word hE) λ_=>aC.bE _) (λa i b j hi _ h=>b9i hE a i b j hi h) _) (aB.many (λa=>((aB.word hE).le (by omega)).bl λ_=>aB.bE _) _) λ_=>aC.b0 (aC.exp hE _) (aB.exp hE _ _) λ_=>aC.bE _) (aC.bE _)) (aB.ite (((aB.word hE).le (by omega)).bl λ_=>(aB.many (λa=>((aB.word hE).le (by omega)).bl λ_=>aB.bE _) _).bl λ_=>((aB.exp hE _ _).le (by omega)).bl λ_=>aB.bE _) (aB.bE _)) λ_=>?_;refine aC.b0 (aC.skip _) (aB.skip hE _) λb=>aC.b0 (m:=0) (aC.ite (aC.b0 (aC.a0P hE) (aB.a0P hE) λ_=>aC.b0 (aC.exp hE _) (aB.exp hE _ _) λ_=>aC.bE _) (aC.bE _)) (aB.ite (((aB.a0P hE).le (by omega)).bl λ_=>((aB.exp hE _ _).le (by omega)).bl λ_=>aB.bE _) (aB.bE _)) λ_=>?_;refine aC.b0 (aC.skip _) (aB.skip hE _) λb=>aC.b0 (m:=0) (aC.ite (aC.b0 (aC.vars hE _) (aB.vars hE _) λ_=>aC.b0 (aC.exp hE _) (aB.exp hE _ _) λ_=>aC.bE _) (aC.bE _)) (aB.ite (((aB.vars hE _).le (by omega)).bl λ_=>((aB.exp hE _ _).le (by omega)).bl λ_=>aB.bE _) (aB.bE _)) λ_=>?_;refine aC.b0 (m:=0) (aC.many (λa=>aC.b0 (aC.exp hE _) (aB.exp hE _ _) λ_=>aC.b0 (aC.bound hE hB hN) (aB.bound hE hB.pred) λ_=>aC.bE _) (λa i b j hi _ h=>((aB.exp hE _ _).bl λ_=>((aB.bound hE hB.pred).le (by omega)).bl λ_=>aB.bE _:aB l 1 _) i b j hi h) _) (aB.many (λa=>((aB.exp hE _ _).le (by omega)).bl λ_=>((aB.bound hE hB.pred).le (by omega)).bl λ_=>aB.bE _) _) λ_=>?_;have am:∀(i0:Nat) (a:List Pr),aB l 0 (do
  let p <- (λj=>aI l j (mK l (l.length+1) 0 i0):aZ Pr)
  pure (a++[p]):aZ (List Pr)):=λi0 a=>aB.bl (m:=0) (λi' p j' hi' h'=>by have:=hB _ _ _ _ hi' h';omega) λ_=>aB.bE _
 have nm:∀(i0:Nat) (a:List Pr),aC l low (do
  let p <- (λj=>aI l j (mK l (l.length+1) 0 i0):aZ Pr)
  pure (a++[p]):aZ (List Pr)):=λi0 a=>aC.b0 (m:=0) (λi' n e _ h2 h=>hN _ _ n e h2 h) (λi' p j' hi' h'=>by have:=hB _ _ _ _ hi' h';omega) λ_=>aC.bE _
 refine aC.b0 (aC.typ hE hB hN) (aB.typ hE hB.pred) λ_=>aC.b0 (aC.skip _) (aB.skip hE _) λb=>aC.b0 (m:=0) (aC.ite (λi n e h1 h2 h=>?_) (aC.bE _)) (aB.ite (λi a j hi h=>?_) (aB.bE _)) λ_=>aC.bE _
 .exact aC.list hE (nm i) (am i) _ i n e h1 h2 h
 .exact aB.list hE (am i) _ i a j hi h
theorem aC.defn:aC l low (a0R kw andP aI l):=λi n e h1 h2 h=>by
 unfold a0R at h;have e0f:aB l 1 (a4i kw andP aI l):=aB.sig hE hB;split at h
 .rename_i hs;refine(aC.b0 (aC.head hE _) (aB.head hE _) λ_=>aC.b0 (aC.skip _) (aB.skip hE _) λ_=>aC.b0 (m:=0) (aC.ite (aC.b0 (aC.sig hE hB hN) e0f λ_=>aC.bE _) (aC.bE _)) (aB.ite ((e0f.le (by omega:0<=1)).bl λ_=>aB.bE _) (aB.bE _)) λ_=>aC.body hE hB hN _:aC l low _) (i+1) n e (by omega) (aH hE h2 hs) h
 split at h
 .rename_i hs;exact(aC.b0 (aC.head hE _) (aB.head hE _) λ_=>aC.b0 (aC.exp hE _) (aB.exp hE _ _) λ_=>aC.b0 (aC.sig hE hB hN) e0f λ_=>aC.bE _:aC l low _) (i+1) n e (by omega) (aH hE h2 hs) h
 split at h
 .rename_i hs;exact(aC.b0 (aC.head hE _) (aB.head hE _) λ_=>aC.b0 (aC.exp hE _) (aB.exp hE _ _) λ_=>aC.b0 (aC.sig hE hB hN) e0f λ_=>aC.body hE hB hN _:aC l low _) (i+1) n e (by omega) (aH hE h2 hs) h
 .cases h
theorem aC.inst:aC l low (a5l kw andP aI l):=by
 unfold a5l;have n1:∀ds:List oB,aC l low (do
  let d <- a0R kw andP aI l
  aV l [[59]]
  pure (ds++[d.getD ⟨[],[],a4y,0,false,b2D⟩]):aZ (List oB)):=λds=>aC.b0 (m:=0) (aC.defn hE hB hN) (aB.c6n hE hB) λ_=>aC.b0 (aC.exp hE _) (aB.exp hE _ _) λ_=>aC.bE _
 have a1:∀ds:List oB,aB l 1 (do
  let d <- a0R kw andP aI l
  aV l [[59]]
  pure (ds++[d.getD ⟨[],[],a4y,0,false,b2D⟩]):aZ (List oB)):=λds=>aB.br (aB.c6n hE hB) λ_=>(aB.exp hE _ _).bl λ_=>aB.bE _
 refine aC.b0 (aC.title hE) (aB.title hE) λ_=>aC.b0 (aC.zF hE hB hN (aC.typ hE hB hN) (aB.typ hE hB.pred)) (aB.zF hE ((aB.typ hE hB.pred).le (by omega)) hB.pred) λ_=>aC.b0 (aC.skip _) (aB.skip hE _) λ_=>aC.b0 (m:=0) (aC.ite (aC.a0P hE) (aC.bE _)) (aB.ite ((aB.a0P hE).le (by omega)) (aB.bE _)) λ_=>aC.b0 (aC.exp hE _) (aB.exp hE _ _) λ_=>?_;exact aC.b0 (m:=0) (aC.many n1 (λa i b j hi _ h=>a1 a i b j hi h) _) (aB.many (λa=>(a1 a).le (by omega)) _) λ_=>aC.b0 (aC.exp hE _) (aB.exp hE _ _) λ_=>aC.bE _
theorem aC.decl(m:oC):aC l low (xC kw andP aI l m):=λi n e h1 h2 h=>by
 unfold xC at h;split at h
 .rename_i hs;exact(aC.b0 (aC.data hE hB hN) (aB.data hE hB.pred) λ_=>aC.bE _:aC l low _) (i+1) n e (by omega) (aH hE h2 hs) h
 split at h
 .rename_i hs;exact(aC.b0 (aC.cls hE hB hN) (aB.cls hE hB.pred) λ_=>aC.bE _:aC l low _) (i+1) n e (by omega) (aH hE h2 hs) h
 split at h
 .rename_i hs;exact(aC.b0 (aC.inst hE hB hN) (aB.inst hE hB) λ_=>aC.bE _:aC l low _) (i+1) n e (by omega) (aH hE h2 hs) h
 split at h
 .rename_i hs;exact(aC.b0 (aC.d3g hE hB hN) (aB.d3g hE hB.pred) λ_=>aC.bE _:aC l low _) (i+1) n e (by omega) (aH hE h2 hs) h
 split at h
 .rename_i hs;exact(aC.b0 (aC.d3h hE hB hN) (aB.d3h hE hB.pred) λ_=>aC.bE _:aC l low _) (i+1) n e (by omega) (aH hE h2 hs) h
 refine(aC.b0 (m:=0) (aC.defn hE hB hN) (aB.c6n hE hB) λd=>?_:aC l low _) i n e h1 h2 h;cases d with
 |none=>exact aC.failed
 |some d=>exact aC.bE _
theorem aC.mod:aC l low (b4x kw andP aI l):=by
 unfold b4x;have n1:∀m:oC,aC l low (do
  let m <- xC kw andP aI l m
  aV l [[59]]
  pure m:aZ oC):=λm=>aC.b0 (aC.decl hE hB hN m) (aB.decl hE hB m) λ_=>aC.b0 (aC.exp hE _) (aB.exp hE _ _) λ_=>aC.bE _
 have a1:∀m:oC,aB l 1 (do
  let m <- xC kw andP aI l m
  aV l [[59]]
  pure m:aZ oC):=λm=>(aB.decl hE hB m).bl λ_=>((aB.exp hE _ _).le (by omega)).bl λ_=>aB.bE _
 exact aC.many n1 (λa i b j hi _ h=>a1 a i b j hi h) _
end
end
section
open Go Go.VM
variable {G:GT}
theorem a2D{α:Type}(hG:G 1=some dP)(hS:G 0=some xZ)(C:α->List D)(a0:α){F:FuncId}(he:VM.Enters prog F)(x:List Tok->aZ α)(s:List UInt8)(hs:s.length<=900000000)(hc:∀l:List Tok,oS G rdQ l->(∀i, -9223372036854775807<=(aK l i).n/\(aK l i).n<=9223372036854775807)->0<l.length->mX G F [.ptr 100000 0,.ptr 100001 0] [(100001,.cells ((C a0).map .d))] [] l 0 (x l 0) (λ_=>.bY []) λa=>[(100001,.cells ((C a).map .d))])(ha:∀(l:List Tok) a j,jJ l->vY rdQ l->x l 0=.ok a j->j<l.length):
  match dO x s with
  | .ok a _=>CH prog G 32 ⟨[.d (.str s),.clo F [.ptr 100001 0]],[(100001,.cells ((C a0).map .d))],[]⟩ ⟨[.bY [.int .i64 0,.int .i64 0]],[(100001,.cells ((C a).map .d))],[]⟩
  | .bad n e=>CHd prog G 32 ⟨[.d (.str s),.clo F [.ptr 100001 0]],[(100001,.cells ((C a0).map .d))],[]⟩ (.bY [.int .i64 n,.int .i64 e]):=by
 have hlx:=b7c hS s hs;unfold dO;by_cases hl:40000<s.length
 .rw[if_pos hl]at hlx|-;exact b6i _ F s 0 7 (by decide) hlx
 .rw[if_neg hl]at hlx|-;cases hr:kE gB s 0 1 false with
  |error n=>rw[hr]at hlx;exact b6i _ F s n 14 (by decide) hlx
  |ok l=>
   rw[hr]at hlx;have hV:oS G rdQ l:=b9g hG hr (by omega);have hN:=b9h hr;have a0E:0<l.length:=List.length_pos_iff.2 hV.fin.1;have oI:=hc l hV hN a0E;simp only;cases hx:x l 0 with
   |bad n e=>rw[hx]at oI;exact d5a hV C a0 n e he hlx oI
   |ok a j=>
    rw[hx]at oI;have hj:=ha l a j hV.fin hV.sB hx;simp only;cases a1p:a2G l j with
    |bad n e=>exact d0Z hV C a0 a j n e he hlx oI hj a1p
    |ok u k=>
     have hk:a2G l j=.ok () j:=by
      unfold a2G at a1p|-;split at a1p
      .rename_i h0;rw[if_pos h0]
      .unfold dN at a1p;cases a1p
     exact e0e hV C a0 a j he hlx oI hj hk
theorem b0j{α:Type}{x:List Tok->aZ α}{s:List UInt8}(h:∀(l:List Tok) n e,jJ l->vY rdQ l->0<l.length->x l 0=.bad n e->e≠0){n e:Int}(hb:dO x s=.bad n e):e≠0:=by
 unfold dO at hb;split at hb
 .cases hb;decide
 .split at hb
  .cases hb;decide
  .rename_i l hl;have hE:=b3p (zY s 0 1 false l hl);have a0E:0<l.length:=List.length_pos_iff.2 hE.1;have yO:jJ l:=by
    refine⟨hE.1,hE.2 _ ?_⟩;unfold aK;rw[if_pos (by omega),List.getD_eq_getElem?_getD,f7L (by omega)]
    rfl
   split at hb
   .rename_i n' e' hx;cases hb;exact h l _ _ yO (λe i p j hi hx=>c1h hE.2 e i p j hi hx) a0E hx
   .rename_i a j hx;split at hb
    .rename_i n' e' he;cases hb;unfold a2G at he;split at he
     .cases he
     .unfold dN at he;cases he;decide
    .cases hb
theorem b6l(l:List Tok):∀i e n x,i<l.length->rdQ l i e=.bad n x->x≠0:=λi e n x _ h=>by
 unfold rdQ at h;split at h
 .cases h;decide
 .split at h
  .cases h
  .rename_i hc;cases h;exact hc
abbrev moN:List D:=[.aF,.aF,.aF,.aF,.aF,.aF]
def moC:Option oC->List D
 |none=>moN
 |some m=>a7c m
def a8D{α:Type}:kN α->kN (Option α)
 | .ok a j=>.ok (some a) j
 | .bad n e=>.bad n e
section
variable {aI:List Tok->Nat->Nat->kN Pr} {l:List Tok} (hV:oS G aI l) (hN:∀i, -9223372036854775807<=(aK l i).n/\(aK l i).n<=9223372036854775807)
include hV hN
theorem b6m(i:Nat)(hi:i<l.length):mX G 40 [.ptr 100000 0,.ptr 100001 0] [(100001,.cells ((moC none).map .d))] [] l i (a8D (b4x aU bQ aI l i)) (λ_=>.bY []) λa=>[(100001,.cells ((moC a).map .d))]:=by
 have h:=b7z hV hN i hi;cases hr:b4x aU bQ aI l i with
 |ok m j=>rw[hr]at h;intro base R μ args w kU;refine(h base R μ args w (kU.a0H ⟨by simp[moC],by simp[yT,moC],by simp[moC],by simp[bC,moC,yT,getKey]⟩)).mono ?_;rintro e w' ⟨v,R',μ',h1,h2,h3⟩;exact⟨v,R',μ',h1,h2.a0H ⟨by simp[moC,a7c],by simp[yT,moC,a7c],by simp[moC,a7c],by simp[bC,moC,a7c]⟩,h3⟩
 |bad n e=>rw[hr]at h;intro base R μ args w kU;exact h base R μ args w (kU.a0H ⟨by simp[moC],by simp[yT,moC],by simp[moC],by simp[bC,moC,yT,getKey]⟩)
end
end
section
open Go Go.VM
variable {G:GT}
abbrev tkD(l:List Tok):D:=.sl (l.map bG)
theorem dT:VM.Enters prog 219:=.mk func219 rfl
theorem pS(l:List Tok)(i:Nat)(s:List UInt8)(hl:l.length<=900000000):CS prog G 219 [tkD l,.int .i64 i,.str s] (.d (.bool (mF l i s))) none:=by
 refine CS.aR func219 rfl ntmps219 rfl ?_;by_cases aE:i<l.length
 .rw[a8p aE];obtain⟨t,ht⟩:∃t,l[i]=t:=⟨_,rfl⟩;rw[ht];simp[aE,ht,bG];by_cases h1:t.kind=4
  .by_cases h2:t.text=s<;>simp[h1,h2,aE,ht,bG]
  .simp[h1,aE,ht,bG]
 .rw[c0I aE];simp[aE]
theorem a5X:VM.Enters prog 255:=.mk func255 rfl
theorem a8E(l:List Tok)(i:Nat)(hl:l.length<=900000000):CS prog G 255 [tkD l,.int .i64 i] (.d (.bool (wtB l i))) none:=by
 refine CS.aR func255 rfl ntmps255 rfl ?_;by_cases aE:i<l.length
 .rw[c0K aE];obtain⟨t,ht⟩:∃t,l[i]=t:=⟨_,rfl⟩;rw[ht];simp[aE,ht,bG];by_cases h1:t.kind=1
  .simp[h1,aE,ht,bG]
  .by_cases h2:t.kind=2<;>simp[h1,h2,aE,ht,bG]
 .rw[c0L aE];simp[aE]
def opX(l:List Tok)(n k:Nat):Option (Int×Bool):=if k=6 then a1a l n else if k=2 then(if mF l n [61,62]=true then some (17,false) else none) else(a9R l n k).map λo=>(o,false)
def a2S:Option (Int×Bool)->DV
 |some (o,e)=>.bY [.int .i64 o,.bool e,.bool true]
 |none=>.bY [.int .i64 0,.bool false,.bool false]
theorem c1l(o):oG (a2S o)=true:=by
 cases o with
 |none=>rfl
 |some q=>obtain⟨a,b⟩:=q;rfl
theorem d5b{l:List Tok}{n k:Nat}(h:∀s,mF l n s=false):opX l n k=none:=by
 unfold opX a1a a9R;simp only[h];split
 .rfl
 split
 .simp
 .simp
theorem gU{P:Program}{c:Operand}{x y:Code}{st:St}{Q:Exit->St->Prop}(hc:st.eval G c=.d (.bool false))(h:SW P G y st Q):SW P G (.cond c x y) st Q:=λbase R μ a w hr=>wp_cond (t:=false) (hr.a0y hc) (h base R μ a w hr)
def kT(t:Tok)(k v:Nat):St:=⟨List.set (([.undef,.undef,.d (.int .i64 k),.undef,.undef,.undef,.d (.int .i64 0),.d (.bool false),.d (.bool false),.d (.str t.text)]:List DV)++List.replicate 108 .undef) v (.d (.bool false)),[],[]⟩
theorem b2W:VM.Enters prog 221:=.mk func221 rfl
theorem b6n(l:List Tok)(n k:Nat)(hk:1<=k/\k<=10)(hl:l.length<=900000000):CS prog G 221 [tkD l,.int .i64 n,.int .i64 k] (a2S (opX l n k)) none:=by
 obtain⟨o,ho⟩:∃o,opX l n k=o:=⟨_,rfl⟩;rw[ho];refine CS.a5p func221 rfl ntmps221 rfl ?_;refine SW.jZ (SW.vk ?_);simp;by_cases aE:n<l.length;rotate_left
 .rw[d5b λs=>c0I aE s]at ho;subst ho;have hge:l.length<=n:=Nat.le_of_not_lt aE;refine SW.jZ (SW.vk ?_);simp[hge,a2S]
 have hge: ¬l.length<=n:=by omega
 obtain⟨t,ht⟩:∃t,l[n]=t:=⟨_,rfl⟩;by_cases h4:t.kind=4;rotate_left
 .rw[d5b λs=>by rw[a8p aE,ht];simp[h4]]at ho;subst ho;refine SW.jZ (SW.vk ?_);simp[hge,aE,ht,bG];simp[h4,a2S]
 have hs:∀s,mF l n s=decide (t.text=s):=λs=>by rw[a8p aE,ht];simp[h4]
 unfold opX a1a a9R at ho;simp only[hs]at ho;refine kC ⟨[.d (tkD l),.d (.int .i64 n),.d (.int .i64 k),.undef,.undef,.undef,.d (.int .i64 0),.d (.bool false),.d (.bool false)]++List.replicate 109 .undef,[],[]⟩ (SW.vk ?_) ?_
 .simp[hge,aE,ht,bG];simp[h4,List.replicate]
 refine SW.jZ (SW.vk ?_);simp[aE,ht,bG,List.replicate];refine SW.jZ (SW.c6p ?_);by_cases q0:k=1/\t.text=[60,61,62]
 .obtain⟨rfl,e⟩:=q0;simp[opL,cmpL,e]at ho;subst ho;refine SW.vk ?_;simp[e,a2S,kT,List.replicate]
 refine kC (kT t k 27) (SW.vk ?_) (gU rfl ?_)
 .by_cases c:k=1
  .have e: ¬t.text=[60,61,62]:=λe=>q0 ⟨c,e⟩;subst c;simp[e,kT,List.replicate]
  .have c': ¬(k:Int)=1:=by omega
   simp[c',kT,List.replicate]
 by_cases q1:k=2/\t.text=[61,62]
 .obtain⟨rfl,e⟩:=q1;simp[opL,cmpL,e]at ho;subst ho;refine SW.vk ?_;simp[e,a2S,kT,List.replicate]
 refine kC (kT t k 34) (SW.vk ?_) (gU rfl ?_)
 .by_cases c:k=2
  .have e: ¬t.text=[61,62]:=λe=>q1 ⟨c,e⟩;subst c;simp[e,kT,List.replicate]
  .have c': ¬(k:Int)=2:=by omega
   simp[c',kT,List.replicate]
 by_cases q2:k=3/\t.text=[124,124]
 .obtain⟨rfl,e⟩:=q2;simp[opL,cmpL,e]at ho;subst ho;refine SW.vk ?_;simp[e,a2S,kT,List.replicate]
 refine kC (kT t k 41) (SW.vk ?_) (gU rfl ?_)
 .by_cases c:k=3
  .have e: ¬t.text=[124,124]:=λe=>q2 ⟨c,e⟩;subst c;simp[e,kT,List.replicate]
  .have c': ¬(k:Int)=3:=by omega
   simp[c',kT,List.replicate]
 by_cases q3:k=4/\t.text=[38,38]
 .obtain⟨rfl,e⟩:=q3;simp[opL,cmpL,e]at ho;subst ho;refine SW.vk ?_;simp[e,a2S,kT,List.replicate]
 refine kC (kT t k 48) (SW.vk ?_) (gU rfl ?_)
 .by_cases c:k=4
  .have e: ¬t.text=[38,38]:=λe=>q3 ⟨c,e⟩;subst c;simp[e,kT,List.replicate]
  .have c': ¬(k:Int)=4:=by omega
   simp[c',kT,List.replicate]
 by_cases q4:k=6/\t.text=[61]
 .obtain⟨rfl,e⟩:=q4;simp[opL,cmpL,e]at ho;subst ho;refine SW.vk ?_;simp[e,a2S,kT,List.replicate]
 refine kC (kT t k 55) (SW.vk ?_) (gU rfl ?_)
 .by_cases c:k=6
  .have e: ¬t.text=[61]:=λe=>q4 ⟨c,e⟩;subst c;simp[e,kT,List.replicate]
  .have c': ¬(k:Int)=6:=by omega
   simp[c',kT,List.replicate]
 by_cases q5:k=6/\t.text=[33,61]
 .obtain⟨rfl,e⟩:=q5;simp[opL,cmpL,e]at ho;subst ho;refine SW.vk ?_;simp[e,a2S,kT,List.replicate]
 refine kC (kT t k 62) (SW.vk ?_) (gU rfl ?_)
 .by_cases c:k=6
  .have e: ¬t.text=[33,61]:=λe=>q5 ⟨c,e⟩;subst c;simp[e,kT,List.replicate]
  .have c': ¬(k:Int)=6:=by omega
   simp[c',kT,List.replicate]
 by_cases q6:k=6/\t.text=[60]
 .obtain⟨rfl,e⟩:=q6;simp[opL,cmpL,e]at ho;subst ho;refine SW.vk ?_;simp[e,a2S,kT,List.replicate]
 refine kC (kT t k 69) (SW.vk ?_) (gU rfl ?_)
 .by_cases c:k=6
  .have e: ¬t.text=[60]:=λe=>q6 ⟨c,e⟩;subst c;simp[e,kT,List.replicate]
  .have c': ¬(k:Int)=6:=by omega
   simp[c',kT,List.replicate]
 by_cases q7:k=6/\t.text=[60,61]
 .obtain⟨rfl,e⟩:=q7;simp[opL,cmpL,e]at ho;subst ho;refine SW.vk ?_;simp[e,a2S,kT,List.replicate]
 refine kC (kT t k 76) (SW.vk ?_) (gU rfl ?_)
 .by_cases c:k=6
  .have e: ¬t.text=[60,61]:=λe=>q7 ⟨c,e⟩;subst c;simp[e,kT,List.replicate]
  .have c': ¬(k:Int)=6:=by omega
   simp[c',kT,List.replicate]
 by_cases q8:k=6/\t.text=[62]
 .obtain⟨rfl,e⟩:=q8;simp[opL,cmpL,e]at ho;subst ho;refine SW.vk ?_;simp[e,a2S,kT,List.replicate]
 refine kC (kT t k 83) (SW.vk ?_) (gU rfl ?_)
 .by_cases c:k=6
  .have e: ¬t.text=[62]:=λe=>q8 ⟨c,e⟩;subst c;simp[e,kT,List.replicate]
  .have c': ¬(k:Int)=6:=by omega
   simp[c',kT,List.replicate]
 by_cases q9:k=6/\t.text=[62,61]
 .obtain⟨rfl,e⟩:=q9;simp[opL,cmpL,e]at ho;subst ho;refine SW.vk ?_;simp[e,a2S,kT,List.replicate]
 refine kC (kT t k 90) (SW.vk ?_) (gU rfl ?_)
 .by_cases c:k=6
  .have e: ¬t.text=[62,61]:=λe=>q9 ⟨c,e⟩;subst c;simp[e,kT,List.replicate]
  .have c': ¬(k:Int)=6:=by omega
   simp[c',kT,List.replicate]
 by_cases q10:k=7/\t.text=[43]
 .obtain⟨rfl,e⟩:=q10;simp[opL,cmpL,e]at ho;subst ho;refine SW.vk ?_;simp[e,a2S,kT,List.replicate]
 refine kC (kT t k 97) (SW.vk ?_) (gU rfl ?_)
 .by_cases c:k=7
  .have e: ¬t.text=[43]:=λe=>q10 ⟨c,e⟩;subst c;simp[e,kT,List.replicate]
  .have c': ¬(k:Int)=7:=by omega
   simp[c',kT,List.replicate]
 by_cases q11:k=7/\t.text=[45]
 .obtain⟨rfl,e⟩:=q11;simp[opL,cmpL,e]at ho;subst ho;refine SW.vk ?_;simp[e,a2S,kT,List.replicate]
 refine kC (kT t k 104) (SW.vk ?_) (gU rfl ?_)
 .by_cases c:k=7
  .have e: ¬t.text=[45]:=λe=>q11 ⟨c,e⟩;subst c;simp[e,kT,List.replicate]
  .have c': ¬(k:Int)=7:=by omega
   simp[c',kT,List.replicate]
 by_cases q12:k=8/\t.text=[42]
 .obtain⟨rfl,e⟩:=q12;simp[opL,cmpL,e]at ho;subst ho;refine SW.vk ?_;simp[e,a2S,kT,List.replicate]
 refine kC (kT t k 111) (SW.vk ?_) (gU rfl ?_)
 .by_cases c:k=8
  .have e: ¬t.text=[42]:=λe=>q12 ⟨c,e⟩;subst c;simp[e,kT,List.replicate]
  .have c': ¬(k:Int)=8:=by omega
   simp[c',kT,List.replicate]
 have sG:o=none:=by
  rw[<-ho]
  clear ho hs h4 ht hge aE hl o
  obtain rfl|rfl|rfl|rfl|rfl|rfl|rfl|rfl|rfl|rfl:k=1\/k=2\/k=3\/k=4\/k=5\/k=6\/k=7\/k=8\/k=9\/k=10:=by omega
  all_goals
   simp at q0 q1 q2 q3 q4 q5 q6 q7 q8 q9 q10 q11 q12;simp[opL,cmpL, *]
 subst sG;refine SW.vk ?_;simp[kT,List.replicate];refine SW.vk ?_;simp[a2S]
end
section
open Go Go.VM
variable {G:GT}
theorem c8L{P:Program}{x y:Code}{st:St}{Q:Exit->St->Prop}(A:Prop)(st':St)(h1:SW P G x st λe s=>match e with
  | .normal=>A/\uN s st'
  |e=>Q e s)(h2:A->SW P G y st' Q):SW P G (.seq x y) st Q:=SW.jZ λbase R μ a w hr=>
 wp_mono (h1 base R μ a w hr) λe a1 w1 ⟨s,R1,μ1,q1,q2,q3⟩=>by
  cases e with
  |normal=>exact⟨s,R1,μ1,λbase R μ a w hr=>h2 q1.1 base R μ a w (hr.a0H q1.2),q2,q3⟩
  |_=>exact⟨s,R1,μ1,q1,q2,q3⟩
def b6o:Option (List UInt8×Nat)->Nat->DV
 |some (s,n),_=>.bY [.str s,.int .i64 n,.bool true]
 |none,j=>.bY [.str [],.int .i64 j,.bool false]
theorem b0k(o)(j):oG (b6o o j)=true:=by
 cases o with
 |none=>rfl
 |some q=>obtain⟨a,b⟩:=q;rfl
def qX:Option (Pr×Nat)->Nat->DV
 |some (p,n),_=>.bY [.agg (zP p),.int .i64 n,.bool true]
 |none,j=>.bY [.agg (zP ⟨0,[],0,[]⟩),.int .i64 j,.bool false]
theorem kG(o)(j):oG (qX o j)=true:=by
 cases o with
 |none=>rfl
 |some q=>obtain⟨a,b⟩:=q;rfl
def a7r:Option (List Pr×Nat)->Nat->DV
 |some (ks,n),_=>.bY [.sl (ks.map qH),.int .i64 n,.bool true]
 |none,j=>.bY [.sl [],.int .i64 j,.bool false]
theorem a7s(o)(j):oG (a7r o j)=true:=by
 cases o with
 |none=>rfl
 |some q=>obtain⟨a,b⟩:=q;rfl
theorem b2s:VM.Enters prog 242:=.mk func242 rfl
theorem b6p(l:List Tok)(i:Nat)(hl:xP l)(hi:i<=l.length):CS prog G 242 [tkD l,.int .i64 i] (b6o (tL aU l i) i) none:=by
 have hll:=hl.1;obtain⟨o,ho⟩:∃o,tL aU l i=o:=⟨_,rfl⟩;rw[ho];unfold tL at ho;have hwd:=a8E (G:=G) l i (by omega);refine CS.a5p func242 rfl ntmps242 rfl ?_;refine SW.jZ (SW.vk ?_);simp;refine c8L (b5r aU l i=true) ⟨[.d (tkD l),.d (.int .i64 i),.undef,.undef,.d (.str []),.d (.int .i64 0),.d (.bool false)]++List.replicate 133 .undef,[],[]⟩ (SW.vk ?_) (λmP=>?_)
 .simp;refine aD.mk a5X hwd ?_;cases hw:wtB l i with
  |false=>rw[if_neg (by simp[b5r,hw])]at ho;subst ho;simp[b6o]
  |true=>
   have aE:=a2k hw;obtain⟨t,ht⟩:∃t,l[i]=t:=⟨_,rfl⟩;have hnm:b5r aU l i=(!aU t.text||decide (t.text=[118])||decide (t.text=[116,97,103])||decide (t.text=[118,97,108])):=by unfold b5r;rw[hw,a5O aE,ht,Bool.true_and]
   rw[hnm]at ho|-;simp[aE,ht,bG];refine aD.mk a0L (a2e t.text) ?_;by_cases q1:aU t.text=true
   .by_cases q2:t.text=[118]
    .rw[q2]at q1;simp[q1,q2,aE,ht,bG,List.replicate]
    .by_cases q3:t.text=[116,97,103]
     .rw[q3]at q1;simp[q1,q3,aE,ht,bG,List.replicate]
     .by_cases q4:t.text=[118,97,108]
      .rw[q4]at q1;simp[q1,q4,aE,ht,bG,List.replicate]
      .rw[if_neg (by simp[q1,q2,q3,q4])]at ho;subst ho;simp[q1,q2,q3,q4,aE,ht,bG,b6o]
   .simp[q1,aE,ht,bG,List.replicate]
 .rw[if_pos mP]at ho;have aE:i<l.length:=by unfold b5r at mP;rw[f7H]at mP;exact a2k mP.1
  rw[a5O aE]at ho;obtain⟨t,ht⟩:∃t,l[i]=t:=⟨_,rfl⟩;rw[ht]at ho;obtain⟨rs,rn,hrr⟩:∃rs rn,pP l l.length (i+1) t.text=(rs,rn):=⟨_,_,rfl⟩;rw[hrr]at ho;subst ho;have hw1:=aY (show i<9223372036854775807 by omega);refine SW.vk ?_;simp[hw1,aE,ht,bG,List.replicate];refine SW.eE (ι:={p:Nat×List UInt8//p.1<=l.length/\p.2.length<=txS (l.take p.1)/\∃f,l.length<=f+p.1/\pP l f p.1 p.2=(rs,rn)}) (λp=>[(1,.d (.int .i64 p.1.1)),(7,.d (.str p.1.2))]) (λ_=>[]) (λ_=>[]) (λp=>l.length-p.1.1) ⟨(i+1,t.text),aE,by have:=a5P aE;rw[ht]at this;simp only;omega,l.length,by omega,hrr⟩ (by simp) ?_;rintro⟨⟨j,s⟩,hj,hs,f,hf,hp⟩;simp only at hj hs hf hp;have hsg:=pS (G:=G) l j [46] (by omega);have qW:=aY (show j<9223372036854775807 by omega);have sM:IntKind.i64.wrap ((j:Int)+2)=((j+2:Nat):Int):=by rw[wrap64 (by omega)];simp
  have hj3:IntKind.i64.wrap ((j:Int)+3)=((j+3:Nat):Int):=by rw[wrap64 (by omega)];simp
  have hw1:=a8E (G:=G) l (j+1) (by omega);have hw2:=a8E (G:=G) l (j+2) (by omega);simp;refine aD.mk dT hsg ?_;cases hd:mF l j [46]with
  |false=>rw[b5z hd]at hp;cases hp;simp[b6o]
  |true=>
   have hjl:=kB hd;obtain⟨f,rfl⟩:∃g,f=g+1:=⟨f-1,by omega⟩;rw[pP,if_pos hd]at hp;simp[qW];refine aD.mk a5X hw1 ?_;cases hwt:wtB l (j+1)with
   |true=>
    have sS:=a2k hwt;rw[if_pos hwt]at hp;obtain⟨u,hu⟩:∃u,l[j+1]=u:=⟨_,rfl⟩;have hgr:=a8s hs sS;rw[a5O sS,hu]at hp;rw[hu]at hgr;have hb:=hl.le hgr;simp at hb;simp[qW,sS,hu,bG]
    repeat (refine cF (by first|omega|(simp;omega)) ?_;simp[qW,sM,sS,hu,bG])
    exact aX.mk ⟨(j+2,s++([46]++u.text)),sS,hgr,f,by omega,by simpa using hp⟩ (by simp[sM]) (by simp;omega)
   |false=>
    rw[if_neg (by simp[hwt])]at hp;simp[qW];by_cases sS:j+1<l.length;rotate_left
    .rw[if_neg (by rw[c6T sS];simp)]at hp;have e9k: ¬(j:Int)+1<(l.length:Int):=by omega
     cases hp;simp[qW,sS,e9k,b6o]
    obtain⟨u,hu⟩:∃u,l[j+1]=u:=⟨_,rfl⟩;have hgr:=a8s hs sS;rw[a8q sS,a5O sS,hu]at hp;rw[hu]at hgr;have hb:=hl.le hgr;simp at hb;simp[qW,sS,hu,bG];by_cases k3:u.kind=3;rotate_left
    .simp[k3]at hp;obtain⟨rfl,rfl⟩:=hp;simp[k3,qW,sS,hu,bG,b6o]
    simp[k3]at hp;simp[k3,qW,sM,sS,hu,bG];refine aD.mk a5X hw2 ?_;cases e5y:wtB l (j+2)with
    |false=>
     rw[if_neg (by simp[e5y])]at hp;simp[k3,qW,sM,sS,hu,bG]
     repeat (refine cF (by first|omega|(simp;omega)) ?_;simp[qW,sM,sS,hu,bG])
     exact aX.mk ⟨(j+2,s++([46]++u.text)),sS,hgr,f,by omega,by simpa using hp⟩ (by simp[sM]) (by simp;omega)
    |true=>
     rw[if_pos e5y]at hp;have a4r:=a2k e5y;obtain⟨v,hv⟩:∃v,l[j+2]=v:=⟨_,rfl⟩;have c4k:=b2l hgr a4r;rw[hv]at c4k;rw[a5O a4r,hv]at hp;have hb3:=hl.le c4k;simp at hb3;have a9W:(j:Int)+2<(l.length:Int):=by omega
     have hnn:(0:Int)<=(j:Int)+2:=by omega
     have htn:((j:Int)+2).toNat=j+2:=by omega
     try simp
     refine⟨kL.mk (by kernel_rfl),?_⟩
     try simp[qW,sM,hj3,sS,a4r,hu,hv,bG,a9W,hnn,htn]
     repeat (refine cF (by first|omega|(simp;omega)) ?_;simp[qW,sM,hj3,sS,a4r,hu,hv,bG,a9W,hnn,htn])
     exact aX.mk ⟨(j+3,s++([46]++u.text)++v.text),a4r,c4k,f,by omega,by simpa using hp⟩ (by simp[hj3]) (by simp;omega)
def d1b(G:GT)(l:List Tok)(f:Nat):Prop:=∀i k,1<=k->k<=10->i<=l.length->mu l.length i k<=f->CS prog G 200 [tkD l,.int .i64 i,.int .i64 k] (qX (eK aU l f i k) i) none
section
variable {l:List Tok} {f:Nat}
theorem sU:VM.Enters prog 200:=.mk func200 rfl
theorem a2T:VM.Enters prog 243:=.mk func243 rfl
theorem a4o(hl:xP l)(hA:d1b G l f)(n:Nat)(hf:(l.length-n)*12+10<=f):∃j,CS prog G 243 [tkD l,.int .i64 n] (a7r (rZ (eK aU l f) l n) j) none:=by
 have hll:=hl.1;obtain⟨o,ho⟩:∃o,rZ (eK aU l f) l n=o:=⟨_,rfl⟩;rw[ho];unfold rZ at ho;have hsg:=pS (G:=G) l n [40] (by omega);cases hd:mF l n [40]with
 |false=>rw[if_neg (by simp[hd])]at ho;subst ho;refine⟨n,?_⟩;rw[hd]at hsg;refine CS.aR func243 rfl ntmps243 rfl ?_;simp;refine aD.mk dT hsg ?_;simp[a7r]
 |true=>
  have hnl:=kB hd;rw[if_pos hd]at ho;rw[hd]at hsg;obtain⟨jj,hjj⟩:∃jj:Nat->Nat->List Pr->Nat,∀g i acc,jj (g+1) i acc=(match eK aU l f (i+1) 1 with
   |none=>i
   |some (p,m)=>if mF l m [41]=true then i else if mF l m [44]=true then jj g m (acc++[p]) else i):=
   ⟨λg=>Nat.rec (motive:=λ_=>Nat->List Pr->Nat) (λ_ _=>0) (λg ih i acc=>match eK aU l f (i+1) 1 with
   |none=>i
   |some (p,m)=>if mF l m [41]=true then i else if mF l m [44]=true then ih m (acc++[p]) else i) g,λg i acc=>rfl⟩
  obtain⟨z,hz⟩:∃z,jj l.length n []=z:=⟨_,rfl⟩;refine⟨z,?_⟩;refine CS.aR func243 rfl ntmps243 rfl ?_;simp;refine aD.mk dT hsg ?_;simp;refine SW.eE (ι:={p:Nat×List Pr//p.1<l.length/\(l.length-p.1)*12+10<=f/\p.2.length<=p.1/\∃g,l.length<=g+p.1/\mE (eK aU l f) l g p.1 p.2=o/\jj g p.1 p.2=z}) (λp=>[(1,.d (.int .i64 p.1.1)),(7,.d (.sl (p.1.2.map qH)))]) (λ_=>[]) (λ_=>[(43,[.t 7])]) (λp=>l.length-p.1.1) ⟨(n,[]),hnl,hf,by simp,l.length,by omega,ho,hz⟩ (by simp) ?_;rintro⟨⟨i,acc⟩,hi,hf,hal,g,hg,hR,hz⟩;simp only at hi hf hal hg hR hz;have hi1:=aY (show i<9223372036854775807 by omega);obtain⟨g,rfl⟩:∃h,g=h+1:=⟨g-1,by omega⟩;rw[mE]at hR;rw[hjj]at hz;have hat:=hA (i+1) 1 (by omega) (by omega) hi (by rw[d4m hi];exact hf);simp[hi1];refine aD.mk (hkl:=kG _ _) sU hat ?_;cases hr:eK aU l f (i+1) 1 with
  |none=>rw[hr]at hR hz;simp only at hR hz;subst hR hz;simp[qX,a7r]
  |some q=>
   obtain⟨p,m⟩:=q;have tD:=jN aU l f _ _ _ _ hr;rw[hr]at hR hz;simp only at hR hz;have hm1:=aY (show m<9223372036854775807 by omega);have hs1:=pS (G:=G) l m [41] (by omega);have hs2:=pS (G:=G) l m [44] (by omega);have e8O:=c4l acc;have yV:acc.map qH++[zP p]=(acc++[p]).map qH:=by simp[cN]
   simp[qX,rg1];have jG:(acc.length+1)*57<=140737488355328:=by omega
   simp[jG];refine aD.mk dT hs1 ?_;cases hd1:mF l m [41]with
   |true=>rw[if_pos hd1]at hR;subst hR;simp[hm1,a7r,cN]
   |false=>
    rw[if_neg (by simp[hd1])]at hR hz;simp;refine aD.mk dT hs2 ?_;cases hd2:mF l m [44]with
    |false=>rw[if_neg (by simp[hd2])]at hR hz;subst hR hz;simp[a7r]
    |true=>
     rw[if_pos hd2]at hR hz;have hml:=kB hd2;have hmu:(l.length-m)*12+10<=f:=by omega
     have hac:(acc++[p]).length<=m:=by simp;omega
     simp;exact aX.mk ⟨(m,acc++[p]),hml,hmu,hac,g,by omega,hR,hz⟩ (by simp[cN]) (by simp;omega)
theorem b0l:VM.Enters prog 220:=.mk func220 rfl
theorem b2t(hl:xP l)(hA:d1b G l f)(i k:Nat)(op:Int)(hk:1<=k/\k<=10)(hi:i+1<=l.length)(hf:mu l.length (i+1) k<=f):CS prog G 220 [tkD l,.int .i64 i,.int .i64 k,.int .i64 op] (qX ((eK aU l f (i+1) k).map λq=>((⟨op,[],0,[q.1]⟩:Pr),q.2)) i) none:=by
 have hll:=hl.1;have hi1:=aY (show i<9223372036854775807 by omega);have hat:=hA (i+1) k hk.1 hk.2 hi hf;refine CS.aR func220 rfl ntmps220 rfl ?_;simp[hi1];refine aD.mk (hkl:=kG _ _) sU hat ?_;cases eK aU l f (i+1) k with
 |none=>simp[qX]
 |some q=>obtain⟨p,n⟩:=q;simp[qX,rg1,cN]
end
end
section
open Go Go.VM
variable {G:GT}
def aSt(l:List Tok)(i:Nat)(t:Tok)(v:Nat):St:=⟨List.set (([.d (tkD l),.d (.int .i64 i),.undef,.undef,.ptr 4 0,.d (.int .i64 0),.d (.bool false),.ptr 7 0]:List DV)++List.replicate 182 .undef) v (.d (.bool false)),[(4,.cells [.d (.int .i64 0),.d (.str []),.d (.int .i64 0),.d .aF]),(7,.cells [.d (.int .i64 t.kind),.d (.str t.text),.d (.int .i64 t.n),.d (.int .i64 t.line)])],[]⟩
theorem c4Q:VM.Enters prog 218:=.mk func218 rfl
section
variable {l:List Tok} {f:Nat}
theorem c7m(hl:xP l)(hA:d1b G l f)(i:Nat)(hi:i<=l.length)(hf:mu l.length i 10<=f+1):CS prog G 218 [tkD l,.int .i64 i] (qX (wE aU (eK aU l f) l i) i) none:=by
 have hll:=hl.1;obtain⟨o,ho⟩:∃o,wE aU (eK aU l f) l i=o:=⟨_,rfl⟩;rw[ho];unfold wE at ho;refine CS.a5p func218 rfl ntmps218 rfl ?_;refine SW.jZ (SW.vk ?_);simp;refine SW.jZ (SW.vk ?_);simp;by_cases aE:i<l.length;rotate_left
 .rw[List.getElem?_eq_none (by omega)]at ho;subst ho;have hge:l.length<=i:=Nat.le_of_not_lt aE;simp[hge,qX]
 have hge: ¬l.length<=i:=by omega
 rw[f7L aE]at ho;obtain⟨t,ht⟩:∃t,l[i]=t:=⟨_,rfl⟩;rw[ht]at ho;simp only at ho;have hi1:=aY (show i<9223372036854775807 by omega);have hi2:IntKind.i64.wrap ((i:Int)+2)=((i+2:Nat):Int):=by rw[wrap64 (by omega)];simp
 have hi3:IntKind.i64.wrap ((i:Int)+3)=((i+3:Nat):Int):=by rw[wrap64 (by omega)];simp
 have hi4:IntKind.i64.wrap ((i:Int)+4)=((i+4:Nat):Int):=by rw[wrap64 (by omega)];simp
 simp[hge];refine SW.jZ (SW.vk ?_);simp[aE,ht,bG];refine c8L (a8t (eK aU l f) l i=o) (aSt l i t 133) (SW.c6p ?_) (λho=>?_)
 .by_cases k3:t.kind=3
  .rw[if_pos k3]at ho;subst ho;refine SW.vk ?_;simp[k3,hi1,qX]
  rw[if_neg k3]at ho;refine kC (aSt l i t 33) (SW.vk ?_) (gU rfl ?_)
  .simp[k3,aSt,List.replicate]
  by_cases kt:t.kind=1/\t.text=[116,114,117,101]
  .rw[if_pos kt]at ho;subst ho;refine SW.vk ?_;simp[kt.1,kt.2,hi1,qX,aSt,List.replicate]
  rw[if_neg kt]at ho;refine kC (aSt l i t 42) (SW.vk ?_) (gU rfl ?_)
  .by_cases k1:t.kind=1
   .have e: ¬t.text=[116,114,117,101]:=λe=>kt ⟨k1,e⟩;simp[k1,e,aSt,List.replicate]
   .simp[k1,aSt,List.replicate]
  by_cases kf:t.kind=1/\t.text=[102,97,108,115,101]
  .rw[if_pos kf]at ho;subst ho;refine SW.vk ?_;simp[kf.1,kf.2,hi1,qX,aSt,List.replicate]
  rw[if_neg kf]at ho;refine kC (aSt l i t 54) (SW.vk ?_) (gU rfl ?_)
  .by_cases k1:t.kind=1
   .have e: ¬t.text=[102,97,108,115,101]:=λe=>kf ⟨k1,e⟩;simp[k1,e,aSt,List.replicate]
   .simp[k1,aSt,List.replicate]
  have hsq:=pS (G:=G) l i [63] (by omega);have hsp:=pS (G:=G) l i [40] (by omega);have hsm:=pS (G:=G) l (i+1) [45] (by omega);have hsc:=pS (G:=G) l (i+3) [41] (by omega);cases hp:mF l i [40]with
  |false=>
   rw[hp]at hsp;refine kC (aSt l i t 66) (SW.vk ?_) (gU rfl ?_)
   .simp[aSt,List.replicate];refine aD.mk dT hsp ?_;simp
   refine kC (aSt l i t 108) (SW.vk ?_) (gU rfl ?_)
   .simp[aSt,List.replicate];refine aD.mk dT hsp ?_;simp
   cases hq:mF l i [63]with
   |false=>
    rw[hq]at hsq;refine kC (aSt l i t 133) (SW.vk ?_) (gU rfl ?_)
    .simp[aSt,List.replicate];refine aD.mk dT hsq ?_;simp
    have hP:a8t (eK aU l f) l i=o:=by rw[if_neg (by simp[hq]),if_neg (by simp[hp])]at ho;exact ho
    refine SW.vk ?_;simp[aSt,List.replicate,hP]
   |true=>
    rw[if_pos hq]at ho;rw[hq]at hsq;have hnm:=b6p (G:=G) l (i+1) hl aE;refine SW.vk ?_;simp[aSt,List.replicate];refine aD.mk dT hsq ?_;simp[hi1];refine aD.mk (hkl:=b0k _ _) b2s hnm ?_;cases hn:tL aU l (i+1)with
    |none=>rw[hn]at ho;subst ho;simp[b6o,qX]
    |some q=>
     obtain⟨s,n⟩:=q;have tD:=pQ hn;rw[hn]at ho;simp only at ho;obtain⟨j,hli⟩:=a4o (G:=G) hl hA n (a6D hf (by omega) tD.2);simp[b6o];refine aD.mk (hkl:=a7s _ _) a2T hli ?_;cases hL:rZ (eK aU l f) l n with
     |none=>rw[hL]at ho;subst ho;simp[a7r,qX]
     |some z=>obtain⟨ks,m⟩:=z;rw[hL]at ho;subst ho;simp[a7r,qX]
  |true=>
   have hq:mF l i [63]=false:=by rw[a8p aE,ht]at hp|-;simp only[f7H,decide_eq_true_eq]at hp;simp[hp.2]
   rw[if_neg (by simp[hq]),if_pos hp]at ho;rw[hp]at hsp;by_cases a3p:mF l (i+1) [45]=true/\kdB l (i+2) 3=true/\mF l (i+3) [41]=true
   .rw[if_pos a3p]at ho;subst ho;obtain⟨n1,n2,n3⟩:=a3p;have h2:=b5s n2;rw[a8q h2]at n2;rw[d4g h2];obtain⟨u,hu⟩:∃u,l[i+2]=u:=⟨_,rfl⟩;rw[hu]at n2|-;have ku:u.kind=3:=of_decide_eq_true n2;rw[n1]at hsm;rw[n3]at hsc;have h2':(i:Int)+2<(l.length:Int):=by omega
    have hnn:(0:Int)<=(i:Int)+2:=by omega
    have htn:((i:Int)+2).toNat=i+2:=by omega
    refine SW.vk ?_;simp[aSt,List.replicate];refine aD.mk dT hsp ?_;simp[hi1];refine aD.mk dT hsm ?_;simp[hi2,h2,h2',hnn,htn,hu,ku,bG,hi3];refine aD.mk dT hsc ?_;simp[hi2,h2,h2',hnn,htn,hu,ku,bG,hi4,qX]
   .rw[if_neg a3p]at ho;have hat:=hA (i+1) 1 (by omega) (by omega) aE (by have:=sA (L:=l.length) (i:=i) (i':=i+1) (k:=10) (k':=1) (by omega) aE (by omega) (by omega);omega)
    refine kC (aSt l i t 66) (SW.vk ?_) (gU rfl ?_)
    .simp[aSt,List.replicate];refine aD.mk dT hsp ?_;simp[hi1];refine aD.mk dT hsm ?_;cases n1:mF l (i+1) [45]with
     |false=>simp
     |true=>
      have hnn:(0:Int)<=(i:Int)+2:=by omega
      have htn:((i:Int)+2).toNat=i+2:=by omega
      by_cases h2:i+2<l.length;rotate_left
      .have h2': ¬(i:Int)+2<(l.length:Int):=by omega
       simp[hi2,h2']
      have h2':(i:Int)+2<(l.length:Int):=by omega
      obtain⟨u,hu⟩:∃u,l[i+2]=u:=⟨_,rfl⟩;by_cases ku:u.kind=3;rotate_left
      .simp[hi2,h2,h2',hnn,htn,hu,ku,bG]
      have n3:mF l (i+3) [41]=false:=by
       cases n3:mF l (i+3) [41]with
       |false=>rfl
       |true=>exact absurd ⟨n1,by rw[a8q h2,hu];simp[ku],n3⟩ a3p
      rw[n3]at hsc;simp[hi2,h2,h2',hnn,htn,hu,ku,bG,hi3];refine aD.mk dT hsc ?_;simp
    refine SW.vk ?_;simp[aSt,List.replicate];refine aD.mk dT hsp ?_;simp[hi1];refine aD.mk (hkl:=kG _ _) sU hat ?_;cases hr:eK aU l f (i+1) 1 with
    |none=>rw[hr]at ho;subst ho;simp[qX]
    |some q=>
     obtain⟨p,n⟩:=q;have tD:=jN aU l f _ _ _ _ hr;have qO:=pS (G:=G) l n [41] (by omega);rw[hr]at ho;simp only at ho;simp[qX];refine aD.mk dT qO ?_;cases hc:mF l n [41]with
     |false=>rw[if_neg (by simp[hc])]at ho;subst ho;simp[qX]
     |true=>rw[if_pos hc]at ho;subst ho;have hn1:=aY (show n<9223372036854775807 by omega);simp[hn1,qX]
 .clear ht hi2 hi3 hi4
  unfold a8t at ho;have hnm:=b6p (G:=G) l i hl hi;refine SW.vk ?_;simp[aSt,List.replicate];refine aD.mk (hkl:=b0k _ _) b2s hnm ?_;cases hn:tL aU l i with
  |none=>rw[hn]at ho;subst ho;simp[b6o,qX]
  |some q=>
   obtain⟨s,n⟩:=q;have tD:=pQ hn;rw[hn]at ho;simp only at ho;obtain⟨j,hli⟩:=a4o (G:=G) hl hA n (a6D hf tD.1 tD.2);simp[b6o];refine aD.mk (hkl:=a7s _ _) a2T hli ?_;cases hL:rZ (eK aU l f) l n with
   |none=>rw[hL]at ho;subst ho;simp[a7r,qX]
   |some z=>obtain⟨ks,m⟩:=z;rw[hL]at ho;subst ho;simp[a7r,qX]
end
end
section
open Go Go.VM
variable {G:GT}
theorem tG:VM.Enters prog 175:=.mk func175 rfl
theorem a5Y:VM.Enters prog 176:=.mk func176 rfl
theorem a3T:VM.Enters prog 178:=.mk func178 rfl
theorem a7t:VM.Enters prog 177:=.mk func177 rfl
theorem vF(c:UInt8):CS prog G 175 [.int .u8 c.toNat] (.d (.bool (smU c))) none:=by refine CS.aR func175 rfl ntmps175 rfl ?_;rw[<-d3D];by_cases h:(97:Int)<=c.toNat<;>simp[h,smI]
theorem a7u(c:UInt8):CS prog G 176 [.int .u8 c.toNat] (.d (.bool (caU c))) none:=by refine CS.aR func176 rfl ntmps176 rfl ?_;rw[<-d3E];by_cases h:(65:Int)<=c.toNat<;>simp[h,caI]
theorem a5Z(c:UInt8):CS prog G 178 [.int .u8 c.toNat] (.d (.bool (dgU c))) none:=by refine CS.aR func178 rfl ntmps178 rfl ?_;rw[<-c8k];by_cases h:(48:Int)<=c.toNat<;>simp[h,dgI]
theorem b0m(c:UInt8):CS prog G 177 [.int .u8 c.toNat] (.d (.bool (inU c))) none:=by
 refine CS.aR func177 rfl ntmps177 rfl ?_;simp;refine aD.mk tG (vF c) ?_;by_cases h1:smU c=true
 .simp[h1,inU]
 .simp[h1];refine aD.mk a5Y (a7u c) ?_;by_cases h2:caU c=true
  .simp[h2,inU]
  .simp[h2];refine aD.mk a3T (a5Z c) ?_;by_cases h3:dgU c=true
   .simp[h3,inU]
   .by_cases h4:c.toNat=95
    .have h5:(c.toNat:Int)=95:=by omega
     simp[h1,h2,h3,inU,h4]
    .have h5: ¬(c.toNat:Int)=95:=by omega
     simp[h1,h2,h3,inU,h4]
theorem c4R{s:List UInt8}:∀ {i:Nat},i<=s.length->gD (s.take i)<=gD s:=λ{i} hi=>by
 have h:∀(l:List UInt8) (a b:Nat),a<=b->a<=b6T b l:=by
  intro l
  induction l with
  |nil=>intro a b h;exact h
  |cons c r ih=>intro a b h;exact ih a (10*b+(c.toNat-48)) (by omega)
 have e:gD s=b6T (gD (s.take i)) (s.drop i):=by
  conv=>lhs;rw[<-List.take_append_drop i s]
  unfold gD b6T;rw[List.foldl_append]
 rw[e];exact h _ _ _ (f7X _)
theorem b0n:VM.Enters prog 179:=.mk func179 rfl
theorem b2u(s:List UInt8)(hs:∀c∈s,vT c=true)(hl:s.length<=900000000):CS prog G 179 [.str s] (.bY [.int .i64 (gB s).1,.bool (gB s).2]) none:=by
 refine CS.aR func179 rfl ntmps179 rfl ?_;simp;refine SW.eE (ι:={i:Nat//i<=s.length/\gD (s.take i)<=1000000000000}) (λi=>[(4,.d (.int .i64 (gD (s.take i.1):Nat))),(5,.d (.int .i64 i.1))]) (λ_=>[]) (λ_=>[]) (λi=>s.length-i.1) ⟨0,by simp[a2E]⟩ (by simp[a2E]) ?_;rintro⟨i,hi,hv⟩
 try simp only at hi hv
 by_cases aE:i<s.length
 .have hw:=aY (show i<9223372036854775807 by omega);have hd:=hs _ (List.getElem_mem aE);have hdd:=tT.1 hd;have hu:=c8b hd;have mD:=wZ aE;have hw1:IntKind.i64.wrap (10*((gD (s.take i):Nat):Int))=10*((gD (s.take i):Nat):Int):=wrap64 (by omega);have hw2:IntKind.i64.wrap (10*((gD (s.take i):Nat):Int)+((s[i].toNat-48:Nat):Int))=((gD (s.take (i+1)):Nat):Int):=by rw[mD,wrap64 (by omega)];omega
  by_cases f0G:1000000000000<gD (s.take (i+1))
  .have h1: ¬gD s<=1000000000000:=by have:=c4R (s:=s) (i:=i+1) aE;omega
   have h2:(1000000000000:Int)<(gD (s.take (i+1)):Nat):=by omega
   simp[aE,hw1,hu,hw2,h2,gB,h1]
  .have h2: ¬(1000000000000:Int)<(gD (s.take (i+1)):Nat):=by omega
   simp[aE,hw1,hu,hw2,h2];exact aX.mk ⟨i+1,aE,by omega⟩ (by simp[hw]) (by simp;omega)
 .have:i=s.length:=by omega
  subst this;rw[List.take_length]at hv;simp[gB,hv]
theorem c1m:VM.Enters prog 192:=.mk func192 rfl
theorem c4S:CS prog G 192 [] (.d (.sl (cE.map λt=>[D.str t]))) none:=by refine CS.aR func192 rfl ntmps192 rfl ?_;have h31:List.range 31=[0,1,2,3,4,5,6,7,8,9,10,11,12,13,14,15,16,17,18,19,20,21,22,23,24,25,26,27,28,29,30]:=rfl;simp[cE,h31]
theorem c4T:VM.Enters prog 180:=.mk func180 rfl
theorem c7n(s:List UInt8)(hl:s.length<=900000000):CS prog G 180 [.str s] (.d (.str (sL s))) none:=by
 refine CS.aR func180 rfl ntmps180 rfl ?_;simp;refine aD.mk c1m c4S ?_;have hlen:(cE.map λt=>[D.str t]).length=cE.length:=by simp
 have hsl:cE.length=31:=rfl;simp;refine SW.eE (ι:={i:Nat//i<=cE.length/\∀t∈cE.take i,t.isPrefixOf s=false}) (λi=>[(4,.d (.int .i64 i.1))]) (λ_=>[]) (λ_=>[]) (λi=>cE.length-i.1) ⟨0,by simp⟩ (by simp) ?_;rintro⟨i,hi,hn⟩
 try simp only at hi hn
 by_cases aE:i<cE.length
 .have hw2:=aY (show i<9223372036854775807 by omega);have qR:∀(hp:cE[i].isPrefixOf s=false),∀t∈cE.take (i+1),t.isPrefixOf s=false:=λhp t ht=>by
   rw[f7W aE]at ht;rcases List.mem_append.1 ht with ht|ht
   .exact hn t ht
   .simp at ht;rw[ht];exact hp
  simp[aE]
  try refine⟨kL.mk (by kernel_rfl),?_⟩
  have a7R:=Lib.hasPrefix_of_take s cE[i];unfold Lib.hasPrefix at a7R;by_cases hle:cE[i].length<=s.length
  .by_cases he:s.take cE[i].length=cE[i]
   .have hp:cE[i].isPrefixOf s=true:=by rw[<-a7R];simp[hle,he]
    have hsg:=c8m aE hn hp;simp[hle,he,hsg,aE]
   .have hp:cE[i].isPrefixOf s=false:=by rw[<-a7R];simp[he]
    simp[hle,he,aE];exact aX.mk ⟨i+1,aE,qR hp⟩ (by simp[hw2]) (by simp;omega)
  .have hp:cE[i].isPrefixOf s=false:=by rw[<-a7R];simp[hle]
   simp[hle,aE];exact aX.mk ⟨i+1,aE,qR hp⟩ (by simp[hw2]) (by simp;omega)
 .have:i=cE.length:=by omega
  subst this;rw[List.take_length]at hn;have hsg:=b8y hn;simp[hsg]
end
section
open Go Go.VM
variable {G:GT}
theorem c1n(p:UInt8->Bool){s:List UInt8}{i:Nat}(hi:i<=s.length)(h:∀b∈s.take i,p b=true):i<=(s.takeWhile p).length:=by have e:s=s.take i++s.drop i:=(List.take_append_drop i s).symm;rw[e,List.takeWhile_append_of_pos h,List.length_append,List.length_take];omega
def a4p(c:UInt8):Int:=if smU c then 1 else if caU c then 2 else if dgU c then 3 else 4
def c1o(c:UInt8)(r:List UInt8):List D:=[.int .i64 (a4p c),.str (firstT gB (c::r)).2.1,.int .i64 (firstT gB (c::r)).2.2.1,.int .i64 0]
theorem c1p:VM.Enters prog 139:=.mk func139 rfl
theorem c4U(c:UInt8)(r:List UInt8)(hl:(c::r).length<=900000000):CS prog G 139 [.str (c::r)] (.bY [.agg (c1o c r),.bool (firstT gB (c::r)).2.2.2]) none:=by
 have hfr:c1o c r=[.int .i64 (a4p c),.str (firstT gB (c::r)).2.1,.int .i64 (firstT gB (c::r)).2.2.1,.int .i64 0]:=rfl;rw[hfr];obtain⟨s,hs⟩:∃s,c::r=s:=⟨_,rfl⟩;have h0:1<=s.length:=by rw[<-hs];simp
 have h0':0<s.length:=h0;have t01:s.take 1=[c]:=by rw[<-hs];rfl
 have wL:s[0]=c:=by subst hs;rfl
 have hf:firstT gB s=if smU c then(1,s.takeWhile inU,0,true) else if caU c then(2,s.takeWhile inU,0,true)
  else if dgU c then(3,s.takeWhile dgU,(gB (s.takeWhile dgU)).1,(gB (s.takeWhile dgU)).2)
  else if sL s=[] then(0,[],0,false) else(4,sL s,0,true):=by subst hs;rfl
 rw[hs]at hl|-
 clear hs hfr
 refine CS.aR func139 rfl ntmps139 rfl ?_;simp[h0',wL];refine aD.mk tG (vF c) ?_;by_cases h1:smU c=true
 .have hp1:=e1F h1;simp[h1];refine SW.eE (ι:={i:Nat//i<=s.length/\1<=i/\∀b∈s.take i,inU b=true}) (λi=>[(4,.d (.int .i64 i.1))]) (λ_=>[(2,.cells [.d (.int .i64 0),.d (.str []),.d (.int .i64 0),.d (.int .i64 0)])]) (λ_=>[]) (λi=>s.length-i.1) ⟨1,h0,f7X _,λb hb=>by rw[t01]at hb;simp at hb;rw[hb];exact hp1⟩ (by simp) ?_;rintro⟨i,hi,hi1,hn⟩
  try simp only at hi hi1 hn
  have hle:=c1n inU hi hn;by_cases aE:i<s.length
  .have hw:=aY (show i<9223372036854775807 by omega);simp[aE];refine aD.mk a7t (b0m s[i]) ?_;by_cases vI:inU s[i]=true
   .simp[vI];refine aX.mk ⟨i+1,aE,by omega,λb hb=>?_⟩ (by simp[hw]) (by simp;omega);rw[f7W aE]at hb;rcases List.mem_append.1 hb with hb|hb
    .exact hn b hb
    .simp at hb;rw[hb];exact vI
   .have mD:=sO aE hn (by simpa using vI);have htk:s.take i=s.takeWhile inU:=by rw[<-a9D inU s,mD]
    simp[vI,h0',wL];refine aD.mk tG (vF c) ?_;simp[h1,hi,htk,hf,a4p]
  .have:i=s.length:=by omega
   subst this;rw[List.take_length]at hn;have htk:s.takeWhile inU=s:=rC hn;simp[h0',wL];refine aD.mk tG (vF c) ?_;simp[h1,htk,hf,a4p]
 simp[h1,h0',wL];refine aD.mk a5Y (a7u c) ?_;by_cases h2:caU c=true
 .have hp1:=e1G h2;simp[h2];refine SW.eE (ι:={i:Nat//i<=s.length/\1<=i/\∀b∈s.take i,inU b=true}) (λi=>[(4,.d (.int .i64 i.1))]) (λ_=>[(2,.cells [.d (.int .i64 0),.d (.str []),.d (.int .i64 0),.d (.int .i64 0)])]) (λ_=>[]) (λi=>s.length-i.1) ⟨1,h0,f7X _,λb hb=>by rw[t01]at hb;simp at hb;rw[hb];exact hp1⟩ (by simp) ?_;rintro⟨i,hi,hi1,hn⟩
  try simp only at hi hi1 hn
  have hle:=c1n inU hi hn;by_cases aE:i<s.length
  .have hw:=aY (show i<9223372036854775807 by omega);simp[aE];refine aD.mk a7t (b0m s[i]) ?_;by_cases vI:inU s[i]=true
   .simp[vI];refine aX.mk ⟨i+1,aE,by omega,λb hb=>?_⟩ (by simp[hw]) (by simp;omega);rw[f7W aE]at hb;rcases List.mem_append.1 hb with hb|hb
    .exact hn b hb
    .simp at hb;rw[hb];exact vI
   .have mD:=sO aE hn (by simpa using vI);have htk:s.take i=s.takeWhile inU:=by rw[<-a9D inU s,mD]
    simp[vI,h0',wL];refine aD.mk tG (vF c) ?_;simp[h1,h2,hi,htk,hf,a4p]
  .have:i=s.length:=by omega
   subst this;rw[List.take_length]at hn;have htk:s.takeWhile inU=s:=rC hn;simp[h0',wL];refine aD.mk tG (vF c) ?_;simp[h1,h2,htk,hf,a4p]
 simp[h2,h0',wL];refine aD.mk a3T (a5Z c) ?_;by_cases h3:dgU c=true
 .have hp1:=h3;simp[h3];refine SW.eE (ι:={i:Nat//i<=s.length/\1<=i/\∀b∈s.take i,dgU b=true}) (λi=>[(4,.d (.int .i64 i.1))]) (λ_=>[(2,.cells [.d (.int .i64 0),.d (.str []),.d (.int .i64 0),.d (.int .i64 0)])]) (λ_=>[]) (λi=>s.length-i.1) ⟨1,h0,f7X _,λb hb=>by rw[t01]at hb;simp at hb;rw[hb];exact hp1⟩ (by simp) ?_;rintro⟨i,hi,hi1,hn⟩
  try simp only at hi hi1 hn
  have hle:=c1n dgU hi hn;have f2Q:∀b∈s.takeWhile dgU,vT b=true:=λb hb=>by rw[<-c0n];exact c6A hb
  have hdl:=d3F dgU s;by_cases aE:i<s.length
  .have hw:=aY (show i<9223372036854775807 by omega);simp[aE];refine aD.mk a3T (a5Z s[i]) ?_;by_cases vI:dgU s[i]=true
   .simp[vI];refine aX.mk ⟨i+1,aE,by omega,λb hb=>?_⟩ (by simp[hw]) (by simp;omega);rw[f7W aE]at hb;rcases List.mem_append.1 hb with hb|hb
    .exact hn b hb
    .simp at hb;rw[hb];exact vI
   .have mD:=sO aE hn (by simpa using vI);have htk:s.take i=s.takeWhile dgU:=by rw[<-a9D dgU s,mD]
    simp[vI,hi,htk];refine aD.mk b0n (b2u (s.takeWhile dgU) f2Q (by omega)) ?_;simp[h1,h2,h3,hi,htk,hf,a4p]
  .have:i=s.length:=by omega
   subst this;rw[List.take_length]at hn;have htk:s.takeWhile dgU=s:=rC hn;simp;refine aD.mk b0n (b2u s (λb hb=>by rw[<-c0n];exact hn b hb) hl) ?_;simp[h1,h2,h3,htk,hf,a4p]
 simp[h3];refine aD.mk c4T (c7n s hl) ?_;by_cases h4:sL s=[]
 .simp[h1,h2,h3,h4,hf,a4p]
 .simp[h1,h2,h3,h4,hf,a4p]
end
section
open Go Go.VM
variable {G:GT}
theorem a2p:VM.Enters prog 84:=.mk func84 rfl
theorem c1q(s:List UInt8)(hl:s.length<=900000000):CS prog G 84 [.str s] (.bY (if 40000<s.length then [.aF,.int .i64 0,.int .i64 7] else
  [c3L (kE gB s 0 1 false),.int .i64 (c3M (kE gB s 0 1 false)),.int .i64 (c3N (kE gB s 0 1 false))])) none:=by
 obtain⟨res,hZ⟩:∃x,kE gB s 0 1 false=x:=⟨_,rfl⟩;rw[hZ];refine CS.aR func84 rfl ntmps84 rfl ?_;by_cases b2a:40000<s.length
 .have h2:(40000:Int)<s.length:=by omega
  simp[b2a,h2]
 have h2: ¬(40000:Int)<s.length:=by omega
 simp[b2a,h2];refine SW.eE (ι:={x:Nat×List Tok×Int×Bool//x.1<=s.length/\1<=x.2.2.1/\x.2.2.1<=x.1+1/\x.2.1.length<=x.1/\c3K x.2.1 (kE gB (s.drop x.1) 0 x.2.2.1 x.2.2.2)=res})
  (λx=>[(5,.d (.sl (b2H x.1.2.1))),(6,.d (.int .i64 x.1.2.2.1)),(7,.d (.bool x.1.2.2.2)),(8,.d (.int .i64 x.1.1))]) (λ_=>[]) (λ_=>[(96,[.t 5])]) (λx=>s.length-x.1.1) ⟨(0,[],1,false),by refine⟨by simp,by simp,by simp,by simp,?_⟩;simp only[List.drop_zero];rw[hZ];cases res<;>rfl⟩ (by simp) ?_
 rintro⟨⟨i,out,ln,cm⟩,hi,hln,hb,ho,hR⟩
 try simp only at hi hln hb ho hR
 by_cases aE:i<s.length
 .have hQ:c3K out (kE gB (s.drop i) 0 ln cm)=res:=hR;have a2K:s.drop i=s[i]::s.drop (i+1):=f7U aE;have hw:=aY (show i<9223372036854775807 by omega);have hwl:IntKind.i64.wrap (ln+1)=ln+1:=wrap64 (by omega);have c10:=a5y s[i] 10 (by omega);have c32:=a5y s[i] 32 (by omega);have c9:=a5y s[i] 9 (by omega);have c35:=a5y s[i] 35 (by omega);simp at c10 c32 c9 c35;have hle:=Nat.le_of_lt aE;rw[a2K,kE]at hQ;by_cases h10:s[i]=10
  .have e:=c10.2 h10;rw[if_pos h10]at hQ;simp[aE,e];exact aX.mk ⟨(i+1,out,ln+1,false),aE,by simp only;omega,by simp only;omega,by simp only;omega,hQ⟩ (by simp[hw,hwl]) (by simp;omega)
  have e: ¬s[i].toNat=10:=λh=>h10 (c10.1 h);rw[if_neg h10]at hQ;simp[aE,e];cases cm with
  |true=>
   rw[if_pos (.inl rfl)]at hQ
   try simp[aE]
   exact aX.mk ⟨(i+1,out,ln,true),aE,by simp only;omega,by simp only;omega,by simp only;omega,hQ⟩ (by simp[hw]) (by simp;omega)
  |false=>
   try simp[aE]
   by_cases h32:s[i]=32
   .have e2:=c32.2 h32;rw[if_pos (.inr (.inl h32))]at hQ;simp[e2];exact aX.mk ⟨(i+1,out,ln,false),aE,by simp only;omega,by simp only;omega,by simp only;omega,hQ⟩ (by simp[hw]) (by simp;omega)
   have e2: ¬s[i].toNat=32:=λh=>h32 (c32.1 h);simp[e2,aE];by_cases h9:s[i]=9
   .have e3:=c9.2 h9;rw[if_pos (.inr (.inr h9))]at hQ;simp[e3];exact aX.mk ⟨(i+1,out,ln,false),aE,by simp only;omega,by simp only;omega,by simp only;omega,hQ⟩ (by simp[hw]) (by simp;omega)
   have e3: ¬s[i].toNat=9:=λh=>h9 (c9.1 h);simp[e3,aE];rw[if_neg (by simp[h32,h9])]at hQ;by_cases h35:s[i]=35
   .have e4:=c35.2 h35;rw[if_pos h35]at hQ;simp[e4];exact aX.mk ⟨(i+1,out,ln,true),aE,by simp only;omega,by simp only;omega,by simp only;omega,hQ⟩ (by simp[hw]) (by simp;omega)
   have e4: ¬s[i].toNat=35:=λh=>h35 (c35.1 h);have hQ2:c3K out (kE gB (s[i]::s.drop (i+1)) 0 ln false)=res:=by rw[<-a2K];exact hR
   rw[b4l ln h10 h32 h9 h35]at hQ2;have hdl:(s.drop (i+1)).length=s.length-(i+1):=by simp
   obtain⟨r,hr⟩:∃r,s.drop (i+1)=r:=⟨_,rfl⟩;obtain⟨c,hc⟩:∃c,s[i]=c:=⟨_,rfl⟩;rw[hr,hc]at hQ2 a2K;rw[hr]at hdl;simp[e4,hle,a2K];refine aD.mk c1p (c4U c r (by simp;omega)) ?_;obtain⟨ff,hff⟩:∃ff,firstT gB (c::r)=ff:=⟨_,rfl⟩;have mP:= @a9h gB (c::r);rw[hff]at hQ2 mP;obtain⟨k,tx,m,ok⟩:=ff;simp only at hQ2 mP;cases ok with
   |false=>
    have er:res=.error ln:=by rw[<-hQ2];rfl
    simp[hff,c1o,er,c3L,c3M,c3N]
   |true=>
    obtain⟨p1,p2,_⟩:=mP rfl;have f2R:=p2.length_le;have a0E:0<tx.length:=List.length_pos_iff.2 p1;simp only[List.length_cons]at f2R;have hk:a4p c=k:=by
     have:=hff;unfold firstT at this;unfold a4p;by_cases q1:smU c=true
     .simp[q1]at this|-;exact this.1
     by_cases q2:caU c=true
     .simp[q1,q2]at this|-;exact this.1
     by_cases q3:dgU c=true
     .simp[q1,q2,q3]at this|-;exact this.1
     by_cases q4:sL (c::r)=[]
     .simp[q1,q2,q3,q4]at this
     .simp[q1,q2,q3,q4]at this|-;exact this.1
    have jG:(out.length+1)*41<=140737488355328:=by omega
    have hwt:IntKind.i64.wrap ((i:Int)+tx.length)=((i+tx.length:Nat):Int):=by rw[wrap64 (by omega)];simp
    simp[hff,c1o,jG,hk];have hR2:c3K (out++[⟨k,tx,m,ln⟩]) (kE gB (s.drop (i+tx.length)) 0 ln false)=res:=by
     rw[<-List.drop_drop,a2K, <- hQ2,if_pos rfl];generalize kE gB ((c::r).drop tx.length) 0 ln false=y;cases y with
     |ok l=>simp[c3K]
     |error e=>rfl
    refine aX.mk ⟨(i+tx.length,out++[⟨k,tx,m,ln⟩],ln,false),?_⟩ (by simp[a6r,hwt]) (by simp;omega);refine⟨by simp only;omega,by simp only;omega,by simp only;omega,by simp only[List.length_append,List.length_cons,List.length_nil];omega,hR2⟩
 .have:i=s.length:=by omega
  subst this;rw[List.drop_length,kE]at hR;have e:res=.ok (out++[⟨0,[],0,ln⟩]):=by rw[<-hR];rfl
  have jG:(out.length+1)*41<=140737488355328:=by omega
  simp[e,c3L,c3M,c3N,a6r,jG]
end
section
open Go Go.VM
variable {G:GT}
def a2q(cur s:List UInt8):List (List UInt8):=match gM s with
 |p::ps=>(cur++p)::ps
 |[]=>[cur]
theorem b1j:∀s,gM s≠[]
 |[]=>by simp[gM]
 |c::r=>by
  unfold gM;split
  .simp
  .split<;>simp
theorem b6q(s:List UInt8):a2q [] s=gM s:=by
 unfold a2q;cases h:gM s with
 |nil=>exact absurd h (b1j s)
 |cons p ps=>simp
theorem c7o(cur:List UInt8):a2q cur []=[cur]:=by simp[a2q,gM]
theorem c7p(cur r:List UInt8)(c:UInt8)(h:c.toNat=46):a2q cur (c::r)=cur::gM r:=by simp[a2q,gM,h]
theorem c4V(cur r:List UInt8)(c:UInt8)(h:c.toNat≠46):a2q cur (c::r)=a2q (cur++[c]) r:=by
 unfold a2q;simp only[gM,h,if_false];cases hp:gM r with
 |nil=>exact absurd hp (b1j r)
 |cons p ps=>simp
theorem b6r{s:List UInt8}{b i:Nat}(hb:b<=i)(h:i<s.length):(s.take (i+1)).drop b=(s.take i).drop b++[s[i]]:=by rw[f7W h,List.drop_append_of_le_length (by simp;omega)]
theorem b6s:∀s,(gM s).length<=s.length+1
 |[]=>by simp[gM]
 |c::r=>by
  have:=b6s r;unfold gM;split
  .simp;omega
  .split
   .rename_i p ps h;rw[h]at this;simp at this|-;omega
   .simp
theorem c1r:VM.Enters prog 277:=.mk func277 rfl
theorem c4W(s:List UInt8)(hs:s.length<=1000000):CS prog G 277 [.str s] (.d (.sl (strs (gM s)))) none:=by
 refine CS.aR func277 rfl ntmps277 rfl ?_;simp;refine SW.eE (ι:={x:List (List UInt8)×Nat×Nat//x.2.1<=x.2.2/\x.2.2<=s.length/\x.1.length<=x.2.2/\gM s=x.1++a2q ((s.take x.2.2).drop x.2.1) (s.drop x.2.2)}) (λx=>[(3,.d (.sl (strs x.1.1))),(4,.d (.int .i64 x.1.2.1)),(8,.d (.int .i64 x.1.2.2))]) (λ_=>[]) (λ_=>[(9,[.t 3])]) (λx=>s.length-x.1.2.2) ⟨([],0,0),by simp[b6q]⟩ (by simp[strs]) ?_;rintro⟨⟨out,b,i⟩,hbi,hi,ho,he⟩;simp only at hbi hi ho he;by_cases aE:i<s.length
 .have hw:=aY (show i<9223372036854775807 by omega);rw[f7U aE]at he;by_cases h4:s[i].toNat=46
  .rw[c7p _ _ _ h4]at he;have jG:(out.length+1)*17<=140737488355328:=by omega
   simp[aE,h4,hi,hbi,hw,jG];exact aX.mk ⟨(out++[(s.take i).drop b],i+1,i+1),f7X _,aE,by simp;omega,by rw[he];simp[b6q]⟩ (by simp) (by simp;omega)
  .rw[c4V _ _ _ h4, <- b6r hbi aE]at he;simp[aE,h4];exact aX.mk ⟨(out,b,i+1),by simp;omega,aE,by simp;omega,he⟩ (by simp[hw]) (by simp;omega)
 .have:i=s.length:=by omega
  subst this;rw[List.drop_length,c7o,List.take_length]at he;have jG:(out.length+1)*17<=140737488355328:=by omega
  simp[aE,hbi,jG];rw[he];simp
theorem d1c{s:List UInt8}(h:0<s.length):a5e s=(oK s[0].toNat&&pC wdB s):=by
 cases s with
 |nil=>simp at h
 |cons c s=>simp[a5e,Bool.and_comm]
theorem c4X:VM.Enters prog 280:=.mk func280 rfl
theorem c7q(s:List UInt8):CS prog G 280 [.str s] (.d (.bool (tJ s))) none:=by
 refine CS.aR func280 rfl ntmps280 rfl ?_;by_cases hl1:s.length<1
 .have:sizedB s=false:=by simp[sizedB];omega
  simp[hl1,tJ,this]
 by_cases hl2:24<s.length
 .have:sizedB s=false:=by simp[sizedB];omega
  simp[hl1,hl2,tJ,this]
 have hz:sizedB s=true:=by simp[sizedB];omega
 have h0:0<s.length:=by omega
 simp[hl1,hl2,h0];refine aD.mk qF (sK _) ?_;simp;have hb:tJ s=(pC anB s||(oK s[0].toNat&&pC wdB s)):=by rw[tJ,hz,d1c h0];rfl
 refine SW.eE (ι:={x:Nat×Bool×Bool//x.1<=s.length/\pC anB s=(x.2.1&&pC anB (s.drop x.1))/\(oK s[0].toNat&&pC wdB s)=(x.2.2&&pC wdB (s.drop x.1))}) (λx=>[(3,.d (.bool x.1.2.1)),(4,.d (.bool x.1.2.2)),(19,.d (.int .i64 x.1.1))]) (λ_=>[]) (λ_=>[]) (λx=>s.length-x.1.1) ⟨(0,true,oK s[0].toNat),by simp⟩ (by simp) ?_;rintro⟨⟨i,p,q⟩,hi,hp,hq⟩;simp only at hi hp hq;by_cases aE:i<s.length
 .have hw:=aY (show i<9223372036854775807 by omega);have mD:∀f:Int->Bool,pC f (s.drop i)=(f s[i].toNat&&pC f (s.drop (i+1))):=λf=>by rw[f7U aE];rfl
  rw[mD]at hp hq;cases p
  .cases q
   .simp[aE];exact aX.mk ⟨(i+1,false,false),aE,by simpa using hp,by simpa using hq⟩ (by simp[hw]) (by simp;omega)
   .simp[aE];refine aD.mk qF (sK _) ?_;cases h1:oK s[i].toNat
    .simp[aE];refine aD.mk vP (yM _) ?_;cases h3:b0G s[i].toNat
     .simp[aE];exact aX.mk ⟨(i+1,false,wdB s[i].toNat),aE,by simpa using hp,by simpa using hq⟩ (by simp[hw,wdB,h1,h3]) (by simp;omega)
     .simp[aE];exact aX.mk ⟨(i+1,false,wdB s[i].toNat),aE,by simpa using hp,by simpa using hq⟩ (by simp[hw,wdB,h1,h3]) (by simp;omega)
    .simp[aE];exact aX.mk ⟨(i+1,false,wdB s[i].toNat),aE,by simpa using hp,by simpa using hq⟩ (by simp[hw,wdB,h1]) (by simp;omega)
  .cases h1:oK s[i].toNat<;>cases h2:b3X s[i].toNat<;>cases h3:b0G s[i].toNat<;>cases q<;>simp[aE]<;>(refine aD.mk qF (sK _) ?_)<;>simp[aE,h1]<;>
    (try (refine aD.mk a0J (a2d _) ?_;simp[aE,h2]))<;>(try (refine aD.mk vP (yM _) ?_;simp[aE,h3]))<;>(try (refine aD.mk qF (sK _) ?_;simp[aE,h1]))<;>(try (refine aD.mk vP (yM _) ?_;simp[aE,h3]))<;>
    first
    |exact aX.mk ⟨(i+1,anB s[i].toNat,false),aE,by simpa using hp,by simpa using hq⟩ (by simp[hw,anB,h1,h2,h3]) (by simp;omega)
    |exact aX.mk ⟨(i+1,anB s[i].toNat,wdB s[i].toNat),aE,by simpa using hp,by simpa using hq⟩ (by simp[hw,anB,wdB,h1,h2,h3]) (by simp;omega)
 .simp[aE];have he:s.drop i=[]:=List.drop_of_length_le (by omega);rw[he]at hp hq;rw[hb,hp,hq];cases p<;>simp[d2H]
end
section
open Go Go.VM
variable {G:GT}
theorem a6a:VM.Enters prog 269:=.mk func269 rfl
theorem a8F(s:List UInt8):CS prog G 269 [.str s] (.d (.int .i64 (eD (pW s)))) none:=by
 refine CS.aR func269 rfl ntmps269 rfl ?_;by_cases hl:120<s.length
 .have: ¬s.length<=120:=by omega
  simp[hl,pW,this,eD]
 .have hl':s.length<=120:=by omega
  simp[hl];refine aD.mk c1r (c4W _ (by omega)) ?_;have e2m:(gM s).length<=s.length+1:=b6s s;cases hps:gM s with
  |nil=>exact absurd hps (b1j s)
  |cons p ps=>
   rw[hps]at e2m;have b8d:pW s=((tI p||jX p||(decide (p=[118])&& !ps.isEmpty))&&ps.all tJ):=by simp[pW,hl',hps]
   have b3Y:(tI p||jX p||(decide (p=[118])&& !ps.isEmpty))=false->pW s=false:=λh=>by rw[b8d,h];rfl
   have hgo:(tI p||jX p||(decide (p=[118])&& !ps.isEmpty))=true->pW s=ps.all tJ:=λh=>by rw[b8d,h];rfl
   have hs2:strs (p::ps)=[.str p]::strs ps:=rfl;have f6D:ps.length<=121:=by simp at e2m;omega
   simp[hs2];refine aD.mk b9N (c2O _) ?_;cases h1:tI p;rotate_left;simp[eD]
   replace hgo:=hgo (by simp[h1])
   rotate_left;simp[eD];refine aD.mk b9O (c2P _) ?_;cases h2:jX p;rotate_left;simp[eD]
   replace hgo:=hgo (by simp[h1,h2])
   rotate_left 2;by_cases h3:p=[118];rotate_left
   .simp[h3,eD];rw[b3Y (by rw[h1,h2];simp[h3])]
   rotate_left 2;rcases Nat.eq_zero_or_pos ps.length with h4|h4
   .have h4':ps=[]:=List.eq_nil_of_length_eq_zero h4;simp[h3,h4',eD];rw[b3Y (by rw[h1,h2];simp[h4'])]
   have h4':ps.isEmpty=false:=by cases ps<;>simp at*
   have h5: ¬ps=[]:=by rintro rfl;simp at h4
   have h6: ¬((ps.length:Int)+1=1):=by omega
   simp[h3,h5,h6,eD]
   replace hgo:=hgo (by rw[h1,h2];simp[h3,h4'])
   all_goals
    refine SW.eE (ι:={i:Nat//i<=ps.length/\pW s=(ps.drop i).all tJ}) (λi=>[(37,.d (.int .i64 i.1))]) (λ_=>[]) (λ_=>[]) (λi=>ps.length-i.1) ⟨0,by simp,by simpa using hgo⟩ (by simp[*]) ?_;rintro⟨i,hi,he⟩;by_cases aE:i<ps.length
    .have hw:=aY (show i<9223372036854775807 by omega);simp[aE];refine aD.mk c4X (c7q _) ?_;cases g1:tJ ps[i]
     .simp;rw[d2L he aE g1]
     .simp;exact aX.mk ⟨i+1,aE,d2K he aE g1⟩ (by simp[hw]) (by simp;omega)
    .simp[aE];rw[d8L he aE]
end
section
open Go Go.VM
variable {G:GT}
structure f2S where
 name:List UInt8
 args:List (List UInt8)
 res:List UInt8
end
section
open Go Go.VM
variable {G:GT}
structure e9l where
 name:List UInt8
 params:List (List UInt8×List UInt8)
structure f2T where
 vars:List (List UInt8×List UInt8)
 syms:List f2S
 d5c:List e9l
end
section
open Go Go.VM
variable {G:GT}
structure f6E (v:f2T):Prop where
 vars:v.vars.length<=2000000
 syms:v.syms.length<=2000000
 args:∀y∈v.syms,y.args.length<=2000000
 d5c:v.d5c.length<=2000000
 params:∀y∈v.d5c,y.params.length<=2000000
end
section
open Go Go.VM
variable {G:GT}
theorem a3U{e:Pr->Int}:∀(a b:List Pr),oE e (a++b)=if oE e a=0 then oE e b else oE e a
 |[],b=>by simp[oE]
 |p::a,b=>by
  rw[List.cons_append,oE,oE,a3U a b];by_cases h:e p=0
  .simp only[h,if_true]
  .simp only[h,if_false]
end
end Go.Proofs.YtjpodcmhcenjjaaGreatDoor
