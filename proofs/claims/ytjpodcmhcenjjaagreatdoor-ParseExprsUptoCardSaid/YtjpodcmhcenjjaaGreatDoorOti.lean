/- Lemmas that the law of this claim needs (PtC PtD PtE PtF VmRF PtG PtH PrM PtI Rk Ro Rp Lh Li Lj Se Sf Sg Sj Pn Po Pr Rw Rx VmRN PwO PwP). No condition. -/
import Derived.Test.YtjpodcmhcenjjaaGreatDoorOta
import Derived.Test.YtjpodcmhcenjjaaGreatDoorOtc
import Derived.Test.YtjpodcmhcenjjaaGreatDoorOtd
import Derived.Test.YtjpodcmhcenjjaaGreatDoorOte
import Derived.Test.YtjpodcmhcenjjaaGreatDoorOtf
import Derived.Test.YtjpodcmhcenjjaaGreatDoorOtg
import Derived.Test.YtjpodcmhcenjjaaGreatDoorOth
import Derived.Recover
import Derived.Tactics2
import Derived.Laws.Pointers
set_option linter.unusedVariables false
set_option linter.unusedSimpArgs false
set_option linter.unusedSectionVars false
set_option maxRecDepth 100000
set_option maxHeartbeats 64000000
open Go.Proofs.Tryz
namespace Go.Proofs.YtjpodcmhcenjjaaGreatDoor
section
open Go Go.VM
theorem d7z(p q:Addr)(w:World):
  CallsD prog 65 #[.pointer (some p),.pointer (some q)] .returning w λe u' w'=>e=.returned (.tuple #[])/\u'=.returning/\w'=w:=by
 refine callsD_of_wpS func65 rfl λc₀ cs hu=>?_;apply wpS_seq;apply wpS_region;simp[wpOpsS,go_sem,recoverD,hu,ntmps65,Exit.thenS];apply wpS_seq;apply wpS_region;simp[wpOpsS,go_sem,recoverD,hu,ntmps65,Exit.thenS];refine wpS_cond (t:=false) (by simp[Act.eval,Array.replicate]) ?_;simp only[Bool.false_eq_true,if_false];refine wpS_of_wp (wp_skip ?_);cases c₀
 simp_all [bodyPostS,results]
theorem e8q{P:Program}{T xT:TypeId}(hu:(P.underlying T).map (λtd=>match td with| .interface _=>false|_=>true)=some true)(v:Value)(w:World):(Instr.typeAssert (.iface T v) xT T true).run P w=.ok (.tuple #[v,.bool true]) w:=by obtain⟨td,h1,h2⟩:=g0V.1 hu;unfold Instr.typeAssert;rw[Sem.run_bind,run_underlying h1];simp only[Result.andThen_ok];cases td<;>first|(simp at h2;done)|(simp only[if_true,go_sem];done)|(simp[go_sem,Result.andThen];done)
variable {G:GT}
theorem c6R{P:Program}{id:Nat}{ops:Array Oper}{D:Code}{QQ:Exit->Act->World->Prop}{a:Act}{w:World}{base:dH}{R:Nat->Nat->Prop}(Qf:Exit->St->Prop)(hk:∀e s a' w' R' μ',Qf e s->Rel P G base R' μ' s a' w'->Step base R w R' w'->QQ e a' w')(h:∀QL:Exit->Act->World->Prop,(∀s a' w' R' μ',SW P G D s Qf->Rel P G base R' μ' s a' w'->Step base R w R' w'->QL .normal a' w')->wpList P ops QL ops.toList a w):(Code.seq (.region id ops false) D).wp P QQ a w:=
 wp_seq (wp_region_list (h _ λs a' w' R' μ' hD hr hs=>wp_mono (hD base R' μ' a' w' hr) λe a2 w2 ⟨s2,R2,μ2,q1,q2,q3⟩=>hk e s2 a2 w2 R2 μ2 q1 q2 (hs.trans q3)))
theorem LW.next{P:Program}{all:Array Oper}{l:List Oper}{st:St}{D:Code}{Qf:Exit->St->Prop}{base:dH}{R:Nat->Nat->Prop}{μ:Nat->Nat}{a:Act}{w:World}{QL:Exit->Act->World->Prop}(hQL:∀s a' w' R' μ',SW P G D s Qf->Rel P G base R' μ' s a' w'->Step base R w R' w'->QL .normal a' w')(hr:Rel P G base R μ st a w)(h:LW P G all l st λe s=>e=.normal/\SW P G D s Qf):wpList P all QL l a w:=by unfold LW at h;exact h base R μ a w hr QL λe s a' w' R' μ' hq gD hs=>by obtain⟨rfl,hq⟩:=hq;exact hQL s a' w' R' μ' hq gD hs
def f2e:OT:=(.op 0 (.op 1 (.op 2 (.op 3 (.op 4 (.op 5 .stop .none) .none) (.op 4 (.op 3 (.op 5 .stop .none) .none) .none)) (.op 4 (.op 2 (.op 3 (.op 5 .stop .none) .none) .none) .none)) (.op 2 (.op 1 (.op 3 (.op 4 (.op 5 .stop .none) .none) (.op 4 (.op 3 (.op 5 .stop .none) .none) .none)) (.op 3 (.op 1 (.op 4 (.op 5 .stop .none) .none) .none) .none)) .none)) (.op 2 (.op 0 (.op 1 (.op 3 (.op 4 (.op 5 .stop .none) .none) (.op 4 (.op 3 (.op 5 .stop .none) .none) .none)) (.op 3 (.op 1 (.op 4 (.op 5 .stop .none) .none) .none) .none)) (.op 3 (.op 0 (.op 1 (.op 4 (.op 5 .stop .none) .none) .none) .none) .none)) .none))
abbrev d7A(x y:Int):List (Nat×bD):=[(100000,.cells [.d (.int .i64 x)]),(100001,.cells [.d (.int .i64 y)])]
theorem e2Q{base:dH}{R:Nat->Nat->Prop}{μ:Nat->Nat}{args:Array Value}{w:World}{x y:Int}(n e:Int)(hr:Rel prog G base R μ ⟨[.ptr 100000 0,.ptr 100001 0],d7A x y,[]⟩ {tmps:=args,defers:=[]} w):
  CallsD prog 65 args (.panicking (a0Z (qE n e))) w λe' u' w'=>e'=.returned (.tuple #[])/\u'=.panicking [{v:=qE n e,recovered:=true}]/\∃R' μ' a',Rel prog G base R' μ' ⟨List.replicate 20 .undef,d7A n e,[]⟩ a' w'/\Step base R w R' w':=by
 have jZ:args.size=2:=hr.size;obtain⟨v0,v1,rfl⟩:∃v0 v1,args=#[v0,v1]:=by
  obtain⟨l⟩:=args
  match l,jZ with
  |[a,b],_=>exact⟨a,b,rfl⟩
 refine callsD_of_wpS func65 rfl λc₀ cs hu=>?_;apply wpS_seq;apply wpS_region;simp[wpOpsS,go_sem,recoverD,hu,ntmps65,Exit.thenS];apply wpS_seq;apply wpS_region;simp[wpOpsS,go_sem,recoverD,hu,ntmps65,Exit.thenS];refine wpS_cond (t:=true) (by simp[Act.eval,Array.replicate]) ?_;simp only[if_true];refine wpS_of_wp ?_;have hr1:Rel prog G base R μ ⟨.ptr 100000 0::.ptr 100001 0::List.replicate 18 .undef,d7A x y,[]⟩ {tmps:=#[v0,v1,qE n e,undef,undef,qE n e,qE n e,.bool true,undef,undef,undef,undef,undef,undef,undef,undef,undef,undef,undef,undef],defers:=[]} w:=by
  refine⟨rfl,rfl,λi v d hv hd=>?_,hr.jR,hr.inj,hr.eC,⟨[],rfl,λi c v h _=>by simp at h,.nil⟩,hr.vL,hr.qP,hr.base,hr.pass⟩
  match i,hv,hd with
  |0,hv,hd=>exact hr.tmps 0 v d (by simpa using hv) (by simpa using hd)
  |1,hv,hd=>exact hr.tmps 1 v d (by simpa using hv) (by simpa using hd)
  |i+2,hv,hd=>
   simp only[List.getElem?_cons_succ,List.getElem?_replicate]at hd;split at hd
   .simp at hd;subst hd;exact .undef _
   .cases hd
 have hta:=λ(v:Value) (w:World)=>e8q (P:=prog) (T:=127) (xT:=20) (by kernel_rfl) v w
 show Code.wp prog _ _ {tmps:=#[v0,v1,qE n e,undef,undef,qE n e,qE n e,.bool true,undef,undef,undef,undef,undef,undef,undef,undef,undef,undef,undef,undef],defers:=[]} w
 generalize ha1:({tmps:=#[v0,v1,qE n e,undef,undef,qE n e,qE n e,.bool true,undef,undef,undef,undef,undef,undef,undef,undef,undef,undef,undef,undef],defers:=[]}:Act)=a1 at hr1|-;have h2:a1.eval (.tmp 2)=qE n e:=by rw[<-ha1];rfl
 have hz:a1.tmps.size=20:=by rw[<-ha1];rfl
 refine c6R (G:=G) (base:=base) (R:=R) (λe' s=>e'=.normal/\wI s ⟨List.replicate 20 .undef,d7A n e,[]⟩) (λe2 s2 a2 w2 R2 μ2 hq q2 q3=>?_) λQL hQL=>?_
 .obtain⟨he,hw⟩:=hq;subst he;exact⟨q2.defers,_,rfl,.tuple #[],by simp[results],rfl,rfl,R2,⟨μ2,a2,q2.a1H hw⟩,q3⟩
 have hr2:=hr1.put (dst:=some 9) (v:=qE n e) (dv:=.undef) (act:=.no) (.undef _) trivial;refine sD (w':=w) (v:=qE n e) rfl (.inl (by show(pure (Next.value (a1.eval (.tmp 2))):Sem Next).run _ w=_;rw[h2];rfl)) rfl ?_;have h9:(a1.put (some 9) (qE n e)).eval (.tmp 9)=qE n e:=dV _ _ (by omega);have hr3:=hr2.put (dst:=some 10) (v:=.tuple #[.agg #[.int .i64 n,.int .i64 e],.bool true]) (dv:=.cI [.agg [.int .i64 n,.int .i64 e],.bool true]) (act:=.no) (.cI _ _ rfl (λi d hd=>by
  match i,hd with
  |0,hd=>
   simp at hd;subst hd;refine .agg _ _ rfl (λi d hd=>?_) (λi d hd=>?_)
   .match i,hd with
    |0,hd=>simp at hd;subst hd;rfl
    |1,hd=>simp at hd;subst hd;rfl
   .match i,hd with
    |0,hd=>simp at hd;subst hd;exact .int _ _
    |1,hd=>simp at hd;subst hd;exact .int _ _
  |1,hd=>simp at hd;subst hd;exact .bool _)) trivial
 refine sD (w':=w) (v:=.tuple #[.agg #[.int .i64 n,.int .i64 e],.bool true]) rfl (.inl ?_) rfl ?_
 .show(Instr.typeAssert ((a1.put (some 9) (qE n e)).eval (.tmp 9)) _ _ true >>=λs=>pure (Next.value s):Sem Next).run _ w=_
  rw[h9,Sem.run_bind,hta]
  rfl
 refine LW.next hQL hr3 (LW.vk ?_);simp;refine SW.jW (SW.xk ?_);simp;refine c0R f2e (by kernel_rfl) (by kernel_rfl) ?_;simp[f2e]
end
section
open Go Go.VM
variable {G:GT}
theorem mS:VM.Enters prog 32:=.mk func32 rfl
theorem Rel.frame{P:Program}{base:dH}{R:Nat->Nat->Prop}{μ:Nat->Nat}{args:Array Value}{w:World}{fn:Func}{n:Nat}{s0:St}(hn:fn.ntmps=n)(hT:(s0.own.all λc=>c.2.all λl=>match l with| .t i=>decide (i<s0.tmps.length)|_=>true)=true)(hr:Rel P G base R μ s0 {tmps:=args,defers:=[]} w):
  Rel P G base R μ ⟨s0.tmps++List.replicate (n-s0.tmps.length) (.cI []),s0.H,s0.own⟩ {tmps:=args++Array.replicate (fn.ntmps-args.size) undef,defers:=[]} w:=by
 have jZ:args.size=s0.tmps.length:=hr.size;refine⟨rfl,by simp[jZ,hn],λi v d hiv hid=>?_,hr.jR,hr.inj,hr.eC,?_,hr.vL,hr.qP,hr.base,hr.pass⟩
 .simp only at hid;by_cases hi:i<s0.tmps.length
  .rw[g1h hi]at hid;rw[Array.getElem?_append_left (by omega)]at hiv;exact hr.tmps i v d hiv hid
  .rw[g1e (by omega),List.getElem?_replicate]at hid;split at hid<;>simp at hid;subst hid;rw[Array.getElem?_append_right (by omega),Array.getElem?_replicate]at hiv;split at hiv<;>simp at hiv;subst hiv;exact .cI #[] [] rfl (by simp)
 .obtain⟨vs,hl,h1,hap⟩:=hr.own;refine⟨vs,hl,λi c v hc hv=>?_,hap⟩;have ho:=h1 i c v hc hv;refine⟨λl hl u hu=>?_,ho.own,ho.keys⟩;cases l with
  |t j=>have hj:=g0Z.1 (g0Z.1 hT c (g1b hc)) _ hl;simp only[decide_eq_true_eq]at hj;simp only[cP]at hu;rw[Array.getElem?_append_left (by omega)]at hu;exact ho.eC _ hl u hu
  |c k off=>exact ho.eC _ hl u hu
theorem SW.wps{P:Program}{x y:Code}{st:St}{T:Exit->St->Prop}{QQ:Exit->Act->World->Prop}{base:dH}{R:Nat->Nat->Prop}{μ:Nat->Nat}{a:Act}{w:World}(h:SW P G x st T)(hr:Rel P G base R μ st a w)(hn:∀s R' μ' a' w',T .normal s->Rel P G base R' μ' s a' w'->Step base R w R' w'->y.wp P QQ a' w')(hq:∀e s R' μ' a' w',e≠ .normal->T e s->Rel P G base R' μ' s a' w'->Step base R w R' w'->QQ e a' w'):(Code.seq x y).wp P QQ a w:=
 wp_seq (wp_mono (h base R μ a w hr) λe a' w' ⟨s,R',μ',q1,q2,q3⟩=>by
  cases e with
  |normal=>exact hn s R' μ' a' w' q1 q2 q3
  |_=>exact hq _ s R' μ' a' w' (by simp) q1 q2 q3)
theorem SW.e2R{P:Program}{r0 r1 rc rest:Code}{st:St}{T:Exit->St->Prop}{QQ:Exit->Act->World->Prop}{base:dH}{R:Nat->Nat->Prop}{μ:Nat->Nat}{a:Act}{w:World}(h:SW P G r0 st λe s=>e=.normal/\SW P G r1 s λe s=>e=.normal/\SW P G rc s T)(hr:Rel P G base R μ st a w)(hn:∀s R' μ' a' w',T .normal s->Rel P G base R' μ' s a' w'->Step base R w R' w'->rest.wp P QQ a' w')(hq:∀e s R' μ' a' w',e≠ .normal->T e s->Rel P G base R' μ' s a' w'->Step base R w R' w'->QQ e a' w'):(Code.seq r0 (.seq r1 (.seq rc rest))).wp P QQ a w:=
 SW.wps h hr (λs R1 μ1 a1 w1 q1 q2 q3=>SW.wps q1.2 q2 (λs R2 μ2 a2 w2 p1 p2 p3=>SW.wps p1.2 p2 (λs R3 μ3 a3 w3 k1 k2 k3=>hn s R3 μ3 a3 w3 k1 k2 ((q3.trans p3).trans k3)) λe s R3 μ3 a3 w3 k0 k1 k2 k3=>hq e s R3 μ3 a3 w3 k0 k1 k2 ((q3.trans p3).trans k3)) λe s R2 μ2 a2 w2 p0 p1 p2 p3=>(p0 p1.1).elim) λe s R1 μ1 a1 w1 q0 q1 q2 q3=>(q0 q1.1).elim
theorem TV.d1c{R:Nat->Nat->Prop}{μ μ':Nat->Nat}{w:World}{v:Value}{ds:List D}(h:TV R μ w v (.cI ds)):TV R μ' w v (.cI ds):=by
 cases h with
 |cI vs ds h1 h2=>exact .cI _ _ h1 h2
theorem b7S(cs:List DV)(F:FuncId)(s:List UInt8)(n e:Int)(he:e≠0)(hlx:CS prog G 64 [.str s] (.cI [.aD,.int .i64 n,.int .i64 e]) none):
  CHd prog G 32 ⟨[.d (.str s),.clo F [.ptr 100001 0]],[(100001,.cells cs)],[]⟩ (.cI [.int .i64 n,.int .i64 e]):=by
 intro base R μ args w hr;refine calls_of_wp_defers func32 rfl ?_;have hr0:=Rel.frame ntmps32 rfl hr;refine SW.e2R (T:=λe' s'=>e'=.ret/\a2F prog s' [.cell 4 3,.cell 5 31]=some (.cI [.int .i64 n,.int .i64 e])) ?h hr0 (λs' R' μ' a' w' q1 q2 q3=>by cases q1.1) (λe' s' R' μ' a' w' q0 q1 q2 q3=>?_)
 case h=>refine SW.xk ?_;simp;refine SW.xk ?_;simp;refine mG.mk xY hlx ?_;simp;refine SW.xk ?_;simp[he]
 .obtain⟨rfl,kF⟩:=q1;obtain⟨v,hv1,hv2⟩:=a1N (fn:=f32) q2 kF
  show Leaves _ _ _ _ a'.defers _ _
  rw[q2.defers];exact⟨v,hv1,v,R',rfl,λμ'=>TV.d1c hv2,q3,q2.qP⟩
abbrev b7T(s:List UInt8)(F:FuncId)(l:List Tok)(H:List (Nat×bD)):St:=⟨[.d (.str s),.clo F [.ptr 100001 0],.undef,.undef,.ptr 4 0,.ptr 5 0,.d (.sl (l.map bJ))]++List.replicate 21 .undef,(4,.cells [.d (.int .i64 0)])::(5,.cells [.d (.int .i64 0)])::H,[]⟩
abbrev d3u(p q:Value):Deferred:={target:=.fn (.func 65) #[p,q],args:=#[]}
theorem a9W{base:dH}{R:Nat->Nat->Prop}{μ:Nat->Nat}{s:List UInt8}{F:FuncId}{l:List Tok}{H:List (Nat×bD)}{a:Act}{w:World}{QQ:Exit->Act->World->Prop}{id:Nat}{all:Array Oper}{y0 y1:TypeId}{p0 p1:String}{f0 f1:Array Edge}{rest:Code}(dR:all=#[⟨some 19,.makeFunc (.func 65) #[] #[.tmp 4,.tmp 5],y0,p0,f0,none⟩,⟨none,.defer {callee:=.value (.tmp 19),args:=#[],argTypes:=#[]},y1,p1,f1,none⟩])(hr:Rel prog G base R μ (b7T s F l H) a w)(h:∀a1,Rel prog G base R μ (b7T s F l H) a1 w->rest.wp prog QQ {a1 with defers:=[d3u (.pointer (some ⟨μ 4,0,none⟩)) (.pointer (some ⟨μ 5,0,none⟩))]} w):(Code.seq (.region id all false) rest).wp prog QQ a w:=by
 subst dR;have h4:a.eval (.tmp 4)=.pointer (some ⟨μ 4,0,none⟩):=hr.dU rfl;have h5:a.eval (.tmp 5)=.pointer (some ⟨μ 5,0,none⟩):=hr.dU rfl;have hz:a.tmps.size=28:=hr.size;refine wp_seq (wp_region_list ?_);generalize hfv:(Value.func (.func 65) #[] #[.pointer (some ⟨μ 4,0,none⟩),.pointer (some ⟨μ 5,0,none⟩)])=fv;have hr2:=hr.put (dst:=some 19) (v:=fv) (dv:=.undef) (act:=.no) (.undef _) trivial;refine sD (w':=w) (v:=fv) rfl (.inl ?_) rfl ?_
 .rw[<-hfv, <- h4, <- h5]
  show(Instr.makeFunc (.func 65) (#[].map a.eval) (#[.tmp 4,.tmp 5].map a.eval) >>=λx=>pure (Next.value x):Sem Next).run _ w=_
  simp[Instr.makeFunc,go_sem]
 have h19:(a.put (some 19) fv).eval (.tmp 19)=fv:=dV _ _ (by omega);have hw:∀(o:Oper) y,o.guard=none->Region.wanted o y=true:=λo y hg=>by unfold Region.wanted;rw[hg]
 unfold wpList;rw[if_pos (hw _ _ rfl)];left;unfold Oper.wp;have e2:(execOp (a.put (some 19) fv).eval ⟨none,.defer {callee:=.value (.tmp 19),args:=#[],argTypes:=#[]},y1,p1,f1,none⟩).run prog w=.ok (.defer (d3u (.pointer (some ⟨μ 4,0,none⟩)) (.pointer (some ⟨μ 5,0,none⟩)))) w:=by
  show((Deferred.ofValue ((a.put (some 19) fv).eval (.tmp 19)) (#[].map (a.put (some 19) fv).eval) >>=λd=>pure (Next.defer d)):Sem Next).run _ w=_
  rw[h19, <- hfv,Sem.run_bind];simp[Deferred.ofValue,go_sem]
 rw[e2];have hd:(a.put (some 19) fv).defers=[]:=hr2.defers;rw[Oper.upon_defer];unfold wpList;have a0l:finish (b7T s F l H) (some 19) .undef .no=b7T s F l H:=by simp[finish,mX,cZ,jN,List.replicate]
 rw[a0l]at hr2;have:=h (a.put (some 19) fv) hr2;rw[<-hd]at this;exact this
end
section
open Go Go.VM
variable {G:GT}
theorem DW.go{P:Program}{ds:List Deferred}{c:Code}{st:St}{Q:Exit->St->Prop}(h:DW P G ds c st Q){base:dH}{R:Nat->Nat->Prop}{μ:Nat->Nat}{a:Act}{w:World}(hr:Rel P G base R μ st a w):c.wp P (λe a' w'=>∃a0 s R' μ',a'={a0 with defers:=ds}/\Q e s/\Rel P G base R' μ' s a0 w'/\Step base R w R' w') {a with defers:=ds} w:=h base R μ a w hr
@[simp] theorem d9E(k:Nat)(ds:List D):ds.map (mX k∘DV.d)=ds.map DV.d:=rfl
@[simp] theorem d9F(k k':Nat)(ds:List D):ds.map ((mX k∘mX k')∘DV.d)=ds.map DV.d:=rfl
@[simp] theorem d7B:∀ds:List D,WkT (ds.map DV.d) (ds.map DV.d)
 |[]=>by simp
 |d::r=>by have:=d7B r;simp[this]
@[simp] theorem d3v(K:List (Nat×Nat)):∀ds:List D,aV K (ds.map DV.d)=true
 |[]=>by simp[aV]
 |d::r=>by have:=d3v K r;simp[aV,aQ,this]
@[simp] theorem d3w:∀ds:List D,d5Y (ds.map DV.d) (ds.map DV.d)
 |[]=>by simp
 |d::r=>by have:=d3w r;simp[this]
theorem a4a:VM.Enters prog 65:=.mk func65 rfl
theorem a1j{P:Program}{f:FuncId}(he:VM.Enters P f)(args cap:Array Value)(w:World):(invoke (.fn (.func f) cap) args).run P w=.ok (.enter f (args++cap)) w:=by
 obtain⟨fn,hf1,hf2,hf3⟩:=he;have c1w: ¬fn.body=none:=λhe=>by simp[he]at hf2
 have c1x: ¬fn.name= "runtime.NumGoroutine" :=by simpa using hf3
 simp[invoke,callFunc,hf1,c1w,c1x]
theorem e2S{α:Type}{aE:List Tok->Nat->Nat->kJ Pr}{l:List Tok}(hV:pY G aE l)(C:α->List D)(a0 a:α)(j:Nat){F:FuncId}(he:VM.Enters prog F){s:List UInt8}(hlx:CS prog G 64 [.str s] (.cI [.sl (l.map bJ),.int .i64 0,.int .i64 0]) none)(hc:oZ G F [.ptr 100000 0,.ptr 100001 0] [(100001,.cells ((C a0).map .d))] [] l 0 (.ok a j) (λ_=>.cI []) (λa=>[(100001,.cells ((C a).map .d))]))(hj:j<l.length)(a2m:a3M l j=.ok () j):
  CH prog G 32 ⟨[.d (.str s),.clo F [.ptr 100001 0]],[(100001,.cells ((C a0).map .d))],[]⟩ ⟨[.cI [.int .i64 0,.int .i64 0]],[(100001,.cells ((C a).map .d))],[]⟩:=by
 intro base R μ args w hr;refine calls_of_wp_defers func32 rfl ?_;have hr0:=Rel.frame ntmps32 rfl hr;refine SW.e2R (T:=λe' s'=>e'=.normal/\wI s' (b7T s F l [(100001,.cells ((C a0).map .d))])) ?h hr0 (λs' R' μ' a' w' q1 q2 q3=>?_) (λe' s' R' μ' a' w' q0 q1 q2 q3=>(q0 q1.1).elim)
 case h=>refine SW.xk ?_;simp;refine SW.xk ?_;simp;refine mG.mk xY hlx ?_;simp;refine SW.xk ?_;simp[List.replicate]
 .refine a9W rfl (q2.a1H q1.2) λa1 hr1=>?_;refine wp_mono (DW.go (Q:=λe s=>e=.ret/\a4K prog s [.cell 4 3,.cell 5 31] (.cI [.int .i64 0,.int .i64 0]) [(100001,.cells ((C a).map .d))] []) ?hD hr1) λe a2 w2 ⟨a3,s3,R3,μ3,h0,⟨h1,h2⟩,h3,h4⟩=>?_
  case hD=>
   refine DW.seq (DW.region ?_);simp[List.replicate];refine DW.seq (DW.region ?_);simp;refine b1H.mk (a1a he hc [(100000,22),(100001,100001)] (λa j hx=>?_) ?_ ?_ ?_ rfl rfl (λa2 j2 hx=>?_) (λn e hx=>by cases hx))
   .simp[aL,aQ,aW,aV,bH,getKey,eF]
   .simp[aL,aQ,aW,aV,bH,getKey,eF]
   .simp[aR,bF,rk]
   .simp[aR,bF,rk,cX,dD,jP]
   .cases hx;simp[bG,aR,bF,rk,cX,dD,bS,kC,gM,dX,jP];refine DW.seq (DW.region ?_);simp;refine b1H.mk (a1a (X:=[]) (own:=[]) (r:=a3M l j) (enc:=λ_=>.cI []) (Y:=λ_=>[]) (av0:=[.ptr 100000 0]) b7L (c0S hV j hj) [(100000,22)] (λa j hx=>?_) ?_ ?_ ?_ rfl rfl (λu j2 hx=>?_) (λn e hx=>by rw[a2m]at hx;cases hx))
    .simp[aL,aQ,aW,aV,bH,getKey,eF]
    .simp[aL,aQ,aW,aV,bH,getKey,eF]
    .simp[aR,bF,rk]
    .simp[aR,bF,rk,cX,dD,jP]
    .simp[bG,aR,bF,rk,cX,dD,bS,kC,gM,dX,jP];refine DW.seq (DW.region ?_);simp;exact DW.ret ⟨rfl,by simp⟩
  .subst h0 h1;have p4:=hr1.dU (x:=.tmp 4) rfl
   show Leaves _ _ _ _ [d3u _ _] .returning w2
   refine leaves_cons (f:=65) (args:=#[.pointer (some ⟨μ' 4,0,none⟩),.pointer (some ⟨μ' 5,0,none⟩)]) (by simp) (a1j a4a #[] #[.pointer (some ⟨μ' 4,0,none⟩),.pointer (some ⟨μ' 5,0,none⟩)] w2) ?_;refine(d7z _ _ w2).mono ?_;rintro e' u' w'' ⟨rfl,rfl,rfl⟩;unfold a4K at h2;split at h2
   .rename_i r kF;obtain⟨v,hv1,hv2⟩:=a1N (fn:=f32) h3 kF;exact⟨v,hv1,v,R3,μ3,rfl,((h3.ret hv1 hv2).e4J h2.1).e7F h2.2,q3.trans h4⟩
   .exact h2.elim
end
section
open Go Go.VM
variable {G:GT}
abbrev a7f(x y:Int):List (Nat×bD):=[(4,.cells [.d (.int .i64 x)]),(5,.cells [.d (.int .i64 y)])]
theorem a8N{base:dH}{R:Nat->Nat->Prop}{μ:Nat->Nat}{a:Act}{w:World}{tmps:List DV}{x y:Int}(n e:Int)(hr:Rel prog G base R μ ⟨tmps,a7f x y,[]⟩ a w)(h4:tmps[4]? =some (.ptr 4 0))(h5:tmps[5]? =some (.ptr 5 0))(RR:Ending->World->Prop)(hR:∀v R' w',(∀μ',TV R' μ' w' v (.cI [.int .i64 n,.int .i64 e]))->Step base R w R' w'->(∀b o,R' b o->b<w'.heap.size)->RR (.returned v) w'):
  Leaves prog f32 a.tmps RR [d3u (.pointer (some ⟨μ 4,0,none⟩)) (.pointer (some ⟨μ 5,0,none⟩))] (.panicking (a0Z (qE n e))) w:=by
 refine leaves_cons (f:=65) (args:=#[.pointer (some ⟨μ 4,0,none⟩),.pointer (some ⟨μ 5,0,none⟩)]) (by simp) (a1j a4a #[] #[.pointer (some ⟨μ 4,0,none⟩),.pointer (some ⟨μ 5,0,none⟩)] w) ?_;obtain⟨kS,sub,a1O,uJ⟩:=b7R (s0:=⟨[.ptr 100000 0,.ptr 100001 0],d7A x y,[]⟩) (args:=#[.pointer (some ⟨μ 4,0,none⟩),.pointer (some ⟨μ 5,0,none⟩)]) [(100000,4),(100001,5)] («g0U» :=[.ptr 4 0,.ptr 5 0]) (ls:=[]) (rest:=[]) (by simp[aL,aQ,aW,aV,bH,getKey]) (by simp[aR,bF,rk]) (by simp[aR,bF,rk,cX,dD]) rfl rfl hr rfl (λi d hd=>by
  match i,hd with
  |0,hd=>simp at hd;subst hd;exact .ptr 4 0
  |1,hd=>simp at hd;subst hd;exact .ptr 5 0) (λi l h=>by simp at h)
 refine(e2Q n e a1O).mono ?_;rintro e' u' w' ⟨rfl,rfl,R',μ',a',gD,hs⟩;have rE:Step base R w R' w':=⟨hs.below.mono sub,hs.mono,λb o h1 h2=>sub b (hs.new b o h1 h2),hs.cells⟩;have m4:μ' 100000=μ 4:=(gD.pass 100000 (by omega)).trans (a1O.pass 100000 (by omega)).symm;have m5:μ' 100001=μ 5:=(gD.pass 100001 (by omega)).trans (a1O.pass 100001 (by omega)).symm;have a0l:Rel prog G base R' μ ⟨tmps,a7f n e,[]⟩ a w':=by
  refine⟨hr.defers,hr.size,λi u d hu hd=>(hr.tmps i u d hu hd).bN rE,λk o hk=>?_,λk k' o o' hk hk' he'=>?_,(λc hc=>by cases hc),⟨[],rfl,λi c v h _=>by simp at h,.nil⟩,hr.vL.bN rE,gD.qP,λb hb=>hr.base b (Nat.le_trans hs.below.size hb),hr.pass⟩
  .simp only[a7f,getKey]at hk;split at hk
   .rename_i hk4;cases hk;subst hk4;obtain⟨q1,q2,q3⟩:=gD.jR 100000 (.cells [.d (.int .i64 n)]) rfl;rw[m4]at q1 q2 q3;exact⟨sub _ q1,q2,q3.b9E (ν:=μ') (K:=[]) (λk hk=>by simp at hk) rfl⟩
   .split at hk
    .rename_i hk5;cases hk;subst hk5;obtain⟨q1,q2,q3⟩:=gD.jR 100001 (.cells [.d (.int .i64 e)]) rfl;rw[m5]at q1 q2 q3;exact⟨sub _ q1,q2,q3.b9E (ν:=μ') (K:=[]) (λk hk=>by simp at hk) rfl⟩
    .cases hk
  .have one:∀k o,getKey k (a7f n e)=some o->∃o1,getKey k (a7f x y)=some o1:=λk o h=>by
    simp only[a7f,getKey]at h|-;split at h
    .exact⟨_,by rw[if_pos (by assumption)]⟩
    .split at h
     .exact⟨_,by rw[if_neg (by assumption),if_pos (by assumption)]⟩
     .cases h
   obtain⟨o1,h1⟩:=one k o hk;obtain⟨o2,h2⟩:=one k' o' hk';exact hr.inj k k' o1 o2 h1 h2 he'
 have d4u:settle (.panicking [{v:=qE n e,recovered:=true}])=.returning:=by simp[settle]
 show Leaves _ _ _ _ [] (settle _) _
 rw[d4u];have kF:a2F prog ⟨tmps,a7f n e,[]⟩ (f32).results.toList=some (.cI [.int .i64 n,.int .i64 e]):=by simp[a2F,h4,h5]
 obtain⟨v,hv1,hv2⟩:=a1N (fn:=f32) a0l kF;exact⟨v,hv1,hR v R' w' (λμ'=>TV.d1c hv2) rE gD.qP⟩
end
end Go.Proofs.YtjpodcmhcenjjaaGreatDoor
section
namespace Go.VM
open Go Go.RowKit
section
variable {P:Program} {G:GT} {st:St}
theorem a1q{a:Act}{dst:Option Tmp}{t:Tmp}(hd:dst≠some t)(v:Value):(a.put dst v).eval (.tmp t)=a.eval (.tmp t):=by
 cases dst with
 |none=>rfl
 |some x=>exact cA _ _ (λe=>hd (by rw[e]))
theorem d7C{o:Oper}{a:Act}{w:World}{K:Act->World->Prop}{Q:Exit->Act->World->Prop}{t:Tmp}(hd:o.dst≠some t)(h:o.wp P a w K Q):o.wp P a w (λa' w'=>K a' w'/\a'.eval (.tmp t)=a.eval (.tmp t)) (λe a' w'=>Q e a' w'/\(e≠ .outgrown->a'.eval (.tmp t)=a.eval (.tmp t))):=by
 unfold Oper.wp at h|-;generalize (execOp a.eval o).run P w=r at h|-;unfold Oper.upon at h|-;split at h
 .exact⟨h,a1q hd _⟩
 .exact⟨h,a1q hd _⟩
 .rename_i d w';exact⟨h,(a1q (a:={a with defers:=d::a.defers}) hd _).trans rfl⟩
 .refine h.mono λe w' hx=>?_;cases e with
  |returned v=>exact⟨hx,a1q hd _⟩
  |panicked chain=>exact⟨hx,λ_=>rfl⟩
  |outgrown=>obtain⟨a0,w0,h0⟩:=hx;exact⟨a0,w0,h0,λh=>(h rfl).elim⟩
 .exact h.mono λv w' hx=>⟨hx,a1q hd _⟩
 .exact⟨h,λ_=>rfl⟩
 .exact h.elim
theorem a5b{all:Array Oper}{QQ:Exit->Act->World->Prop}{t:Tmp}:∀(l:List Oper) (a:Act) (w:World),(∀o∈l,o.dst≠some t)->wpList P all QQ l a w->wpList P all (λe a' w'=>QQ e a' w'/\(e≠ .outgrown->a'.eval (.tmp t)=a.eval (.tmp t))) l a w
 |[],a,w,_,h=>⟨h,λ_=>rfl⟩
 |o::rest,a,w,hd,h=>by
  have h0:=hd o (by simp);have hr:=λo' (ho:o'∈rest)=>hd o' (by simp[ho]);have mono:∀(a1:Act) (w1:World),a1.eval (.tmp t)=a.eval (.tmp t)->wpList P all QQ rest a1 w1->wpList P all (λe a' w'=>QQ e a' w'/\(e≠ .outgrown->a'.eval (.tmp t)=a.eval (.tmp t))) rest a1 w1:=λa1 w1 he hx=>by
   have:=a5b rest a1 w1 hr hx
   rwa[he]at this
  unfold wpList at h|-;split at h
  .rename_i hw;rw[if_pos hw];rcases h with h|⟨h1,a0,w0,h2⟩
   .exact .inl (Oper.wp_mono (λa1 w1 hx=>mono a1 w1 hx.2 hx.1) (d7C h0 h))
   .exact .inr ⟨h1,a0,w0,h2,λh=>(h rfl).elim⟩
  .rename_i hw;rw[if_neg hw];exact mono _ _ (a1q h0 _) h
theorem DW.frame{ds:List Deferred}{id:Nat}{ops:Array Oper}{Q:Exit->St->Prop}{t u:Tmp}(h:d3t P G ops Q ops.toList st)(ht:∀o∈ops.toList,o.dst≠some t)(hu:∀o∈ops.toList,o.dst≠some u){base:dH}{R:Nat->Nat->Prop}{μ:Nat->Nat}{a:Act}{w:World}(hr:Rel P G base R μ st a w):
  (Code.region id ops false).wp P (λe a' w'=>((∃a0 s R' μ',a'={a0 with defers:=ds}/\Q e s/\Rel P G base R' μ' s a0 w'/\Step base R w R' w')/\(e≠ .outgrown->a'.eval (.tmp t)=a.eval (.tmp t)))/\(e≠ .outgrown->a'.eval (.tmp u)=a.eval (.tmp u))) {a with defers:=ds} w:=
 wp_region_list (a5b ops.toList _ w hu (a5b ops.toList _ w ht (c3f ds ops.toList st h base R μ a w hr _ λe s a' w' R' μ' q1 q2 q3=>⟨a',s,R',μ',rfl,q1,q2,q3⟩)))
end
end Go.VM
end
namespace Go.Proofs.YtjpodcmhcenjjaaGreatDoor
section
open Go Go.VM
variable {G:GT}
abbrev b7U(s:List UInt8)(F:FuncId)(l:List Tok)(ds:List D):St:=⟨[.d (.str s),.clo F [.ptr 100001 0],.undef,.undef,.ptr 4 0,.ptr 5 0,.undef,.undef,.ptr 22 0]++List.replicate 19 .undef,[(4,.cells [.d (.int .i64 0)]),(5,.cells [.d (.int .i64 0)]),(22,rdO l 0),(100001,.cells (ds.map .d))],[]⟩
theorem d7D{α:Type}{aE:List Tok->Nat->Nat->kJ Pr}{l:List Tok}(hV:pY G aE l)(C:α->List D)(a0:α)(n e:Int){F:FuncId}(he:VM.Enters prog F){s:List UInt8}(hlx:CS prog G 64 [.str s] (.cI [.sl (l.map bJ),.int .i64 0,.int .i64 0]) none)(hc:oZ G F [.ptr 100000 0,.ptr 100001 0] [(100001,.cells ((C a0).map .d))] [] l 0 (.bad n e:kJ α) (λ_=>.cI []) (λa=>[(100001,.cells ((C a).map .d))])):
  CHd prog G 32 ⟨[.d (.str s),.clo F [.ptr 100001 0]],[(100001,.cells ((C a0).map .d))],[]⟩ (.cI [.int .i64 n,.int .i64 e]):=by
 intro base R μ args w hr;refine calls_of_wp_defers func32 rfl ?_;have hr0:=Rel.frame ntmps32 rfl hr;refine SW.e2R (T:=λe' s'=>e'=.normal/\wI s' (b7T s F l [(100001,.cells ((C a0).map .d))])) ?h hr0 (λs' R' μ' a' w' q1 q2 q3=>?_) (λe' s' R' μ' a' w' q0 q1 q2 q3=>(q0 q1.1).elim)
 case h=>refine SW.xk ?_;simp;refine SW.xk ?_;simp;refine mG.mk xY hlx ?_;simp;refine SW.xk ?_;simp[List.replicate]
 .refine a9W rfl (q2.a1H q1.2) λa1 hr1=>?_;refine wp_seq (wp_mono (DW.frame (t:=4) (u:=5) (Q:=λe s'=>e=.normal/\wI s' (b7U s F l (C a0))) ?hD (by decide) (by decide) hr1) λe2 a2 w2 ⟨⟨⟨a3,s3,R3,μ3,h0,⟨h1,h2⟩,h3,h4⟩,f4⟩,f5⟩=>?_)
  case hD=>simp[List.replicate]
  .subst h0 h1;have hr3:=h3.a1H h2;have f4:a3.eval (.tmp 4)=a1.eval (.tmp 4):=f4 (by simp);have f5:a3.eval (.tmp 5)=a1.eval (.tmp 5):=f5 (by simp);have m4:μ3 4=μ' 4:=by have k1:=hr3.dU (x:=.tmp 4) (k:=4) (off:=0) rfl;have k2:=hr1.dU (x:=.tmp 4) (k:=4) (off:=0) rfl;rw[f4,k2]at k1;exact((Addr.mk.inj (Option.some.inj (Value.pointer.inj k1))).1).symm
   have m5:μ3 5=μ' 5:=by have k1:=hr3.dU (x:=.tmp 5) (k:=5) (off:=0) rfl;have k2:=hr1.dU (x:=.tmp 5) (k:=5) (off:=0) rfl;rw[f5,k2]at k1;exact((Addr.mk.inj (Option.some.inj (Value.pointer.inj k1))).1).symm
   have hz:a3.tmps.size=28:=hr3.size;obtain⟨vs,f5L,rO,hvc⟩:=(hr3.pB (x:=.tmp 1) rfl).b0m;obtain⟨vc,rfl⟩:∃vc,vs=#[vc]:=by
    obtain⟨L⟩:=vs
    match L,rO with
    |[x],_=>exact⟨x,rfl⟩
   have h8:a3.eval (.tmp 8)=.pointer (some ⟨μ3 22,0,none⟩):=hr3.dU rfl;refine wp_seq (wp_region_list ?_);have hr4:=hr3.put (dst:=some 23) (v:=.func (.func F) #[] #[vc]) (dv:=.undef) (act:=.no) (.undef _) trivial;have hr5:=hr4.put (dst:=some 24) (v:=.pointer (some ⟨μ3 22,0,none⟩)) (dv:=.undef) (act:=.no) (.undef _) trivial;have a0l:finish (finish (b7U s F l (C a0)) (some 23) .undef .no) (some 24) .undef .no=b7U s F l (C a0):=by simp[finish,mX,cZ,jN,List.replicate]
   rw[a0l]at hr5;refine sD (w':=w2) (v:=.func (.func F) #[] #[vc]) rfl (.inl (by show(pure (Next.value (a3.eval (.tmp 1))):Sem Next).run _ w2=_;rw[f5L];rfl)) rfl ?_;refine sD (w':=w2) (v:=.pointer (some ⟨μ3 22,0,none⟩)) rfl (.inl (by show(pure (Next.value (((a3.put (some 23) (.func (.func F) #[] #[vc]))).eval (.tmp 8))):Sem Next).run _ w2=_;rw[cA _ _ (by decide),h8];rfl)) rfl ?_
   change wpList _ _ _ _ { (a3.put (some 23) (.func (.func F) #[] #[vc])).put (some 24) (.pointer (some ⟨μ3 22,0,none⟩))with defers:=[d3u (.pointer (some ⟨μ' 4,0,none⟩)) (.pointer (some ⟨μ' 5,0,none⟩))]} w2
   generalize ha5:(a3.put (some 23) (.func (.func F) #[] #[vc])).put (some 24) (.pointer (some ⟨μ3 22,0,none⟩))=a5 at hr5|-;have e23:a5.eval (.tmp 23)=.func (.func F) #[] #[vc]:=by rw[<-ha5,cA _ _ (by decide)];exact dV _ _ (by omega)
   have e24:a5.eval (.tmp 24)=.pointer (some ⟨μ3 22,0,none⟩):=by rw[<-ha5];exact dV _ _ (by rw[size_put];omega)
   have hd5:a5.defers=[]:=hr5.defers;have hw:∀(o:Oper) y,o.guard=none->Region.wanted o y=true:=λo y hg=>by unfold Region.wanted;rw[hg]
   unfold wpList;rw[if_pos (hw _ _ rfl)];left;unfold Oper.wp;have e2:∀(o:Oper),o.op=.call {callee:=.value (.tmp 23),args:=#[.tmp 24],argTypes:=#[85]}->(execOp a5.eval o).run prog w2=.ok (.enter F (#[.pointer (some ⟨μ3 22,0,none⟩)]++ #[vc])) w2:=λo ho=>by have hi:=a1j he #[.pointer (some ⟨μ3 22,0,none⟩)] #[vc] w2;simp[execOp,ho,resolve,e23,e24,Deferred.ofValue];exact hi
   show Oper.upon _ _ _ _ _ ((execOp a5.eval _).run prog w2)
   rw[e2 _ (by rfl),Oper.upon_enter];refine(b0Q.tR (st:=b7U s F l (C a0)) hc [(100000,22),(100001,100001)] («g0U» :=[.ptr 22 0,.ptr 100001 0]) (ls:=[]) (rest:=[]) (a7f 0 0) (by simp[aL,aQ,aW,aV,bH,getKey]) (by simp[aR,bF,rk]) (by simp[aR,bF,rk,cX,dD,jP]) rfl rfl (λk o hk=>?_) hr5 rfl (λi d hd=>?_) (λi l h=>by simp at h)).mono ?_
   .simp only[a7f,getKey]at hk;split at hk
    .rename_i hk4;subst hk4;exact⟨by simpa[getKey]using hk,by simp[rk]⟩
    .split at hk
     .rename_i hk5;subst hk5;exact⟨by simpa[getKey]using hk,by simp[rk]⟩
     .cases hk
   .match i,hd with
    |0,hd=>simp at hd;subst hd;exact(TV.ptr 22 0:TV R3 μ3 w2 (.pointer (some ⟨μ3 22,0,none⟩)) _)
    |1,hd=>simp at hd;subst hd;exact hvc 0 (.ptr 100001 0) rfl
   .rintro e' w4 ⟨R4,rfl,hr6,hs6⟩;have hP:=a8N n e hr6 rfl rfl (λen w'=>∃v R',en=.returned v/\(∀μ',TV R' μ' w' v (.cI [.int .i64 n,.int .i64 e]))/\Step base R w R' w'/\∀b o,R' b o->b<w'.heap.size) λv R7 w7 hv hs7 hb7=>by exact⟨v,R7,rfl,hv,((q3.trans h4).trans hs6).trans hs7,hb7⟩
    rw[m4,m5]at hP;exact hP
end
section
open Go Go.VM
variable {G:GT}
abbrev c3g(s:List UInt8)(F:FuncId)(l:List Tok)(j:Nat)(ds:List D):St:=⟨[.d (.str s),.clo F [.ptr 100001 0],.undef,.undef,.ptr 4 0,.ptr 5 0,.undef,.undef,.ptr 22 0]++List.replicate 19 .undef,[(4,.cells [.d (.int .i64 0)]),(5,.cells [.d (.int .i64 0)]),(22,rdO l j),(100001,.cells (ds.map .d))],[]⟩
theorem d3x{α:Type}{aE:List Tok->Nat->Nat->kJ Pr}{l:List Tok}(hV:pY G aE l)(C:α->List D)(a0 a:α)(j:Nat)(n e:Int){F:FuncId}(he:VM.Enters prog F){s:List UInt8}(hlx:CS prog G 64 [.str s] (.cI [.sl (l.map bJ),.int .i64 0,.int .i64 0]) none)(hc:oZ G F [.ptr 100000 0,.ptr 100001 0] [(100001,.cells ((C a0).map .d))] [] l 0 (.ok a j) (λ_=>.cI []) (λa=>[(100001,.cells ((C a).map .d))]))(hj:j<l.length)(a2m:a3M l j=.bad n e):
  CHd prog G 32 ⟨[.d (.str s),.clo F [.ptr 100001 0]],[(100001,.cells ((C a0).map .d))],[]⟩ (.cI [.int .i64 n,.int .i64 e]):=by
 intro base R μ args w hr;refine calls_of_wp_defers func32 rfl ?_;have hr0:=Rel.frame ntmps32 rfl hr;refine SW.e2R (T:=λe' s'=>e'=.normal/\wI s' (b7T s F l [(100001,.cells ((C a0).map .d))])) ?h hr0 (λs' R' μ' a' w' q1 q2 q3=>?_) (λe' s' R' μ' a' w' q0 q1 q2 q3=>(q0 q1.1).elim)
 case h=>refine SW.xk ?_;simp;refine SW.xk ?_;simp;refine mG.mk xY hlx ?_;simp;refine SW.xk ?_;simp[List.replicate]
 .refine a9W rfl (q2.a1H q1.2) λa1 hr1=>?_;refine wp_seq (wp_mono (DW.frame (t:=4) (u:=5) (Q:=λe s'=>e=.normal/\wI s' (b7U s F l (C a0))) ?hD (by decide) (by decide) hr1) λe2 a2 w2 ⟨⟨⟨a3,s3,R3,μ3,h0,⟨h1,h2⟩,h3,h4⟩,f4⟩,f5⟩=>?_)
  case hD=>simp[List.replicate]
  .subst h0 h1;have hr3:=h3.a1H h2;have f4:a3.eval (.tmp 4)=a1.eval (.tmp 4):=f4 (by simp);have f5:a3.eval (.tmp 5)=a1.eval (.tmp 5):=f5 (by simp);have m4:μ3 4=μ' 4:=by have k1:=hr3.dU (x:=.tmp 4) (k:=4) (off:=0) rfl;have k2:=hr1.dU (x:=.tmp 4) (k:=4) (off:=0) rfl;rw[f4,k2]at k1;exact((Addr.mk.inj (Option.some.inj (Value.pointer.inj k1))).1).symm
   have m5:μ3 5=μ' 5:=by have k1:=hr3.dU (x:=.tmp 5) (k:=5) (off:=0) rfl;have k2:=hr1.dU (x:=.tmp 5) (k:=5) (off:=0) rfl;rw[f5,k2]at k1;exact((Addr.mk.inj (Option.some.inj (Value.pointer.inj k1))).1).symm
   have hz:a3.tmps.size=28:=hr3.size;refine wp_seq (wp_mono (DW.frame (t:=4) (u:=5) (Q:=λe s'=>e=.normal/\wI s' (c3g s F l j (C a))) ?hD2 (by decide) (by decide) hr3) λe5 a5 w5 ⟨⟨⟨a6,s6,R6,μ6,h0',⟨h1',h2'⟩,h3',h4'⟩,g4⟩,g5⟩=>?_)
   case hD2=>
    simp[List.replicate];refine b1H.mk (a1a he hc [(100000,22),(100001,100001)] (λa j hx=>?_) ?_ ?_ ?_ rfl rfl (λa2 j2 hx=>?_) (λn e hx=>by cases hx))
    .simp[aL,aQ,aW,aV,bH,getKey,eF]
    .simp[aL,aQ,aW,aV,bH,getKey,eF]
    .simp[aR,bF,rk]
    .simp[aR,bF,rk,cX,dD,jP]
    .cases hx;simp[bG,aR,bF,rk,cX,dD,bS,kC,gM,dX,jP]
   .subst h0' h1';have hr6:=h3'.a1H h2';have g4:a6.eval (.tmp 4)=a3.eval (.tmp 4):=g4 (by simp);have g5:a6.eval (.tmp 5)=a3.eval (.tmp 5):=g5 (by simp);have n4:μ6 4=μ' 4:=by have k1:=hr6.dU (x:=.tmp 4) (k:=4) (off:=0) rfl;have k2:=hr1.dU (x:=.tmp 4) (k:=4) (off:=0) rfl;rw[g4,f4,k2]at k1;exact((Addr.mk.inj (Option.some.inj (Value.pointer.inj k1))).1).symm
    have n5:μ6 5=μ' 5:=by have k1:=hr6.dU (x:=.tmp 5) (k:=5) (off:=0) rfl;have k2:=hr1.dU (x:=.tmp 5) (k:=5) (off:=0) rfl;rw[g5,f5,k2]at k1;exact((Addr.mk.inj (Option.some.inj (Value.pointer.inj k1))).1).symm
    have h8:a6.eval (.tmp 8)=.pointer (some ⟨μ6 22,0,none⟩):=hr6.dU rfl;have hz6:a6.tmps.size=28:=hr6.size;refine wp_seq (wp_region_list ?_);have hr7:=hr6.put (dst:=some 26) (v:=.pointer (some ⟨μ6 22,0,none⟩)) (dv:=.undef) (act:=.no) (.undef _) trivial;have a0l:finish (c3g s F l j (C a)) (some 26) .undef .no=c3g s F l j (C a):=by simp[finish,mX,cZ,jN,List.replicate]
    rw[a0l]at hr7;refine sD (w':=w5) (v:=.pointer (some ⟨μ6 22,0,none⟩)) rfl (.inl (by show(pure (Next.value (a6.eval (.tmp 8))):Sem Next).run _ w5=_;rw[h8];rfl)) rfl ?_
    change wpList _ _ _ _ {a6.put (some 26) (.pointer (some ⟨μ6 22,0,none⟩))with defers:=[d3u (.pointer (some ⟨μ' 4,0,none⟩)) (.pointer (some ⟨μ' 5,0,none⟩))]} w5
    generalize ha7:a6.put (some 26) (.pointer (some ⟨μ6 22,0,none⟩))=a7 at hr7|-;have e26:a7.eval (.tmp 26)=.pointer (some ⟨μ6 22,0,none⟩):=by rw[<-ha7];exact dV _ _ (by omega)
    have hw:∀(o:Oper) y,o.guard=none->Region.wanted o y=true:=λo y hg=>by unfold Region.wanted;rw[hg]
    unfold wpList;rw[if_pos (hw _ _ rfl)];left;unfold Oper.wp;have e2:∀(o:Oper),o.op=.call {callee:=.value (.func 66),args:=#[.tmp 26],argTypes:=#[85]}->(execOp a7.eval o).run prog w5=.ok (.enter 66 (#[.pointer (some ⟨μ6 22,0,none⟩)]++ #[])) w5:=λo ho=>by
     have hi:=a1j b7L #[.pointer (some ⟨μ6 22,0,none⟩)] #[] w5;have f5N:a7.tmps[26]?.getD undef=.pointer (some ⟨μ6 22,0,none⟩):=by simpa[Act.eval]using e26
     simp[execOp,ho,resolve,f5N,Deferred.ofValue,Act.eval]at hi|-;exact hi
    show Oper.upon _ _ _ _ _ ((execOp a7.eval _).run prog w5)
    rw[e2 _ (by rfl),Oper.upon_enter];have hce:=c0S (G:=G) hV j hj;rw[a2m]at hce;refine(b0Q.tR (st:=c3g s F l j (C a)) hce [(100000,22)] («g0U» :=[.ptr 22 0]) (ls:=[]) (rest:=[]) (a7f 0 0) (by simp[aL,aQ,aW,aV,bH,getKey]) (by simp[aR,bF,rk]) (by simp[aR,bF,rk,cX,dD,jP]) rfl rfl (λk o hk=>?_) hr7 rfl (λi d hd=>?_) (λi l h=>by simp at h)).mono ?_
    .simp only[a7f,getKey]at hk;split at hk
     .rename_i hk4;subst hk4;exact⟨by simpa[getKey]using hk,by simp[rk]⟩
     .split at hk
      .rename_i hk5;subst hk5;exact⟨by simpa[getKey]using hk,by simp[rk]⟩
      .cases hk
    .match i,hd with
     |0,hd=>simp at hd;subst hd;exact(TV.ptr 22 0:TV R6 μ6 w5 (.pointer (some ⟨μ6 22,0,none⟩)) _)
    .rintro e' w8 ⟨R8,rfl,hr8,hs8⟩;have hP:=a8N n e hr8 rfl rfl (λen w'=>∃v R',en=.returned v/\(∀μ',TV R' μ' w' v (.cI [.int .i64 n,.int .i64 e]))/\Step base R w R' w'/\∀b o,R' b o->b<w'.heap.size) λv R9 w9 hv hs9 hb9=>by exact⟨v,R9,rfl,hv,(((q3.trans h4).trans h4').trans hs8).trans hs9,hb9⟩
     rw[n4,n5]at hP;exact hP
end
section
def PzR{α:Type}(r:kJ α):Prop:=∀n e,r=.bad n e->e≠0
def bB{α:Type}(x:bE α):Prop:=∀i,PzR (x i)
section
variable {kw:Nm->Bool} {l:List Tok} {α β:Type}
theorem PzR.ok{a:α}{i:Nat}:PzR (.ok a i):=λn e h=>by cases h
theorem PzR.ite{c:Prop}[Decidable c]{x y:kJ α}(h:PzR x)(h':PzR y):PzR (if c then x else y):=by
 split
 .exact h
 .exact h'
theorem bB.at{x:bE α}(h:bB x)(i:Nat):PzR (x i):=h i
theorem bB.bY(a:α):bB (pure a:bE α):=λi=>PzR.ok
theorem bB.yK{x:bE α}{f:α->bE β}(h:bB x)(hf:∀a,bB (f a)):bB (x >>=f):=λi n e hr=>by
 rw[dN]at hr;cases hk:x i with
 |bad n' e'=>rw[hk]at hr;cases hr;exact h i n e hk
 |ok a j=>rw[hk]at hr;exact hf a j n e hr
theorem bB.ite{c:Prop}[Decidable c]{x y:bE α}(h:bB x)(h':bB y):bB (if c then x else y):=by
 split
 .exact h
 .exact h'
theorem bB.failed:bB (eH l:bE α):=λi n e h=>by unfold eH at h;cases h;decide
theorem bB.exp:∀s:List Nm,bB (aY l s)
 |[]=>bB.bY ()
 |s::r=>λi=>PzR.ite (bB.exp r (i+1)) (bB.failed i)
theorem bB.skip(s:Nm):bB (cQ l s):=λi=>PzR.ite PzR.ok PzR.ok
theorem bB.take(ok:Tok->Bool):bB (oQ l ok):=λi=>PzR.ite PzR.ok (bB.failed i)
theorem bB.loop{c:Nm}{one:α->bE α}(h:∀a,bB (one a)):∀(g:Nat) (a:α),bB (gN l c one g a)
 |0,a=>λi n e h=>by unfold gN at h;cases h;decide
 |g+1,a=>λi=>by
  unfold gN;split
  .rename_i n e hb;exact hb▸h a i
  .exact PzR.ite (bB.loop h g _ _) PzR.ok
theorem bB.list{c:Nm}{one:α->bE α}{a:α}(h:∀a,bB (one a)):bB (dP l c one a):=bB.loop h _ a
theorem bB.b6e{c:Nat->Bool}{one:α->bE α}(h:∀a,bB (one a)):∀(g:Nat) (a:α),bB (eD c one g a)
 |0,a=>λi n e h=>by unfold eD at h;cases h;decide
 |g+1,a=>λi=>by
  unfold eD;refine PzR.ite ?_ PzR.ok;split
  .rename_i n e hb;exact hb▸h a i
  .exact bB.b6e h g _ _
theorem bB.many{c:Nat->Bool}{one:α->bE α}{a:α}(h:∀a,bB (one a)):bB (sW l c one a):=bB.b6e h _ a
theorem bB.chain{ops:List (Nm×Int)}{one:bE cG}(h:bB one):∀(g:Nat) (e:cG),bB (gB l ops one g e)
 |0,a=>λi n e h=>by unfold gB at h;cases h;decide
 |g+1,a=>λi=>by
  unfold gB;split
  .exact PzR.ok
  .split
   .rename_i n e hb;exact hb▸h (i+1)
   .exact bB.chain h g _ _
theorem bB.word:bB (bW kw l):=bB.take _
theorem bB.title:bB (gT l):=bB.take _
theorem bB.sort:bB (yX kw l):=bB.take _
theorem NZ{p:Prop}(h:p:=by repeat' first|assumption|exact bB.at (by assumption) _|exact PzR.ok|exact bB.bY _|exact bB.exp _|exact bB.skip _|exact bB.take _|exact bB.failed|exact hN _ _|refine bB.yK ?_ λ_=>?_|refine bB.ite ?_ ?_|refine bB.list λ_=>?_|refine bB.many λ_=>?_|refine bB.chain ?_ _ _|refine PzR.ite ?_ ?_|split|refine bB.at ?_ _|intro _):p:=h
theorem bB.words:bB (gA kw l):=by unfold gA;exact NZ
theorem bB.vars(v:Bool):bB (sX kw l v):=by unfold sX;exact NZ
theorem bB.base:bB (gO kw l):=by unfold gO;exact NZ
theorem bB.a5r:bB (zU kw l):=by unfold zU;exact NZ
theorem bB.head(m:Int):bB (a4C kw l m):=by have:=bB.words (kw:=kw) (l:=l);unfold a4C;exact NZ
variable {andP:Pr->Pr->Pr} {aE:List Tok->Nat->Nat->kJ Pr} (hN:∀i e,PzR (aE l i e))
include hN
theorem bB.pred:bB (mP aE l):=λi=>hN i _
section
variable {ty:bE Ty} (ht:bB ty)
include ht
theorem bB.c1U:bB (xU andP aE l ty):=by have:=bB.pred hN;unfold xU;exact NZ
theorem bB.a3m:bB (kW kw andP aE l ty):=by have:=bB.base (kw:=kw) (l:=l);have:=bB.c1U (andP:=andP) hN ht;unfold kW;exact NZ
theorem bB.d5G:bB (vX kw andP aE l ty):=by have:=bB.pred hN;have:=bB.a3m (kw:=kw) (andP:=andP) hN ht;unfold vX;exact NZ
omit hN in
theorem bB.d2d:bB (xV kw l ty):=by unfold xV;exact NZ
theorem bB.d2e:bB (yY kw andP aE l ty):=by have:=bB.base (kw:=kw) (l:=l);have:=bB.c1U (andP:=andP) hN ht;have:=bB.d5G (kw:=kw) (andP:=andP) hN ht;have:=bB.d2d (kw:=kw) (l:=l) ht;unfold yY;exact NZ
end
theorem bB.b0J:∀n,bB (yZ kw andP aE l n)
 |0=>λi n e h=>by unfold yZ at h;cases h;decide
 |n+1=>bB.d2e hN (bB.b0J n)
theorem bB.typ:bB (jI kw andP aE l):=bB.b0J hN _
section
variable {ex:Nat->bE cG} (hx:∀k,bB (ex k))
include hx
theorem bB.c0d:bB (xW kw andP aE l ex):=by have:=bB.typ (kw:=kw) (andP:=andP) hN;have h0:=hx 0;unfold xW a1Q rY jH pU;exact NZ
theorem bB.unG:bB (a3K kw andP aE l ex):=by have:=bB.c0d (kw:=kw) (andP:=andP) hN hx;have:=hx 7;unfold a3K;exact NZ
theorem bB.a6B:bB (oR kw andP aE l ex):=by have:=bB.unG (kw:=kw) (andP:=andP) hN hx;unfold oR a7z a0M;exact NZ
theorem bB.a8h:bB (zA kw andP aE l ex):=by have:=bB.a6B (kw:=kw) (andP:=andP) hN hx;have:=hx 3;unfold zA a3l;exact NZ
theorem bB.exG:bB (a6u kw andP aE l ex):=by have:=bB.a8h (kw:=kw) (andP:=andP) hN hx;have:=bB.typ (kw:=kw) (andP:=andP) hN;have:=bB.words (kw:=kw) (l:=l);have:=hx 0;unfold a6u a3j vQ a3k jH b6b b2n a0M;exact NZ
end
theorem bB.exF:∀n k,bB (vD kw andP aE l n k)
 |0,k=>λi n e h=>by unfold vD at h;cases h;decide
 |n+1,k=>by unfold vD;exact bB.ite (bB.unG hN (bB.exF n)) (bB.ite (bB.a8h hN (bB.exF n)) (bB.exG hN (bB.exF n)))
theorem bB.expr:bB (a4B kw andP aE l):=bB.exF hN _ _
theorem bB.sig:bB (a6v kw andP aE l):=by have:=bB.typ (kw:=kw) (andP:=andP) hN;have:=bB.pred hN;have:=bB.a5r (kw:=kw) (l:=l);have:=bB.vars (kw:=kw) (l:=l) false;unfold a6v a0W;exact NZ
theorem bB.defn:bB (a3L kw andP aE l):=by have:=bB.sig (kw:=kw) (andP:=andP) hN;have:=bB.expr (kw:=kw) (andP:=andP) hN;have:=bB.head (kw:=kw) (l:=l) 0;have:=bB.head (kw:=kw) (l:=l) 1;have:=bB.head (kw:=kw) (l:=l) 2;unfold a3L a6w;exact NZ
theorem bB.data:bB (a4D kw andP aE l):=by have:=bB.typ (kw:=kw) (andP:=andP) hN;have:=bB.vars (kw:=kw) (l:=l) false;unfold a4D b6c;exact NZ
theorem bB.cls:bB (a0X kw andP aE l):=by have:=bB.typ (kw:=kw) (andP:=andP) hN;unfold a0X;exact NZ
theorem bB.inst:bB (a6x kw andP aE l):=by have:=bB.defn (kw:=kw) (andP:=andP) hN;have:=bB.a3m (kw:=kw) (andP:=andP) hN (bB.typ (kw:=kw) (andP:=andP) hN);have:=bB.a5r (kw:=kw) (l:=l);unfold a6x;exact NZ
theorem bB.e1J:bB (a6y kw aE l):=by have:=bB.pred hN;have:=bB.words (kw:=kw) (l:=l);unfold a6y;exact NZ
theorem bB.e1K:bB (a6z kw aE l):=by have:=bB.pred hN;have:=bB.vars (kw:=kw) (l:=l) true;unfold a6z;exact NZ
theorem bB.decl(m:qT):bB (a1R kw andP aE l m):=by have:=bB.defn (kw:=kw) (andP:=andP) hN;have:=bB.data (kw:=kw) (andP:=andP) hN;have:=bB.cls (kw:=kw) (andP:=andP) hN;have:=bB.inst (kw:=kw) (andP:=andP) hN;have:=bB.e1J (kw:=kw) hN;have:=bB.e1K (kw:=kw) hN;unfold a1R;exact NZ
theorem bB.mod:bB (b6d kw andP aE l):=by unfold b6d;exact bB.many λm=>bB.yK (bB.decl hN m) λ_=>NZ
end
end
section
open Go Go.VM
variable {G:GT}
theorem a3H{α:Type}(hG:G 1=some eK)(hS:G 0=some zW)(C:α->List D)(a0:α){F:FuncId}(he:VM.Enters prog F)(x:List Tok->bE α)(s:List UInt8)(hs:s.length<=900000000)(hc:∀l:List Tok,pY G rdQ l->(∀i, -9223372036854775807<=(aG l i).n/\(aG l i).n<=9223372036854775807)->0<l.length->oZ G F [.ptr 100000 0,.ptr 100001 0] [(100001,.cells ((C a0).map .d))] [] l 0 (x l 0) (λ_=>.cI []) λa=>[(100001,.cells ((C a).map .d))])(ha:∀(l:List Tok) a j,oK l->a1S rdQ l->x l 0=.ok a j->j<l.length):
  match eI x s with
  | .ok a _=>CH prog G 32 ⟨[.d (.str s),.clo F [.ptr 100001 0]],[(100001,.cells ((C a0).map .d))],[]⟩ ⟨[.cI [.int .i64 0,.int .i64 0]],[(100001,.cells ((C a).map .d))],[]⟩
  | .bad n e=>CHd prog G 32 ⟨[.d (.str s),.clo F [.ptr 100001 0]],[(100001,.cells ((C a0).map .d))],[]⟩ (.cI [.int .i64 n,.int .i64 e]):=by
 have hlx:=b8O hS s hs;unfold eI;by_cases hl:40000<s.length
 .rw[if_pos hl]at hlx|-;exact b7S _ F s 0 7 (by decide) hlx
 .rw[if_neg hl]at hlx|-;cases hr:mH jC s 0 1 false with
  |error n=>rw[hr]at hlx;exact b7S _ F s n 14 (by decide) hlx
  |ok l=>
   rw[hr]at hlx;have hV:pY G rdQ l:=c0W hG hr (by omega);have hN:=c0X hr;have a1E:0<l.length:=List.length_pos_iff.2 hV.fin.1;have pM:=hc l hV hN a1E;simp only;cases hx:x l 0 with
   |bad n e=>rw[hx]at pM;exact d7D hV C a0 n e he hlx pM
   |ok a j=>
    rw[hx]at pM;have hj:=ha l a j hV.fin hV.kL hx;simp only;cases a2m:a3M l j with
    |bad n e=>exact d3x hV C a0 a j n e he hlx pM hj a2m
    |ok u k=>
     have hk:a3M l j=.ok () j:=by
      unfold a3M at a2m|-;split at a2m
      .rename_i h0;rw[if_pos h0]
      .unfold eH at a2m;cases a2m
     exact e2S hV C a0 a j he hlx pM hj hk
theorem b1K{α:Type}{x:List Tok->bE α}{s:List UInt8}(h:∀(l:List Tok) n e,oK l->a1S rdQ l->0<l.length->x l 0=.bad n e->e≠0){n e:Int}(hb:eI x s=.bad n e):e≠0:=by
 unfold eI at hb;split at hb
 .cases hb;decide
 .split at hb
  .cases hb;decide
  .rename_i l hl;have hE:=b4V (a0V s 0 1 false l hl);have a1E:0<l.length:=List.length_pos_iff.2 hE.1;have a0l:oK l:=by
    refine⟨hE.1,hE.2 _ ?_⟩;unfold aG;rw[if_pos (by omega),List.getD_eq_getElem?_getD,g1a (by omega)]
    rfl
   split at hb
   .rename_i n' e' hx;cases hb;exact h l _ _ a0l (λe i p j hi hx=>c3e hE.2 e i p j hi hx) a1E hx
   .rename_i a j hx;split at hb
    .rename_i n' e' he;cases hb;unfold a3M at he;split at he
     .cases he
     .unfold eH at he;cases he;decide
    .cases hb
theorem b7V(l:List Tok):∀i e,PzR (rdQ l i e):=λi e n x h=>by
 unfold rdQ at h;split at h
 .cases h;decide
 .split at h
  .cases h
  .rename_i hc;cases h;exact hc
theorem e8t(l:List Tok):∀i e n x,i<l.length->rdQ l i e=.bad n x->x≠0:=λi e n x _ h=>b7V l i e n x h
abbrev moN:List D:=[.aD,.aD,.aD,.aD,.aD,.aD]
def moC:Option qT->List D
 |none=>moN
 |some m=>a8y m
def a9X{α:Type}:kJ α->kJ (Option α)
 | .ok a j=>.ok (some a) j
 | .bad n e=>.bad n e
section
variable {aE:List Tok->Nat->Nat->kJ Pr} {l:List Tok} (hV:pY G aE l) (hN:∀i, -9223372036854775807<=(aG l i).n/\(aG l i).n<=9223372036854775807)
include hV hN
theorem b7W(i:Nat)(hi:i<l.length):oZ G 40 [.ptr 100000 0,.ptr 100001 0] [(100001,.cells ((moC none).map .d))] [] l i (a9X (b6d aJ aZ aE l i)) (λ_=>.cI []) λa=>[(100001,.cells ((moC a).map .d))]:=by
 have h:=b9l hV hN i hi;cases hr:b6d aJ aZ aE l i with
 |ok m j=>rw[hr]at h;intro base R μ args w mW;refine(h base R μ args w (mW.a1H ⟨by simp[moC],by simp[a0p,moC],by simp[moC],by simp[bH,moC,a0p,getKey]⟩)).mono ?_;rintro e w' ⟨v,R',μ',h1,h2,h3⟩;exact⟨v,R',μ',h1,h2.a1H ⟨by simp[moC,a8y],by simp[a0p,moC,a8y],by simp[moC,a8y],by simp[bH,moC,a8y]⟩,h3⟩
 |bad n e=>rw[hr]at h;intro base R μ args w mW;exact h base R μ args w (mW.a1H ⟨by simp[moC],by simp[a0p,moC],by simp[moC],by simp[bH,moC,a0p,getKey]⟩)
end
end
section
open Go Go.VM
variable {G:GT}
abbrev tkD(l:List Tok):D:=.sl (l.map bJ)
theorem eN:VM.Enters prog 219:=.mk func219 rfl
theorem rD(l:List Tok)(i:Nat)(s:List UInt8)(hl:l.length<=900000000):CS prog G 219 [tkD l,.int .i64 i,.str s] (.d (.bool (oM l i s))) none:=by
 refine CS.aX func219 rfl ntmps219 rfl ?_;by_cases aF:i<l.length
 .rw[a9J aF];obtain⟨t,ht⟩:∃t,l[i]=t:=⟨_,rfl⟩;rw[ht];simp[aF,ht,bJ];by_cases h1:t.kind=4
  .by_cases h2:t.text=s<;>simp[h1,h2,aF,ht,bJ]
  .simp[h1,aF,ht,bJ]
 .rw[c2F aF];simp[aF]
theorem a7g:VM.Enters prog 255:=.mk func255 rfl
theorem a9Y(l:List Tok)(i:Nat)(hl:l.length<=900000000):CS prog G 255 [tkD l,.int .i64 i] (.d (.bool (wtB l i))) none:=by
 refine CS.aX func255 rfl ntmps255 rfl ?_;by_cases aF:i<l.length
 .rw[c2H aF];obtain⟨t,ht⟩:∃t,l[i]=t:=⟨_,rfl⟩;rw[ht];simp[aF,ht,bJ];by_cases h1:t.kind=1
  .simp[h1,aF,ht,bJ]
  .by_cases h2:t.kind=2<;>simp[h1,h2,aF,ht,bJ]
 .rw[c2I aF];simp[aF]
def opX(l:List Tok)(n k:Nat):Option (Int×Bool):=if k=6 then a1Y l n else if k=2 then(if oM l n [61,62]=true then some (17,false) else none) else(b1r l n k).map λo=>(o,false)
def a4b:Option (Int×Bool)->DV
 |some (o,e)=>.cI [.int .i64 o,.bool e,.bool true]
 |none=>.cI [.int .i64 0,.bool false,.bool false]
theorem c3i(o):pK (a4b o)=true:=by
 cases o with
 |none=>rfl
 |some q=>obtain⟨a,b⟩:=q;rfl
theorem d7E{l:List Tok}{n k:Nat}(h:∀s,oM l n s=false):opX l n k=none:=by
 unfold opX a1Y b1r;simp only[h];split
 .rfl
 split
 .simp
 .simp
theorem jY{P:Program}{c:Operand}{x y:Code}{st:St}{Q:Exit->St->Prop}(hc:st.eval G c=.d (.bool false))(h:SW P G y st Q):SW P G (.cond c x y) st Q:=λbase R μ a w hr=>wp_cond (t:=false) (hr.a1z hc) (h base R μ a w hr)
def mT(t:Tok)(k v:Nat):St:=⟨List.set (([.undef,.undef,.d (.int .i64 k),.undef,.undef,.undef,.d (.int .i64 0),.d (.bool false),.d (.bool false),.d (.str t.text)]:List DV)++List.replicate 108 .undef) v (.d (.bool false)),[],[]⟩
theorem b4F:VM.Enters prog 221:=.mk func221 rfl
theorem b7X(l:List Tok)(n k:Nat)(hk:1<=k/\k<=10)(hl:l.length<=900000000):CS prog G 221 [tkD l,.int .i64 n,.int .i64 k] (a4b (opX l n k)) none:=by
 obtain⟨o,ho⟩:∃o,opX l n k=o:=⟨_,rfl⟩;rw[ho];refine CS.a4G func221 rfl ntmps221 rfl ?_;refine SW.jW (SW.vk ?_);simp;by_cases aF:n<l.length;rotate_left
 .rw[d7E λs=>c2F aF s]at ho;subst ho;have hge:l.length<=n:=Nat.le_of_not_lt aF;refine SW.jW (SW.vk ?_);simp[hge,a4b]
 have hge: ¬l.length<=n:=by omega
 obtain⟨t,ht⟩:∃t,l[n]=t:=⟨_,rfl⟩;by_cases h4:t.kind=4;rotate_left
 .rw[d7E λs=>by rw[a9J aF,ht];simp[h4]]at ho;subst ho;refine SW.jW (SW.vk ?_);simp[hge,aF,ht,bJ];simp[h4,a4b]
 have hs:∀s,oM l n s=decide (t.text=s):=λs=>by rw[a9J aF,ht];simp[h4]
 unfold opX a1Y b1r at ho;simp only[hs]at ho;refine mE ⟨[.d (tkD l),.d (.int .i64 n),.d (.int .i64 k),.undef,.undef,.undef,.d (.int .i64 0),.d (.bool false),.d (.bool false)]++List.replicate 109 .undef,[],[]⟩ (SW.vk ?_) ?_
 .simp[hge,aF,ht,bJ];simp[h4,List.replicate]
 refine SW.jW (SW.vk ?_);simp[aF,ht,bJ,List.replicate];refine SW.jW (SW.c8B ?_);by_cases q0:k=1/\t.text=[60,61,62]
 .obtain⟨rfl,e⟩:=q0;simp[opL,cmpL,e]at ho;subst ho;refine SW.vk ?_;simp[e,a4b,mT,List.replicate]
 refine mE (mT t k 27) (SW.vk ?_) (jY rfl ?_)
 .by_cases c:k=1
  .have e: ¬t.text=[60,61,62]:=λe=>q0 ⟨c,e⟩;subst c;simp[e,mT,List.replicate]
  .have c': ¬(k:Int)=1:=by omega
   simp[c',mT,List.replicate]
 by_cases q1:k=2/\t.text=[61,62]
 .obtain⟨rfl,e⟩:=q1;simp[opL,cmpL,e]at ho;subst ho;refine SW.vk ?_;simp[e,a4b,mT,List.replicate]
 refine mE (mT t k 34) (SW.vk ?_) (jY rfl ?_)
 .by_cases c:k=2
  .have e: ¬t.text=[61,62]:=λe=>q1 ⟨c,e⟩;subst c;simp[e,mT,List.replicate]
  .have c': ¬(k:Int)=2:=by omega
   simp[c',mT,List.replicate]
 by_cases q2:k=3/\t.text=[124,124]
 .obtain⟨rfl,e⟩:=q2;simp[opL,cmpL,e]at ho;subst ho;refine SW.vk ?_;simp[e,a4b,mT,List.replicate]
 refine mE (mT t k 41) (SW.vk ?_) (jY rfl ?_)
 .by_cases c:k=3
  .have e: ¬t.text=[124,124]:=λe=>q2 ⟨c,e⟩;subst c;simp[e,mT,List.replicate]
  .have c': ¬(k:Int)=3:=by omega
   simp[c',mT,List.replicate]
 by_cases q3:k=4/\t.text=[38,38]
 .obtain⟨rfl,e⟩:=q3;simp[opL,cmpL,e]at ho;subst ho;refine SW.vk ?_;simp[e,a4b,mT,List.replicate]
 refine mE (mT t k 48) (SW.vk ?_) (jY rfl ?_)
 .by_cases c:k=4
  .have e: ¬t.text=[38,38]:=λe=>q3 ⟨c,e⟩;subst c;simp[e,mT,List.replicate]
  .have c': ¬(k:Int)=4:=by omega
   simp[c',mT,List.replicate]
 by_cases q4:k=6/\t.text=[61]
 .obtain⟨rfl,e⟩:=q4;simp[opL,cmpL,e]at ho;subst ho;refine SW.vk ?_;simp[e,a4b,mT,List.replicate]
 refine mE (mT t k 55) (SW.vk ?_) (jY rfl ?_)
 .by_cases c:k=6
  .have e: ¬t.text=[61]:=λe=>q4 ⟨c,e⟩;subst c;simp[e,mT,List.replicate]
  .have c': ¬(k:Int)=6:=by omega
   simp[c',mT,List.replicate]
 by_cases q5:k=6/\t.text=[33,61]
 .obtain⟨rfl,e⟩:=q5;simp[opL,cmpL,e]at ho;subst ho;refine SW.vk ?_;simp[e,a4b,mT,List.replicate]
 refine mE (mT t k 62) (SW.vk ?_) (jY rfl ?_)
 .by_cases c:k=6
  .have e: ¬t.text=[33,61]:=λe=>q5 ⟨c,e⟩;subst c;simp[e,mT,List.replicate]
  .have c': ¬(k:Int)=6:=by omega
   simp[c',mT,List.replicate]
 by_cases q6:k=6/\t.text=[60]
 .obtain⟨rfl,e⟩:=q6;simp[opL,cmpL,e]at ho;subst ho;refine SW.vk ?_;simp[e,a4b,mT,List.replicate]
 refine mE (mT t k 69) (SW.vk ?_) (jY rfl ?_)
 .by_cases c:k=6
  .have e: ¬t.text=[60]:=λe=>q6 ⟨c,e⟩;subst c;simp[e,mT,List.replicate]
  .have c': ¬(k:Int)=6:=by omega
   simp[c',mT,List.replicate]
 by_cases q7:k=6/\t.text=[60,61]
 .obtain⟨rfl,e⟩:=q7;simp[opL,cmpL,e]at ho;subst ho;refine SW.vk ?_;simp[e,a4b,mT,List.replicate]
 refine mE (mT t k 76) (SW.vk ?_) (jY rfl ?_)
 .by_cases c:k=6
  .have e: ¬t.text=[60,61]:=λe=>q7 ⟨c,e⟩;subst c;simp[e,mT,List.replicate]
  .have c': ¬(k:Int)=6:=by omega
   simp[c',mT,List.replicate]
 by_cases q8:k=6/\t.text=[62]
 .obtain⟨rfl,e⟩:=q8;simp[opL,cmpL,e]at ho;subst ho;refine SW.vk ?_;simp[e,a4b,mT,List.replicate]
 refine mE (mT t k 83) (SW.vk ?_) (jY rfl ?_)
 .by_cases c:k=6
  .have e: ¬t.text=[62]:=λe=>q8 ⟨c,e⟩;subst c;simp[e,mT,List.replicate]
  .have c': ¬(k:Int)=6:=by omega
   simp[c',mT,List.replicate]
 by_cases q9:k=6/\t.text=[62,61]
 .obtain⟨rfl,e⟩:=q9;simp[opL,cmpL,e]at ho;subst ho;refine SW.vk ?_;simp[e,a4b,mT,List.replicate]
 refine mE (mT t k 90) (SW.vk ?_) (jY rfl ?_)
 .by_cases c:k=6
  .have e: ¬t.text=[62,61]:=λe=>q9 ⟨c,e⟩;subst c;simp[e,mT,List.replicate]
  .have c': ¬(k:Int)=6:=by omega
   simp[c',mT,List.replicate]
 by_cases q10:k=7/\t.text=[43]
 .obtain⟨rfl,e⟩:=q10;simp[opL,cmpL,e]at ho;subst ho;refine SW.vk ?_;simp[e,a4b,mT,List.replicate]
 refine mE (mT t k 97) (SW.vk ?_) (jY rfl ?_)
 .by_cases c:k=7
  .have e: ¬t.text=[43]:=λe=>q10 ⟨c,e⟩;subst c;simp[e,mT,List.replicate]
  .have c': ¬(k:Int)=7:=by omega
   simp[c',mT,List.replicate]
 by_cases q11:k=7/\t.text=[45]
 .obtain⟨rfl,e⟩:=q11;simp[opL,cmpL,e]at ho;subst ho;refine SW.vk ?_;simp[e,a4b,mT,List.replicate]
 refine mE (mT t k 104) (SW.vk ?_) (jY rfl ?_)
 .by_cases c:k=7
  .have e: ¬t.text=[45]:=λe=>q11 ⟨c,e⟩;subst c;simp[e,mT,List.replicate]
  .have c': ¬(k:Int)=7:=by omega
   simp[c',mT,List.replicate]
 by_cases q12:k=8/\t.text=[42]
 .obtain⟨rfl,e⟩:=q12;simp[opL,cmpL,e]at ho;subst ho;refine SW.vk ?_;simp[e,a4b,mT,List.replicate]
 refine mE (mT t k 111) (SW.vk ?_) (jY rfl ?_)
 .by_cases c:k=8
  .have e: ¬t.text=[42]:=λe=>q12 ⟨c,e⟩;subst c;simp[e,mT,List.replicate]
  .have c': ¬(k:Int)=8:=by omega
   simp[c',mT,List.replicate]
 have tS:o=none:=by
  rw[<-ho]
  clear ho hs h4 ht hge aF hl o
  obtain rfl|rfl|rfl|rfl|rfl|rfl|rfl|rfl|rfl|rfl:k=1\/k=2\/k=3\/k=4\/k=5\/k=6\/k=7\/k=8\/k=9\/k=10:=by omega
  all_goals
   simp at q0 q1 q2 q3 q4 q5 q6 q7 q8 q9 q10 q11 q12;simp[opL,cmpL, *]
 subst tS;refine SW.vk ?_;simp[mT,List.replicate];refine SW.vk ?_;simp[a4b]
end
section
open Go Go.VM
variable {G:GT}
theorem d1d{P:Program}{x y:Code}{st:St}{Q:Exit->St->Prop}(A:Prop)(st':St)(h1:SW P G x st λe s=>match e with
  | .normal=>A/\wI s st'
  |e=>Q e s)(h2:A->SW P G y st' Q):SW P G (.seq x y) st Q:=SW.jW λbase R μ a w hr=>
 wp_mono (h1 base R μ a w hr) λe a1 w1 ⟨s,R1,μ1,q1,q2,q3⟩=>by
  cases e with
  |normal=>exact⟨s,R1,μ1,λbase R μ a w hr=>h2 q1.1 base R μ a w (hr.a1H q1.2),q2,q3⟩
  |_=>exact⟨s,R1,μ1,q1,q2,q3⟩
def b7Y:Option (List UInt8×Nat)->Nat->DV
 |some (s,n),_=>.cI [.str s,.int .i64 n,.bool true]
 |none,j=>.cI [.str [],.int .i64 j,.bool false]
theorem b1L(o)(j):pK (b7Y o j)=true:=by
 cases o with
 |none=>rfl
 |some q=>obtain⟨a,b⟩:=q;rfl
def sM:Option (Pr×Nat)->Nat->DV
 |some (p,n),_=>.cI [.agg (prD p),.int .i64 n,.bool true]
 |none,j=>.cI [.agg (prD ⟨0,[],0,[]⟩),.int .i64 j,.bool false]
theorem mL(o)(j):pK (sM o j)=true:=by
 cases o with
 |none=>rfl
 |some q=>obtain⟨a,b⟩:=q;rfl
def a8O:Option (List Pr×Nat)->Nat->DV
 |some (ks,n),_=>.cI [.sl (ks.map rW),.int .i64 n,.bool true]
 |none,j=>.cI [.sl [],.int .i64 j,.bool false]
theorem a8P(o)(j):pK (a8O o j)=true:=by
 cases o with
 |none=>rfl
 |some q=>obtain⟨a,b⟩:=q;rfl
theorem b3V:VM.Enters prog 242:=.mk func242 rfl
theorem b7Z(l:List Tok)(i:Nat)(hl:zO l)(hi:i<=l.length):CS prog G 242 [tkD l,.int .i64 i] (b7Y (vF aJ l i) i) none:=by
 have hll:=hl.1;obtain⟨o,ho⟩:∃o,vF aJ l i=o:=⟨_,rfl⟩;rw[ho];unfold vF at ho;have hwd:=a9Y (G:=G) l i (by omega);refine CS.a4G func242 rfl ntmps242 rfl ?_;refine SW.jW (SW.vk ?_);simp;refine d1d (b7d aJ l i=true) ⟨[.d (tkD l),.d (.int .i64 i),.undef,.undef,.d (.str []),.d (.int .i64 0),.d (.bool false)]++List.replicate 133 .undef,[],[]⟩ (SW.vk ?_) (λoI=>?_)
 .simp;refine aC.mk a7g hwd ?_;cases hw:wtB l i with
  |false=>rw[if_neg (by simp[b7d,hw])]at ho;subst ho;simp[b7Y]
  |true=>
   have aF:=a3r hw;obtain⟨t,ht⟩:∃t,l[i]=t:=⟨_,rfl⟩;have hnm:b7d aJ l i=(!aJ t.text||decide (t.text=[118])||decide (t.text=[116,97,103])||decide (t.text=[118,97,108])):=by unfold b7d;rw[hw,a6W aF,ht,Bool.true_and]
   rw[hnm]at ho|-;simp[aF,ht,bJ];refine aC.mk a1M (a3g t.text) ?_;by_cases q1:aJ t.text=true
   .by_cases q2:t.text=[118]
    .rw[q2]at q1;simp[q1,q2,aF,ht,bJ,List.replicate]
    .by_cases q3:t.text=[116,97,103]
     .rw[q3]at q1;simp[q1,q3,aF,ht,bJ,List.replicate]
     .by_cases q4:t.text=[118,97,108]
      .rw[q4]at q1;simp[q1,q4,aF,ht,bJ,List.replicate]
      .rw[if_neg (by simp[q1,q2,q3,q4])]at ho;subst ho;simp[q1,q2,q3,q4,aF,ht,bJ,b7Y]
   .simp[q1,aF,ht,bJ,List.replicate]
 .rw[if_pos oI]at ho;have aF:i<l.length:=by unfold b7d at oI;rw[g0W]at oI;exact a3r oI.1
  rw[a6W aF]at ho;obtain⟨t,ht⟩:∃t,l[i]=t:=⟨_,rfl⟩;rw[ht]at ho;obtain⟨rs,rn,hrr⟩:∃rs rn,qY l l.length (i+1) t.text=(rs,rn):=⟨_,_,rfl⟩;rw[hrr]at ho;subst ho;have hw1:=bA (show i<9223372036854775807 by omega);refine SW.vk ?_;simp[hw1,aF,ht,bJ,List.replicate];refine SW.eX (ι:={p:Nat×List UInt8//p.1<=l.length/\p.2.length<=txS (l.take p.1)/\∃f,l.length<=f+p.1/\qY l f p.1 p.2=(rs,rn)}) (λp=>[(1,.d (.int .i64 p.1.1)),(7,.d (.str p.1.2))]) (λ_=>[]) (λ_=>[]) (λp=>l.length-p.1.1) ⟨(i+1,t.text),aF,by have:=a6X aF;rw[ht]at this;simp only;omega,l.length,by omega,hrr⟩ (by simp) ?_;rintro⟨⟨j,s⟩,hj,hs,f,hf,hp⟩;simp only at hj hs hf hp;have hsg:=rD (G:=G) l j [46] (by omega);have sL:=bA (show j<9223372036854775807 by omega);have tY:IntKind.i64.wrap ((j:Int)+2)=((j+2:Nat):Int):=by rw[wrap64 (by omega)];simp
  have hj3:IntKind.i64.wrap ((j:Int)+3)=((j+3:Nat):Int):=by rw[wrap64 (by omega)];simp
  have hw1:=a9Y (G:=G) l (j+1) (by omega);have hw2:=a9Y (G:=G) l (j+2) (by omega);simp;refine aC.mk eN hsg ?_;cases hd:oM l j [46]with
  |false=>rw[b7l hd]at hp;cases hp;simp[b7Y]
  |true=>
   have hjl:=mD hd;obtain⟨f,rfl⟩:∃g,f=g+1:=⟨f-1,by omega⟩;rw[qY,if_pos hd]at hp;simp[sL];refine aC.mk a7g hw1 ?_;cases hwt:wtB l (j+1)with
   |true=>
    have uE:=a3r hwt;rw[if_pos hwt]at hp;obtain⟨u,hu⟩:∃u,l[j+1]=u:=⟨_,rfl⟩;have hgr:=a9M hs uE;rw[a6W uE,hu]at hp;rw[hu]at hgr;have hb:=hl.le hgr;simp at hb;simp[sL,uE,hu,bJ]
    repeat (refine cK (by first|omega|(simp;omega)) ?_;simp[sL,tY,uE,hu,bJ])
    exact bC.mk ⟨(j+2,s++([46]++u.text)),uE,hgr,f,by omega,by simpa using hp⟩ (by simp[tY]) (by simp;omega)
   |false=>
    rw[if_neg (by simp[hwt])]at hp;simp[sL];by_cases uE:j+1<l.length;rotate_left
    .rw[if_neg (by rw[c9e uE];simp)]at hp;have f2h: ¬(j:Int)+1<(l.length:Int):=by omega
     cases hp;simp[sL,uE,f2h,b7Y]
    obtain⟨u,hu⟩:∃u,l[j+1]=u:=⟨_,rfl⟩;have hgr:=a9M hs uE;rw[a9K uE,a6W uE,hu]at hp;rw[hu]at hgr;have hb:=hl.le hgr;simp at hb;simp[sL,uE,hu,bJ];by_cases k3:u.kind=3;rotate_left
    .simp[k3]at hp;obtain⟨rfl,rfl⟩:=hp;simp[k3,sL,uE,hu,bJ,b7Y]
    simp[k3]at hp;simp[k3,sL,tY,uE,hu,bJ];refine aC.mk a7g hw2 ?_;cases e8u:wtB l (j+2)with
    |false=>
     rw[if_neg (by simp[e8u])]at hp;simp[k3,sL,tY,uE,hu,bJ]
     repeat (refine cK (by first|omega|(simp;omega)) ?_;simp[sL,tY,uE,hu,bJ])
     exact bC.mk ⟨(j+2,s++([46]++u.text)),uE,hgr,f,by omega,by simpa using hp⟩ (by simp[tY]) (by simp;omega)
    |true=>
     rw[if_pos e8u]at hp;have a5A:=a3r e8u;obtain⟨v,hv⟩:∃v,l[j+2]=v:=⟨_,rfl⟩;have c6m:=b3P hgr a5A;rw[hv]at c6m;rw[a6W a5A,hv]at hp;have hb3:=hl.le c6m;simp at hb3;have b1w:(j:Int)+2<(l.length:Int):=by omega
     have hnn:(0:Int)<=(j:Int)+2:=by omega
     have htn:((j:Int)+2).toNat=j+2:=by omega
     try simp
     refine⟨kV.mk (by kernel_rfl),?_⟩
     try simp[sL,tY,hj3,uE,a5A,hu,hv,bJ,b1w,hnn,htn]
     repeat (refine cK (by first|omega|(simp;omega)) ?_;simp[sL,tY,hj3,uE,a5A,hu,hv,bJ,b1w,hnn,htn])
     exact bC.mk ⟨(j+3,s++([46]++u.text)++v.text),a5A,c6m,f,by omega,by simpa using hp⟩ (by simp[hj3]) (by simp;omega)
def d3z(G:GT)(l:List Tok)(f:Nat):Prop:=∀i k,1<=k->k<=10->i<=l.length->mu l.length i k<=f->CS prog G 200 [tkD l,.int .i64 i,.int .i64 k] (sM (gJ aJ l f i k) i) none
section
variable {l:List Tok} {f:Nat}
theorem uG:VM.Enters prog 200:=.mk func200 rfl
theorem a4c:VM.Enters prog 243:=.mk func243 rfl
theorem a5x(hl:zO l)(hA:d3z G l f)(n:Nat)(hf:(l.length-n)*12+10<=f):∃j,CS prog G 243 [tkD l,.int .i64 n] (a8O (tK (gJ aJ l f) l n) j) none:=by
 have hll:=hl.1;obtain⟨o,ho⟩:∃o,tK (gJ aJ l f) l n=o:=⟨_,rfl⟩;rw[ho];unfold tK at ho;have hsg:=rD (G:=G) l n [40] (by omega);cases hd:oM l n [40]with
 |false=>rw[if_neg (by simp[hd])]at ho;subst ho;refine⟨n,?_⟩;rw[hd]at hsg;refine CS.aX func243 rfl ntmps243 rfl ?_;simp;refine aC.mk eN hsg ?_;simp[a8O]
 |true=>
  have hnl:=mD hd;rw[if_pos hd]at ho;rw[hd]at hsg;obtain⟨jj,hjj⟩:∃jj:Nat->Nat->List Pr->Nat,∀g i acc,jj (g+1) i acc=(match gJ aJ l f (i+1) 1 with
   |none=>i
   |some (p,m)=>if oM l m [41]=true then i else if oM l m [44]=true then jj g m (acc++[p]) else i):=
   ⟨λg=>Nat.rec (motive:=λ_=>Nat->List Pr->Nat) (λ_ _=>0) (λg ih i acc=>match gJ aJ l f (i+1) 1 with
   |none=>i
   |some (p,m)=>if oM l m [41]=true then i else if oM l m [44]=true then ih m (acc++[p]) else i) g,λg i acc=>rfl⟩
  obtain⟨z,hz⟩:∃z,jj l.length n []=z:=⟨_,rfl⟩;refine⟨z,?_⟩;refine CS.aX func243 rfl ntmps243 rfl ?_;simp;refine aC.mk eN hsg ?_;simp;refine SW.eX (ι:={p:Nat×List Pr//p.1<l.length/\(l.length-p.1)*12+10<=f/\p.2.length<=p.1/\∃g,l.length<=g+p.1/\mZ (gJ aJ l f) l g p.1 p.2=o/\jj g p.1 p.2=z}) (λp=>[(1,.d (.int .i64 p.1.1)),(7,.d (.sl (p.1.2.map rW)))]) (λ_=>[]) (λ_=>[(43,[.t 7])]) (λp=>l.length-p.1.1) ⟨(n,[]),hnl,hf,by simp,l.length,by omega,ho,hz⟩ (by simp) ?_;rintro⟨⟨i,acc⟩,hi,hf,hal,g,hg,hR,hz⟩;simp only at hi hf hal hg hR hz;have hi1:=bA (show i<9223372036854775807 by omega);obtain⟨g,rfl⟩:∃h,g=h+1:=⟨g-1,by omega⟩;rw[mZ]at hR;rw[hjj]at hz;have hat:=hA (i+1) 1 (by omega) (by omega) hi (by rw[d6Q hi];exact hf);simp[hi1];refine aC.mk (hkl:=mL _ _) uG hat ?_;cases hr:gJ aJ l f (i+1) 1 with
  |none=>rw[hr]at hR hz;simp only at hR hz;subst hR hz;simp[sM,a8O]
  |some q=>
   obtain⟨p,m⟩:=q;have uV:=kQ aJ l f _ _ _ _ hr;rw[hr]at hR hz;simp only at hR hz;have hm1:=bA (show m<9223372036854775807 by omega);have hs1:=rD (G:=G) l m [41] (by omega);have hs2:=rD (G:=G) l m [44] (by omega);have f1L:=c6n acc;have hap:acc.map rW++[prD p]=(acc++[p]).map rW:=by simp[dE]
   simp[sM,rg1];have jZ:(acc.length+1)*57<=140737488355328:=by omega
   simp[jZ];refine aC.mk eN hs1 ?_;cases hd1:oM l m [41]with
   |true=>rw[if_pos hd1]at hR;subst hR;simp[hm1,a8O,dE]
   |false=>
    rw[if_neg (by simp[hd1])]at hR hz;simp;refine aC.mk eN hs2 ?_;cases hd2:oM l m [44]with
    |false=>rw[if_neg (by simp[hd2])]at hR hz;subst hR hz;simp[a8O]
    |true=>
     rw[if_pos hd2]at hR hz;have hml:=mD hd2;have hmu:(l.length-m)*12+10<=f:=by omega
     have hac:(acc++[p]).length<=m:=by simp;omega
     simp;exact bC.mk ⟨(m,acc++[p]),hml,hmu,hac,g,by omega,hR,hz⟩ (by simp[dE]) (by simp;omega)
theorem b1M:VM.Enters prog 220:=.mk func220 rfl
theorem b3W(hl:zO l)(hA:d3z G l f)(i k:Nat)(op:Int)(hk:1<=k/\k<=10)(hi:i+1<=l.length)(hf:mu l.length (i+1) k<=f):CS prog G 220 [tkD l,.int .i64 i,.int .i64 k,.int .i64 op] (sM ((gJ aJ l f (i+1) k).map λq=>((⟨op,[],0,[q.1]⟩:Pr),q.2)) i) none:=by
 have hll:=hl.1;have hi1:=bA (show i<9223372036854775807 by omega);have hat:=hA (i+1) k hk.1 hk.2 hi hf;refine CS.aX func220 rfl ntmps220 rfl ?_;simp[hi1];refine aC.mk (hkl:=mL _ _) uG hat ?_;cases gJ aJ l f (i+1) k with
 |none=>simp[sM]
 |some q=>obtain⟨p,n⟩:=q;simp[sM,rg1,dE]
end
end
section
open Go Go.VM
variable {G:GT}
def aSt(l:List Tok)(i:Nat)(t:Tok)(v:Nat):St:=⟨List.set (([.d (tkD l),.d (.int .i64 i),.undef,.undef,.ptr 4 0,.d (.int .i64 0),.d (.bool false),.ptr 7 0]:List DV)++List.replicate 182 .undef) v (.d (.bool false)),[(4,.cells [.d (.int .i64 0),.d (.str []),.d (.int .i64 0),.d .aD]),(7,.cells [.d (.int .i64 t.kind),.d (.str t.text),.d (.int .i64 t.n),.d (.int .i64 t.line)])],[]⟩
theorem c6S:VM.Enters prog 218:=.mk func218 rfl
section
variable {l:List Tok} {f:Nat}
theorem c9x(hl:zO l)(hA:d3z G l f)(i:Nat)(hi:i<=l.length)(hf:mu l.length i 10<=f+1):CS prog G 218 [tkD l,.int .i64 i] (sM (yC aJ (gJ aJ l f) l i) i) none:=by
 have hll:=hl.1;obtain⟨o,ho⟩:∃o,yC aJ (gJ aJ l f) l i=o:=⟨_,rfl⟩;rw[ho];unfold yC at ho;refine CS.a4G func218 rfl ntmps218 rfl ?_;refine SW.jW (SW.vk ?_);simp;refine SW.jW (SW.vk ?_);simp;by_cases aF:i<l.length;rotate_left
 .rw[List.getElem?_eq_none (by omega)]at ho;subst ho;have hge:l.length<=i:=Nat.le_of_not_lt aF;simp[hge,sM]
 have hge: ¬l.length<=i:=by omega
 rw[g1a aF]at ho;obtain⟨t,ht⟩:∃t,l[i]=t:=⟨_,rfl⟩;rw[ht]at ho;simp only at ho;have hi1:=bA (show i<9223372036854775807 by omega);have hi2:IntKind.i64.wrap ((i:Int)+2)=((i+2:Nat):Int):=by rw[wrap64 (by omega)];simp
 have hi3:IntKind.i64.wrap ((i:Int)+3)=((i+3:Nat):Int):=by rw[wrap64 (by omega)];simp
 have hi4:IntKind.i64.wrap ((i:Int)+4)=((i+4:Nat):Int):=by rw[wrap64 (by omega)];simp
 simp[hge];refine SW.jW (SW.vk ?_);simp[aF,ht,bJ];refine d1d (a9N (gJ aJ l f) l i=o) (aSt l i t 133) (SW.c8B ?_) (λho=>?_)
 .by_cases k3:t.kind=3
  .rw[if_pos k3]at ho;subst ho;refine SW.vk ?_;simp[k3,hi1,sM]
  rw[if_neg k3]at ho;refine mE (aSt l i t 33) (SW.vk ?_) (jY rfl ?_)
  .simp[k3,aSt,List.replicate]
  by_cases kt:t.kind=1/\t.text=[116,114,117,101]
  .rw[if_pos kt]at ho;subst ho;refine SW.vk ?_;simp[kt.1,kt.2,hi1,sM,aSt,List.replicate]
  rw[if_neg kt]at ho;refine mE (aSt l i t 42) (SW.vk ?_) (jY rfl ?_)
  .by_cases k1:t.kind=1
   .have e: ¬t.text=[116,114,117,101]:=λe=>kt ⟨k1,e⟩;simp[k1,e,aSt,List.replicate]
   .simp[k1,aSt,List.replicate]
  by_cases kf:t.kind=1/\t.text=[102,97,108,115,101]
  .rw[if_pos kf]at ho;subst ho;refine SW.vk ?_;simp[kf.1,kf.2,hi1,sM,aSt,List.replicate]
  rw[if_neg kf]at ho;refine mE (aSt l i t 54) (SW.vk ?_) (jY rfl ?_)
  .by_cases k1:t.kind=1
   .have e: ¬t.text=[102,97,108,115,101]:=λe=>kf ⟨k1,e⟩;simp[k1,e,aSt,List.replicate]
   .simp[k1,aSt,List.replicate]
  have hsq:=rD (G:=G) l i [63] (by omega);have hsp:=rD (G:=G) l i [40] (by omega);have hsm:=rD (G:=G) l (i+1) [45] (by omega);have hsc:=rD (G:=G) l (i+3) [41] (by omega);cases hp:oM l i [40]with
  |false=>
   rw[hp]at hsp;refine mE (aSt l i t 66) (SW.vk ?_) (jY rfl ?_)
   .simp[aSt,List.replicate];refine aC.mk eN hsp ?_;simp
   refine mE (aSt l i t 108) (SW.vk ?_) (jY rfl ?_)
   .simp[aSt,List.replicate];refine aC.mk eN hsp ?_;simp
   cases hq:oM l i [63]with
   |false=>
    rw[hq]at hsq;refine mE (aSt l i t 133) (SW.vk ?_) (jY rfl ?_)
    .simp[aSt,List.replicate];refine aC.mk eN hsq ?_;simp
    have hP:a9N (gJ aJ l f) l i=o:=by rw[if_neg (by simp[hq]),if_neg (by simp[hp])]at ho;exact ho
    refine SW.vk ?_;simp[aSt,List.replicate,hP]
   |true=>
    rw[if_pos hq]at ho;rw[hq]at hsq;have hnm:=b7Z (G:=G) l (i+1) hl aF;refine SW.vk ?_;simp[aSt,List.replicate];refine aC.mk eN hsq ?_;simp[hi1];refine aC.mk (hkl:=b1L _ _) b3V hnm ?_;cases hn:vF aJ l (i+1)with
    |none=>rw[hn]at ho;subst ho;simp[b7Y,sM]
    |some q=>
     obtain⟨s,n⟩:=q;have uV:=qZ hn;rw[hn]at ho;simp only at ho;obtain⟨j,hli⟩:=a5x (G:=G) hl hA n (a7X hf (by omega) uV.2);simp[b7Y];refine aC.mk (hkl:=a8P _ _) a4c hli ?_;cases hL:tK (gJ aJ l f) l n with
     |none=>rw[hL]at ho;subst ho;simp[a8O,sM]
     |some z=>obtain⟨ks,m⟩:=z;rw[hL]at ho;subst ho;simp[a8O,sM]
  |true=>
   have hq:oM l i [63]=false:=by rw[a9J aF,ht]at hp|-;simp only[g0W,decide_eq_true_eq]at hp;simp[hp.2]
   rw[if_neg (by simp[hq]),if_pos hp]at ho;rw[hp]at hsp;by_cases a4z:oM l (i+1) [45]=true/\kdB l (i+2) 3=true/\oM l (i+3) [41]=true
   .rw[if_pos a4z]at ho;subst ho;obtain⟨n1,n2,n3⟩:=a4z;have h2:=b7e n2;rw[a9K h2]at n2;rw[d6K h2];obtain⟨u,hu⟩:∃u,l[i+2]=u:=⟨_,rfl⟩;rw[hu]at n2|-;have ku:u.kind=3:=of_decide_eq_true n2;rw[n1]at hsm;rw[n3]at hsc;have h2':(i:Int)+2<(l.length:Int):=by omega
    have hnn:(0:Int)<=(i:Int)+2:=by omega
    have htn:((i:Int)+2).toNat=i+2:=by omega
    refine SW.vk ?_;simp[aSt,List.replicate];refine aC.mk eN hsp ?_;simp[hi1];refine aC.mk eN hsm ?_;simp[hi2,h2,h2',hnn,htn,hu,ku,bJ,hi3];refine aC.mk eN hsc ?_;simp[hi2,h2,h2',hnn,htn,hu,ku,bJ,hi4,sM]
   .rw[if_neg a4z]at ho;have hat:=hA (i+1) 1 (by omega) (by omega) aF (by have:=tL (L:=l.length) (i:=i) (i':=i+1) (k:=10) (k':=1) (by omega) aF (by omega) (by omega);omega)
    refine mE (aSt l i t 66) (SW.vk ?_) (jY rfl ?_)
    .simp[aSt,List.replicate];refine aC.mk eN hsp ?_;simp[hi1];refine aC.mk eN hsm ?_;cases n1:oM l (i+1) [45]with
     |false=>simp
     |true=>
      have hnn:(0:Int)<=(i:Int)+2:=by omega
      have htn:((i:Int)+2).toNat=i+2:=by omega
      by_cases h2:i+2<l.length;rotate_left
      .have h2': ¬(i:Int)+2<(l.length:Int):=by omega
       simp[hi2,h2']
      have h2':(i:Int)+2<(l.length:Int):=by omega
      obtain⟨u,hu⟩:∃u,l[i+2]=u:=⟨_,rfl⟩;by_cases ku:u.kind=3;rotate_left
      .simp[hi2,h2,h2',hnn,htn,hu,ku,bJ]
      have n3:oM l (i+3) [41]=false:=by
       cases n3:oM l (i+3) [41]with
       |false=>rfl
       |true=>exact absurd ⟨n1,by rw[a9K h2,hu];simp[ku],n3⟩ a4z
      rw[n3]at hsc;simp[hi2,h2,h2',hnn,htn,hu,ku,bJ,hi3];refine aC.mk eN hsc ?_;simp
    refine SW.vk ?_;simp[aSt,List.replicate];refine aC.mk eN hsp ?_;simp[hi1];refine aC.mk (hkl:=mL _ _) uG hat ?_;cases hr:gJ aJ l f (i+1) 1 with
    |none=>rw[hr]at ho;subst ho;simp[sM]
    |some q=>
     obtain⟨p,n⟩:=q;have uV:=kQ aJ l f _ _ _ _ hr;have rI:=rD (G:=G) l n [41] (by omega);rw[hr]at ho;simp only at ho;simp[sM];refine aC.mk eN rI ?_;cases hc:oM l n [41]with
     |false=>rw[if_neg (by simp[hc])]at ho;subst ho;simp[sM]
     |true=>rw[if_pos hc]at ho;subst ho;have hn1:=bA (show n<9223372036854775807 by omega);simp[hn1,sM]
 .clear ht hi2 hi3 hi4
  unfold a9N at ho;have hnm:=b7Z (G:=G) l i hl hi;refine SW.vk ?_;simp[aSt,List.replicate];refine aC.mk (hkl:=b1L _ _) b3V hnm ?_;cases hn:vF aJ l i with
  |none=>rw[hn]at ho;subst ho;simp[b7Y,sM]
  |some q=>
   obtain⟨s,n⟩:=q;have uV:=qZ hn;rw[hn]at ho;simp only at ho;obtain⟨j,hli⟩:=a5x (G:=G) hl hA n (a7X hf uV.1 uV.2);simp[b7Y];refine aC.mk (hkl:=a8P _ _) a4c hli ?_;cases hL:tK (gJ aJ l f) l n with
   |none=>rw[hL]at ho;subst ho;simp[a8O,sM]
   |some z=>obtain⟨ks,m⟩:=z;rw[hL]at ho;subst ho;simp[a8O,sM]
end
end
section
open Go Go.VM
variable {G:GT}
theorem uY:VM.Enters prog 175:=.mk func175 rfl
theorem a7h:VM.Enters prog 176:=.mk func176 rfl
theorem a5c:VM.Enters prog 178:=.mk func178 rfl
theorem a8Q:VM.Enters prog 177:=.mk func177 rfl
theorem xA(c:UInt8):CS prog G 175 [.int .u8 c.toNat] (.d (.bool (smU c))) none:=by refine CS.aX func175 rfl ntmps175 rfl ?_;rw[<-d6f];by_cases h:(97:Int)<=c.toNat<;>simp[h,smI]
theorem a8R(c:UInt8):CS prog G 176 [.int .u8 c.toNat] (.d (.bool (caU c))) none:=by refine CS.aX func176 rfl ntmps176 rfl ?_;rw[<-d6g];by_cases h:(65:Int)<=c.toNat<;>simp[h,caI]
theorem a7i(c:UInt8):CS prog G 178 [.int .u8 c.toNat] (.d (.bool (dgU c))) none:=by refine CS.aX func178 rfl ntmps178 rfl ?_;rw[<-d0E];by_cases h:(48:Int)<=c.toNat<;>simp[h,dgI]
theorem b1N(c:UInt8):CS prog G 177 [.int .u8 c.toNat] (.d (.bool (inU c))) none:=by
 refine CS.aX func177 rfl ntmps177 rfl ?_;simp;refine aC.mk uY (xA c) ?_;by_cases h1:smU c=true
 .simp[h1,inU]
 .simp[h1];refine aC.mk a7h (a8R c) ?_;by_cases h2:caU c=true
  .simp[h2,inU]
  .simp[h2];refine aC.mk a5c (a7i c) ?_;by_cases h3:dgU c=true
   .simp[h3,inU]
   .by_cases h4:c.toNat=95
    .have h5:(c.toNat:Int)=95:=by omega
     simp[h1,h2,h3,inU,h4]
    .have h5: ¬(c.toNat:Int)=95:=by omega
     simp[h1,h2,h3,inU,h4]
theorem c6T{s:List UInt8}:∀ {i:Nat},i<=s.length->jE (s.take i)<=jE s:=λ{i} hi=>by
 have h:∀(l:List UInt8) (a b:Nat),a<=b->a<=b8E b l:=by
  intro l
  induction l with
  |nil=>intro a b h;exact h
  |cons c r ih=>intro a b h;exact ih a (10*b+(c.toNat-48)) (by omega)
 have e:jE s=b8E (jE (s.take i)) (s.drop i):=by
  conv=>lhs;rw[<-List.take_append_drop i s]
  unfold jE b8E;rw[List.foldl_append]
 rw[e];exact h _ _ _ (g1m _)
theorem b1O:VM.Enters prog 179:=.mk func179 rfl
theorem b3X(s:List UInt8)(hs:∀c∈s,xP c=true)(hl:s.length<=900000000):CS prog G 179 [.str s] (.cI [.int .i64 (jC s).1,.bool (jC s).2]) none:=by
 refine CS.aX func179 rfl ntmps179 rfl ?_;simp;refine SW.eX (ι:={i:Nat//i<=s.length/\jE (s.take i)<=1000000000000}) (λi=>[(4,.d (.int .i64 (jE (s.take i.1):Nat))),(5,.d (.int .i64 i.1))]) (λ_=>[]) (λ_=>[]) (λi=>s.length-i.1) ⟨0,by simp[a3I]⟩ (by simp[a3I]) ?_;rintro⟨i,hi,hv⟩
 try simp only at hi hv
 by_cases aF:i<s.length
 .have hw:=bA (show i<9223372036854775807 by omega);have hd:=hs _ (List.getElem_mem aF);have hdd:=vO.1 hd;have hu:=d0v hd;have mU:=yW aF;have hw1:IntKind.i64.wrap (10*((jE (s.take i):Nat):Int))=10*((jE (s.take i):Nat):Int):=wrap64 (by omega);have hw2:IntKind.i64.wrap (10*((jE (s.take i):Nat):Int)+((s[i].toNat-48:Nat):Int))=((jE (s.take (i+1)):Nat):Int):=by rw[mU,wrap64 (by omega)];omega
  by_cases f3Q:1000000000000<jE (s.take (i+1))
  .have h1: ¬jE s<=1000000000000:=by have:=c6T (s:=s) (i:=i+1) aF;omega
   have h2:(1000000000000:Int)<(jE (s.take (i+1)):Nat):=by omega
   simp[aF,hw1,hu,hw2,h2,jC,h1]
  .have h2: ¬(1000000000000:Int)<(jE (s.take (i+1)):Nat):=by omega
   simp[aF,hw1,hu,hw2,h2];exact bC.mk ⟨i+1,aF,by omega⟩ (by simp[hw]) (by simp;omega)
 .have:i=s.length:=by omega
  subst this;rw[List.take_length]at hv;simp[jC,hv]
theorem c3j:VM.Enters prog 192:=.mk func192 rfl
theorem c6U:CS prog G 192 [] (.d (.sl (cU.map λt=>[D.str t]))) none:=by refine CS.aX func192 rfl ntmps192 rfl ?_;have h31:List.range 31=[0,1,2,3,4,5,6,7,8,9,10,11,12,13,14,15,16,17,18,19,20,21,22,23,24,25,26,27,28,29,30]:=rfl;simp[cU,h31]
theorem c6V:VM.Enters prog 180:=.mk func180 rfl
theorem c9y(s:List UInt8)(hl:s.length<=900000000):CS prog G 180 [.str s] (.d (.str (tX s))) none:=by
 refine CS.aX func180 rfl ntmps180 rfl ?_;simp;refine aC.mk c3j c6U ?_;have hlen:(cU.map λt=>[D.str t]).length=cU.length:=by simp
 have hsl:cU.length=31:=rfl;simp;refine SW.eX (ι:={i:Nat//i<=cU.length/\∀t∈cU.take i,t.isPrefixOf s=false}) (λi=>[(4,.d (.int .i64 i.1))]) (λ_=>[]) (λ_=>[]) (λi=>cU.length-i.1) ⟨0,by simp⟩ (by simp) ?_;rintro⟨i,hi,hn⟩
 try simp only at hi hn
 by_cases aF:i<cU.length
 .have hw2:=bA (show i<9223372036854775807 by omega);have sH:∀(hp:cU[i].isPrefixOf s=false),∀t∈cU.take (i+1),t.isPrefixOf s=false:=λhp t ht=>by
   rw[g1l aF]at ht;rcases List.mem_append.1 ht with ht|ht
   .exact hn t ht
   .simp at ht;rw[ht];exact hp
  simp[aF]
  try refine⟨kV.mk (by kernel_rfl),?_⟩
  have a9s:=Lib.hasPrefix_of_take s cU[i];unfold Lib.hasPrefix at a9s;by_cases hle:cU[i].length<=s.length
  .by_cases he:s.take cU[i].length=cU[i]
   .have hp:cU[i].isPrefixOf s=true:=by rw[<-a9s];simp[hle,he]
    have hsg:=d0G aF hn hp;simp[hle,he,hsg,aF]
   .have hp:cU[i].isPrefixOf s=false:=by rw[<-a9s];simp[he]
    simp[hle,he,aF];exact bC.mk ⟨i+1,aF,sH hp⟩ (by simp[hw2]) (by simp;omega)
  .have hp:cU[i].isPrefixOf s=false:=by rw[<-a9s];simp[hle]
   simp[hle,aF];exact bC.mk ⟨i+1,aF,sH hp⟩ (by simp[hw2]) (by simp;omega)
 .have:i=cU.length:=by omega
  subst this;rw[List.take_length]at hn;have hsg:=c0p hn;simp[hsg]
end
section
open Go Go.VM
variable {G:GT}
theorem c3k(p:UInt8->Bool){s:List UInt8}{i:Nat}(hi:i<=s.length)(h:∀b∈s.take i,p b=true):i<=(s.takeWhile p).length:=by have e:s=s.take i++s.drop i:=(List.take_append_drop i s).symm;rw[e,List.takeWhile_append_of_pos h,List.length_append,List.length_take];omega
def a5y(c:UInt8):Int:=if smU c then 1 else if caU c then 2 else if dgU c then 3 else 4
def c3l(c:UInt8)(r:List UInt8):List D:=[.int .i64 (a5y c),.str (firstT jC (c::r)).2.1,.int .i64 (firstT jC (c::r)).2.2.1,.int .i64 0]
theorem c3m:VM.Enters prog 139:=.mk func139 rfl
theorem c6W(c:UInt8)(r:List UInt8)(hl:(c::r).length<=900000000):CS prog G 139 [.str (c::r)] (.cI [.agg (c3l c r),.bool (firstT jC (c::r)).2.2.2]) none:=by
 have hfr:c3l c r=[.int .i64 (a5y c),.str (firstT jC (c::r)).2.1,.int .i64 (firstT jC (c::r)).2.2.1,.int .i64 0]:=rfl;rw[hfr];obtain⟨s,hs⟩:∃s,c::r=s:=⟨_,rfl⟩;have h0:1<=s.length:=by rw[<-hs];simp
 have h0':0<s.length:=h0;have t01:s.take 1=[c]:=by rw[<-hs];rfl
 have yI:s[0]=c:=by subst hs;rfl
 have hf:firstT jC s=if smU c then(1,s.takeWhile inU,0,true) else if caU c then(2,s.takeWhile inU,0,true)
  else if dgU c then(3,s.takeWhile dgU,(jC (s.takeWhile dgU)).1,(jC (s.takeWhile dgU)).2)
  else if tX s=[] then(0,[],0,false) else(4,tX s,0,true):=by subst hs;rfl
 rw[hs]at hl|-
 clear hs hfr
 refine CS.aX func139 rfl ntmps139 rfl ?_;simp[h0',yI];refine aC.mk uY (xA c) ?_;by_cases h1:smU c=true
 .have hp1:=e4B h1;simp[h1];refine SW.eX (ι:={i:Nat//i<=s.length/\1<=i/\∀b∈s.take i,inU b=true}) (λi=>[(4,.d (.int .i64 i.1))]) (λ_=>[(2,.cells [.d (.int .i64 0),.d (.str []),.d (.int .i64 0),.d (.int .i64 0)])]) (λ_=>[]) (λi=>s.length-i.1) ⟨1,h0,g1m _,λb hb=>by rw[t01]at hb;simp at hb;rw[hb];exact hp1⟩ (by simp) ?_;rintro⟨i,hi,hi1,hn⟩
  try simp only at hi hi1 hn
  have hle:=c3k inU hi hn;by_cases aF:i<s.length
  .have hw:=bA (show i<9223372036854775807 by omega);simp[aF];refine aC.mk a8Q (b1N s[i]) ?_;by_cases xE:inU s[i]=true
   .simp[xE];refine bC.mk ⟨i+1,aF,by omega,λb hb=>?_⟩ (by simp[hw]) (by simp;omega);rw[g1l aF]at hb;rcases List.mem_append.1 hb with hb|hb
    .exact hn b hb
    .simp at hb;rw[hb];exact xE
   .have mU:=tZ aF hn (by simpa using xE);have htk:s.take i=s.takeWhile inU:=by rw[<-b1a inU s,mU]
    simp[xE,h0',yI];refine aC.mk uY (xA c) ?_;simp[h1,hi,htk,hf,a5y]
  .have:i=s.length:=by omega
   subst this;rw[List.take_length]at hn;have htk:s.takeWhile inU=s:=sO hn;simp[h0',yI];refine aC.mk uY (xA c) ?_;simp[h1,htk,hf,a5y]
 simp[h1,h0',yI];refine aC.mk a7h (a8R c) ?_;by_cases h2:caU c=true
 .have hp1:=e4C h2;simp[h2];refine SW.eX (ι:={i:Nat//i<=s.length/\1<=i/\∀b∈s.take i,inU b=true}) (λi=>[(4,.d (.int .i64 i.1))]) (λ_=>[(2,.cells [.d (.int .i64 0),.d (.str []),.d (.int .i64 0),.d (.int .i64 0)])]) (λ_=>[]) (λi=>s.length-i.1) ⟨1,h0,g1m _,λb hb=>by rw[t01]at hb;simp at hb;rw[hb];exact hp1⟩ (by simp) ?_;rintro⟨i,hi,hi1,hn⟩
  try simp only at hi hi1 hn
  have hle:=c3k inU hi hn;by_cases aF:i<s.length
  .have hw:=bA (show i<9223372036854775807 by omega);simp[aF];refine aC.mk a8Q (b1N s[i]) ?_;by_cases xE:inU s[i]=true
   .simp[xE];refine bC.mk ⟨i+1,aF,by omega,λb hb=>?_⟩ (by simp[hw]) (by simp;omega);rw[g1l aF]at hb;rcases List.mem_append.1 hb with hb|hb
    .exact hn b hb
    .simp at hb;rw[hb];exact xE
   .have mU:=tZ aF hn (by simpa using xE);have htk:s.take i=s.takeWhile inU:=by rw[<-b1a inU s,mU]
    simp[xE,h0',yI];refine aC.mk uY (xA c) ?_;simp[h1,h2,hi,htk,hf,a5y]
  .have:i=s.length:=by omega
   subst this;rw[List.take_length]at hn;have htk:s.takeWhile inU=s:=sO hn;simp[h0',yI];refine aC.mk uY (xA c) ?_;simp[h1,h2,htk,hf,a5y]
 simp[h2,h0',yI];refine aC.mk a5c (a7i c) ?_;by_cases h3:dgU c=true
 .have hp1:=h3;simp[h3];refine SW.eX (ι:={i:Nat//i<=s.length/\1<=i/\∀b∈s.take i,dgU b=true}) (λi=>[(4,.d (.int .i64 i.1))]) (λ_=>[(2,.cells [.d (.int .i64 0),.d (.str []),.d (.int .i64 0),.d (.int .i64 0)])]) (λ_=>[]) (λi=>s.length-i.1) ⟨1,h0,g1m _,λb hb=>by rw[t01]at hb;simp at hb;rw[hb];exact hp1⟩ (by simp) ?_;rintro⟨i,hi,hi1,hn⟩
  try simp only at hi hi1 hn
  have hle:=c3k dgU hi hn;have f5S:∀b∈s.takeWhile dgU,xP b=true:=λb hb=>by rw[<-c2k];exact c8L hb
  have hdl:=d6h dgU s;by_cases aF:i<s.length
  .have hw:=bA (show i<9223372036854775807 by omega);simp[aF];refine aC.mk a5c (a7i s[i]) ?_;by_cases xE:dgU s[i]=true
   .simp[xE];refine bC.mk ⟨i+1,aF,by omega,λb hb=>?_⟩ (by simp[hw]) (by simp;omega);rw[g1l aF]at hb;rcases List.mem_append.1 hb with hb|hb
    .exact hn b hb
    .simp at hb;rw[hb];exact xE
   .have mU:=tZ aF hn (by simpa using xE);have htk:s.take i=s.takeWhile dgU:=by rw[<-b1a dgU s,mU]
    simp[xE,hi,htk];refine aC.mk b1O (b3X (s.takeWhile dgU) f5S (by omega)) ?_;simp[h1,h2,h3,hi,htk,hf,a5y]
  .have:i=s.length:=by omega
   subst this;rw[List.take_length]at hn;have htk:s.takeWhile dgU=s:=sO hn;simp;refine aC.mk b1O (b3X s (λb hb=>by rw[<-c2k];exact hn b hb) hl) ?_;simp[h1,h2,h3,htk,hf,a5y]
 simp[h3];refine aC.mk c6V (c9y s hl) ?_;by_cases h4:tX s=[]
 .simp[h1,h2,h3,h4,hf,a5y]
 .simp[h1,h2,h3,h4,hf,a5y]
end
section
open Go Go.VM
variable {G:GT}
theorem a3w:VM.Enters prog 84:=.mk func84 rfl
theorem c3n(s:List UInt8)(hl:s.length<=900000000):CS prog G 84 [.str s] (.cI (if 40000<s.length then [.aD,.int .i64 0,.int .i64 7] else
  [c5M (mH jC s 0 1 false),.int .i64 (c5N (mH jC s 0 1 false)),.int .i64 (c5O (mH jC s 0 1 false))])) none:=by
 obtain⟨res,kF⟩:∃x,mH jC s 0 1 false=x:=⟨_,rfl⟩;rw[kF];refine CS.aX func84 rfl ntmps84 rfl ?_;by_cases b3C:40000<s.length
 .have h2:(40000:Int)<s.length:=by omega
  simp[b3C,h2]
 have h2: ¬(40000:Int)<s.length:=by omega
 simp[b3C,h2];refine SW.eX (ι:={x:Nat×List Tok×Int×Bool//x.1<=s.length/\1<=x.2.2.1/\x.2.2.1<=x.1+1/\x.2.1.length<=x.1/\c5L x.2.1 (mH jC (s.drop x.1) 0 x.2.2.1 x.2.2.2)=res})
  (λx=>[(5,.d (.sl (b4o x.1.2.1))),(6,.d (.int .i64 x.1.2.2.1)),(7,.d (.bool x.1.2.2.2)),(8,.d (.int .i64 x.1.1))]) (λ_=>[]) (λ_=>[(96,[.t 5])]) (λx=>s.length-x.1.1) ⟨(0,[],1,false),by refine⟨by simp,by simp,by simp,by simp,?_⟩;simp only[List.drop_zero];rw[kF];cases res<;>rfl⟩ (by simp) ?_
 rintro⟨⟨i,out,ln,cm⟩,hi,hln,hb,ho,hR⟩
 try simp only at hi hln hb ho hR
 by_cases aF:i<s.length
 .have hQ:c5L out (mH jC (s.drop i) 0 ln cm)=res:=hR;have a3S:s.drop i=s[i]::s.drop (i+1):=g1j aF;have hw:=bA (show i<9223372036854775807 by omega);have hwl:IntKind.i64.wrap (ln+1)=ln+1:=wrap64 (by omega);have c10:=a6L s[i] 10 (by omega);have c32:=a6L s[i] 32 (by omega);have c9:=a6L s[i] 9 (by omega);have c35:=a6L s[i] 35 (by omega);simp at c10 c32 c9 c35;have hle:=Nat.le_of_lt aF;rw[a3S,mH]at hQ;by_cases h10:s[i]=10
  .have e:=c10.2 h10;rw[if_pos h10]at hQ;simp[aF,e];exact bC.mk ⟨(i+1,out,ln+1,false),aF,by simp only;omega,by simp only;omega,by simp only;omega,hQ⟩ (by simp[hw,hwl]) (by simp;omega)
  have e: ¬s[i].toNat=10:=λh=>h10 (c10.1 h);rw[if_neg h10]at hQ;simp[aF,e];cases cm with
  |true=>
   rw[if_pos (.inl rfl)]at hQ
   try simp[aF]
   exact bC.mk ⟨(i+1,out,ln,true),aF,by simp only;omega,by simp only;omega,by simp only;omega,hQ⟩ (by simp[hw]) (by simp;omega)
  |false=>
   try simp[aF]
   by_cases h32:s[i]=32
   .have e2:=c32.2 h32;rw[if_pos (.inr (.inl h32))]at hQ;simp[e2];exact bC.mk ⟨(i+1,out,ln,false),aF,by simp only;omega,by simp only;omega,by simp only;omega,hQ⟩ (by simp[hw]) (by simp;omega)
   have e2: ¬s[i].toNat=32:=λh=>h32 (c32.1 h);simp[e2,aF];by_cases h9:s[i]=9
   .have e3:=c9.2 h9;rw[if_pos (.inr (.inr h9))]at hQ;simp[e3];exact bC.mk ⟨(i+1,out,ln,false),aF,by simp only;omega,by simp only;omega,by simp only;omega,hQ⟩ (by simp[hw]) (by simp;omega)
   have e3: ¬s[i].toNat=9:=λh=>h9 (c9.1 h);simp[e3,aF];rw[if_neg (by simp[h32,h9])]at hQ;by_cases h35:s[i]=35
   .have e4:=c35.2 h35;rw[if_pos h35]at hQ;simp[e4];exact bC.mk ⟨(i+1,out,ln,true),aF,by simp only;omega,by simp only;omega,by simp only;omega,hQ⟩ (by simp[hw]) (by simp;omega)
   have e4: ¬s[i].toNat=35:=λh=>h35 (c35.1 h);have hQ2:c5L out (mH jC (s[i]::s.drop (i+1)) 0 ln false)=res:=by rw[<-a3S];exact hR
   rw[b5S ln h10 h32 h9 h35]at hQ2;have hdl:(s.drop (i+1)).length=s.length-(i+1):=by simp
   obtain⟨r,hr⟩:∃r,s.drop (i+1)=r:=⟨_,rfl⟩;obtain⟨c,hc⟩:∃c,s[i]=c:=⟨_,rfl⟩;rw[hr,hc]at hQ2 a3S;rw[hr]at hdl;simp[e4,hle,a3S];refine aC.mk c3m (c6W c r (by simp;omega)) ?_;obtain⟨ff,hff⟩:∃ff,firstT jC (c::r)=ff:=⟨_,rfl⟩;have oI:= @b0E jC (c::r);rw[hff]at hQ2 oI;obtain⟨k,tx,m,ok⟩:=ff;simp only at hQ2 oI;cases ok with
   |false=>
    have er:res=.error ln:=by rw[<-hQ2];rfl
    simp[hff,c3l,er,c5M,c5N,c5O]
   |true=>
    obtain⟨p1,p2,_⟩:=oI rfl;have f5T:=p2.length_le;have a1E:0<tx.length:=List.length_pos_iff.2 p1;simp only[List.length_cons]at f5T;have hk:a5y c=k:=by
     have:=hff;unfold firstT at this;unfold a5y;by_cases q1:smU c=true
     .simp[q1]at this|-;exact this.1
     by_cases q2:caU c=true
     .simp[q1,q2]at this|-;exact this.1
     by_cases q3:dgU c=true
     .simp[q1,q2,q3]at this|-;exact this.1
     by_cases q4:tX (c::r)=[]
     .simp[q1,q2,q3,q4]at this
     .simp[q1,q2,q3,q4]at this|-;exact this.1
    have jZ:(out.length+1)*41<=140737488355328:=by omega
    have hwt:IntKind.i64.wrap ((i:Int)+tx.length)=((i+tx.length:Nat):Int):=by rw[wrap64 (by omega)];simp
    simp[hff,c3l,jZ,hk];have hR2:c5L (out++[⟨k,tx,m,ln⟩]) (mH jC (s.drop (i+tx.length)) 0 ln false)=res:=by
     rw[<-List.drop_drop,a3S, <- hQ2,if_pos rfl];generalize mH jC ((c::r).drop tx.length) 0 ln false=y;cases y with
     |ok l=>simp[c5L]
     |error e=>rfl
    refine bC.mk ⟨(i+tx.length,out++[⟨k,tx,m,ln⟩],ln,false),?_⟩ (by simp[a7G,hwt]) (by simp;omega);refine⟨by simp only;omega,by simp only;omega,by simp only;omega,by simp only[List.length_append,List.length_cons,List.length_nil];omega,hR2⟩
 .have:i=s.length:=by omega
  subst this;rw[List.drop_length,mH]at hR;have e:res=.ok (out++[⟨0,[],0,ln⟩]):=by rw[<-hR];rfl
  have jZ:(out.length+1)*41<=140737488355328:=by omega
  simp[e,c5M,c5N,c5O,a7G,jZ]
end
section
open Go Go.VM
variable {G:GT}
def a3x(cur s:List UInt8):List (List UInt8):=match jM s with
 |p::ps=>(cur++p)::ps
 |[]=>[cur]
theorem b2K:∀s,jM s≠[]
 |[]=>by simp[jM]
 |c::r=>by
  unfold jM;split
  .simp
  .split<;>simp
theorem b8a(s:List UInt8):a3x [] s=jM s:=by
 unfold a3x;cases h:jM s with
 |nil=>exact absurd h (b2K s)
 |cons p ps=>simp
theorem c9z(cur:List UInt8):a3x cur []=[cur]:=by simp[a3x,jM]
theorem c9A(cur r:List UInt8)(c:UInt8)(h:c.toNat=46):a3x cur (c::r)=cur::jM r:=by simp[a3x,jM,h]
theorem c6X(cur r:List UInt8)(c:UInt8)(h:c.toNat≠46):a3x cur (c::r)=a3x (cur++[c]) r:=by
 unfold a3x;simp only[jM,h,if_false];cases hp:jM r with
 |nil=>exact absurd hp (b2K r)
 |cons p ps=>simp
theorem b8b{s:List UInt8}{b i:Nat}(hb:b<=i)(h:i<s.length):(s.take (i+1)).drop b=(s.take i).drop b++[s[i]]:=by rw[g1l h,List.drop_append_of_le_length (by simp;omega)]
theorem b8c:∀s,(jM s).length<=s.length+1
 |[]=>by simp[jM]
 |c::r=>by
  have:=b8c r;unfold jM;split
  .simp;omega
  .split
   .rename_i p ps h;rw[h]at this;simp at this|-;omega
   .simp
theorem c3o:VM.Enters prog 277:=.mk func277 rfl
theorem c6Y(s:List UInt8)(hs:s.length<=1000000):CS prog G 277 [.str s] (.d (.sl (strs (jM s)))) none:=by
 refine CS.aX func277 rfl ntmps277 rfl ?_;simp;refine SW.eX (ι:={x:List (List UInt8)×Nat×Nat//x.2.1<=x.2.2/\x.2.2<=s.length/\x.1.length<=x.2.2/\jM s=x.1++a3x ((s.take x.2.2).drop x.2.1) (s.drop x.2.2)}) (λx=>[(3,.d (.sl (strs x.1.1))),(4,.d (.int .i64 x.1.2.1)),(8,.d (.int .i64 x.1.2.2))]) (λ_=>[]) (λ_=>[(9,[.t 3])]) (λx=>s.length-x.1.2.2) ⟨([],0,0),by simp[b8a]⟩ (by simp[strs]) ?_;rintro⟨⟨out,b,i⟩,hbi,hi,ho,he⟩;simp only at hbi hi ho he;by_cases aF:i<s.length
 .have hw:=bA (show i<9223372036854775807 by omega);rw[g1j aF]at he;by_cases h4:s[i].toNat=46
  .rw[c9A _ _ _ h4]at he;have jZ:(out.length+1)*17<=140737488355328:=by omega
   simp[aF,h4,hi,hbi,hw,jZ];exact bC.mk ⟨(out++[(s.take i).drop b],i+1,i+1),g1m _,aF,by simp;omega,by rw[he];simp[b8a]⟩ (by simp) (by simp;omega)
  .rw[c6X _ _ _ h4, <- b8b hbi aF]at he;simp[aF,h4];exact bC.mk ⟨(out,b,i+1),by simp;omega,aF,by simp;omega,he⟩ (by simp[hw]) (by simp;omega)
 .have:i=s.length:=by omega
  subst this;rw[List.drop_length,c9z,List.take_length]at he;have jZ:(out.length+1)*17<=140737488355328:=by omega
  simp[aF,hbi,jZ];rw[he];simp
theorem d3A{s:List UInt8}(h:0<s.length):a6o s=(pO s[0].toNat&&qI wdB s):=by
 cases s with
 |nil=>simp at h
 |cons c s=>simp[a6o,Bool.and_comm]
theorem c6Z:VM.Enters prog 280:=.mk func280 rfl
theorem c9B(s:List UInt8):CS prog G 280 [.str s] (.d (.bool (vC s))) none:=by
 refine CS.aX func280 rfl ntmps280 rfl ?_;by_cases hl1:s.length<1
 .have:sizedB s=false:=by simp[sizedB];omega
  simp[hl1,vC,this]
 by_cases hl2:24<s.length
 .have:sizedB s=false:=by simp[sizedB];omega
  simp[hl1,hl2,vC,this]
 have hz:sizedB s=true:=by simp[sizedB];omega
 have h0:0<s.length:=by omega
 simp[hl1,hl2,h0];refine aC.mk rU (tW _) ?_;simp;have hb:vC s=(qI anB s||(pO s[0].toNat&&qI wdB s)):=by rw[vC,hz,d3A h0];rfl
 refine SW.eX (ι:={x:Nat×Bool×Bool//x.1<=s.length/\qI anB s=(x.2.1&&qI anB (s.drop x.1))/\(pO s[0].toNat&&qI wdB s)=(x.2.2&&qI wdB (s.drop x.1))}) (λx=>[(3,.d (.bool x.1.2.1)),(4,.d (.bool x.1.2.2)),(19,.d (.int .i64 x.1.1))]) (λ_=>[]) (λ_=>[]) (λx=>s.length-x.1.1) ⟨(0,true,pO s[0].toNat),by simp⟩ (by simp) ?_;rintro⟨⟨i,p,q⟩,hi,hp,hq⟩;simp only at hi hp hq;by_cases aF:i<s.length
 .have hw:=bA (show i<9223372036854775807 by omega);have mU:∀f:Int->Bool,qI f (s.drop i)=(f s[i].toNat&&qI f (s.drop (i+1))):=λf=>by rw[g1j aF];rfl
  rw[mU]at hp hq;cases p
  .cases q
   .simp[aF];exact bC.mk ⟨(i+1,false,false),aF,by simpa using hp,by simpa using hq⟩ (by simp[hw]) (by simp;omega)
   .simp[aF];refine aC.mk rU (tW _) ?_;cases h1:pO s[i].toNat
    .simp[aF];refine aC.mk xM (a0i _) ?_;cases h3:b2h s[i].toNat
     .simp[aF];exact bC.mk ⟨(i+1,false,wdB s[i].toNat),aF,by simpa using hp,by simpa using hq⟩ (by simp[hw,wdB,h1,h3]) (by simp;omega)
     .simp[aF];exact bC.mk ⟨(i+1,false,wdB s[i].toNat),aF,by simpa using hp,by simpa using hq⟩ (by simp[hw,wdB,h1,h3]) (by simp;omega)
    .simp[aF];exact bC.mk ⟨(i+1,false,wdB s[i].toNat),aF,by simpa using hp,by simpa using hq⟩ (by simp[hw,wdB,h1]) (by simp;omega)
  .cases h1:pO s[i].toNat<;>cases h2:b5F s[i].toNat<;>cases h3:b2h s[i].toNat<;>cases q<;>simp[aF]<;>(refine aC.mk rU (tW _) ?_)<;>simp[aF,h1]<;>
    (try (refine aC.mk a1K (a3f _) ?_;simp[aF,h2]))<;>(try (refine aC.mk xM (a0i _) ?_;simp[aF,h3]))<;>(try (refine aC.mk rU (tW _) ?_;simp[aF,h1]))<;>(try (refine aC.mk xM (a0i _) ?_;simp[aF,h3]))<;>
    first
    |exact bC.mk ⟨(i+1,anB s[i].toNat,false),aF,by simpa using hp,by simpa using hq⟩ (by simp[hw,anB,h1,h2,h3]) (by simp;omega)
    |exact bC.mk ⟨(i+1,anB s[i].toNat,wdB s[i].toNat),aF,by simpa using hp,by simpa using hq⟩ (by simp[hw,anB,wdB,h1,h2,h3]) (by simp;omega)
 .simp[aF];have he:s.drop i=[]:=List.drop_of_length_le (by omega);rw[he]at hp hq;rw[hb,hp,hq];cases p<;>simp[d5k]
end
section
open Go Go.VM
variable {G:GT}
theorem a7j:VM.Enters prog 269:=.mk func269 rfl
theorem a9Z(s:List UInt8):CS prog G 269 [.str s] (.d (.int .i64 (eZ (rJ s)))) none:=by
 refine CS.aX func269 rfl ntmps269 rfl ?_;by_cases hl:120<s.length
 .have: ¬s.length<=120:=by omega
  simp[hl,rJ,this,eZ]
 .have hl':s.length<=120:=by omega
  simp[hl];refine aC.mk c3o (c6Y _ (by omega)) ?_;have e5j:(jM s).length<=s.length+1:=b8c s;cases hps:jM s with
  |nil=>exact absurd hps (b2K s)
  |cons p ps=>
   rw[hps]at e5j;have b9T:rJ s=((vB p||mC p||(decide (p=[118])&& !ps.isEmpty))&&ps.all vC):=by simp[rJ,hl',hps]
   have b5G:(vB p||mC p||(decide (p=[118])&& !ps.isEmpty))=false->rJ s=false:=λh=>by rw[b9T,h];rfl
   have hgo:(vB p||mC p||(decide (p=[118])&& !ps.isEmpty))=true->rJ s=ps.all vC:=λh=>by rw[b9T,h];rfl
   have hs2:strs (p::ps)=[.str p]::strs ps:=rfl;have f9M:ps.length<=121:=by simp at e5j;omega
   simp[hs2];refine aC.mk c1L (c4T _) ?_;cases h1:vB p;rotate_left;simp[eZ]
   replace hgo:=hgo (by simp[h1])
   rotate_left;simp[eZ];refine aC.mk c1M (c4U _) ?_;cases h2:mC p;rotate_left;simp[eZ]
   replace hgo:=hgo (by simp[h1,h2])
   rotate_left 2;by_cases h3:p=[118];rotate_left
   .simp[h3,eZ];rw[b5G (by rw[h1,h2];simp[h3])]
   rotate_left 2;rcases Nat.eq_zero_or_pos ps.length with h4|h4
   .have h4':ps=[]:=List.eq_nil_of_length_eq_zero h4;simp[h3,h4',eZ];rw[b5G (by rw[h1,h2];simp[h4'])]
   have h4':ps.isEmpty=false:=by cases ps<;>simp at*
   have h5: ¬ps=[]:=by rintro rfl;simp at h4
   have h6: ¬((ps.length:Int)+1=1):=by omega
   simp[h3,h5,h6,eZ]
   replace hgo:=hgo (by rw[h1,h2];simp[h3,h4'])
   all_goals
    refine SW.eX (ι:={i:Nat//i<=ps.length/\rJ s=(ps.drop i).all vC}) (λi=>[(37,.d (.int .i64 i.1))]) (λ_=>[]) (λ_=>[]) (λi=>ps.length-i.1) ⟨0,by simp,by simpa using hgo⟩ (by simp[*]) ?_;rintro⟨i,hi,he⟩;by_cases aF:i<ps.length
    .have hw:=bA (show i<9223372036854775807 by omega);simp[aF];refine aC.mk c6Z (c9B _) ?_;cases g1:vC ps[i]
     .simp;rw[d5o he aF g1]
     .simp;exact bC.mk ⟨i+1,aF,d5n he aF g1⟩ (by simp[hw]) (by simp;omega)
    .simp[aF];rw[e1x he aF]
end
section
open Go Go.VM
variable {G:GT}
structure f5U where
 name:List UInt8
 args:List (List UInt8)
 res:List UInt8
end
section
open Go Go.VM
variable {G:GT}
structure f2i where
 name:List UInt8
 params:List (List UInt8×List UInt8)
structure f5V where
 vars:List (List UInt8×List UInt8)
 syms:List f5U
 d7F:List f2i
end
section
open Go Go.VM
variable {G:GT}
structure f9N (v:f5V):Prop where
 vars:v.vars.length<=2000000
 syms:v.syms.length<=2000000
 args:∀y∈v.syms,y.args.length<=2000000
 d7F:v.d7F.length<=2000000
 params:∀y∈v.d7F,y.params.length<=2000000
end
section
open Go Go.VM
variable {G:GT}
theorem a5d{e:Pr->Int}:∀(a b:List Pr),pH e (a++b)=if pH e a=0 then pH e b else pH e a
 |[],b=>by simp[pH]
 |p::a,b=>by
  rw[List.cons_append,pH,pH,a5d a b];by_cases h:e p=0
  .simp only[h,if_true]
  .simp only[h,if_false]
end
section
open Go Go.VM
variable {G:GT}
theorem a5e:VM.Enters prog 256:=.mk func256 rfl
theorem a7k(op:Int):CS prog G 256 [.int .i64 op] (.d (.bool (xD op))) none:=by
 refine CS.aX func256 rfl ntmps256 rfl ?_;by_cases h3:op=3
 .simp[h3,xD]
 .by_cases h4:op=4
  .simp[h4,xD]
  .simp[h3,h4,xD]
def yO(op len:Int):Bool:= !(decide (len<pS op)||decide (vV op<len))
theorem xB:VM.Enters prog 257:=.mk func257 rfl
theorem c9C(op:Int)(len:Nat):CS prog G 257 [.int .i64 op,.int .i64 len] (.d (.bool (yO op len))) none:=by
 have one:∀k:Nat,(!(decide ((len:Int)<k)||decide ((k:Int)<len)))=decide (len=k):=λk=>by
  by_cases h:len=k
  .simp[h]
  .rcases Nat.lt_or_gt_of_ne h with h1|h1
   .have:(len:Int)<k:=by omega
    simp[h,this]
   .have:(k:Int)<len:=by omega
    simp[h,this]
 have z0:=one 0;have z1:=one 1;have z2:=one 2;refine CS.aX func257 rfl ntmps257 rfl ?_;by_cases h1:op=1
 .simp[yO,pS,vV,h1];simpa using z0.symm
 by_cases h2:op=2
 .simp[yO,pS,vV,h2];simpa using z0.symm
 by_cases h3:op=3
 .simp[yO,pS,vV,h3];simpa using z0.symm
 by_cases h45:op=4\/op=5
 .have e:yO op len=(decide (1<=len)&&decide (len<=24)):=by simp only[yO,pS,vV,h1,h2,h3,or_self,if_false,h45,if_true,Bool.not_or, <- decide_not];congr 1<;>(rw[decide_eq_decide];omega)
  rw[e];rcases h45 with h|h
  .by_cases c1:1<=len
   .simp[h,c1]
   .simp[h,c1]
  .by_cases c1:1<=len
   .simp[h,c1]
   .simp[h,c1]
 by_cases d7G:op=9\/op=14
 .have e:yO op len=decide (len=1):=by simp only[yO,pS,vV,h1,h2,h3,or_self,if_false,h45,d7G,if_true];exact z1
  rw[e];have h4: ¬op=4:=λe=>h45 (.inl e);have h5: ¬op=5:=λe=>h45 (.inr e);rcases d7G with h|h<;>simp[h]
 .have e:yO op len=decide (len=2):=by simp only[yO,pS,vV,h1,h2,h3,or_self,if_false,h45,d7G];exact z2
  rw[e];have h4: ¬op=4:=λe=>h45 (.inl e);have h5: ¬op=5:=λe=>h45 (.inr e);have h9: ¬op=9:=λe=>d7G (.inl e);have h14: ¬op=14:=λe=>d7G (.inr e);simp[h1,h2,h3,h4,h5,h9,h14]
def b9m(op:Int)(nm:Nm):Bool:= !(xD op&& !rJ nm&& !a0o op nm)
theorem sT:VM.Enters prog 259:=.mk func259 rfl
theorem c3p(p:Pr):CS prog G 259 [.agg (prD p)] (.d (.bool (b9m p.op p.name))) none:=by
 refine CS.aX func259 rfl ntmps259 rfl ?_;by_cases h3:p.op=3
 .by_cases hv:p.name=[118]
  .simp[h3,hv,b9m,xD,a0o]
  .simp[h3,hv];refine aC.mk a7j (a9Z p.name) ?_;cases hc:rJ p.name<;>simp[eZ,b9m,xD,a0o,h3,hv,hc]
 by_cases h4:p.op=4
 .by_cases hv:p.name=[116,97,103]
  .simp[h4,hv,b9m,xD,a0o]
  .by_cases hv2:p.name=[118,97,108]
   .simp[h4,hv2,b9m,xD,a0o]
   .simp[h4,hv,hv2];refine aC.mk a7j (a9Z p.name) ?_;cases hc:rJ p.name<;>simp[eZ,b9m,xD,a0o,h4,hv,hv2,hc]
 by_cases h5:p.op=5
 .simp[h5];refine aC.mk a7j (a9Z p.name) ?_;cases hc:rJ p.name<;>simp[eZ,b9m,xD,a0o,h5,hc]
 .simp[h3,h4,h5,b9m,xD]
theorem c7a:VM.Enters prog 244:=.mk func244 rfl
theorem c9D(p:Pr)(hlen:p.kids.length<=900000000):CS prog G 244 [.agg (prD p)] (.d (.int .i64 (a2Q p))) none:=by
 obtain⟨op,nm,n,l⟩:=p;simp only at hlen;have c7b:=c3p (G:=G) ⟨op,nm,n,l⟩;have hkd:=c9C (G:=G) op l.length;simp only at c7b;have hm:a2Q ⟨op,nm,n,l⟩=if op<1\/18<op then 1 else if a5M op nm n l.length then 1 else if vI op n then 2 else if xD op&& !rJ nm&& !a0o op nm then 3 else if op=8/\b1l l≠1 then 6 else 0:=rfl;have kO:a5M op nm n l.length=((!xD op&& !decide (nm=[]))||(!decide (op=1)&& !decide (op=2)&& !decide (n=0))|| !yO op l.length):=by simp only[a5M,yO,Bool.not_not,Bool.or_assoc]
 rw[kO]at hm;obtain⟨cb,hcb⟩:∃b,(xD op&& !rJ nm&& !a0o op nm)=b:=⟨_,rfl⟩;have pM:b9m op nm= !cb:=by rw[b9m,hcb]
 rw[pM]at c7b;rw[hcb]at hm;refine CS.aX func244 rfl ntmps244 rfl ?_;by_cases a1:op<1
 .simp[a1]at hm;have o1: ¬op=1:=by omega
  have o2: ¬op=2:=by omega
  simp (maxSteps:=4000000) [o1,o2,a1,hm]
 by_cases a2:18<op
 .simp[a2]at hm;have o1: ¬op=1:=by omega
  have o2: ¬op=2:=by omega
  simp (maxSteps:=4000000) [o1,o2,a1,a2,hm]
 rw[if_neg (by omega)]at hm;by_cases o1:op=1
 .subst o1;have hn:xD 1=false:=rfl;rw[hn,Bool.false_and,Bool.false_and]at hcb;subst hcb;by_cases b1:nm=[];rotate_left
  .have b1':nm.isEmpty=false:=by cases nm<;>simp at b1|-
   simp[hn,b1]at hm;simp (maxSteps:=4000000) [b1,b1'];refine aC.mk a5e (a7k 1) ?_;simp (maxSteps:=4000000) [hn,hm]
  subst b1;by_cases c0:n=0
  .subst c0;simp (maxSteps:=4000000);refine aC.mk xB hkd ?_;cases hk:yO 1 l.length
   .simp[hn,hk]at hm;simp (maxSteps:=4000000) [hm]
   .simp[hn,hk,vI]at hm;have hi:inB 0=true:=rfl;simp (maxSteps:=4000000);refine aC.mk b9Y (c5e 0) ?_;simp[hi]at hm;simp (maxSteps:=4000000) [hi];refine aC.mk sT c7b ?_;simp (maxSteps:=4000000) [hm]
  .simp (maxSteps:=4000000) [c0];refine aC.mk xB hkd ?_;cases hk:yO 1 l.length
   .simp[hn,hk]at hm;simp (maxSteps:=4000000) [hm]
   .simp[hn,hk,vI]at hm;simp (maxSteps:=4000000);refine aC.mk b9Y (c5e n) ?_;cases hi:inB n
    .simp[hi]at hm;simp (maxSteps:=4000000) [hm]
    .simp[hi]at hm;simp (maxSteps:=4000000);refine aC.mk sT c7b ?_;simp (maxSteps:=4000000) [hm]
 by_cases o2:op=2
 .subst o2;have hn:xD 2=false:=rfl;rw[hn,Bool.false_and,Bool.false_and]at hcb;subst hcb;by_cases b1:nm=[];rotate_left
  .have b1':nm.isEmpty=false:=by cases nm<;>simp at b1|-
   simp[hn,b1]at hm;simp (maxSteps:=4000000) [b1,b1'];refine aC.mk a5e (a7k 2) ?_;simp (maxSteps:=4000000) [hn,hm]
  subst b1;by_cases c0:n=0
  .subst c0;simp (maxSteps:=4000000);refine aC.mk xB hkd ?_;cases hk:yO 2 l.length
   .simp[hn,hk]at hm;simp (maxSteps:=4000000) [hm]
   .simp[hn,hk,vI]at hm;simp (maxSteps:=4000000);refine aC.mk sT c7b ?_;simp (maxSteps:=4000000) [hm]
  .simp (maxSteps:=4000000) [c0];refine aC.mk xB hkd ?_;cases hk:yO 2 l.length
   .simp[hn,hk]at hm;simp (maxSteps:=4000000) [hm]
   .simp[hn,hk,vI,c0]at hm;by_cases c1:n=1
    .subst c1;simp at hm;simp (maxSteps:=4000000);refine aC.mk sT c7b ?_;simp (maxSteps:=4000000) [hm]
    .simp[c1]at hm;by_cases c2:n<0
     .simp (maxSteps:=4000000) [c2,hm]
     .have c3:1<n:=by omega
      simp (maxSteps:=4000000) [c2,c3,hm]
 by_cases b1:nm=[]
 .subst b1;by_cases c0:n=0;rotate_left
  .simp[o1,o2,c0]at hm;simp (maxSteps:=4000000) [a1,a2,o1,o2,c0,hm]
  subst c0;simp (maxSteps:=4000000) [a1,a2,o1,o2];refine aC.mk xB hkd ?_;cases hk:yO op l.length
  .simp[hk]at hm;simp (maxSteps:=4000000) [hm]
  .simp[o1,o2,hk,vI]at hm;simp (maxSteps:=4000000) [o1,o2];refine aC.mk sT c7b ?_;cases cb
   .by_cases o8:op=8
    .subst o8
     match l,hk with
     |[],hk=>exact absurd hk (by decide)
     |k::r,hk=>
      by_cases e1:k.op=1
      .simp[b1l,e1]at hm;simp (maxSteps:=4000000) [e1,hm]
      .simp[b1l,e1]at hm;simp (maxSteps:=4000000) [e1,hm]
    .simp[o8]at hm;simp (maxSteps:=4000000) [o8,hm]
   .simp at hm;simp (maxSteps:=4000000) [hm]
 .have b1':nm.isEmpty=false:=by cases nm<;>simp at b1|-
  simp (maxSteps:=4000000) [a1,a2,o1,o2,b1,b1'];refine aC.mk a5e (a7k op) ?_;cases hn:xD op
  .simp[hn,b1]at hm;simp (maxSteps:=4000000) [hm]
  .by_cases c0:n=0;rotate_left
   .simp[hn,o1,o2,c0]at hm;simp (maxSteps:=4000000) [c0,hm]
   subst c0;simp (maxSteps:=4000000);refine aC.mk xB hkd ?_;cases hk:yO op l.length
   .simp[hk]at hm;simp (maxSteps:=4000000) [hm]
   .simp[hn,o1,o2,hk,vI]at hm;simp (maxSteps:=4000000) [o1,o2];refine aC.mk sT c7b ?_;cases cb
    .by_cases o8:op=8
     .subst o8
      match l,hk with
      |[],hk=>exact absurd hk (by decide)
      |k::r,hk=>
       by_cases e1:k.op=1
       .simp[b1l,e1]at hm;simp (maxSteps:=4000000) [e1,hm]
       .simp[b1l,e1]at hm;simp (maxSteps:=4000000) [e1,hm]
     .simp[o8]at hm;simp (maxSteps:=4000000) [o8,hm]
    .simp at hm;simp (maxSteps:=4000000) [hm]
theorem b3Y:VM.Enters prog 224:=.mk func224 rfl
theorem c9E:∀p:Pr,bM p<=900000000->CS prog G 224 [.agg (prD p)] (.d (.int .i64 (pH a2Q (a2n p)))) none:=by
 refine Pr.ind λp ih=>?_;intro hN;have hnd:=c9D (G:=G) p (by have:=pT p;have:=jF p.kids;omega);have hpe:=a7Q p;obtain⟨op,nm,n,l⟩:=p;simp only at ih hpe;have hn:=pT ⟨op,nm,n,l⟩;simp only at hn;have hl:=jF l;rw[hpe,pH];refine CS.aX func224 rfl ntmps224 rfl ?_;simp;refine aC.mk c7a hnd ?_;by_cases h0:a2Q ⟨op,nm,n,l⟩=0;rotate_left
 .simp[h0]
 simp[h0];refine SW.eX (ι:={i:Nat//i<=l.length/\pH a2Q (pN (l.take i))=0}) (λi=>[(15,.d (.int .i64 i.1))]) (λ_=>[(1,prO op nm n (.sl (l.map rW)))]) (λ_=>[]) (λi=>l.length-i.1) ⟨0,by simp[pN,pH]⟩ (by simp) ?_;rintro⟨i,hi,hR⟩
 try simp only at hi hR
 by_cases aF:i<l.length
 .have hg:=xR aF;have hw:=bA (show i<9223372036854775807 by omega);have hb2:=rX aF;have hb3:=kE l (i+1);have ht:=b6L aF;have hsp:=a6P l (i+1);simp[aF,hg];refine aC.mk b3Y (ih l[i] (List.getElem_mem aF) (by omega)) ?_;by_cases hk:pH a2Q (a2n l[i])=0
  .simp[hk];exact bC.mk ⟨i+1,aF,by rw[ht,a5d,if_pos hR,hk]⟩ (by simp[hw]) (by simp;omega)
  .have hf:pH a2Q (pN l)=pH a2Q (a2n l[i]):=by rw[hsp,a5d,ht,a5d,if_pos hR,if_neg hk]
   simp[hk,hf]
 .have:i=l.length:=by omega
  subst this;rw[List.take_length]at hR;simp[hR]
theorem c3q:VM.Enters prog 201:=.mk func201 rfl
theorem c7c(p:Pr)(hN:bM p<=900000000):CS prog G 201 [.agg (prD p)] (.d (.int .i64 (a6S p))) none:=by
 refine CS.aX func201 rfl ntmps201 rfl ?_;simp;refine aC.mk b0G (c5l p hN) ?_;by_cases h1:400<bM p
 .simp[h1,a6S,b4r]
 simp[h1];refine aC.mk b1k (c5S p hN) ?_;by_cases h2:40<b4q p
 .simp[h1,h2,a6S,b4r]
 simp[h2];refine aC.mk b3Y (c9E p hN) ?_;simp[h1,h2,a6S,b4r]
end
section
open Go Go.VM
variable {G:GT}
section
variable {l:List Tok} {f:Nat}
def b2L(rd:Nat->Nat->Option (Pr×Nat))(l:List Tok)(k:Nat):Nat->Pr->Nat->Pr×Nat
 |0,a,n=>(a,n)
 |g+1,a,n=>match opX l n k with
  |none=>(a,n)
  |some (op,ex)=>match rd (n+1) (if k=2 then 2 else k+1)with
   |none=>(a,n)
   |some (b,m)=>if k=6 then((if ex=true then tw op b a else tw op a b),m) else b2L rd l k g (if ex=true then tw op b a else tw op a b) m
theorem d7H{l:List Tok}{n k:Nat}{q:Int×Bool}(h:opX l n k=some q):n<l.length:=by
 unfold opX at h;split at h
 .exact b7f h
 split at h
 .split at h
  .rename_i hs;exact mD hs
  .cases h
 .rw[g0V]at h;obtain⟨op,h,_⟩:=h;exact(b2y h).1
theorem c1b(rd:Nat->Nat->Option (Pr×Nat))(l:List Tok){k:Nat}(h2:k≠2)(h6:k≠6):∀(g:Nat) (a:Pr) (n:Nat),b2L rd l k g a n=eG rd l k g a n
 |0,_,_=>rfl
 |g+1,a,n=>by
  rw[b2L,eG];have e:opX l n k=(b1r l n k).map λo=>(o,false):=by unfold opX;rw[if_neg h6,if_neg h2]
  rw[e];cases b1r l n k with
  |none=>rfl
  |some op=>
   simp only[Option.map_some,if_neg h2,if_neg h6,Bool.false_eq_true,if_false];cases rd (n+1) (k+1)with
   |none=>rfl
   |some q=>obtain⟨b,m⟩:=q;exact c1b rd l h2 h6 g _ m
theorem a7l{rd:Nat->Nat->Option (Pr×Nat)}{k n:Nat}(h:opX l n k=none)(g:Nat)(a:Pr):b2L rd l k g a n=(a,n):=by
 cases g with
 |zero=>rfl
 |succ g=>rw[b2L,h]
theorem e2T{i k:Nat}(h1:1<=k)(h9:k<=9)(h5:k=5->oM l i [33]=false)(hk9:k=9->oM l i [45]=false)(hi:i<=l.length)(hf:mu l.length i k<=f+1):
  gJ aJ l (f+1) i k=(gJ aJ l f i (k+1)).map λq=>b2L (gJ aJ l f) l k l.length q.1 q.2:=by
 have hch:∀k,k≠2->k≠6->(λq:Pr×Nat=>b2L (gJ aJ l f) l k l.length q.1 q.2)=λq=>eG (gJ aJ l f) l k l.length q.1 q.2:=λk h2 h6=>by funext q;exact c1b _ l h2 h6 _ _ _
 obtain rfl|rfl|rfl|rfl|rfl|rfl|rfl|rfl|rfl:k=1\/k=2\/k=3\/k=4\/k=5\/k=6\/k=7\/k=8\/k=9:=by omega
 .rw[hch 1 (by omega) (by omega)]
  rfl
 .have he:gJ aJ l (f+1) i 2=b2x (gJ aJ l f) l i:=rfl;obtain⟨o,ho⟩:∃o,gJ aJ l (f+1) i 2=o:=⟨_,rfl⟩;rw[ho];rw[he]at ho;unfold b2x at ho;cases hr:gJ aJ l f i 3 with
  |none=>rw[hr]at ho;exact ho.symm
  |some q=>
   obtain⟨a,n⟩:=q;have uV:=kQ aJ l f _ _ _ _ hr;rw[hr]at ho;simp only at ho;rw[Option.map_some];simp only;obtain⟨g,hg⟩:∃g,l.length=g+1:=⟨l.length-1,by omega⟩;cases hs:oM l n [61,62]with
   |false=>rw[if_neg (by simp[hs])]at ho;rw[a7l (by unfold opX;simp[hs]), <- ho]
   |true=>
    rw[if_pos hs]at ho;have hx:opX l n 2=some (17,false):=by unfold opX;simp[hs]
    rw[hg,b2L,hx];simp only[if_true];cases hr2:gJ aJ l f (n+1) 2 with
    |none=>rw[hr2]at ho;exact ho.symm
    |some z=>
     obtain⟨b,m⟩:=z;have b3Q:=kQ aJ l f _ _ _ _ hr2;rw[hr2]at ho;simp only at ho;simp only[Bool.false_eq_true,if_false];rw[if_neg (by omega)];have f2j:gJ aJ l (f+1) i 2=some (tw 17 a b,m):=by rw[he];unfold b2x;rw[hr];simp only;rw[if_pos hs,hr2]
     cases hs2:oM l m [61,62]with
     |false=>rw[a7l (by unfold opX;simp[hs2]), <- ho]
     |true=>
      have hml:=mD hs2;have a2m:=d0O aJ l (f+1) f i _ m hi hf f2j hs2 (by have:=tL (L:=l.length) (i:=i) (i':=m+1) (k:=2) (k':=2) (by omega) hml (by omega) (by omega);omega)
      cases g with
      |zero=>exact ho.symm
      |succ g=>
       have yJ:opX l m 2=some (17,false):=by unfold opX;simp[hs2]
       rw[b2L,yJ];simp only[if_true];rw[a2m, <- ho]
 .rw[hch 3 (by omega) (by omega)]
  rfl
 .rw[hch 4 (by omega) (by omega)]
  rfl
 .have he:gJ aJ l (f+1) i 5=gJ aJ l f i 6:=by
   show(if oM l i [33]=true then _ else gJ aJ l f i 6)=_
   rw[if_neg (by simp[h5 rfl])]
  rw[he];cases gJ aJ l f i 6 with
  |none=>rfl
  |some q=>rw[Option.map_some,a7l (by rfl)]
 .have he:gJ aJ l (f+1) i 6=a8g (gJ aJ l f) l i:=rfl;rw[he];unfold a8g;cases hr:gJ aJ l f i 7 with
  |none=>rfl
  |some q=>
   obtain⟨a,n⟩:=q;have uV:=kQ aJ l f _ _ _ _ hr;obtain⟨g,hg⟩:∃g,l.length=g+1:=⟨l.length-1,by omega⟩;have hx:opX l n 6=a1Y l n:=rfl;simp only[Option.map_some];rw[hg,b2L,hx];cases a1Y l n with
   |none=>rfl
   |some c=>
    obtain⟨op,ex⟩:=c;simp only[show ¬(6:Nat)=2 by omega,if_false];cases gJ aJ l f (n+1) 7 with
    |none=>rfl
    |some z=>rfl
 .rw[hch 7 (by omega) (by omega)]
  rfl
 .rw[hch 8 (by omega) (by omega)]
  rfl
 .have he:gJ aJ l (f+1) i 9=gJ aJ l f i 10:=by
   show(if oM l i [45]=true then _ else gJ aJ l f i 10)=_
   rw[if_neg (by simp[hk9 rfl])]
  rw[he];cases gJ aJ l f i 10 with
  |none=>rfl
  |some q=>rw[Option.map_some,a7l (by rfl)]
def d7I(l:List Tok)(i k:Nat):St:=⟨([.d (tkD l),.d (.int .i64 i),.d (.int .i64 k),.undef,.undef,.undef,.ptr 6 0,.d (.int .i64 0),.d (.bool false)]:List DV)++List.replicate 105 .undef,[(6,.cells [.d (.int .i64 0),.d (.str []),.d (.int .i64 0),.d .aD])],[]⟩
theorem c9F(hl:zO l)(hA:d3z G l f):d3z G l (f+1):=by
 have hll:=hl.1;intro i k h1 h10 hi hf;by_cases k10:k=10
 .subst k10;have hat:=c9x (G:=G) hl hA i hi hf;have he:gJ aJ l (f+1) i 10=yC aJ (gJ aJ l f) l i:=rfl;rw[he];refine CS.aX func200 rfl ntmps200 rfl ?_;simp;refine aC.mk (hkl:=mL _ _) c6S hat ?_;cases yC aJ (gJ aJ l f) l i with
  |none=>simp[sM]
  |some q=>obtain⟨p,n⟩:=q;simp[sM]
 by_cases f5:k=5/\oM l i [33]=true
 .obtain⟨rfl,hs⟩:=f5;have vJ:=mD hs;have hsg:=rD (G:=G) l i [33] (by omega);rw[hs]at hsg;have hfr:=b3W (G:=G) hl hA i 5 14 (by omega) vJ (by have:=tL (L:=l.length) (i:=i) (i':=i+1) (k:=5) (k':=5) (by omega) vJ (by omega) (by omega);omega)
  have he:gJ aJ l (f+1) i 5=(gJ aJ l f (i+1) 5).map λq=>((⟨14,[],0,[q.1]⟩:Pr),q.2):=by
   show(if oM l i [33]=true then _ else _)=_
   rw[if_pos hs]
  rw[he];refine CS.aX func200 rfl ntmps200 rfl ?_;simp;refine aC.mk eN hsg ?_;simp;refine aC.mk (hkl:=mL _ _) b1M hfr ?_;cases (gJ aJ l f (i+1) 5).map λq=>((⟨14,[],0,[q.1]⟩:Pr),q.2)with
  |none=>simp[sM]
  |some q=>obtain⟨p,n⟩:=q;simp[sM]
 by_cases f9:k=9/\oM l i [45]=true
 .obtain⟨rfl,hs⟩:=f9;have vJ:=mD hs;have hsg:=rD (G:=G) l i [45] (by omega);rw[hs]at hsg;have hfr:=b3W (G:=G) hl hA i 9 9 (by omega) vJ (by have:=tL (L:=l.length) (i:=i) (i':=i+1) (k:=9) (k':=9) (by omega) vJ (by omega) (by omega);omega)
  have he:gJ aJ l (f+1) i 9=(gJ aJ l f (i+1) 9).map λq=>((⟨9,[],0,[q.1]⟩:Pr),q.2):=by
   show(if oM l i [45]=true then _ else _)=_
   rw[if_pos hs]
  rw[he];refine CS.aX func200 rfl ntmps200 rfl ?_;simp;refine aC.mk eN hsg ?_;simp;refine aC.mk (hkl:=mL _ _) b1M hfr ?_;cases (gJ aJ l f (i+1) 9).map λq=>((⟨9,[],0,[q.1]⟩:Pr),q.2)with
  |none=>simp[sM]
  |some q=>obtain⟨p,n⟩:=q;simp[sM]
 have q5:k=5->oM l i [33]=false:=λe=>by
  cases hs:oM l i [33]with
  |false=>rfl
  |true=>exact absurd ⟨e,hs⟩ f5
 have q9:k=9->oM l i [45]=false:=λe=>by
  cases hs:oM l i [45]with
  |false=>rfl
  |true=>exact absurd ⟨e,hs⟩ f9
 obtain⟨o,ho⟩:∃o,gJ aJ l (f+1) i k=o:=⟨_,rfl⟩;have sE:=e2T (f:=f) h1 (by omega) q5 q9 hi hf;rw[ho]at sE|-;have f5W: ¬(k:Int)=10:=by omega
 have hk1:=bA (show k<9223372036854775807 by omega);have hat:=hA i (k+1) (by omega) (by omega) hi (by have:=b7i (L:=l.length) (i:=i) (show k<k+1 by omega) (by omega);omega)
 refine CS.a4G func200 rfl ntmps200 rfl ?_;refine SW.jW (SW.vk ?_);simp;refine mE (d7I l i k) (SW.vk ?_) ?_
 .by_cases k5:k=5
  .have hsg:=rD (G:=G) l i [33] (by omega);rw[q5 k5]at hsg;subst k5;simp;refine aC.mk eN hsg ?_;simp[d7I,List.replicate]
  by_cases k9:k=9
  .have hsg:=rD (G:=G) l i [45] (by omega);rw[q9 k9]at hsg;subst k9;simp;refine aC.mk eN hsg ?_;simp[d7I,List.replicate]
  have k5': ¬(k:Int)=5:=by omega
  have k9': ¬(k:Int)=9:=by omega
  simp[f5W,k5',k9',d7I,List.replicate]
 refine SW.vk ?_;simp[d7I,List.replicate,hk1];refine aC.mk (hkl:=mL _ _) uG hat ?_;cases hr:gJ aJ l f i (k+1)with
 |none=>rw[hr]at sE;subst sE;simp[sM]
 |some q=>
  obtain⟨a,n⟩:=q;have uV:=kQ aJ l f _ _ _ _ hr;rw[hr,Option.map_some]at sE;obtain⟨⟨rp,rn⟩,kF⟩:∃r,b2L (gJ aJ l f) l k l.length a n=r:=⟨_,rfl⟩;simp only at sE;rw[kF]at sE;subst sE;simp[sM];refine SW.eX (ι:={p:Pr×Nat//p.2<=l.length/\i<p.2/\∃g,l.length<=g+p.2/\b2L (gJ aJ l f) l k g p.1 p.2=(rp,rn)}) (λp=>[(10,.d (.int .i64 p.1.2))]) (λp=>[(6,.cells [.d (.int .i64 0),.d (.str []),.d (.int .i64 0),.d .aD]),(9,.cells ((prD p.1.1).map .d))]) (λ_=>[]) (λp=>l.length-p.1.2) ⟨(a,n),uV.2,uV.1,l.length,by omega,kF⟩ (by simp) ?_;rintro⟨⟨a,n⟩,hn,xE,g,hg,hR⟩;simp only at hn xE hg hR;have oV:=b7X (G:=G) l n k (by omega) (by omega);have hn1:=bA (show n<9223372036854775807 by omega);simp;refine aC.mk (hkl:=c3i _) b4F oV ?_;cases hx:opX l n k with
  |none=>rw[a7l hx]at hR;cases hR;simp[a4b]
  |some c=>
   obtain⟨op,ex⟩:=c;have hnl:=d7H hx;obtain⟨g,rfl⟩:∃h,g=h+1:=⟨g-1,by omega⟩;rw[b2L,hx]at hR;simp only at hR;simp[a4b];by_cases h2:k=2
   .rw[if_pos h2]at hR;have h26: ¬k=6:=by omega
    simp only[if_neg h26]at hR;subst h2;have c2L:=hA (n+1) 2 (by omega) (by omega) hnl (by have:=tL (L:=l.length) (i:=i) (i':=n+1) (k:=2) (k':=2) (by omega) hnl (by omega) (by omega);omega)
    simp[hn1,hk1];refine aC.mk (hkl:=mL _ _) uG c2L ?_;cases hr2:gJ aJ l f (n+1) 2 with
    |none=>rw[hr2]at hR;cases hR;simp[sM]
    |some z=>
     obtain⟨b,m⟩:=z;have b3Q:=kQ aJ l f _ _ _ _ hr2;rw[hr2]at hR;simp only at hR;simp[sM];cases ex with
     |true=>simp[rg2];exact bC.mk ⟨(tw op b a,m),b3Q.2,by simp only;omega,g,by simp only;omega,by simpa using hR⟩ (by simp[tw,dE]) (by simp;omega)
     |false=>simp[rg2];exact bC.mk ⟨(tw op a b,m),b3Q.2,by simp only;omega,g,by simp only;omega,by simpa using hR⟩ (by simp[tw,dE]) (by simp;omega)
   .rw[if_neg h2]at hR;have h2': ¬(k:Int)=2:=by omega
    have c2L:=hA (n+1) (k+1) (by omega) (by omega) hnl (by have:=tL (L:=l.length) (i:=i) (i':=n+1) (k:=k) (k':=k+1) (by omega) hnl (by omega) (by omega);omega)
    simp[hn1,hk1,h2,h2'];refine aC.mk (hkl:=mL _ _) uG c2L ?_;cases hr2:gJ aJ l f (n+1) (k+1)with
    |none=>rw[hr2]at hR;cases hR;simp[sM]
    |some z=>
     obtain⟨b,m⟩:=z;have b3Q:=kQ aJ l f _ _ _ _ hr2;rw[hr2]at hR;simp only at hR;simp[sM];by_cases h6:k=6
     .rw[if_pos h6]at hR;cases hR;have h6':(k:Int)=6:=by omega
      cases ex with
      |true=>simp[rg2,h6,h6',tw,dE]
      |false=>simp[rg2,h6,h6',tw,dE]
     .rw[if_neg h6]at hR;have h6': ¬(k:Int)=6:=by omega
      cases ex with
      |true=>simp[rg2,h6,h6'];exact bC.mk ⟨(tw op b a,m),b3Q.2,by simp only;omega,g,by simp only;omega,by simpa using hR⟩ (by simp[tw,dE]) (by simp;omega)
      |false=>simp[rg2,h6,h6'];exact bC.mk ⟨(tw op a b,m),b3Q.2,by simp only;omega,g,by simp only;omega,by simpa using hR⟩ (by simp[tw,dE]) (by simp;omega)
theorem c1c(hl:zO l):∀f,d3z G l f
 |0=>λi k _ h10 _ h=>by unfold mu at h;omega
 |f+1=>c9F hl (c1c hl f)
theorem d7J(hl:zO l):CS prog G 200 [tkD l,.int .i64 0,.int .i64 1] (sM (a5w l) 0) none:=c1c hl _ 0 1 (by omega) (by omega) (by omega) (g1m _)
end
end
section
open Go Go.VM
variable {G:GT}
theorem c7d:VM.Enters prog 187:=.mk func187 rfl
theorem c9G(l:List Tok)(hl:zO l)(hn:∀p n,a5w l=some (p,n)->bM p<=1000000):CS prog G 187 [.sl (l.map bJ)] (b3R l) none:=by
 have hat:=d7J (G:=G) hl;obtain⟨o,ho⟩:∃o,a5w l=o:=⟨_,rfl⟩;rw[ho]at hat hn;unfold b3R;rw[ho];refine CS.aX func187 rfl ntmps187 rfl ?_;simp;refine aC.mk (hkl:=mL _ _) uG hat ?_;cases o with
 |none=>simp[sM]
 |some q=>
  obtain⟨p,n⟩:=q;have hck:=c7c (G:=G) p (by have:=hn p n rfl;omega);simp[sM];refine aC.mk c3q hck ?_;by_cases h0:a6S p=0
  .simp[h0]
  .simp[h0]
end
end Go.Proofs.YtjpodcmhcenjjaaGreatDoor
section
namespace Go.VM
open Go Go.RowKit
def b8d(k:Nat):DV->Bool
 | .d _=>true
 | .undef=>true
 | .cI _=>true
 | .qF=>true
 | .ptr k' _=>decide (k'≠k)
 |_=>false
def b0a:bD->Bool
 | .cells cs=>cs.all λc=>match c with
  | .d _=>true
  |_=>false
 |_=>false
section
variable {P:Program} {G:GT} {st:St}
theorem TV.other{R:Nat->Nat->Prop}{μ μ':Nat->Nat}{w:World}{v:Value}{d:DV}{k:Nat}(h:TV R μ w v d)(hk:b8d k d=true)(hμ:∀j,j≠k->μ' j=μ j):TV R μ' w v d:=by
 cases h with
 |d v x h=>exact .d _ _ h
 |undef v=>exact .undef _
 |ptr j off=>simp only[b8d,decide_eq_true_eq]at hk;rw[<-hμ j hk];exact .ptr j off
 |cI vs ds h1 h2=>exact .cI vs ds h1 h2
 |qF b=>exact .qF b
 |_=>cases hk
theorem gL.other{R:Nat->Nat->Prop}{μ μ':Nat->Nat}{w:World}{b:Nat}{o:bD}(h:gL R μ w b o)(ho:b0a o=true):gL R μ' w b o:=by
 cases o with
 |cells cs=>
  obtain⟨vs,T,h1,h2,h3,h4⟩:=h;refine⟨vs,T,h1,h2,λi d hd=>⟨(h3 i d hd).1,?_⟩,h4⟩;have hp:=g0Z.1 ho d (g1b hd);have ht:=(h3 i d hd).2;generalize vs.getD i undef=u at ht|-;cases d with
  |d x=>cases ht with|d v x h=>exact .d _ _ h
  |_=>cases hp
 |_=>cases ho
theorem oD.e8z{f:FuncId}{ds:List D}{kc:Nat}{o:bD}(hch:CH P G f ⟨ds.map .d,[],[]⟩ ⟨[.ptr kc 0],[(kc,o)],[]⟩)(k:Nat){g0U:List DV}{ls:List (Option Loc)}{t:Tmp}(kO:WkT g0U (ds.map .d))(mN:st.own=[])(hk:k<100000)(a0g:getKey k st.H=none)(ho:b0a o=true)(hT:st.tmps.all (b8d k)=true)(hO:st.H.all (λp=>b0a p.2)=true):
  oD P G f g0U ls st (some t) ⟨st.tmps.set t (.ptr k 0),(k,o)::st.H,[]⟩:=by
 intro base R μ a w args hr hl hv a8e
 let kS:dH:=⟨λb=>w.heap.size<=b,μ⟩
 have sub:∀b,kS b->base b:=λb hb=>hr.base b hb;have a1O:Rel P G kS R μ ⟨ds.map .d,[],[]⟩ {tmps:=args,defers:=[]} w:=by
  obtain⟨g1,g2⟩:=a0h kO;refine⟨rfl,by show args.size=(ds.map DV.d).length;omega,λi v d hiv hid=>?_,λk o hk=>(by cases hk),λk k' o o' hk=>(by cases hk),λc hc=>(by cases hc),⟨[],rfl,λi c v h _=>by simp at h,.nil⟩,hr.vL.up sub,hr.qP,λb hb=>hb,λk hk=>rfl⟩;obtain⟨d0,hd0,b5P⟩:=g2 i d hid;have hva:=hv i d0 hd0;have hav:args.getD i undef=v:=by simp only at hiv;simp[g0Y,hiv]
  rw[hav]at hva;rcases b5P with hc|hc|⟨hc1,hc2⟩
  .rw[hc];exact .undef _
  .rw[hc];exact hva
  .rw[hc2];rw[hc1]at hva;obtain⟨ao,rfl⟩:=hva.a9b.kT;exact .d _ _ (.emp _ _)
 refine(hch kS R μ args w a1O).mono λe w' hh=>?_;obtain⟨v,R',μ',he,gD,hs⟩:=hh;obtain⟨μ2,hμk,hμ⟩:∃μ2:Nat->Nat,μ2 k=μ' kc/\∀j,j≠k->μ2 j=μ j:=⟨λj=>if j=k then μ' kc else μ j,by simp,λj hj=>by simp[hj]⟩;refine⟨v,R',μ2,he,?_,⟨hs.below.mono sub,hs.mono,λb o h1 h2=>sub b (hs.new b o h1 h2),hs.cells⟩⟩;have hsb:Step base R w R' w':=⟨hs.below.mono sub,hs.mono,λb o h1 h2=>sub b (hs.new b o h1 h2),hs.cells⟩;have kept:∀b, ¬kS b->w'.heap[b]? =w.heap[b]? /\∀off,R' b off->R b off:=λb hb=>⟨hs.below.block b hb,λoff h=>by
  by_cases hx:R b off
  .exact hx
  .exact absurd (hs.new b off h hx) hb⟩
 obtain⟨n1,n2,n3⟩:=gD.jR kc o (by simp[getKey]);have old:∀j o',getKey j st.H=some o'-> ¬kS (μ j):=λj o' hj hb=>by have:=(hr.jR j o' hj).2.2.lt;exact absurd hb (Nat.not_le.2 this)
 have kF:TV R' μ' w' v (.ptr kc 0):=gD.tmps 0 v _ rfl rfl;refine⟨hr.defers,by simp[Act.put,hr.size],λi u d hu hd=>?_,λj o' hj=>?_,λj j' o1 o2 hj hj' he'=>?_,(λc hc=>by cases hc),⟨[],rfl,λi c v h _=>by simp at h,.nil⟩,hr.vL.bN hsb,gD.qP,λb hb=>hr.base b (Nat.le_trans hs.below.size hb),λj hj=>?_⟩
 .simp only[Act.put]at hu hd;by_cases hti:t=i
  .subst hti;have h1:t<st.tmps.length:=by
    by_cases aF:t<st.tmps.length
    .exact aF
    .have tS:(st.tmps.set t (.ptr k 0))[t]? =none:=List.getElem?_eq_none (by rw[List.length_set];exact Nat.le_of_not_lt aF);rw[tS]at hd;cases hd
   have h2:t<a.tmps.size:=by rw[hr.size];exact h1
   simp[h1]at hd;simp[h2]at hu;subst hu hd;cases kF with
   |ptr _ _=>
    have:TV R' μ2 w' (.pointer (some ⟨μ2 k,0,none⟩)) (.ptr k 0):=.ptr k 0
    rwa[hμk]at this
  .rw[Array.getElem?_setIfInBounds_ne hti]at hu;rw[List.getElem?_set_ne hti]at hd;exact((hr.tmps i u d hu hd).bN hsb).other (g0Z.1 hT d (g1b hd)) hμ
 .by_cases hjk:j=k
  .subst hjk;simp only[getKey,if_true,g1c]at hj;subst hj;rw[hμk];exact⟨sub _ n1,n2,n3.other ho⟩
  .have hj:getKey j st.H=some o':=by
    unfold getKey at hj
    rwa[if_neg (λh:k=j=>hjk h.symm)]at hj
   obtain⟨p1,p2,p3⟩:=hr.jR j o' hj;obtain⟨e1,e2⟩:=kept _ (old j o' hj);rw[hμ j hjk];exact⟨p1,λoff h=>p2 off (e2 off h),(p3.bN hsb e1).other (g0Z.1 hO (j,o') (jO hj))⟩
 .have main:∀j o',j≠k->getKey j ((k,o)::st.H)=some o'->getKey j st.H=some o':=λj o' hjk hj=>by
   unfold getKey at hj
   rwa[if_neg (λh:k=j=>hjk h.symm)]at hj
  by_cases h1:j=k
  .by_cases h2:j'=k
   .rw[h1,h2]
   .rw[h1,hμk,hμ j' h2]at he';exact absurd (he'▸n1) (old j' o2 (main j' o2 h2 hj'))
  .by_cases h2:j'=k
   .rw[h2,hμk,hμ j h1]at he';exact absurd (he'▸n1) (old j o1 (main j o1 h1 hj))
   .rw[hμ j h1,hμ j' h2]at he';exact hr.inj j j' o1 o2 (main j o1 h1 hj) (main j' o2 h2 hj') he'
 .rw[hμ j (by omega)];exact hr.pass j hj
theorem mG.new{f:FuncId}{ds:List D}{kc:Nat}{o:bD}(he:Enters P f)(hch:CH P G f ⟨ds.map .d,[],[]⟩ ⟨[.ptr kc 0],[(kc,o)],[]⟩)(k:Nat){g0U:List D}{ls:List (Option Loc)}{t:Tmp}{all:Array Oper}{rest:List Oper}{X:List XI}{Q:Exit->St->Prop}(kO:WkT (g0U.map .d) (ds.map .d))(mN:st.own=[])(hk:k<100000)(a0g:getKey k st.H=none)(ho:b0a o=true)(hT:st.tmps.all (b8d k)=true)(hO:st.H.all (λp=>b0a p.2)=true)(h:XK P G (.ops all rest::X) .normal ⟨st.tmps.set t (.ptr k 0),(k,o)::st.H,[]⟩ Q):mG P G f g0U ls (some t) all rest X st Q:=by unfold mG;exact .inr ⟨_,⟨he,oD.e8z hch k kO mN hk a0g ho hT hO⟩,h⟩
end
end Go.VM
end
namespace Go.Proofs.YtjpodcmhcenjjaaGreatDoor
section
open Go Go.VM
variable {G:GT}
theorem c9H:VM.Enters prog 55:=.mk func55 rfl
theorem c3r{l:List Tok}(oI:zO l)(s:dW)(e:Nat)(hv:dS l s)(hse:s.er=0->s.pl<=e)(he:e<=l.length):eR G 157 [.int .i64 e] l s (sK rdQ l e s) d2t:=by
 have hl:=oI.1;by_cases h0:s.er=0;rotate_left
 .obtain⟨i,er,ln⟩:=s;refine eR.bL func157 rfl ntmps157 rfl ?_;intro Q Q0;unfold sK at Q0;have Q0:=Q0.rF h0;simp[h0];exact Q0.ok _ _ (.inr rfl) (by simp[eY])
 have hpk:eR G 45 [.int .i64 0] l s _ _:=oG hl 0 s hv (by omega);obtain⟨i,er,ln⟩:=s;simp only at h0;subst h0;have hi:i<l.length:=hv rfl;have hke:i<=e:=hse rfl;obtain⟨L,hL⟩:∃L,(l.take e).drop i=L:=⟨_,rfl⟩;have d7y:zO L:=by rw[<-hL];exact c6O oI e i
 have hrd:=c9G (G:=G) L d7y (λp n h=>Nat.le_trans (b2C h) (by have:=d7y.1;omega));have hLm:((l.map bJ).take e).drop i=L.map bJ:=by rw[<-hL,List.map_drop,List.map_take]
 rw[<-hLm]at hrd;refine eR.a0k func157 rfl ntmps157 rfl ?_;intro Q Q0;unfold sK rdQ at Q0;have Q0:=Q0.tH rfl;simp only[show min i e=i by omega,hL]at Q0;rw[a0E hi]at hpk;refine SW.jW (SW.xk ?_);simp;refine SW.jW (SW.xk ?_);simp;refine SW.jW (SW.vk ?_);simp[hke,he,a3Y];refine⟨kV.mk (by kernel_rfl),?_⟩;refine aC.mk (hkl:=a8M L) c7d hrd ?_;unfold b3R;cases hR:a5w L with
 |none=>simp only[hR]at Q0;simp;refine SW.xk ?_;simp;refine eB gU hpk (λT s1 h1=>?_);cases h1;generalize aG l i=T at Q0|-;obtain⟨a,b,c,d⟩:=T;simp[bJ];exact Q0.ok _ _ (.inr rfl) (by simp[eY])
 |some q=>
  obtain⟨p,n⟩:=q;have hn:=a3X hR;have hLl:L.length<=e-i:=by rw[<-hL];simp;omega
  simp only[hR]at Q0;by_cases hc:a6S p=0
  .simp only[if_pos hc]at Q0;have hw:IntKind.i64.wrap ((i:Int)+(n:Int))=((i+n:Nat):Int):=by rw[wrap64 (by omega)];omega
   simp only[if_pos hc];simp;refine SW.xk ?_;simp[hw];exact Q0.ok _ _ (.inr rfl) (by simp)
  .simp only[if_neg hc]at Q0;simp only[if_neg hc];simp;refine SW.xk ?_;simp[hc];refine eB gU hpk (λT s1 h1=>?_);cases h1;generalize aG l i=T at Q0|-;obtain⟨a,b,c,d⟩:=T;simp[bJ];exact Q0.ok _ _ (.inr rfl) (by simp[eY])
theorem d3B{s:List UInt8}{l:List Tok}(h:mH jC s 0 1 false=.ok l)(hs:s.length<=19000):vW G rdQ l:=by
 have oI:=(c6u h (by omega)).1;have hO:=a0V s 0 1 false l h;have hE:=b4V hO;have hlen:l.length<=20000:=by have:=(wK jC s 0 1 false l h).2.1;omega
 have hW:WfD l:=λi t ht hk=>((d0T hO) t (g1b ht)).2 hk;have a0l:oK l:=by
  have a1E:0<l.length:=List.length_pos_iff.2 hE.1;have aF:l.length-1<l.length:=by omega
  refine⟨hE.1,hE.2 _ ?_⟩;unfold aG;rw[if_pos aF,List.getD_eq_getElem?_getD,g1a aF]
  rfl
 have uV:a1S rdQ l:=λe i p j hi hx=>c3e hE.2 e i p j hi hx;refine⟨hlen,a0l,λi=>((d0T hO) _ (c6Q hE.1 i)).1,uV,λi e n x hi hx=>e8t l i e n x hi hx,λi p k hi hx hs=>?_,λi e p j hx=>?_,λs e hv hse he=>c3r oI s e hv hse he⟩
 .exact e2C hW i p k hi hx (uV _ _ _ _ hi hx).2 hs
 .unfold rdQ at hx;split at hx
  .cases hx
  .rename_i q n hr;split at hx
   .cases hx;have h1:=b2C hr;simp only[List.length_drop,List.length_take]at h1;omega
   .cases hx
theorem d3C{l:List Tok}(hl:l.length<=50000)(s:dW)(hv:dS l s):eR G 55 [] l s (b1e l s) (λ_=>.cI []):=by
 have hp:eR G 45 [.int .i64 0] l s _ _:=oG hl 0 s hv (by omega);have hf:=a1V (G:=G) hl s hv;unfold b1e;obtain⟨i,e,ln⟩:=s;refine eR.bL func55 rfl ntmps55 rfl ?_;intro Q Q0;by_cases he:e=0
 .subst he;simp;refine eB gU hp (λT s1 h1=>?_);cases h1;by_cases hk:(eT l 0 ⟨i,0,ln⟩).kind=0
  .have Q0:=Q0.eq (congrArg (Prod.mk ()) (if_neg (λh=>h.2 hk)));generalize eT l 0 ⟨i,0,ln⟩=T at Q0 hk|-;obtain⟨a,x,c,d⟩:=T;simp only at hk;simp[bJ,hk];exact Q0.ok _ _ (.inl rfl) (by simp)
  .have Q0:=Q0.eq (congrArg (Prod.mk ()) (if_pos ⟨rfl,hk⟩));generalize eT l 0 ⟨i,0,ln⟩=T at hk|-;obtain⟨a,x,c,d⟩:=T;simp only at hk;simp[bJ,hk];refine eB wU hf (λu s1 h1=>?_);cases h1;simp;exact Q0.ok _ _ (.inl rfl) (by simp)
 .have Q0:=Q0.eq (congrArg (Prod.mk ()) (if_neg (λh=>he h.1)));simp[he];exact Q0.ok _ _ (.inl rfl) (by simp)
def qN(s:List UInt8):List Tok×dW:=if 40000<s.length then([],⟨0,7,0⟩) else match mH jC s 0 1 false with
 | .error n=>([],⟨0,14,n⟩)
 | .ok l=>(l,⟨0,0,0⟩)
theorem b9n:VM.Enters prog 44:=.mk func44 rfl
theorem c3s(s:List UInt8)(hs:s.length<=900000000):CH prog G 44 ⟨[D.str s].map .d,[],[]⟩ ⟨[.ptr 16 0],[(16,rfO (qN s).1 (qN s).2)],[]⟩:=by
 have hlx:=c3n (G:=G) s hs;unfold qN;by_cases b3C:40000<s.length
 .rw[if_pos b3C]at hlx|-;refine CH.aX func44 rfl ntmps44 rfl (by simp) ?_;simp;refine aC.mk a3w hlx ?_;simp
 rw[if_neg b3C]at hlx|-;cases hx:mH jC s 0 1 false with
 |error e=>rw[hx]at hlx;simp only[c5M,c5N,c5O]at hlx;refine CH.aX func44 rfl ntmps44 rfl (by simp) ?_;simp;refine aC.mk a3w hlx ?_;simp
 |ok l=>rw[hx]at hlx;simp only[c5M,c5N,c5O,b4o]at hlx;refine CH.aX func44 rfl ntmps44 rfl (by simp) ?_;simp;refine aC.mk a3w hlx ?_;simp
end
section
open Go Go.VM
variable {G:GT}
section
variable {β:Type} {Q:Exit->St->Prop} {l:List Tok} {s:dW} {enc:β->DV}
theorem f5Y(k:Nat){f:FuncId}{ds:List D}{av:List DV}{y:β×dW}{st:St}{ls:List (Option VM.Loc)}{dst:Option Tmp}{KK:St->Prop}(he:VM.Enters prog f)(hc:eR G f ds l s y enc)(oI:∀a s1,y=(a,s1)->KK ⟨jN dst (enc a) st.tmps,bU k (rfO l s1) st.H,gI dst (dropKey k st.own)⟩)(hk:∀a,aQ [(100000,k)] (enc a)=true/\bF [(100000,k)] (enc a)=enc a:=by intro a;exact⟨rfl,rfl⟩)(hw:WkT av (.ptr k 0::ds.map .d):=by simp)(hH:getKey k st.H=some (rfO l s):=by simp):tF prog G f av ls dst st KK Q true:=by
 refine tF.mk (x:=.inl (enc y.1,rfH l y.2,[])) he hc [(100000,k)] (λd H1 own1 hx=>?_) (λv hx=>by cases hx) ?_ ?_ rfl rfl (λd H1 own1 hx=>?_) (λv hx=>by cases hx) (rest:=st.own)
 .cases hx;simp[aL,aQ,aW,aV,eF,bH,getKey,(hk y.1).1]
 .simpa[aR,bF,rk,jP]using hw
 .simp only[cX,rfO,List.map_cons,List.map_nil,rk,if_true,dD,aR,bF,WkH,and_true];exact⟨_,hH,by simp[WkO]⟩
 .cases hx;have:=oI y.1 y.2 rfl;simpa[bG,bS,dD,aR,bF,rk,dX,(hk y.1).2]using this
theorem f2l(k:Nat){f:FuncId}{ds:List D}{av:List DV}{y:β×dW}{st:St}{ls:List (Option VM.Loc)}{dst:Option Tmp}{all:Array Oper}{ops:List Oper}{X:List XI}(he:VM.Enters prog f)(hc:eR G f ds l s y enc)(oI:∀a s1,y=(a,s1)->XK prog G (.ops all ops::X) .normal ⟨jN dst (enc a) st.tmps,bU k (rfO l s1) st.H,gI dst (dropKey k st.own)⟩ Q)(hk:∀a,aQ [(100000,k)] (enc a)=true/\bF [(100000,k)] (enc a)=enc a:=by intro a;exact⟨rfl,rfl⟩)(hw:WkT av (.ptr k 0::ds.map .d):=by simp)(hH:getKey k st.H=some (rfO l s):=by simp):dO prog G f av ls dst all ops X st Q:=dO.mk (f5Y (hw:=hw) (hH:=hH) k he hc oI hk)
end
def d7K{α:Type}(r:kJ α)(t:α)(s2:dW):Prop:=match r with
 | .ok a _=>t=a/\s2.er=0
 | .bad n e=>e≠0/\s2.er=e/\s2.ln=n
theorem b8e{l:List Tok}{s:dW}(h:s.er≠0):(b1e l s).2=s:=by unfold b1e;rw[if_neg (λh'=>h h'.1)]
theorem e8A{α:Type}(C:List Tok->dW->α×dW->Prop){x:List Tok->bE α}{y:List Tok->RM α}(z:α)(s:List UInt8)(hs:s.length<=19000)(hW:∀l,vW G rdQ l->(∀i, -9223372036854775807<=(aG l i).n/\(aG l i).n<=9223372036854775807)->∀s,dS l s->C l s (y l s))(hE:∀s:dW,s.er≠0->C [] s (z,s))(hM:∀l,vW G rdQ l->aM l 0 (x l) (y l))(ha:∀l,vW G rdQ l->aB l 0 (x l)):
  ∃t s1,C (qN s).1 (qN s).2 (t,s1)/\dS (qN s).1 s1/\(qN s).1.length<=50000/\d7K (eI x s) t (b1e (qN s).1 s1).2:=by
 unfold qN eI;have hng:∀(e n:Int),e≠0->∃t s1,C [] ⟨0,e,n⟩ (t,s1)/\dS [] s1/\([]:List Tok).length<=50000/\d7K (.bad n e:kJ α) t (b1e [] s1).2:=λe n he=>by refine⟨z,⟨0,e,n⟩,hE ⟨0,e,n⟩ he,λh=>absurd h he,by simp,he,?_⟩;rw[b8e (s:=⟨0,e,n⟩) he];exact⟨rfl,rfl⟩
 by_cases hl:40000<s.length
 .omega
 rw[if_neg hl,if_neg hl];cases hx:mH jC s 0 1 false with
 |error n=>exact hng 14 n (by decide)
 |ok l=>
  have hV:vW G rdQ l:=d3B hx hs;have h0:0<l.length:=List.length_pos_iff.2 hV.fin.1;have d3D:=(hM l hV).sim 0 0 (g1m _) h0;refine⟨(y l ⟨0,0,0⟩).1,(y l ⟨0,0,0⟩).2,hW l hV (c0X hx) ⟨0,0,0⟩ λ_=>h0,(dS.next ((hM l hV).kL (ha l hV) (s:=⟨0,0,0⟩) (λ_=>h0) (λ_=>g1m _) rfl)),by have:=hV.len;simp only;omega,?_⟩;simp only;cases hr:x l 0 with
  |bad n e=>rw[hr]at d3D;obtain⟨k1,k2,k3⟩:e≠0/\_:=d3D;simp only;exact⟨k1,by rw[b8e (by rw[k2];exact k1)];exact k2,by rw[b8e (by rw[k2];exact k1)];exact k3⟩
  |ok a j=>
   rw[hr]at d3D;have d3D:y l ⟨0,0,0⟩=(a,⟨j,0,0⟩):=d3D;have hj:=(ha l hV 0 a j h0 hr).2;rw[d3D];simp only;unfold a3M b1e;rw[a0E hj];by_cases hk:(aG l j).kind=0
   .rw[if_pos hk,if_neg (λh=>h.2 hk)];exact⟨rfl,rfl⟩
   .rw[if_neg hk,if_pos ⟨rfl,hk⟩,zG hj];exact⟨by decide,rfl,rfl⟩
theorem f2m{α:Type}{f:FuncId}{x:List Tok->bE α}{y:List Tok->RM α}{enc:α->DV}(z:α)(s:List UInt8)(hs:s.length<=19000)(hW:∀l,vW G rdQ l->(∀i, -9223372036854775807<=(aG l i).n/\(aG l i).n<=9223372036854775807)->∀s,dS l s->eR G f [] l s (y l s) enc)(hE:∀s:dW,s.er≠0->eR G f [] [] s (z,s) enc)(hM:∀l,vW G rdQ l->aM l 0 (x l) (y l))(ha:∀l,vW G rdQ l->aB l 0 (x l)):
  ∃t s1,eR G f [] (qN s).1 (qN s).2 (t,s1) enc/\dS (qN s).1 s1/\(qN s).1.length<=50000/\d7K (eI x s) t (b1e (qN s).1 s1).2:=e8A (λl s y=>eR G f [] l s y enc) z s hs hW hE hM ha
end
end Go.Proofs.YtjpodcmhcenjjaaGreatDoor
