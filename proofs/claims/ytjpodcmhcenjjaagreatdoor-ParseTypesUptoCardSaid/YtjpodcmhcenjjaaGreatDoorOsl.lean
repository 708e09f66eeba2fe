/- Lemmas that the law of this claim needs (VmRB PsQ PsT VmRD PsV PsW PsX PsY PsZ PtA PrP PtB PrQ VmRP VmRQ PtC PtD PtE). No condition. -/
import Derived.Test.YtjpodcmhcenjjaaGreatDoorOsa
import Derived.Test.YtjpodcmhcenjjaaGreatDoorOsd
import Derived.Test.YtjpodcmhcenjjaaGreatDoorOse
import Derived.Test.YtjpodcmhcenjjaaGreatDoorOsf
import Derived.Test.YtjpodcmhcenjjaaGreatDoorOsg
import Derived.Test.YtjpodcmhcenjjaaGreatDoorOsi
import Derived.Test.YtjpodcmhcenjjaaGreatDoorOsj
import Derived.Test.YtjpodcmhcenjjaaGreatDoorOsk
import Derived.Recover
import Derived.Tactics2
import Derived.Laws.Pointers
import Derived.Defers
set_option linter.unusedVariables false
set_option linter.unusedSimpArgs false
set_option linter.unusedSectionVars false
set_option maxRecDepth 100000
set_option maxHeartbeats 64000000
open Go.Proofs.Tryz
section
namespace Go.VM
open Go Go.RowKit
section
variable {P:Program} {G:GT} {st:St}
theorem qL{all:Array Oper}{QQ:Exit->Act->World->Prop}{a a':Act}{w w':World}{o:Oper}{rest:List Oper}(hg:o.guard=none){v:Value}(cZ:(execOp a.eval o).run P w=.ok (.value v) w'\/((execOp a.eval o).run P w=.ok .skip w'/\v=Go.undef))(ha:a.put o.dst v=a')(h:wpList P all QQ rest a' w'):wpList P all QQ (o::rest) a w:=by
 have hw:∀y,Region.wanted o y=true:=λy=>by unfold Region.wanted;rw[hg]
 unfold wpList;rw[if_pos (hw _)];left;unfold Oper.wp;rcases cZ with h1|⟨h1,rfl⟩
 .rw[h1]
  show wpList P all QQ rest (a.put o.dst v) w'
  rw[ha];exact h
 .rw[h1]
  show wpList P all QQ rest (a.put o.dst Go.undef) w'
  rw[ha];exact h
def e8X(P:Program)(G:GT)(t:TypeId)(x d s:Tmp)(j:Nat)(parts:Array (Nat×Operand))(Q:St->Prop)(st:St):Prop:=
 ∃(d4L b0f d0M:Out) (k off:Nat),(s<st.tmps.length/\x<st.tmps.length/\d<st.tmps.length)/\a7w P G t parts st=some d4L/\b0v P (some d) t (finish d4L.st (some x) d4L.v d4L.act)=some b0f/\uG P G t (.tmp d) (.tmp x) (finish b0f.st (some d) b0f.v b0f.act)=some d0M/\(finish b0f.st (some d) b0f.v b0f.act).eval G (.tmp d)=.ptr k off/\d0M.st.eval G (.tmp d)=.ptr k off/\(∃cs,getKey k (finish b0f.st (some d) b0f.v b0f.act).H=some (.cells cs))/\
  (∀(o:Oper),o.op=.build t parts->∀base R μ a w,Rel P G base R μ st a w->∃cs:Array Value,(execOp a.eval o).run P w=.ok (.value (.agg cs)) w/\cs[j]? =some (a.eval (.tmp s))/\cs.size=P.cellsOf t)/\(getKey k d0M.st.H).isSome=true/\Q {d0M.st with own:=addAlias (.t s) (.c k (off+j)) d0M.st.own}
theorem LW.e5r{all:Array Oper}{t:TypeId}{x d s:Tmp}{j:Nat}{parts:Array (Nat×Operand)}{y0 y1 y2:TypeId}{p0 p1 p2:String}{f0 f1 f2:Array Edge}{Q:Exit->St->Prop}(eF:x≠s/\x≠d/\d≠s)(hct:P.cellsOf t≠0)(h:e8X P G t x d s j parts (λs'=>Q .normal s') st):
  LW P G all [⟨some x,.build t parts,y0,p0,f0,none⟩,⟨some d,.alloc t,y1,p1,f1,none⟩,⟨none,.store t (.tmp d) (.tmp x),y2,p2,f2,none⟩] st Q:=by
 unfold LW;intro base R μ a w hr QQ hk;obtain⟨d4L,b0f,d0M,k,off,k0,k1,kA,k2,k3,k4,⟨cs0,k5⟩,f2A,k6,k7⟩:=h;obtain⟨cs,e0,e1,e2⟩:=f2A ⟨some x,.build t parts,y0,p0,f0,none⟩ rfl base R μ a w hr;obtain⟨v,w0,R0,μ0,cZ,hr1,hv1,ha1,hs1⟩:=b7I (o:=⟨some x,.build t parts,y0,p0,f0,none⟩) rfl k1 base R μ a w hr;rw[e0]at cZ;have hv:v=.agg cs/\w0=w:=by
  rcases cZ with cZ|⟨cZ,_⟩
  .cases cZ;exact⟨rfl,rfl⟩
  .cases cZ
 obtain⟨rfl,rfl⟩:=hv;have zC:=hr1.put (dst:=some x) hv1 ha1;generalize ha:a.put (some x) (.agg cs)=a0 at zC;have hsa:s<a.tmps.size:=by rw[hr.size];exact k0.1
 have hxa:x<a.tmps.size:=by rw[hr.size];exact k0.2.1
 have hda:d<a.tmps.size:=by rw[hr.size];exact k0.2.2
 have f2B:a0.eval (.tmp x)=.agg cs:=by rw[<-ha];exact dR _ _ hxa
 have es0:a0.eval (.tmp s)=a.eval (.tmp s):=by rw[<-ha];exact bV _ _ (Ne.symm eF.1)
 obtain⟨vA,w1,R1,μ1,e8Y,hrA,hvA,haA,hsA⟩:=b7K (o:=⟨some d,.alloc t,y1,p1,f1,none⟩) rfl kA base R0 μ0 a0 w0 zC;have zC:=hrA.put (dst:=some d) hvA haA;generalize hb:a0.put (some d) vA=a1 at zC;have f2C:s<a1.tmps.size:=by rw[<-hb,size_put, <- ha,size_put];exact hsa
 have es:a1.eval (.tmp s)=a.eval (.tmp s):=by rw[<-hb,bV _ _ (Ne.symm eF.2.2)];exact es0
 have hxv:a1.eval (.tmp x)=.agg cs:=by rw[<-hb,bV _ _ eF.2.1];exact f2B
 obtain⟨v2,w2,R2,μ2,a7e,hr3,_,_,hs2⟩:=a6j (o:=⟨none,.store t (.tmp d) (.tmp x),y2,p2,f2,none⟩) rfl k2 base R1 μ1 a1 w1 zC;obtain⟨_,_,cur,T0,hh,hcz,_⟩:=zC.gY k _ k5;have had:=zC.eC k3;have hcc:(Value.agg cs).cells=cs:=rfl;have k2':=k2;unfold uG at k2;rw[k3]at k2;split at k2;rotate_left
 .cases k2
 rename_i k' a4M ys hk' hys;cases hk';rw[k5]at k2;simp only at k2;split at k2;rotate_left
 .cases k2
 rename_i hcd;have hvx:uE ((finish b0f.st (some d) b0f.v b0f.act).eval G (.tmp x))=some ys:=hys;obtain⟨rK,hvc⟩:=a6i (zC.eval (.tmp x)) hvx;rw[hxv,hcc]at rK hvc;have kD:∀u∈cs.toList,u.oneCell'=true:=λu hu=>by
  obtain⟨i,hi⟩:=f7Y hu;have tY:i<ys.length:=by rw[<-rK];simpa using (f7I.1 hi).1
  obtain⟨_,_,h2⟩:=hvc i ys[i] (by simp[tY]);have:cs.getD i undef=u:=by
   have:cs[i]? =some u:=by simpa using hi
   simp[f7J,this]
  rw[this]at h2;exact h2
 have jR:off+cs.size<=cur.size:=by rw[hcz,rK];omega
 have mD:=vZ (P:=P) (a:=a1) (w:=w1) (o:=⟨none,.store t (.tmp d) (.tmp x),y2,p2,f2,none⟩) rfl had hh (by rw[hxv,hcc];exact e2) hct (by rw[hxv,hcc];exact kD) (by rw[hxv,hcc];exact jR);rw[hxv,hcc]at mD;have hw2:w2=w1.setRow (μ1 k) (spl cur off cs.toList):=by
  rw[mD]at a7e;rcases a7e with a7e|⟨a7e,_⟩
  .cases a7e
  .cases a7e;rfl
 have hμ:μ2 k=μ1 k:=by have h1:=hr3.eC k4;rw[had]at h1;have h2:=(Addr.mk.inj (Option.some.inj (Value.pointer.inj h1))).1;exact h2.symm
 have oV:∀u,w2.cell? ⟨μ2 k,off+j,none⟩=some u->u=a1.eval (.tmp s):=λu hu=>by
  have hjl:j<cs.size:=(f7Q.1 e1).1;rw[hμ,hw2,cell_of_row _ _ _ _ T0 (0,0) (setRow_heap w1 (μ1 k) cur _ T0 _ hh),a9p (by simpa using jR),if_neg (by omega),if_pos (by simp;omega),Nat.add_sub_cancel_left]at hu;have:cs.toList[j]? =some (a.eval (.tmp s)):=by simpa using e1
  rw[this]at hu;cases hu;exact es.symm
 have hr4:=hr3.alias (t:=s) (k:=k) (off:=off+j) (Option.isSome_iff_exists.1 k6) f2C oV;refine qL rfl (.inl e0) ha ?_;refine qL rfl e8Y hb ?_;refine qL (w':=w2) rfl (.inr ⟨by rw[hw2];exact mD,rfl⟩) rfl ?_;unfold wpList;exact hk _ _ _ _ R2 μ2 k7 hr4 ((hs1.trans hsA).trans hs2)
end
end Go.VM
end
namespace Go.Proofs.YtjpodcmhcenjjaaGreatDoor
section
open Go Go.VM
variable {G:GT}
theorem d4M{R:Nat->Nat->Prop}{w:World}{v:Value}{es:List (List D)}(h:V R w v (.sl es)):∃ao n c,v=.slice ao n c:=by
 cases h with
 |emp ao cap=>exact⟨_,_,_,rfl⟩
 |sl b o n cap size es f h1 h2 h3 h4 h5 h6 h7=>exact⟨_,_,_,rfl⟩
theorem d0N{a:Act}{w:World}{o:Oper}(ho:o.op=.build 30 #[(0,.const (.int .i64 25)),(1,.tmp 44),(3,.tmp 46)]){s:ByteArray}{a1:Option Addr}{n1 c1:Nat}(h2:a.eval (.tmp 44)=.string s)(h1:a.eval (.tmp 46)=.slice a1 n1 c1):
  (execOp a.eval o).run prog w=.ok (.value (.agg #[.int .i64 25,.string s,.int .i64 0,.slice a1 n1 c1,.slice none 0 0,.slice none 0 0,.slice none 0 0])) w:=by
 have hz:(prog.info? 30).bind (·.zero)=some (.agg #[.int .i64 0,.string ⟨#[]⟩,.int .i64 0,.slice none 0 0,.slice none 0 0,.slice none 0 0,.slice none 0 0]):=by kernel_rfl
 obtain⟨i,hi,hz⟩:=f7V.1 hz;simp[execOp,ho,Instr.build,zeroValue,typeInfo,hi,hz];rw[h1,h2]
 rfl
section
variable {α:Type} {Q:Exit->St->Prop} {l:List Tok} {i:Nat} {enc:α->DV} {e:TypeId} {r:kN α}
theorem f2D{f:FuncId}{ds:List D}{av:List DV}{st:St}{ls:List (Option VM.Loc)}{dst:Option Tmp}{KK:St->Prop}(he:VM.Enters prog f)(hc:RdO G f ds l i e r enc)(mP:∀a j,r=.ok a j->KK (bD K1 dst st st.own (enc a) (rH l j) [(e,[.t 0])]))(a2F:∀n e,r=.bad n e->Q (.panic (a0a (oX n e))) (a1M st))(hk:∀a,aT K1 (enc a)=true/\bA K1 (enc a)=enc a:=by intro a;exact⟨rfl,rfl⟩)(hw:WkT av (.ptr 100000 0::ds.map .d):=by simp)(hH:getKey 100000 st.H=some (rdO l i):=by simp):sN prog G f av ls dst st KK Q (gX r):=by
 rw[<-c3O (l:=l) (enc:=enc) (Y:=λ_=>[]) (own:=[(e,[.t 0])]) r];refine sN.mk he hc K1 (λd H1 dM hx=>?_) (λv hx=>?_) ?_ ?_ rfl rfl (λd H1 dM hx=>?_) (λv hx=>?_)
 .cases r with
  |bad n e=>cases hx
  |ok a j=>cases hx;simp[aJ,aT,aN,aM,dY,bC,getKey,(hk a).1]
 .simp[aJ,aT,aN,aM,dY,bC,getKey]
 .simpa[aQ,bA,rk,jC]using hw
 .simp only[cH,rdO,List.append_nil,List.map_cons,List.map_nil,rk,if_true,cP,aQ,bA,WkH,and_true];exact⟨_,hH,by simp[WkO]⟩
 .cases r with
  |bad n e=>cases hx
  |ok a j=>cases hx;exact mP a j rfl
 .cases r with
  |bad n e=>cases hx;exact a2F n e rfl
  |ok a j=>cases hx
end
section
variable {aI:List Tok->Nat->Nat->kN Pr} {l:List Tok} (hV:oS G aI l) (hN:∀i, -9223372036854775807<=(aK l i).n/\(aK l i).n<=9223372036854775807)
include hV hN
section
variable {ex:Nat->aZ jL} {low:Nat} (hex:∀i,low<=i->i<l.length->qT G 34 [] l i (ex 0 i) tX) (h3:∀i,low<=i->i<l.length->qT G 168 [] l i (ex 3 i) tX) (h7:∀i,low<=i->i<l.length->qT G 247 [] l i (ex 7 i) tX) (mV:∀k,aB l 1 (ex k))
include hex h3 h7 mV
omit hN hex h3 h7 in
theorem d0O(i:Nat)(ks:List jL)(j:Nat)(hi:i<l.length)(h:qJ l ex i=.ok ks j):ks.length<=j:=by unfold qJ at h;obtain⟨_,k1,h1,h⟩:=bX h;obtain⟨es,k2,h2,h⟩:=bX h;obtain⟨_,k3,h3,h⟩:=bX h;have a1:=aB.exp hV.fin _ _ i _ k1 hi h1;have a2:=sR hV (one:=c4w ex) (λa p=>a.length<=p) (λa p b q hp ha hab=>⟨b5G hV mV a p b q hp ha hab,(b1c hV mV a p b q hp hab).2⟩) (λa p h=>by omega) _ _ _ _ _ a1.2 (by simp) h2;have a3:=aB.exp hV.fin _ _ k2 _ k3 a2.2 h3;cases h;omega
theorem c7h(i:Nat)(gW:low<=i+1)(hi:i<l.length):qT G 34 [] l i (b4w aU bQ aI l ex i) tX:=by
 have hl:=hV.len;obtain⟨j0,rfl⟩:∃j0,j0=i:=⟨_,rfl⟩;have p0:j0<=j0/\j0<l.length:=⟨f7X _,hi⟩;refine mX.a1I func34 rfl ntmps34 rfl (by simp) ?_;intro Q Q0;unfold b4w at Q0;refine SW.jZ (SW.xk ?_);simp;refine SW.jZ (SW.c6p ?_);refine SW.jZ (SW.xk ?_);simp;cases s1:aL l j0 [108,101,116]with
 |true=>have Q1:=Q0.ifp s1;refine rdT s1 p0 hV.fin λp1=>?_;obtain⟨j1,qW⟩:∃j,j0+1=j:=⟨_,rfl⟩;rw[qW]at Q1 p1|-;simp;refine SW.a7f rfl ?_;refine SW.xk ?_;simp;refine rdR Q1 c6Z (d0B hV hex mV j1 (by omega) p1.2) λt j h=>?_;simp;exact Q1.ok t j _ _ h (.inr rfl) (by simp)
 |false=>
 have Q0:=Q0.wP (by rw[s1];decide);refine xK s1 p0 ?_;simp;refine SW.b1V rfl ?_;refine SW.jZ (SW.xk ?_);simp;cases s2:aL l j0 [105,102]with
 |true=>
  have Q1:=Q0.ifp s2;refine rdT s2 p0 hV.fin λp1=>?_;obtain⟨j1,qW⟩:∃j,j0+1=j:=⟨_,rfl⟩;rw[qW]at Q1 p1|-;simp;refine SW.a7f rfl ?_;refine SW.xk ?_;simp;refine rP Q1 p1 cA ((hex j1 (by omega) p1.2)) (mV 0) λa j2 x2 Q2 p2=>?_;simp;refine dG Q2 p2 hV.fin λu3 j3 x3 Q3 p3=>?_;simp;refine rP Q3 p3 cA ((hex j3 (by omega) p3.2)) (mV 0) λb j4 x4 Q4 p4=>?_;simp;refine dG Q4 p4 hV.fin λu5 j5 x5 Q5 p5=>?_;simp;refine oH 3 [2] (.op 0 (.op 1 (.call [4,5,6] .none) (.call [1,4,5,6] .none)) (.op 1 (.op 0 (.call [4,5,6] .none) (.call [0,4,5,6] .none)) (.call [0,1,4,5,6] .none))) (gX (ex 0 j5)) (by kernel_rfl) (by kernel_rfl) ?_;simp
  repeat' apply And.intro
  all_goals
   refine pD Q5 p5 cA ((hex j5 (by omega) p5.2)) (mV 0) λc j6 x6 Q6 p6=>cI.mk ?_;simp;refine aD.mk cD (d0z 8 a b c) ?_;simp;exact Q6.ok _ j6 _ _ rfl (.inr rfl) (by simp)
 |false=>
 have Q0:=Q0.wP (by rw[s2];decide);refine xK s2 p0 ?_;simp;refine SW.b1V rfl ?_;refine SW.jZ (SW.xk ?_);simp;cases s3:aL l j0 [99,97,115,101]with
 |true=>have Q1:=Q0.ifp s3;refine rdT s3 p0 hV.fin λp1=>?_;obtain⟨j1,qW⟩:∃j,j0+1=j:=⟨_,rfl⟩;rw[qW]at Q1 p1|-;simp;refine SW.a7f rfl ?_;refine SW.xk ?_;simp;refine rdR Q1 c0Z (c4C hV hex mV j1 (by omega) p1.2) λt j h=>?_;simp;exact Q1.ok t j _ _ h (.inr rfl) (by simp)
 |false=>
 have Q0:=Q0.wP (by rw[s3];decide);refine xK s3 p0 ?_;simp;refine SW.b1V rfl ?_;refine SW.jZ (SW.xk ?_);simp;cases s4:aL l j0 [102,117,110]with
 |true=>have Q1:=Q0.ifp s4;refine rdT s4 p0 hV.fin λp1=>?_;obtain⟨j1,qW⟩:∃j,j0+1=j:=⟨_,rfl⟩;rw[qW]at Q1 p1|-;simp;refine SW.a7f rfl ?_;refine SW.xk ?_;simp;refine rdR Q1 b7s (c1b hV hex mV j1 (by omega) p1.2) λt j h=>?_;simp;exact Q1.ok t j _ _ h (.inr rfl) (by simp)
 |false=>
 have Q0:=Q0.wP (by rw[s4];decide);refine xK s4 p0 ?_;simp;refine SW.b1V rfl ?_;refine SW.jZ (SW.xk ?_);simp;cases s5:aL l j0 [117,115,101]with
 |true=>
  have Q1:=Q0.ifp s5;refine rdT s5 p0 hV.fin λp1=>?_;obtain⟨j1,qW⟩:∃j,j0+1=j:=⟨_,rfl⟩;rw[qW]at Q1 p1|-;simp;refine SW.a7f rfl ?_;refine SW.jZ (SW.lw ?_);refine LW.at 1 1 (gX (bL aU l j1)) rfl ⟨_,rfl⟩ ?_;simp;refine rdZ (ds:=[]) cQ (dD hV.kw l j1 p1.2 (by omega)) (λnm j2 x2=>?_) (λn e hx=>Q1.fail hx _);have Q2:=Q1.step x2;have p2:=aB.word hV.fin j1 nm j2 p1.2 x2;simp;refine LW.at 1 3 (gX (qJ l ex j2)) rfl ⟨_,rfl⟩ ?_;simp;refine f2D a1X (b5H hV hex mV j2 (by omega) p2.2) (λks j3 x3=>?_) (λn e hx=>Q2.fail hx _);have Q3:=Q2.step x3;have p3:=aB.mE hV.fin mV j2 ks j3 p2.2 x3;have hks:=d0O hV mV j2 ks j3 p2.2 x3;simp[bD,aQ,bA,rk,cH,cP,bM,jA,eZ,dJ];refine LW.e5r (s:=46) (j:=3) (by decide) (by decide+kernel) ?_;refine⟨_,_,_,_,_,by simp,rfl,rfl,rfl,rfl,rfl,⟨_,rfl⟩,?_,rfl,?_⟩
  .intro o ho base R μ a w hr;obtain⟨ao,n1,c1,hs1⟩:=d4M (hr.kK (x:=.tmp 46) rfl);have hs2:=(hr.kK (x:=.tmp 44) rfl).oP;exact⟨_,d0N ho hs2 hs1,by rw[hs1];rfl,by kernel_rfl⟩
  refine SW.xk ?_;simp[addAlias];refine dG Q3 p3 hV.fin λu4 j4 x4 Q4 p4=>?_;simp;refine gH [0,2] 3 [] (.op 1 (.call [4,5,6,7] .none) (.call [1,4,5,6,7] .none)) (gX (ex 0 j4)) (by kernel_rfl) (by kernel_rfl) ?_;simp;refine⟨?_,?_⟩
  all_goals
   refine pD Q4 p4 cA ((hex j4 (by omega) p4.2)) (mV 0) λb j5 x5 Q5 p5=>cI.mk ?_;simp;refine cF ⟨λx _=>by rw[dX];rfl,by omega⟩ ?_;simp;exact Q5.ok _ j5 _ _ rfl (.inr rfl) (by simp[dX])
 |false=>
 have Q0:=Q0.wP (by rw[s5];decide);refine xK s5 p0 ?_;simp;refine SW.b1V rfl ?_;refine SW.xk ?_;simp;refine SW.xk ?_;simp;refine rdR Q0 d0K (d4K hV hN hex h3 h7 mV j0 (by omega) p0.2) λt j h=>?_;simp;exact Q0.ok t j _ _ h (.inr rfl) (by simp)
end
theorem b9a:∀n,(∀i,i<l.length->l.length<n+i->qT G 34 [] l i (zQ aU bQ aI l n 0 i) tX)/\(∀i,i<l.length->l.length<n+i->qT G 168 [] l i (zQ aU bQ aI l n 3 i) tX)/\(∀i,i<l.length->l.length<n+i->qT G 247 [] l i (zQ aU bQ aI l n 7 i) tX)
 |0=>⟨λi hi h=>by omega,λi hi h=>by omega,λi hi h=>by omega⟩
 |n+1=>by
  obtain⟨k0,k3,k7⟩:=b9a n;have mV:=aB.exF (kw:=aU) (andP:=bQ) hV.fin hV.sB.pred n;refine⟨λi hi h=>?_,λi hi h=>?_,λi hi h=>?_⟩
  .exact c7h hV hN (ex:=zQ aU bQ aI l n) (low:=i+1) (λi' h1 h2=>k0 i' h2 (by omega)) (λi' h1 h2=>k3 i' h2 (by omega)) (λi' h1 h2=>k7 i' h2 (by omega)) mV i (f7X _) hi
  .exact b8Z hV hN (ex:=zQ aU bQ aI l n) (low:=i+1) (λi' h1 h2=>k0 i' h2 (by omega)) (λi' h1 h2=>k3 i' h2 (by omega)) (λi' h1 h2=>k7 i' h2 (by omega)) mV i (f7X _) hi
  .exact b2q hV hN (ex:=zQ aU bQ aI l n) (low:=i+1) (λi' h1 h2=>k0 i' h2 (by omega)) (λi' h1 h2=>k7 i' h2 (by omega)) mV i (f7X _) hi
theorem a1Z(i:Nat)(hi:i<l.length):qT G 34 [] l i (a7V aU bQ aI l i) tX:=(b9a hV hN _).1 i hi (by omega)
omit hN in
theorem a8y:aB l 1 (a7V aU bQ aI l):=aB.expr hV.fin hV.sB.pred
end
end
section
open Go Go.VM
variable {G:GT}
theorem a5U:VM.Enters prog 107:=.mk func107 rfl
theorem a3Q:VM.Enters prog 58:=.mk func58 rfl
abbrev b2R(d:oB):List D:=.str d.name::.sl (strs d.params)::(a1d d.body++ .int .i64 d.mode::.bool d.typed::c0Y d.sig)
theorem b0g(d:oB):b9Z d=b2R d:=by
 rw[b9Z,dX,d9P]
 rfl
abbrev b2S:oB:=⟨[],[],a4y,0,false,b2D⟩
abbrev f2E:Option oB->DV:=λo=>.bY [.agg (b2R (o.getD b2S)),.bool o.isSome]
section
variable {aI:List Tok->Nat->Nat->kN Pr} {l:List Tok} (hV:oS G aI l) (hN:∀i, -9223372036854775807<=(aK l i).n/\(aK l i).n<=9223372036854775807)
include hV
theorem a8z(mode:Int)(i:Nat)(hi:i<l.length):qT G 107 [.int .i64 mode] l i (a3t aU l mode i) (λd=>.d (.agg (b2R d))):=by
 have hl:=hV.len;obtain⟨j0,rfl⟩:∃j0,j0=i:=⟨_,rfl⟩;have p0:j0<=j0/\j0<l.length:=⟨f7X _,hi⟩;refine mX.bS func107 rfl ntmps107 rfl (by simp) ?_;intro Q Q0;unfold a3t at Q0;simp;refine rP Q0 p0 cQ (dD hV.kw l j0 p0.2 (by omega)) (aB.word hV.fin) λnm j1 x1 Q1 p1=>?_;simp;have hb:=jS (G:=G) l j1 [40] p1.2 (by omega);refine mY (ds:=[.str [40]]) eV hb ?_;cases hs:aL l j1 [40]with
 |false=>have Q2:=Q1.step (a:=[]) (j:=j1) (by simp[hs]);simp;exact Q2.ok _ j1 _ _ rfl (.inr rfl) (by simp[a4y,b2D,mW,eA])
 |true=>
  simp;have ht1:=cJ (G:=G) l j1 (j1+1) 1 (by omega) (by omega) (by intro e;subst e;simp at hi) (by omega);refine mY (ds:=[.int .i64 1]) bR ht1 ?_;simp;refine mQ.mk mC (oD (aK l (j1+1)) [41]) ?_;cases hf:cK (aK l (j1+1)) [41]with
  |true=>
   have Q2:=Q1.step (a:=[]) (j:=j1+2) (by simp[hs,hf]);have hw2:IntKind.i64.wrap ((j1:Int)+2)=((j1+2:Nat):Int):=by rw[wrap64 (by omega)];omega
   simp[hw2];exact Q2.ok _ (j1+2) _ _ rfl (.inr rfl) (by simp[a4y,b2D,mW,eA])
  |false=>
   have e1:(λi=>if aL l i [40] then(if cK (aK l (i+1)) [41] then .ok [] (i+2) else gG aU l i) else .ok [] i:aZ (List Nm)) j1=gG aU l j1:=by simp[hs,hf]
   simp;refine rdX a3J (a5F hV j1 p1.2) (λns j3 x3=>?_) (λn e hx=>by first|exact Q1.fail (e1.trans hx) _|(simp;exact Q1.fail (e1.trans hx) _)|(simp;exact λs=>Q1.fail (e1.trans hx) s));have Q3:=Q1.step (e1.trans x3);have p3:=aB.words hV.fin j1 ns j3 p1.2 x3;simp;exact Q3.ok _ j3 _ _ rfl (.inr rfl) (by simp[a4y,b2D,mW,eA])
theorem b1e:aB l 1 (a4i aU bQ aI l):=aB.sig hV.fin hV.sB
include hN
theorem a6G(i:Nat)(hi:i<l.length):qT G 58 [] l i (a0R aU bQ aI l i) f2E:=by
 have hl:=hV.len;obtain⟨j0,rfl⟩:∃j0,j0=i:=⟨_,rfl⟩;have p0:j0<=j0/\j0<l.length:=⟨f7X _,hi⟩;refine mX.bS func58 rfl ntmps58 rfl (by simp) ?_;intro Q Q0;unfold a0R at Q0;simp;cases s1:aL l j0 [100,101,102]with
 |true=>
  have Q1:=Q0.ifp s1;refine rdT s1 p0 hV.fin λp1=>?_;obtain⟨j1,qW⟩:∃j,j0+1=j:=⟨_,rfl⟩;rw[qW]at Q1 p1|-;simp;refine rP Q1 p1 a5U ((a8z hV 0 j1 p1.2)) ((aB.head hV.fin 0)) λd j2 x2 Q2 p2=>?_;simp;cases s2:aL l j2 [58]with
  |false=>have Q3:=Q2.step (jU s2);rw[if_neg (by decide)]at Q3;refine xK s2 p2 ?_;simp;have Q2:=Q3.step (gF _ _);unfold a3u at Q2;refine dG Q2 p2 hV.fin λu8 j8 x8 Q8 p8=>?_;simp;refine rP Q8 p8 cA ((a1Z hV hN j8 p8.2)) (a8y hV) λe j9 x9 Q9 p9=>?_;simp;exact Q9.ok _ j9 _ _ rfl (.inr rfl) (by simp)
  |true=>have Q3:=Q2.step (jT s2);rw[if_pos rfl]at Q3;refine rdT s2 p2 hV.fin λp3=>?_;obtain⟨j3,hj3⟩:∃j,j2+1=j:=⟨_,rfl⟩;rw[hj3]at Q3 p3|-;simp;have Q3:=Q3.assoc;refine rP Q3 p3 a8w ((b1d hV j3 p3.2)) (b1e hV) λs j4 x4 Q4 p4=>?_;simp;have Q4:=Q4.step (gF _ _);unfold a3u at Q4;refine dG Q4 p4 hV.fin λu8 j8 x8 Q8 p8=>?_;simp;refine rP Q8 p8 cA ((a1Z hV hN j8 p8.2)) (a8y hV) λe j9 x9 Q9 p9=>?_;simp;exact Q9.ok _ j9 _ _ rfl (.inr rfl) (by simp)
 |false=>
 have Q0:=Q0.wP (by rw[s1];decide);refine xK s1 p0 ?_;simp;cases s2:aL l j0 [97,115,115,117,109,101]with
 |true=>have Q1:=Q0.ifp s2;refine rdT s2 p0 hV.fin λp1=>?_;obtain⟨j1,qW⟩:∃j,j0+1=j:=⟨_,rfl⟩;rw[qW]at Q1 p1|-;simp;refine rP Q1 p1 a5U ((a8z hV 1 j1 p1.2)) ((aB.head hV.fin 1)) λd j2 x2 Q2 p2=>?_;simp;refine dG Q2 p2 hV.fin λu3 j3 x3 Q3 p3=>?_;simp;refine rP Q3 p3 a8w ((b1d hV j3 p3.2)) (b1e hV) λs j4 x4 Q4 p4=>?_;simp;exact Q4.ok _ j4 _ _ rfl (.inr rfl) (by simp)
 |false=>
 have Q0:=Q0.wP (by rw[s2];decide);refine xK s2 p0 ?_;simp;cases s3:aL l j0 [114,101,102,108,101,99,116]with
 |true=>have Q1:=Q0.ifp s3;refine rdT s3 p0 hV.fin λp1=>?_;obtain⟨j1,qW⟩:∃j,j0+1=j:=⟨_,rfl⟩;rw[qW]at Q1 p1|-;simp;refine rP Q1 p1 a5U ((a8z hV 2 j1 p1.2)) ((aB.head hV.fin 2)) λd j2 x2 Q2 p2=>?_;simp;refine dG Q2 p2 hV.fin λu3 j3 x3 Q3 p3=>?_;simp;refine rP Q3 p3 a8w ((b1d hV j3 p3.2)) (b1e hV) λs j4 x4 Q4 p4=>?_;simp;unfold a3u at Q4;refine dG Q4 p4 hV.fin λu8 j8 x8 Q8 p8=>?_;simp;refine rP Q8 p8 cA ((a1Z hV hN j8 p8.2)) (a8y hV) λe j9 x9 Q9 p9=>?_;simp;exact Q9.ok _ j9 _ _ rfl (.inr rfl) (by simp)
 |false=>
 have Q0:=Q0.wP (by rw[s3];decide);refine xK s3 p0 ?_;simp;exact Q0.ok _ j0 _ _ rfl (.inr rfl) (by simp[a4y,b2D,mW,eA])
end
end
end Go.Proofs.YtjpodcmhcenjjaaGreatDoor
section
namespace Go.VM
open Go Go.RowKit
section
variable {P:Program} {G:GT} {st:St} {base:cT} {R:Nat->Nat->Prop} {μ:Nat->Nat} {a:Act} {w:World}
def b0h(P:Program)(G:GT)(f:FuncId)(f7F:List DV)(ls:List (Option Loc))(dst:Option Tmp)(st:St)(K:St->Prop)(Q:Exit->St->Prop):Prop:=∃x0,sN P G f f7F ls dst st K Q x0
theorem b0h.mk{f:FuncId}{f7F:List DV}{ls:List (Option Loc)}{dst:Option Tmp}{K:St->Prop}{Q:Exit->St->Prop}{x0:Bool}(h:sN P G f f7F ls dst st K Q x0):b0h P G f f7F ls dst st K Q:=⟨x0,h⟩
def b5X(P:Program)(G:GT)(all:Array Oper)(o:Oper)(st:St)(K:St->Prop)(Q:Exit->St->Prop):Prop:=
 match eR o all st.tmps with
 |some true=>
  match mZ G o st with
  |some (f,ds)=>(∃r own,(Enters P f/\CS P G f ds r own)/\K (finish st o.dst r (a4R own)))\/∃s',(Enters P f/\mA P G f (ds.map .d) (kI o) st o.dst s')/\K s'
  |none=>
   match eB G o st with
   |some (f,f7F)=>b0h P G f f7F (kI o) o.dst st K Q
   |none=>
    match mH P G o st with
    |some out=>K (finish out.st o.dst out.v (a8U false all o out.v out.act))
    |none=>False
 |some false=>K (finish st o.dst (.bY []) .no)
 |none=>False
theorem c4F{all:Array Oper}{o:Oper}{K:St->Prop}{Q:Exit->St->Prop}(h:b5X P G all o st K Q)(hr:Rel P G base R μ st a w){KK:Act->World->Prop}{QQ:Exit->Act->World->Prop}(hk:∀s v w' R' μ',K s->Rel P G base R' μ' s (a.put o.dst v) w'->Step base R w R' w'->KK (a.put o.dst v) w')(hq:∀c s w' R' μ',Q (.panic c) s->Rel P G base R' μ' s a w'->Step base R w R' w'->QQ (.panic c) a w'):if Region.wanted o (yielded all a.tmps) then o.wp P a w KK QQ\/(o.asks P a w/\LetsOut QQ) else KK (a.put o.dst Go.undef) w:=by
 have go:pA P G false all o K st->if Region.wanted o (yielded all a.tmps) then o.wp P a w KK QQ\/(o.asks P a w/\LetsOut QQ) else KK (a.put o.dst Go.undef) w:=λh1=>uA h1 hr hk;unfold b5X at h;split at h
 .rename_i hw;split at h
  .rename_i f ds hc;refine go ?_;unfold pA;rw[hw,hc];rcases h with⟨r,own,h1,h2⟩|⟨s',h1,h2⟩
   .exact .inl ⟨r,own,h1,λe=>Bool.noConfusion e,by simpa using h2⟩
   .exact .inr ⟨by simp[rU],s',h1,h2⟩
  .rename_i hc;split at h
   .rename_i f f7F hH;obtain⟨x0,h0⟩:=h;unfold sN at h0;obtain⟨he,h1,h2⟩:=h0;cases x0 with
    |true=>obtain⟨s',h3,h4⟩:=h1 rfl;refine go ?_;unfold pA;rw[hw,hc,hH];simp only[rU,Bool.false_and,a1A,Bool.false_eq_true,if_false];exact⟨s',⟨he,h3⟩,h4⟩
    |false=>obtain⟨v,h3,h4⟩:=h2 rfl;rw[a2B hr hw,if_pos rfl];exact .inl (a8a hH ⟨he,h3⟩ hr λR' w' hs hb=>hq _ _ w' R' μ h4 (hr.a9u hs hb) hs)
   .rename_i hH;split at h
    .rename_i out hv;refine go ?_;unfold pA;rw[hw,hc,hH,hv];exact h
    .exact h.elim
 .rename_i hw;refine go ?_;unfold pA;rw[hw];exact h
 .exact h.elim
inductive OT where
 |stop
 |none
 |op (i:Nat) (next more:OT)
def c4G(j:Nat):OT->Bool
 | .op i _ more=>i==j||c4G j more
 |_=>false
def okT(ops:Array Oper)(T:OT)(listed:Array Bool):Bool:=match T with
 | .stop=>Region.ready .any ops listed==[]
 |T=> !(Region.ready .any ops listed).isEmpty&&(Region.ready .any ops listed).all λj=>c4G j T
def b2r(ops:Array Oper):OT->Nat->Array Bool->Bool
 | .stop,_,_=>true
 | .none,_,_=>true
 | .op _ _ _,0,_=>false
 | .op i next more,n+1,listed=>okT ops next (listed.setIfInBounds i true)&&b2r ops next n (listed.setIfInBounds i true)&&b2r ops more (n+1) listed
def VT(P:Program)(G:GT)(ops:Array Oper)(Q:Exit->St->Prop):OT->St->Prop
 | .stop,st=>Q .normal st
 | .none,_=>True
 | .op i next more,st=>(match ops[i]? with
  |some o=>b5X P G ops o st (VT P G ops Q next) Q
  |none=>False)/\VT P G ops Q more st
theorem d4N{ops:Array Oper}{Q:Exit->St->Prop}{i n:Nat}{listed:Array Bool}:∀(T:OT),b2r ops T (n+1) listed=true->c4G i T=true->VT P G ops Q T st->∃next,okT ops next (listed.setIfInBounds i true)=true/\b2r ops next n (listed.setIfInBounds i true)=true/\∃o,ops[i]? =some o/\b5X P G ops o st (VT P G ops Q next) Q
 | .stop,_,h,_=>by simp[c4G]at h
 | .none,_,h,_=>by simp[c4G]at h
 | .op j next more,ht,ha,hv=>by
  simp only[b2r,f7H]at ht;simp only[c4G,f7T,beq_iff_eq]at ha;simp only[VT]at hv;rcases ha with rfl|ha
  .refine⟨next,ht.1.1,ht.1.2,?_⟩;have:=hv.1;split at this
   .rename_i o ho;exact⟨o,ho,this⟩
   .exact this.elim
  .exact d4N more ht.2 ha hv.2
theorem e2h{ops:Array Oper}{Q:Exit->St->Prop}:∀(n:Nat) (T:OT) (listed:Array Bool) (st:St),okT ops T listed=true->b2r ops T n listed=true->VT P G ops Q T st->∀(base:cT) (R:Nat->Nat->Prop) (μ:Nat->Nat) (a:Act) (w:World),Rel P G base R μ st a w->
  ∀QQ:Exit->Act->World->Prop,(∀e s a' w' R' μ',Q e s->Rel P G base R' μ' s a' w'->Step base R w R' w'->QQ e a' w')->wpAny P .any ops QQ n listed a w
 |0,T,listed,st,ho,ht,hv,base,R,μ,a,w,hr,QQ,hk=>by
  cases T with
  |stop=>exact⟨by simpa[okT]using ho,hk _ st a w R μ hv hr (.refl _ _ _)⟩
  |none=>simp only[okT,f7H,Bool.not_eq_true',List.isEmpty_eq_false_iff,f7K]at ho;obtain⟨h1,h2⟩:=ho;obtain⟨x,hx⟩:=List.exists_mem_of_ne_nil _ h1;have:=h2 x hx;simp[c4G]at this
  |op i next more=>simp[b2r]at ht
 |n+1,T,listed,st,ho,ht,hv,base,R,μ,a,w,hr,QQ,hk=>by
  cases T with
  |stop=>
   have hrd:Region.ready .any ops listed=[]:=by simpa[okT]using ho
   refine⟨λ_=>hk _ st a w R μ hv hr (.refl _ _ _),λi hi=>?_⟩;rw[hrd]at hi;cases hi
  |none=>simp only[okT,f7H,Bool.not_eq_true',List.isEmpty_eq_false_iff,f7K]at ho;obtain⟨h1,h2⟩:=ho;obtain⟨x,hx⟩:=List.exists_mem_of_ne_nil _ h1;have:=h2 x hx;simp[c4G]at this
  |op i0 f4a f4b=>simp only[okT,f7H,Bool.not_eq_true',List.isEmpty_eq_false_iff,f7K]at ho;refine⟨λh=>(ho.1 h).elim,λi hi=>?_⟩;obtain⟨next,q1,q2,o,q3,q4⟩:=d4N _ ht (ho.2 i hi) hv;unfold wpOp;rw[q3];exact c4F q4 hr (λs v w' R' μ' p1 p2 p3=>e2h n next _ s q1 q2 p1 base R' μ' _ w' p2 QQ λe s a' w2 R2 μ2 k1 k2 k3=>hk e s a' w2 R2 μ2 k1 k2 (p3.trans k3)) λc s w' R' μ' p1 p2 p3=>hk _ s a w' R' μ' p1 p2 p3
theorem b9b{id:Nat}{ops:Array Oper}{Q:Exit->St->Prop}(T:OT)(hm:P.follows .mixedOrders=true)(hB:(okT ops T (Array.replicate ops.size false)&&b2r ops T ops.size (Array.replicate ops.size false))=true)(h:VT P G ops Q T st):SW P G (.region id ops true) st Q:=by rw[f7H]at hB;intro base R μ a w hr;obtain⟨eM,qP⟩:=hr.drew;exact wp_region_any hm (e2h ops.size T _ st hB.1 hB.2 h base R μ a w.drew eM _ λe s a' w' R' μ' q1 q2 q3=>⟨s,R',μ',q1,q2,qP.trans q3⟩)
attribute [simp] VT b5X
end
attribute [irreducible] b0h
end Go.VM
end
namespace Go.Proofs.YtjpodcmhcenjjaaGreatDoor
section
open Go Go.VM
variable {G:GT}
theorem c1d:VM.Enters prog 80:=.mk func80 rfl
theorem b5Y:VM.Enters prog 135:=.mk func135 rfl
theorem b2T:VM.Enters prog 81:=.mk func81 rfl
abbrev e2i(x:b4q):List D:=.str x.cls::(tyD x.type++[.sl (x.a0P.map oL),.sl (x.defs.map b9Z)])
theorem d4O(x:b4q):c8e x=e2i x:=by
 rw[c8e,bU]
 rfl
section
variable {aI:List Tok->Nat->Nat->kN Pr} {l:List Tok} (hV:oS G aI l) (hN:∀i, -9223372036854775807<=(aK l i).n/\(aK l i).n<=9223372036854775807)
include hV
def clX(nm v:Nm)(out:List (Nm×Ty)):List (Nat×aW):=[(100001,.cells [.ptr 100000 0]),(100002,.cells [.d (.str nm),.d (.str v),.d (.sl (out.map b4z))])]
abbrev clO:List (TypeId×List VM.Loc):=[(148,[.c 100002 2])]
abbrev clM(aI:List Tok->Nat->Nat->kN Pr)(l:List Tok)(out:List (Nm×Ty)):aZ (List (Nm×Ty)):=do
 let w <- bL aU l
 aV l [[58]]
 let t <- kP aU bQ aI l
 pure (out++[(w,t)])
theorem d9W(nm v:Nm):a0Y l K3 [.ptr 100001 0,.ptr 100002 0] (clX nm v) clO:=by
 constructor
 all_goals intros
 all_goals first
  |rfl
  |simp[clX,aJ,aT,aN,aM,bC,getKey,aQ,bA,cH,rk,cP,bM, *]
theorem c8I(out:List (Nm×Ty)):aB l 1 (clM aI l out):=(aB.word hV.fin).bl λ_=>((aB.exp hV.fin _ _).le (by omega)).bl λ_=>((jF hV).le (by omega)).bl λ_=>aB.bE _
theorem d4P(a:List (Nm×Ty))(i:Nat)(b:List (Nm×Ty))(j:Nat)(hi:i<l.length)(h:a.length<=i)(hx:clM aI l a i=.ok b j):b.length<=j:=by have h1:=c8I hV a i b j hi hx;obtain⟨_,_,_,hx⟩:=bX hx;obtain⟨_,_,_,hx⟩:=bX hx;obtain⟨_,_,_,hx⟩:=bX hx;cases hx;simp;omega
theorem d0P(nm v:Nm)(out:List (Nm×Ty))(i:Nat)(hi:i<l.length)(a0B:out.length<=i):mX G 135 [.ptr 100001 0,.ptr 100002 0] (clX nm v out) clO l i (clM aI l out i) (λ_=>.bY []) (clX nm v):=by
 have hl:=hV.len;obtain⟨j0,rfl⟩:∃j0,j0=i:=⟨_,rfl⟩;have p0:j0<=j0/\j0<l.length:=⟨f7X _,hi⟩;refine mX.bS func135 rfl ntmps135 rfl (by simp) ?_;intro Q Q0;simp[clX];refine rP Q0 p0 cQ (dD hV.kw l j0 p0.2 (by omega)) (aB.word hV.fin) λw j1 x1 Q1 p1=>?_;simp;refine dG Q1 p1 hV.fin λu2 j2 x2 Q2 p2=>?_;simp;refine gH [0,2] 4 [3] (.op 1 (.call [5,6,7,8,9] .none) (.call [1,5,6,7,8,9] .none)) (gX (kP aU bQ aI l j2)) (by kernel_rfl) (by kernel_rfl) ?_;simp;refine⟨?_,?_⟩
 all_goals
  refine pD Q2 p2 cO ((oF hV j2 p2.2)) (jF hV) λt j3 x3 Q3 p3=>cI.mk ?_;simp;refine cF ⟨rfl,f7K.2 λc hc=>?_,?_⟩ ?_
  .obtain⟨y,_,rfl⟩:=List.mem_map.1 hc;rw[a6F]
   rfl
  .have hb:prog.bytesOf 148<=1000:=by decide
   rw[List.length_map]
   calc (out.length+1)*(prog.bytesOf 148+1)<=50001*1001:=Nat.mul_le_mul (by omega) (by omega)
    _<=140737488355328:=by decide
  simp;exact Q3.ok _ j3 .normal _ rfl (.inl rfl) (by simp[clX,a6F])
def clT:OT:=(.op 0 (.op 1 (.op 2 (.op 3 (.op 4 (.op 5 (.op 6 .stop .none) .none) (.op 5 (.op 4 (.op 6 .stop .none) .none) .none)) (.op 5 (.op 3 (.op 4 (.op 6 .stop .none) .none) .none) .none)) (.op 5 (.op 2 (.op 3 (.op 4 (.op 6 .stop .none) .none) .none) .none) .none)) (.op 2 (.op 1 (.op 3 (.op 4 (.op 5 (.op 6 .stop .none) .none) (.op 5 (.op 4 (.op 6 .stop .none) .none) .none)) (.op 5 (.op 3 (.op 4 (.op 6 .stop .none) .none) .none) .none)) (.op 5 (.op 1 (.op 3 (.op 4 (.op 6 .stop .none) .none) .none) .none) .none)) (.op 5 (.op 1 (.op 2 (.op 3 (.op 4 (.op 6 .stop .none) .none) .none) .none) (.op 2 (.op 1 (.op 3 (.op 4 (.op 6 .stop .none) .none) .none) .none) .none)) .none))) (.op 2 (.op 0 (.op 1 (.op 3 (.op 4 (.op 5 (.op 6 .stop .none) .none) (.op 5 (.op 4 (.op 6 .stop .none) .none) .none)) (.op 5 (.op 3 (.op 4 (.op 6 .stop .none) .none) .none) .none)) (.op 5 (.op 1 (.op 3 (.op 4 (.op 6 .stop .none) .none) .none) .none) .none)) (.op 5 (.op 0 (.op 1 (.op 3 (.op 4 (.op 6 .stop .none) .none) .none) .none) .none) .none)) (.op 5 (.op 0 (.op 1 (.op 2 (.op 3 (.op 4 (.op 6 .stop .none) .none) .none) .none) (.op 2 (.op 1 (.op 3 (.op 4 (.op 6 .stop .none) .none) .none) .none) .none)) (.op 2 (.op 0 (.op 1 (.op 3 (.op 4 (.op 6 .stop .none) .none) .none) .none) .none) .none)) .none)))
abbrev e8Z(l:List Tok):aZ (Nm×Nm):=do
 let nm <- jB l
 let v <- bL aU l
 pure (nm,v)
theorem c4H(i:Nat)(hi:i<l.length):qT G 80 [] l i (zZ aU bQ aI l i) (λx=>.d (.agg (c3l x))):=by
 have hl:=hV.len;obtain⟨j0,rfl⟩:∃j0,j0=i:=⟨_,rfl⟩;have p0:j0<=j0/\j0<l.length:=⟨f7X _,hi⟩;refine mX.a1I func80 rfl ntmps80 rfl (by simp) ?_;intro Q Q0;unfold zZ at Q0;refine SW.jZ (SW.xk ?_);simp;refine SW.c4A (e8Z l j0) (λx j=>⟨.ptr 100000 0::.ptr 1 0::.ptr 2 0::.ptr 3 0::List.replicate 12 .undef,[(1,.cells [.ptr 100000 0]),(2,.cells [.d (.str []),.d (.str []),.d .aF]),(3,.cells [.d (.str x.1),.d (.str x.2),.d .aF]),(100000,rdO l j)],[]⟩) ?_ λx j2 hx=>?_
 .refine b9b clT (by kernel_rfl) (by kernel_rfl) ?_;simp[clT]
  repeat' apply And.intro
  all_goals
   refine b0h.mk (rdZ (ds:=[]) jD (kR l j0 p0.2 (by omega)) (λnm j1 x1=>?_) (λn e hx=>Q0.fail hx _));have Q1:=Q0.step x1;have p1:=aB.title hV.fin j0 nm j1 p0.2 x1;simp
   repeat' apply And.intro
   all_goals
    refine b0h.mk (rdZ (ds:=[]) cQ (dD hV.kw l j1 p1.2 (by omega)) (λv j2 x2=>?_) (λn e hx=>Q1.fail hx _));have hr:e8Z l j0=.ok (nm,v) j2:=(bN x1).trans ((bN x2).trans rfl);simp
    repeat' apply And.intro
    all_goals exact⟨nm,v,j2,hr,by simp⟩
 obtain⟨nm,v⟩:=x;obtain⟨nm',j1,x1,hx⟩:=bX hx;obtain⟨v',j2',x2,hx⟩:=bX hx;cases hx;have Q2:=(Q0.step x1).step x2;have p1:=aB.title hV.fin j0 nm j1 p0.2 x1;have p2:=aB.word (kw:=aU) hV.fin j1 v j2 p1.2 x2;refine SW.xk ?_;simp[List.replicate];refine dG Q2 p2 hV.fin λu3 j3 x3 Q3 p3=>?_;simp;have kD:=eP hV [44] (clM aI l) (λout i=>out.length<=i) 0 b5Y (d9W hV nm v) (λa=>(c8I hV a).le (by omega)) (λa i rT hi h=>d0P hV nm v a i hi h) (d4P hV) (λa i h=>by omega) [] j3 (by omega) p3.2 (by simp);refine dC.mk (a0b dH kD [(100000,100000),(100001,1),(100002,3)] (λa j hx=>?_) ?_ ?_ ?_ rfl rfl (λms j4 x4=>?_) (λn e wN=>Q3.fail wN _))
 .simp[clX,aJ,aT,aN,aM,bC,getKey]
 .simp[clX,aJ,aT,aN,aM,bC,getKey]
 .simp[aQ,bA,rk]
 .simp[clX,aQ,bA,rk,cH,cP]
 .have Q4:=Q3.step x4;simp[bD,clX,aQ,bA,rk,cH,cP,bM,jA,eZ,dJ];exact Q4.ok _ j4 _ _ rfl (.inr rfl) (by simp[c3l])
include hN
abbrev b7x(aI:List Tok->Nat->Nat->kN Pr)(l:List Tok)(out:List oB):aZ (List oB):=do
 let d <- a0R aU bQ aI l
 aV l [[59]]
 pure (out++[d.getD b2S])
omit hN in
theorem a6H:aB l 0 (a0R aU bQ aI l):=aB.c6n hV.fin hV.sB
theorem b5Z(i:Nat)(hi:i<l.length):qT G 81 [] l i (a5l aU bQ aI l i) (λx=>.d (.agg (e2i x))):=by
 have hl:=hV.len;obtain⟨j0,rfl⟩:∃j0,j0=i:=⟨_,rfl⟩;have p0:j0<=j0/\j0<l.length:=⟨f7X _,hi⟩;refine mX.bS func81 rfl ntmps81 rfl (by simp) ?_;intro Q Q0;unfold a5l at Q0;simp;refine rP Q0 p0 jD (kR l j0 p0.2 (by omega)) (aB.title hV.fin) λc j1 x1 Q1 p1=>?_;simp;refine rP Q1 p1 a9L ((c0S hV j1 p1.2)) ((aB.zF hV.fin ((jF hV).le (by omega)) hV.sB.pred)) λt j2 x2 Q2 p2=>?_;simp;cases hs:aL l j2 [119,104,101,114,101]with
 |false=>
  have Q3:=Q2.step (jU hs);rw[if_neg (by decide)]at Q3;have Q2:=Q3.step (gF _ _);refine xK hs p2 ?_;simp;refine dG Q2 p2 hV.fin λu5 j5 x5 Q5 p5=>?_;simp;refine SW.yP (ι:={x:List oB×Nat×Nat//j5<=x.2.1/\x.2.1<l.length/\l.length<x.2.2+x.2.1/\x.1.length<=x.2.1/\dQ (λi=>aL l i [100,101,102]) (b7x aI l) x.2.2 x.1 x.2.1=rN l (λi=>aL l i [100,101,102]) (b7x aI l) [] j5}) (λ_=>[]) (λx=>[(2,.cells (.d (.str [])::((tyD mW).map .d++[.d .aF,.d .aF]))),(3,.cells (.d (.str c)::((tyD t).map .d++[.d (.sl (List.map oL [])),.d (.sl (x.1.1.map b9Z))]))),(100000,rdO l x.1.2.1)]) (λ_=>[(70,[.c 3 11])]) (λx=>l.length-x.1.2.1) ⟨([],j5,l.length+2),f7X _,p5.2,by simp only;omega,by simp,rfl⟩ (by simp[mW,eA]) ?_;rintro⟨⟨out,j6,g⟩,hb,hj6,hg,ho,hp⟩;simp only at hb hj6 hg ho hp;obtain⟨g,rfl⟩:∃k,g=k+1:=⟨g-1,by omega⟩;have p6:j5<=j6/\j6<l.length:=⟨hb,hj6⟩;have hbb:=jS (G:=G) l j6 [100,101,102] p6.2 (by omega);simp;refine mY (i:=j6) (ds:=[.str [100,101,102]]) eV hbb ?_;cases hc:aL l j6 [100,101,102]with
  |true=>have E0:a1e Q (dQ (λi=>aL l i [100,101,102]) (b7x aI l) (g+1) out j6) (dQ (λi=>aL l i [100,101,102]) (b7x aI l) (g+1) out j6):=⟨rfl,λn e s h=>Q5.fail (hp.symm.trans h) s⟩;simp;refine rdX (i:=j6) (ds:=[]) a3Q (a6G hV hN j6 hj6) (λd j7 x7=>?_) (λn e hx=>by simp;exact Q5.fail (hp.symm.trans (rF hV hc (gQ hx))) _);have p7:=a6H hV j6 d j7 hj6 x7;simp;refine rdX (hw:=by simp[strs]) (ds:=[.sl (strs [[59]])]) kF (mM l [[59]] j7 p7.2 (by omega) hV.fin (by simp)) (λu j8 x8=>?_) (λn e hx=>by simp;exact Q5.fail (hp.symm.trans (rF hV hc ((bN x7).trans (gQ hx)))) _);have p8:=aB.exp hV.fin _ _ j7 u j8 p7.2 x8;have h1:b7x aI l out j6=.ok (out++[d.getD b2S]) j8:=(bN x7).trans ((bN x8).trans rfl);rw[xL hV hc h1]at hp;generalize d.getD b2S=D0 at hp|-;simp;refine qZ (by first|omega|exact⟨λx _=>by rw[b0g];rfl,by omega⟩) ?_;simp;exact aX.mk ⟨(out++[D0],j8,g),by simp only;omega,p8.2,by simp only;omega,by simp;omega,hp⟩ (by simp[b0g]) (by simp;omega)
  |false=>rw[xM hV hc]at hp;have Q6:=Q5.step hp.symm;simp;refine dG Q6 p6 hV.fin λu7 j7 x7 Q7 p7=>?_;simp;exact Q7.ok _ j7 _ _ rfl (.inr rfl) (by simp)
 |true=>
  have Q3:=Q2.step (jT hs);rw[if_pos rfl]at Q3;refine rdT hs p2 hV.fin λp3=>?_;obtain⟨j3,hj3⟩:∃j,j2+1=j:=⟨_,rfl⟩;rw[hj3]at Q3 p3|-;simp;refine rP Q3 p3 b0c ((b2o hV j3 p3.2)) ((a5T hV)) λns j4 x4 Q4 p4=>?_;simp;refine dG Q4 p4 hV.fin λu5 j5 x5 Q5 p5=>?_;simp;refine SW.yP (ι:={x:List oB×Nat×Nat//j5<=x.2.1/\x.2.1<l.length/\l.length<x.2.2+x.2.1/\x.1.length<=x.2.1/\dQ (λi=>aL l i [100,101,102]) (b7x aI l) x.2.2 x.1 x.2.1=rN l (λi=>aL l i [100,101,102]) (b7x aI l) [] j5}) (λ_=>[]) (λx=>[(2,.cells (.d (.str [])::((tyD mW).map .d++[.d .aF,.d .aF]))),(3,.cells (.d (.str c)::((tyD t).map .d++[.d (.sl (List.map oL ns)),.d (.sl (x.1.1.map b9Z))]))),(100000,rdO l x.1.2.1)]) (λ_=>[(70,[.c 3 11])]) (λx=>l.length-x.1.2.1) ⟨([],j5,l.length+2),f7X _,p5.2,by simp only;omega,by simp,rfl⟩ (by simp[mW,eA]) ?_;rintro⟨⟨out,j6,g⟩,hb,hj6,hg,ho,hp⟩;simp only at hb hj6 hg ho hp;obtain⟨g,rfl⟩:∃k,g=k+1:=⟨g-1,by omega⟩;have p6:j5<=j6/\j6<l.length:=⟨hb,hj6⟩;have hbb:=jS (G:=G) l j6 [100,101,102] p6.2 (by omega);simp;refine mY (i:=j6) (ds:=[.str [100,101,102]]) eV hbb ?_;cases hc:aL l j6 [100,101,102]with
  |true=>have E0:a1e Q (dQ (λi=>aL l i [100,101,102]) (b7x aI l) (g+1) out j6) (dQ (λi=>aL l i [100,101,102]) (b7x aI l) (g+1) out j6):=⟨rfl,λn e s h=>Q5.fail (hp.symm.trans h) s⟩;simp;refine rdX (i:=j6) (ds:=[]) a3Q (a6G hV hN j6 hj6) (λd j7 x7=>?_) (λn e hx=>by simp;exact Q5.fail (hp.symm.trans (rF hV hc (gQ hx))) _);have p7:=a6H hV j6 d j7 hj6 x7;simp;refine rdX (hw:=by simp[strs]) (ds:=[.sl (strs [[59]])]) kF (mM l [[59]] j7 p7.2 (by omega) hV.fin (by simp)) (λu j8 x8=>?_) (λn e hx=>by simp;exact Q5.fail (hp.symm.trans (rF hV hc ((bN x7).trans (gQ hx)))) _);have p8:=aB.exp hV.fin _ _ j7 u j8 p7.2 x8;have h1:b7x aI l out j6=.ok (out++[d.getD b2S]) j8:=(bN x7).trans ((bN x8).trans rfl);rw[xL hV hc h1]at hp;generalize d.getD b2S=D0 at hp|-;simp;refine qZ (by first|omega|exact⟨λx _=>by rw[b0g];rfl,by omega⟩) ?_;simp;exact aX.mk ⟨(out++[D0],j8,g),by simp only;omega,p8.2,by simp only;omega,by simp;omega,hp⟩ (by simp[b0g]) (by simp;omega)
  |false=>rw[xM hV hc]at hp;have Q6:=Q5.step hp.symm;simp;refine dG Q6 p6 hV.fin λu7 j7 x7 Q7 p7=>?_;simp;exact Q7.ok _ j7 _ _ rfl (.inr rfl) (by simp)
end
end
section
open Go Go.VM
variable {G:GT}
theorem b6a:VM.Enters prog 82:=.mk func82 rfl
theorem b1f:VM.Enters prog 138:=.mk func138 rfl
theorem c4I:VM.Enters prog 83:=.mk func83 rfl
theorem b6b:VM.Enters prog 66:=.mk func66 rfl
abbrev a5V:=Nm×List Nm×Pr
abbrev e2j(c:a5V):List D:=.str c.1::.sl (strs c.2.1)::qH c.2.2
abbrev e2k(x:b4r):List D:=.str x.name::.str x.data::.str x.result::.sl (x.cases.map e2j)::zP x.inv
theorem d4Q(x:b4r):c3m x=e2k x:=by
 rw[c3m,cN]
 rfl
abbrev e2l(q:b4s):List D:=.str q.name::.sl (q.vars.map oL)::zP q.body
theorem d4R(q:b4s):c8f q=e2l q:=by
 rw[c8f,cN]
 rfl
section
variable {aI:List Tok->Nat->Nat->kN Pr} {l:List Tok} (hV:oS G aI l)
include hV
def b6c(nm dn sn:Nm)(out:List a5V):List (Nat×aW):=[(100001,.cells [.ptr 100000 0]),(100002,.cells [.d (.str nm),.d (.str dn),.d (.str sn),.d (.sl (out.map e2j)),.d (.int .i64 0),.d (.str []),.d (.int .i64 0),.d (.sl [])])]
abbrev e9a:List (TypeId×List VM.Loc):=[(151,[.c 100002 3])]
abbrev d9Y(aI:List Tok->Nat->Nat->kN Pr)(l:List Tok)(out:List a5V):aZ (List a5V):=do
 let c <- jB l
 let ns <- (λi=>if aL l i [40] then gG aU l i else .ok [] i:aZ (List Nm))
 aV l [[61]]
 let p <- kO aI l
 pure (out++[(c,ns,p)])
theorem d4S(nm dn sn:Nm):a0Y l K3 [.ptr 100001 0,.ptr 100002 0] (b6c nm dn sn) e9a:=by
 constructor
 all_goals intros
 all_goals first
  |rfl
  |simp[b6c,aJ,aT,aN,aM,bC,getKey,aQ,bA,cH,rk,cP,bM, *]
theorem b6d(out:List a5V):aB l 1 (d9Y aI l out):=by
 refine(aB.title hV.fin).bl λ_=>aB.bl (λi b j hi h=>?_) λ_=>((aB.exp hV.fin _ _).le (by omega)).bl λ_=>hV.sB.pred.bl λ_=>aB.bE _;split at h
 .exact((aB.words hV.fin).le (by omega)) _ _ _ hi h
 .cases h;omega
theorem d0Q(a:List a5V)(i:Nat)(b:List a5V)(j:Nat)(hi:i<l.length)(h:a.length<=i)(hx:d9Y aI l a i=.ok b j):b.length<=j:=by have h1:=b6d hV a i b j hi hx;obtain⟨_,_,_,hx⟩:=bX hx;obtain⟨_,_,_,hx⟩:=bX hx;obtain⟨_,_,_,hx⟩:=bX hx;obtain⟨_,_,_,hx⟩:=bX hx;cases hx;simp;omega
theorem c7i(nm dn sn:Nm)(out:List a5V)(i:Nat)(hi:i<l.length)(a0B:out.length<=i):mX G 138 [.ptr 100001 0,.ptr 100002 0] (b6c nm dn sn out) e9a l i (d9Y aI l out i) (λ_=>.bY []) (b6c nm dn sn):=by
 have hl:=hV.len;obtain⟨j0,rfl⟩:∃j0,j0=i:=⟨_,rfl⟩;have p0:j0<=j0/\j0<l.length:=⟨f7X _,hi⟩;refine mX.bS func138 rfl ntmps138 rfl (by simp) ?_;intro Q Q0;simp[b6c];refine rP Q0 p0 jD (kR l j0 p0.2 (by omega)) (aB.title hV.fin) λc j1 x1 Q1 p1=>?_;simp;have hb:=jS (G:=G) l j1 [40] p1.2 (by omega);refine mY (ds:=[.str [40]]) eV hb ?_;cases hs:aL l j1 [40]with
 |false=>have Q1:=Q1.step (a:=[]) (j:=j1) (by simp[hs]);simp;refine dG Q1 p1 hV.fin λu4 j4 x4 Q4 p4=>?_;simp;refine rP Q4 p4 pY (sQ hV j4 p4.2) (hV.sB.pred) λp j5 x5 Q5 p5=>?_;simp;refine qZ (by first|omega|exact⟨λx _=>by rw[cN];rfl,by omega⟩) ?_;simp;exact Q5.ok _ j5 .normal _ rfl (.inl rfl) (by simp[b6c,cN,xE])
 |true=>
  have e1:(λi=>if aL l i [40] then gG aU l i else .ok [] i:aZ (List Nm)) j1=gG aU l j1:=by simp[hs]
  simp;refine rdX a3J (a5F hV j1 p1.2) (λns j3 x3=>?_) (λn e hx=>by first|exact Q1.fail (e1.trans hx) _|(simp;exact Q1.fail (e1.trans hx) _)|(simp;exact λs=>Q1.fail (e1.trans hx) s));have Q3:=Q1.step (e1.trans x3);have p3:=aB.words hV.fin j1 ns j3 p1.2 x3;simp;refine dG Q3 p3 hV.fin λu4 j4 x4 Q4 p4=>?_;simp;refine rP Q4 p4 pY (sQ hV j4 p4.2) (hV.sB.pred) λp j5 x5 Q5 p5=>?_;simp;refine qZ (by first|omega|exact⟨λx _=>by rw[cN];rfl,by omega⟩) ?_;simp;exact Q5.ok _ j5 .normal _ rfl (.inl rfl) (by simp[b6c,cN,xE])
theorem b7y(i:Nat)(hi:i<l.length):qT G 82 [] l i (a5m aU aI l i) (λx=>.d (.agg (e2k x))):=by
 have hl:=hV.len;obtain⟨j0,rfl⟩:∃j0,j0=i:=⟨_,rfl⟩;have p0:j0<=j0/\j0<l.length:=⟨f7X _,hi⟩;refine mX.bS func82 rfl ntmps82 rfl (by simp) ?_;intro Q Q0;unfold a5m at Q0;simp;refine rP Q0 p0 cQ (dD hV.kw l j0 p0.2 (by omega)) (aB.word hV.fin) λnm j1 x1 Q1 p1=>?_;simp;refine dG Q1 p1 hV.fin λu2 j2 x2 Q2 p2=>?_;simp;refine rP Q2 p2 jD (kR l j2 p2.2 (by omega)) (aB.title hV.fin) λdn j3 x3 Q3 p3=>?_;simp;refine dG Q3 p3 hV.fin λu4 j4 x4 Q4 p4=>?_;simp;refine rP Q4 p4 a1S (a3I hV.kw l j4 p4.2 (by omega)) (aB.sort hV.fin) λsn j5 x5 Q5 p5=>?_;simp;refine dG Q5 p5 hV.fin λu6 j6 x6 Q6 p6=>?_;simp;have kD:=eP hV [59] (d9Y aI l) (λout i=>out.length<=i) 0 b1f (d4S hV nm dn sn) (λa=>(b6d hV a).le (by omega)) (λa i rT hi h=>c7i hV nm dn sn a i hi h) (d0Q hV) (λa i h=>by omega) [] j6 (by omega) p6.2 (by simp);refine dC.mk (a0b dH kD [(100000,100000),(100001,1),(100002,3)] (λa j hx=>?_) ?_ ?_ ?_ rfl rfl (λcs j7 x7=>?_) (λn e wN=>Q6.fail wN _))
 .simp[b6c,aJ,aT,aN,aM,bC,getKey]
 .simp[b6c,aJ,aT,aN,aM,bC,getKey]
 .simp[aQ,bA,rk]
 .simp[b6c,aQ,bA,rk,cH,cP]
 .have Q7:=Q6.step x7;have p7:=aB.list hV.fin (λa=>b6d hV a) [] j6 cs j7 p6.2 x7;simp[bD,b6c,aQ,bA,rk,cH,cP,bM,jA,eZ,dJ];refine dG Q7 p7 hV.fin λu8 j8 x8 Q8 p8=>?_;simp;cases hs:aL l j8 [105,110,118,97,114,105,97,110,116]with
  |false=>have Q9:=Q8.step (jU hs);rw[if_neg (by decide)]at Q9;have Q9:=Q9.step (gF _ _);refine xK hs p8 ?_;simp;exact Q9.ok _ j8 _ _ rfl (.inr rfl) (by simp[eA])
  |true=>have Q9:=Q8.step (jT hs);rw[if_pos rfl]at Q9;refine rdT hs p8 hV.fin λp9=>?_;obtain⟨j9,hj9⟩:∃j,j8+1=j:=⟨_,rfl⟩;rw[hj9]at Q9 p9|-;simp;refine rP Q9 p9 pY (sQ hV j9 p9.2) (hV.sB.pred) λp j10 x10 Q10 p10=>?_;simp;exact Q10.ok _ j10 _ _ rfl (.inr rfl) (by simp)
theorem c7j(i:Nat)(hi:i<l.length):qT G 83 [] l i (a5n aU aI l i) (λx=>.d (.agg (e2l x))):=by have hl:=hV.len;obtain⟨j0,rfl⟩:∃j0,j0=i:=⟨_,rfl⟩;have p0:j0<=j0/\j0<l.length:=⟨f7X _,hi⟩;refine mX.bS func83 rfl ntmps83 rfl (by simp) ?_;intro Q Q0;unfold a5n at Q0;simp;refine rP Q0 p0 cQ (dD hV.kw l j0 p0.2 (by omega)) (aB.word hV.fin) λnm j1 x1 Q1 p1=>?_;simp;refine dG Q1 p1 hV.fin λu2 j2 x2 Q2 p2=>?_;simp;refine rP Q2 p2 a1T ((a3K hV true j2 p2.2)) ((aB.vars hV.fin true)) λvs j3 x3 Q3 p3=>?_;simp;refine dG Q3 p3 hV.fin λu4 j4 x4 Q4 p4=>?_;simp;refine rP Q4 p4 pY (sQ hV j4 p4.2) (hV.sB.pred) λp j5 x5 Q5 p5=>?_;simp;exact Q5.ok _ j5 _ _ rfl (.inr rfl) (by simp)
theorem b9c(i:Nat)(hi:i<l.length):qT G 66 [] l i (a2G l i) (λ_=>.bY []):=by
 have hl:=hV.len;obtain⟨j0,rfl⟩:∃j0,j0=i:=⟨_,rfl⟩;have p0:j0<=j0/\j0<l.length:=⟨f7X _,hi⟩;have ht:=cJ (G:=G) l j0 j0 0 (by omega) (by omega) (by intro e;subst e;simp at hi) (by omega);refine mX.bS func66 rfl ntmps66 rfl (by simp) ?_;intro Q Q0;unfold a2G at Q0;simp;refine mY (ds:=[.int .i64 0]) bR ht ?_;by_cases hk:(aK l j0).kind=0
 .have Q0:=Q0.ifp hk;simp[bG,hk];exact Q0.ok _ j0 _ _ rfl (.inl rfl) (by simp)
 .have Q0:=Q0.wP hk;simp[bG,hk];refine rdX (ds:=[]) vB (xF (α:=Unit) l j0 p0.2 (by omega) λ_=>.bY []) (λa j hx=>by unfold dN at hx;cases hx) (λn e hx=>Q0.bad n e _ hx)
end
end
section
open Go Go.VM
variable {G:GT}
theorem a8A:VM.Enters prog 42:=.mk func42 rfl
section
variable {aI:List Tok->Nat->Nat->kN Pr} {l:List Tok} (hV:oS G aI l) (hN:∀i, -9223372036854775807<=(aK l i).n/\(aK l i).n<=9223372036854775807)
include hV hN
def yT(m:oC):List (Nat×aW):=[(100001,.cells [.d (.sl (m.b4t.map b4A)),.d (.sl (m.a9l.map c3l)),.d (.sl (m.insts.map c8e)),.d (.sl (m.b4u.map c3m)),.d (.sl (m.c3h.map c8f)),.d (.sl (m.defs.map b9Z))])]
abbrev e5s:List (TypeId×List VM.Loc):=[(78,[.c 100001 0]),(111,[.c 100001 1]),(114,[.c 100001 2]),(82,[.c 100001 3]),(118,[.c 100001 4]),(70,[.c 100001 5])]
abbrev e9b(d:b4p):List D:=[.str d.name,.sl (strs d.vars),.sl (d.a9i.map oL),.sl (d.cons.map b8n)]
abbrev e9c(d:a9k):List D:=[.str d.name,.str d.var,.sl (d.methods.map b4z)]
omit hN in
theorem b2U(i:Nat)(hi:i<l.length):qT G 79 [] l i (a3v aU bQ aI l i) (λd=>.d (.agg (e9b d))):=b5U hV i hi
omit hN in
theorem c1e(i:Nat)(hi:i<l.length):qT G 80 [] l i (zZ aU bQ aI l i) (λd=>.d (.agg (e9c d))):=c4H hV i hi
structure d4T (m:oC) (i:Nat):Prop where
 a:m.b4t.length<=i
 b:m.a9l.length<=i
 c:m.insts.length<=i
 d:m.b4u.length<=i
 e:m.c3h.length<=i
 f:m.defs.length<=i
theorem c7k(m:oC)(i:Nat)(hi:i<l.length)(hm:d4T m i):mX G 42 [.ptr 100000 0,.ptr 100001 0] (yT m) e5s l i (xC aU bQ aI l m i) (λ_=>.bY []) yT:=by
 have hl:=hV.len;obtain⟨j0,rfl⟩:∃j0,j0=i:=⟨_,rfl⟩;have p0:j0<=j0/\j0<l.length:=⟨f7X _,hi⟩;obtain⟨m1,m2,m3,m4,m5,m6⟩:=hm;obtain⟨da,cl,ins,me,qu,de⟩:=m;simp only at m1 m2 m3 m4 m5 m6;have eq1:∀d:b4p,b4A d=[.str d.name,.sl (strs d.vars),.sl (d.a9i.map oL),.sl (d.cons.map b8n)]:=λd=>rfl;have eq2:∀d:a9k,c3l d=[.str d.name,.str d.var,.sl (d.methods.map b4z)]:=λd=>rfl;have eq3:=d4O;have eq4:=d4Q;have eq5:=d4R;have eq6:=b0g;refine mX.bS func42 rfl ntmps42 rfl (by simp) ?_;intro Q Q0;unfold xC at Q0;simp[yT];cases s1:aL l j0 [100,97,116,97]with
 |true=>
  have Q1:=Q0.ifp s1;refine rdT s1 p0 hV.fin λp1=>?_;obtain⟨j1,qW⟩:∃j,j0+1=j:=⟨_,rfl⟩;rw[qW]at Q1 p1|-;simp;refine gH [0,1,2,3,5] 6 [] (.op 4 (.call [7,8,9,10,11] .none) (.call [4,7,8,9,10,11] .none)) (gX (a3v aU bQ aI l j1)) (by kernel_rfl) (by kernel_rfl) ?_;simp;refine⟨?_,?_⟩
  all_goals
   refine pD Q1 p1 b2Q ((b2U hV j1 p1.2)) ((aB.data hV.fin hV.sB.pred)) λx j2 x2 Q2 p2=>cI.mk ?_;simp;refine cF (by first|omega|exact⟨λx _=>by rw[eq1];rfl,by omega⟩|exact⟨λx _=>rfl,by omega⟩) ?_;simp;exact Q2.ok _ j2 .normal _ rfl (.inl rfl) (by simp[yT,eq1])
 |false=>
 have Q0:=Q0.wP (by rw[s1];decide);refine xK s1 p0 ?_;simp;cases s2:aL l j0 [99,108,97,115,115]with
 |true=>
  have Q1:=Q0.ifp s2;refine rdT s2 p0 hV.fin λp1=>?_;obtain⟨j1,qW⟩:∃j,j0+1=j:=⟨_,rfl⟩;rw[qW]at Q1 p1|-;simp;refine gH [0,1,2,3,5] 6 [] (.op 4 (.call [7,8,9,10,11] .none) (.call [4,7,8,9,10,11] .none)) (gX (zZ aU bQ aI l j1)) (by kernel_rfl) (by kernel_rfl) ?_;simp;refine⟨?_,?_⟩
  all_goals
   refine pD Q1 p1 c1d ((c1e hV j1 p1.2)) ((aB.cls hV.fin hV.sB.pred)) λx j2 x2 Q2 p2=>cI.mk ?_;simp;refine cF (by first|omega|exact⟨λx _=>by rw[eq2];rfl,by omega⟩|exact⟨λx _=>rfl,by omega⟩) ?_;simp;exact Q2.ok _ j2 .normal _ rfl (.inl rfl) (by simp[yT,eq2])
 |false=>
 have Q0:=Q0.wP (by rw[s2];decide);refine xK s2 p0 ?_;simp;cases s3:aL l j0 [105,110,115,116]with
 |true=>
  have Q1:=Q0.ifp s3;refine rdT s3 p0 hV.fin λp1=>?_;obtain⟨j1,qW⟩:∃j,j0+1=j:=⟨_,rfl⟩;rw[qW]at Q1 p1|-;simp;refine gH [0,1,2,3,5] 6 [] (.op 4 (.call [7,8,9,10,11] .none) (.call [4,7,8,9,10,11] .none)) (gX (a5l aU bQ aI l j1)) (by kernel_rfl) (by kernel_rfl) ?_;simp;refine⟨?_,?_⟩
  all_goals
   refine pD Q1 p1 b2T ((b5Z hV hN j1 p1.2)) ((aB.inst hV.fin hV.sB)) λx j2 x2 Q2 p2=>cI.mk ?_;simp;refine cF (by first|omega|exact⟨λx _=>by rw[eq3];rfl,by omega⟩|exact⟨λx _=>rfl,by omega⟩) ?_;simp;exact Q2.ok _ j2 .normal _ rfl (.inl rfl) (by simp[yT,eq3])
 |false=>
 have Q0:=Q0.wP (by rw[s3];decide);refine xK s3 p0 ?_;simp;cases s4:aL l j0 [109,101,97,115,117,114,101]with
 |true=>
  have Q1:=Q0.ifp s4;refine rdT s4 p0 hV.fin λp1=>?_;obtain⟨j1,qW⟩:∃j,j0+1=j:=⟨_,rfl⟩;rw[qW]at Q1 p1|-;simp;refine gH [0,1,2,3,5] 6 [] (.op 4 (.call [7,8,9,10,11] .none) (.call [4,7,8,9,10,11] .none)) (gX (a5m aU aI l j1)) (by kernel_rfl) (by kernel_rfl) ?_;simp;refine⟨?_,?_⟩
  all_goals
   refine pD Q1 p1 b6a ((b7y hV j1 p1.2)) ((aB.d3g hV.fin hV.sB.pred)) λx j2 x2 Q2 p2=>cI.mk ?_;simp;refine cF (by first|omega|exact⟨λx _=>by rw[eq4];rfl,by omega⟩|exact⟨λx _=>rfl,by omega⟩) ?_;simp;exact Q2.ok _ j2 .normal _ rfl (.inl rfl) (by simp[yT,eq4])
 |false=>
 have Q0:=Q0.wP (by rw[s4];decide);refine xK s4 p0 ?_;simp;cases s5:aL l j0 [113,117,97,108]with
 |true=>
  have Q1:=Q0.ifp s5;refine rdT s5 p0 hV.fin λp1=>?_;obtain⟨j1,qW⟩:∃j,j0+1=j:=⟨_,rfl⟩;rw[qW]at Q1 p1|-;simp;refine gH [0,1,2,3,5] 6 [] (.op 4 (.call [7,8,9,10,11] .none) (.call [4,7,8,9,10,11] .none)) (gX (a5n aU aI l j1)) (by kernel_rfl) (by kernel_rfl) ?_;simp;refine⟨?_,?_⟩
  all_goals
   refine pD Q1 p1 c4I ((c7j hV j1 p1.2)) ((aB.d3h hV.fin hV.sB.pred)) λx j2 x2 Q2 p2=>cI.mk ?_;simp;refine cF (by first|omega|exact⟨λx _=>by rw[eq5];rfl,by omega⟩|exact⟨λx _=>rfl,by omega⟩) ?_;simp;exact Q2.ok _ j2 .normal _ rfl (.inl rfl) (by simp[yT,eq5])
 |false=>
 have Q0:=Q0.wP (by rw[s5];decide);refine xK s5 p0 ?_;simp;refine rP Q0 p0 a3Q ((a6G hV hN j0 p0.2)) (a6H hV) λd j1 x1 Q1 p1=>?_;cases d with
 |none=>
  simp;refine rdX (ds:=[]) vB (xF (α:=oC) l j1 p1.2 (by omega) λ_=>.bY []) (λa j hx=>by unfold dN at hx;cases hx) (λn e hx=>?_)
  first|exact Q1.bad n e _ hx|(simp;exact Q1.bad n e _ hx)
 |some d=>simp;refine SW.vk ?_;simp;refine⟨kL.mk (by kernel_rfl),?_⟩;refine cF (by first|omega|exact⟨λx _=>by rw[eq6];rfl,by omega⟩) ?_;simp;exact Q1.ok _ j1 .normal _ rfl (.inl rfl) (by simp[yT,eq6,b2R,c0Y])
end
end
section
open Go Go.VM
variable {G:GT}
theorem b1g:VM.Enters prog 33:=.mk func33 rfl
theorem b1h:VM.Enters prog 38:=.mk func38 rfl
theorem a8B:VM.Enters prog 40:=.mk func40 rfl
theorem b2V:VM.Enters prog 57:=.mk func57 rfl
section
variable {aI:List Tok->Nat->Nat->kN Pr} {l:List Tok} (hV:oS G aI l) (hN:∀i, -9223372036854775807<=(aK l i).n/\(aK l i).n<=9223372036854775807)
include hV
def exX(e:jL):List (Nat×aW):=[(100001,.cells ((a1d e).map .d))]
def tyX(t:Ty):List (Nat×aW):=[(100001,.cells ((tyD t).map .d))]
def deX(d:oB):List (Nat×aW):=[(100001,.cells ((b2R d).map .d))]
theorem c4J(t0:Ty)(i:Nat)(hi:i<l.length):mX G 38 [.ptr 100000 0,.ptr 100001 0] (tyX t0) [] l i (kP aU bQ aI l i) (λ_=>.bY []) tyX:=by have hl:=hV.len;refine mX.bS func38 rfl ntmps38 rfl (by simp) ?_;intro Q Q0;simp[tyX];refine rdX (ds:=[]) cO (oF hV i hi) (λt j h=>?_) (λn e h=>Q0.bad n e _ h);simp;exact Q0.ok t j _ _ h (.inl rfl) (by simp[tyX])
include hN
theorem c4K(e0:jL)(i:Nat)(hi:i<l.length):mX G 33 [.ptr 100000 0,.ptr 100001 0] (exX e0) [] l i (a7V aU bQ aI l i) (λ_=>.bY []) exX:=by have hl:=hV.len;refine mX.bS func33 rfl ntmps33 rfl (by simp) ?_;intro Q Q0;simp[exX];refine rdX (ds:=[]) cA (a1Z hV hN i hi) (λt j h=>?_) (λn e h=>Q0.bad n e _ h);simp;exact Q0.ok t j _ _ h (.inl rfl) (by simp[exX])
abbrev a2n(aI:List Tok->Nat->Nat->kN Pr)(l:List Tok):aZ oB:=do
 let d <- a0R aU bQ aI l
 match d with
 |none=>dN l
 |some d=>do
  let _ <- cY l [59]
  pure d
theorem c7l(d0:oB)(i:Nat)(hi:i<l.length):mX G 57 [.ptr 100000 0,.ptr 100001 0] (deX d0) [] l i (a2n aI l i) (λ_=>.bY []) deX:=by
 have hl:=hV.len;obtain⟨j0,rfl⟩:∃j0,j0=i:=⟨_,rfl⟩;have p0:j0<=j0/\j0<l.length:=⟨f7X _,hi⟩;refine mX.bS func57 rfl ntmps57 rfl (by simp) ?_;intro Q Q0;simp[deX];refine rP Q0 p0 a3Q ((a6G hV hN j0 p0.2)) (a6H hV) λd j1 x1 Q1 p1=>?_;cases d with
 |none=>
  simp;refine rdX (ds:=[]) vB (xF (α:=oB) l j1 p1.2 (by omega) λ_=>.bY []) (λa j hx=>by unfold dN at hx;cases hx) (λn e hx=>?_)
  first|exact Q1.bad n e _ hx|(simp;exact Q1.bad n e _ hx)
 |some d=>
  simp;cases hs:aL l j1 [59]with
  |true=>have Q2:=Q1.step (jT hs);refine rdT hs p1 hV.fin λp2=>?_;simp;exact Q2.ok _ (j1+1) _ _ rfl (.inl rfl) (by simp[deX,b2R,c0Y])
  |false=>have Q2:=Q1.step (jU hs);refine xK hs p1 ?_;simp;exact Q2.ok _ j1 _ _ rfl (.inl rfl) (by simp[deX,b2R,c0Y])
abbrev moM(aI:List Tok->Nat->Nat->kN Pr)(l:List Tok)(m:oC):aZ oC:=do
 let m <- xC aU bQ aI l m
 aV l [[59]]
 pure m
omit hN in
theorem b6e(m:oC):aB l 1 (xC aU bQ aI l m):=aB.decl hV.fin hV.sB m
omit hN in
theorem c4L(m:oC)(i:Nat)(m2:oC)(j:Nat)(hi:i<l.length)(hm:d4T m i)(h:xC aU bQ aI l m i=.ok m2 j):d4T m2 j:=by
 have ha:=b6e hV m i m2 j hi h;obtain⟨m1,m2,m3,m4,m5,m6⟩:=hm;unfold xC at h;split at h
 .obtain⟨x,k,_,h⟩:=bX h;cases h;constructor<;>simp<;>omega
 split at h
 .obtain⟨x,k,_,h⟩:=bX h;cases h;constructor<;>simp<;>omega
 split at h
 .obtain⟨x,k,_,h⟩:=bX h;cases h;constructor<;>simp<;>omega
 split at h
 .obtain⟨x,k,_,h⟩:=bX h;cases h;constructor<;>simp<;>omega
 split at h
 .obtain⟨x,k,_,h⟩:=bX h;cases h;constructor<;>simp<;>omega
 .obtain⟨x,k,_,h⟩:=bX h;cases x with
  |none=>unfold dN at h;cases h
  |some d=>cases h;constructor<;>simp<;>omega
theorem b7z(i:Nat)(hi:i<l.length):mX G 40 [.ptr 100000 0,.ptr 100001 0] (yT ⟨[],[],[],[],[],[]⟩) e5s l i (b4x aU bQ aI l i) (λ_=>.bY []) yT:=by
 have hl:=hV.len;obtain⟨j0,rfl⟩:∃j0,j0=i:=⟨_,rfl⟩;have p0:j0<=j0/\j0<l.length:=⟨f7X _,hi⟩;refine mX.bS func40 rfl ntmps40 rfl (by simp) ?_;intro Q Q0;simp[yT];refine SW.yP (ι:={x:oC×Nat×Nat//j0<=x.2.1/\x.2.1<l.length/\l.length<x.2.2+x.2.1/\d4T x.1 x.2.1/\dQ (λi=> !decide ((aK l i).kind=0)) (moM aI l) x.2.2 x.1 x.2.1=b4x aU bQ aI l j0}) (λ_=>[]) (λx=>rH l x.1.2.1++yT x.1.1) (λ_=>e5s) (λx=>l.length-x.1.2.1) ⟨(⟨[],[],[],[],[],[]⟩,j0,l.length+2),f7X _,p0.2,by simp only;omega,⟨Nat.zero_le _,Nat.zero_le _,Nat.zero_le _,Nat.zero_le _,Nat.zero_le _,Nat.zero_le _⟩,rfl⟩ (by simp[yT]) ?_;rintro⟨⟨m,j1,g⟩,hb,qW,hg,hm,hp⟩;simp only at hb qW hg hm hp;obtain⟨g,rfl⟩:∃k,g=k+1:=⟨g-1,by omega⟩;have p1:j0<=j1/\j1<l.length:=⟨hb,qW⟩;have ht:=cJ (G:=G) l j1 j1 0 (by omega) (by omega) (by intro e;subst e;simp at hi) (by omega);simp[yT];refine mY (i:=j1) (ds:=[.int .i64 0]) bR ht ?_;by_cases hk:(aK l j1).kind=0
 .have hc:(λi=> !decide ((aK l i).kind=0)) j1=false:=by simp[hk]
  rw[xM hV hc]at hp;simp[bG,hk];exact Q0.ok m j1 _ _ hp.symm (.inl rfl) (by simp[yT])
 .have hc:(λi=> !decide ((aK l i).kind=0)) j1=true:=by simp[hk]
  simp[bG,hk];refine dC.mk (a0b a8A (c7k hV hN m j1 qW hm) [(100000,100000),(100001,100001)] (λa j hx=>?_) ?_ ?_ ?_ rfl rfl (λm2 j2 x2=>?_) (λn e hx=>by simp;exact Q0.bad _ _ _ (hp.symm.trans (rF hV hc (gQ hx)))))
  .simp[yT,aJ,aT,aN,aM,bC,getKey]
  .simp[yT,aJ,aT,aN,aM,bC,getKey]
  .simp[aQ,bA,rk]
  .simp[yT,aQ,bA,rk,cH,cP]
  .have p2:=b6e hV m j1 m2 j2 qW x2;have hm2:=c4L hV m j1 m2 j2 qW hm x2;simp[bD,yT,aQ,bA,rk,cH,cP,bM,jA,eZ,dJ];refine rdX (hw:=by simp[strs]) (ds:=[.sl (strs [[59]])]) kF (mM l [[59]] j2 p2.2 (by omega) hV.fin (by simp)) (λu j3 x3=>?_) (λn e hx=>by simp;exact Q0.bad _ _ _ (hp.symm.trans (rF hV hc ((bN x2).trans (gQ hx)))));have p3:=aB.exp hV.fin _ _ j2 u j3 p2.2 x3;have hm3:d4T m2 j3:=⟨by have:=hm2.a;omega,by have:=hm2.b;omega,by have:=hm2.c;omega,by have:=hm2.d;omega,by have:=hm2.e;omega,by have:=hm2.f;omega⟩;have h1:moM aI l m j1=.ok m2 j3:=(bN x2).trans ((bN x3).trans rfl);rw[xL hV hc h1]at hp;simp;exact aX.mk ⟨(m2,j3,g),by simp only;omega,p3.2,by simp only;omega,hm3,hp⟩ (by simp[yT]) (by simp;omega)
end
end
section
open Go Go.VM
variable {G:GT}
theorem b6f(a b:List Tok):txS (a++b)=txS a+txS b:=by
 induction a with
 |nil=>simp[txS]
 |cons t r ih=>simp only[List.cons_append,txS,ih];omega
theorem c4M{l:List Tok}(h:xP l)(e k:Nat):xP ((l.take e).drop k):=by have h1:=b6f (l.take e) (l.drop e);rw[List.take_append_drop]at h1;have h2:=b6f ((l.take e).take k) ((l.take e).drop k);rw[List.take_append_drop]at h2;refine⟨?_,by have:=h.2;omega⟩;have:=h.1;simp;omega
theorem a7p(l:List Tok):oG (b2n l)=true:=by
 unfold b2n;split
 .rfl
 .split<;>rfl
theorem c1f(hG:G 1=some dP){l:List Tok}(mP:xP l)(i e:Nat)(hi:i<l.length)(he:e<=l.length):qT G 155 [.int .i64 e] l i (rdQ l i e) c9U:=by
 have hl:=mP.1;obtain⟨k,hk⟩:∃k,min i e=k:=⟨_,rfl⟩;have hke:k<=e:=by omega
 have a3d:min (i:Int) (e:Int)=(k:Int):=by omega
 obtain⟨L,hL⟩:∃L,(l.take e).drop k=L:=⟨_,rfl⟩;have d4U:xP L:=by rw[<-hL];exact c4M mP e k
 have hrd:=b1a (G:=G) hG L d4U (λp n h=>Nat.le_trans (b1b h) (by have:=d4U.1;omega));have hLm:((l.map bG).take e).drop k=L.map bG:=by rw[<-hL,List.map_drop,List.map_take]
 rw[<-hLm]at hrd;have e4I:(if e<i then(e:Int) else(i:Int))=(k:Int):=by split<;>omega
 have ht:=cJ (G:=G) l i i 0 (by omega) (by omega) (by intro e;subst e;simp at hi) (by omega);refine mX.a1I func155 rfl ntmps155 rfl (by simp) ?_;intro Q Q0;unfold rdQ at Q0;rw[hk,hL]at Q0;refine SW.jZ (SW.xk ?_);simp;refine SW.jZ (SW.vk ?_);simp[a3d,hke,he,e4I,a2P];refine⟨kL.mk (by kernel_rfl),?_⟩;refine aD.mk (hkl:=a7p L) a9X hrd ?_;unfold b2n;cases hR:a4n L with
 |none=>rw[hR]at Q0;simp;refine SW.jZ (SW.jZ (SW.xk ?_));simp;refine SW.a7f rfl ?_;refine SW.lw (LW.app 5 ?_);simp;refine c0p (i:=i) (ds:=[.int .i64 0]) bR ht ?_;have hb:=λs=>Q0.bad (aK l i).line 14 s rfl;simp[bG];refine LW.c6s (td:=_) (n:=(aK l i).line) (e:=14) rfl rfl (by simp) (by simp) ?_;exact hb _
 |some q=>
  obtain⟨p,n⟩:=q;have hn:=a2O hR;have hLl:L.length<=e-k:=by rw[<-hL];simp;omega
  rw[hR]at Q0;simp only at Q0|-;by_cases hc:a5J p=0
  .have Q0:=Q0.ifp hc;have hw:IntKind.i64.wrap ((i:Int)+(n:Int))=((i+n:Nat):Int):=by rw[wrap64 (by omega)];omega
   rw[if_pos hc];simp;refine SW.xk ?_;simp[hw];exact Q0.ok p (i+n) _ _ rfl (.inr rfl) (by simp)
  .have Q0:=Q0.wP hc;rw[if_neg hc];simp;refine SW.jZ (SW.jZ (SW.xk ?_));simp[hc];refine SW.a7f rfl ?_;refine SW.lw (LW.app 5 ?_);simp;refine c0p (i:=i) (ds:=[.int .i64 0]) bR ht ?_;have hb:=λs=>Q0.bad (aK l i).line (a5J p) s rfl;simp[bG];refine LW.c6s (td:=_) (n:=(aK l i).line) (e:=a5J p) rfl rfl (by simp) (by simp) ?_;exact hb _
end
section
def b0i(l:List Tok):Prop:=∀t,l[l.length-1]? =some t->t.kind=0
theorem b1i{l:List Tok}(hE:b0i l){i:Nat}{t:Tok}(h:l[i]? =some t)(hk:t.kind≠0):i+1<l.length:=by
 have hi:=(f7I.1 h).1;rcases Nat.lt_or_ge (i+1) l.length with h1|h1
 .exact h1
 .have:l.length-1=i:=by omega
  exact(hk (hE t (by rw[this];exact h))).elim
theorem b3o{l:List Tok}(hE:b0i l){i:Nat}{s:List UInt8}(h:mF l i s=true):i+1<l.length:=by
 unfold mF at h;split at h
 .rename_i t ht;simp only[f7H,decide_eq_true_eq]at h;exact b1i hE ht (by omega)
 .cases h
theorem c8J{l:List Tok}(hE:b0i l){i:Nat}{k:Int}(h:kdB l i k=true)(hk:k≠0:=by omega):i+1<l.length:=by
 unfold kdB at h;split at h
 .rename_i t ht;simp only[decide_eq_true_eq]at h;exact b1i hE ht (by omega)
 .cases h
theorem c1g{l:List Tok}(hE:b0i l){i:Nat}(h:wtB l i=true):i+1<l.length:=by unfold wtB at h;rw[f7T]at h;rcases h with h|h<;>exact c8J hE h
theorem a3R{l:List Tok}(hE:b0i l):∀(f i:Nat) (s:List UInt8),i<l.length->i<=(pP l f i s).2/\(pP l f i s).2<l.length
 |0,i,s,h=>⟨f7X _,h⟩
 |f+1,i,s,h=>by
  rw[pP];split
  .rename_i h1;have:=b3o hE h1;split
   .rename_i h2;have:=c1g hE h2;have:=a3R hE (l:=l) f (i+2) (s++[46]++txA l (i+1)) (by omega);omega
   .split
    .rename_i h3;have:=c8J hE h3;split
     .rename_i h4;have:=c1g hE h4;have:=a3R hE (l:=l) f (i+3) (s++[46]++txA l (i+1)++txA l (i+2)) (by omega);omega
     .have:=a3R hE (l:=l) f (i+2) (s++[46]++txA l (i+1)) (by omega);omega
    .exact⟨f7X _,h⟩
  .exact⟨f7X _,h⟩
theorem b9d{kw:List UInt8->Bool}{l:List Tok}(hE:b0i l){i n:Nat}{s:List UInt8}(h:tL kw l i=some (s,n)):i<n/\n<l.length:=by
 unfold tL at h;split at h
 .rename_i hb;unfold b5r at hb;rw[f7H]at hb;have h1:=c1g hE hb.1;have h2:=a3R hE (l:=l) l.length (i+1) (txA l i) (by omega);rw[f7N]at h;rw[h]at h2;simp only at h2;omega
 .cases h
def d0R(l:List Tok)(rd:Nat->Nat->Option (Pr×Nat)):Prop:=∀i k p n,rd i k=some (p,n)->i<n/\n<l.length
section
variable {kw:List UInt8->Bool} {rd rd':Nat->Nat->Option (Pr×Nat)} {l:List Tok}
theorem b6g(hE:b0i l)(h:d0R l rd)(k:Nat):∀(g:Nat) (a:Pr) (n:Nat),n<l.length->n<=(dL rd l k g a n).2/\(dL rd l k g a n).2<l.length
 |0,a,n,hn=>⟨f7X _,hn⟩
 |g+1,a,n,hn=>by
  rw[dL];split
  .exact⟨f7X _,hn⟩
  .split
   .exact⟨f7X _,hn⟩
   .rename_i op _ _ b m hr;have h1:=h _ _ _ _ hr;have h2:=b6g hE h k g (tw op a b) m h1.2;omega
theorem b9e(hE:b0i l)(h:d0R l rd):∀(g i:Nat) (acc ks:List Pr) (m:Nat),mE rd l g i acc=some (ks,m)->i<m/\m<l.length
 |0,_,_,_,_,hr=>by cases hr
 |g+1,i,acc,ks,m,hr=>by
  rw[mE]at hr;split at hr
  .cases hr
  .rename_i p n hp;have h1:=h _ _ _ _ hp;split at hr
   .rename_i hs;have:=b3o hE hs;cases hr;omega
   .split at hr
    .have:=b9e hE h g n _ ks m hr;omega
    .cases hr
theorem b9f(hE:b0i l)(h:d0R l rd){i m:Nat}{ks:List Pr}(hr:rZ rd l i=some (ks,m)):i<m/\m<l.length:=by
 unfold rZ at hr;split at hr
 .exact b9e hE h _ _ _ _ _ hr
 .cases hr
theorem d0S(hE:b0i l)(h:d0R l rd){i n:Nat}{p:Pr}(hr:wE kw rd l i=some (p,n)):i<n/\n<l.length:=by
 unfold wE at hr;split at hr
 .cases hr
 .rename_i t ht;have tY:=(f7I.1 ht).1;have hnx:∀x:Int,x≠0->t.kind=x->i+1<l.length:=λx hx hk=>b1i hE ht (by omega);split at hr
  .rename_i hk;have:=hnx 3 (by omega) hk;cases hr;omega
  split at hr
  .rename_i hk;have:=hnx 1 (by omega) hk.1;cases hr;omega
  split at hr
  .rename_i hk;have:=hnx 1 (by omega) hk.1;cases hr;omega
  split at hr
  .split at hr
   .cases hr
   .rename_i s m hn;have h1:=b9d hE hn;rw[f7G]at hr;obtain⟨⟨ks,q⟩,hq,he⟩:=hr;have h2:=b9f hE h hq;cases he;simp only at *;omega
  split at hr
  .split at hr
   .rename_i hc;have:=b3o hE hc.2.2;cases hr;omega
   .split at hr
    .cases hr
    .rename_i q m hq;have h1:=h _ _ _ _ hq;split at hr
     .rename_i hs;have:=b3o hE hs;cases hr;omega
     .cases hr
  .split at hr
   .cases hr
   .rename_i s m hn;have h1:=b9d hE hn;split at hr
    .rename_i ks q hq;have h2:=b9f hE h hq;cases hr;omega
    .cases hr;omega
theorem d9Z(hE:b0i l)(h:d0R l rd){i k n:Nat}{p:Pr}(hr:atG kw rd l i k=some (p,n)):i<n/\n<l.length:=by
 unfold atG at hr;split at hr
 .unfold b0W at hr;split at hr
  .cases hr
  .rename_i a m ha;have h1:=h _ _ _ _ ha;split at hr
   .split at hr
    .rename_i b q hb;have h2:=h _ _ _ _ hb;cases hr;omega
    .cases hr;exact h1
   .cases hr;exact h1
 .split at hr
  .rw[f7G]at hr;obtain⟨⟨a,m⟩,ha,he⟩:=hr;have h1:=h _ _ _ _ ha;cases he;simp only;omega
  .exact h _ _ _ _ hr
 .unfold a7X at hr;split at hr
  .cases hr
  .rename_i a m ha;have h1:=h _ _ _ _ ha;split at hr
   .cases hr;exact h1
   .split at hr
    .cases hr;exact h1
    .rename_i b q hb;have h2:=h _ _ _ _ hb;cases hr;omega
 .split at hr
  .rw[f7G]at hr;obtain⟨⟨a,m⟩,ha,he⟩:=hr;have h1:=h _ _ _ _ ha;cases he;simp only;omega
  .exact h _ _ _ _ hr
 .exact d0S hE h hr
 .rw[f7G]at hr;obtain⟨⟨a,m⟩,ha,he⟩:=hr;have h1:=h _ _ _ _ ha;have h2:=b6g (k:=k) hE h l.length a m h1.2;have h3:(dL rd l k l.length a m).2=n:=by rw[he]
  omega
end
theorem c4N(kw:List UInt8->Bool)(l:List Tok)(hE:b0i l):∀f,d0R l (eK kw l f)
 |0=>λ_ _ _ _ h=>by cases h
 |f+1=>λ_ _ _ _ h=>d9Z hE (c4N kw l hE f) h
end
section
theorem c1h{l:List Tok}(hE:b0i l)(e i:Nat)(p:Pr)(j:Nat)(hi:i<l.length)(h:rdQ l i e=.ok p j):i<=j/\j<l.length:=by
 unfold rdQ at h;split at h
 .cases h
 .rename_i q n hr;split at h
  .cases h;refine⟨by omega,?_⟩;have h1:=a2O hr;rw[List.length_drop,List.length_take]at h1;rcases Nat.lt_or_ge e l.length with he|he
   .omega
   .have a3d:min i e=i:=by omega
    rw[a3d,List.take_of_length_le he]at hr;have hS:b0i (l.drop i):=λt ht=>by rw[List.length_drop,f8a]at ht;exact hE t (by rw[show l.length-1=i+(l.length-i-1) by omega];exact ht)
    have h2:=(c4N aU (l.drop i) hS _ _ _ _ _ hr).2;rw[List.length_drop]at h2;omega
  .cases h
def dO{α:Type}(x:List Tok->aZ α)(s:List UInt8):kN α:=if 40000<s.length then .bad 0 7 else match kE gB s 0 1 false with
 | .error n=>.bad n 14
 | .ok l=>match x l 0 with
  | .bad n e=>.bad n e
  | .ok a j=>match a2G l j with
   | .bad n e=>.bad n e
   | .ok _ _=>.ok a j
theorem d0T{α:Type}{x:List Tok->aZ α}{s:List UInt8}{a:α}{j:Nat}(h:dO x s=.ok a j): ¬40000<s.length/\∃l,kE gB s 0 1 false=.ok l/\x l 0=.ok a j/\(aK l j).kind=0:=by
 unfold dO at h;split at h
 .cases h
 .rename_i hl;split at h
  .cases h
  .rename_i l hlx;split at h
   .cases h
   .rename_i b k hx;split at h
    .cases h
    .rename_i u m he;cases h;refine⟨hl,l,hlx,hx,?_⟩;unfold a2G at he;split at he
     .assumption
     .unfold dN at he;cases he
end
section
open Go Go.VM
variable {G:GT}
theorem e0a{p:Pr}(h:a5J p=0):p.op≠0:=by
 unfold a5J b2J at h;split at h
 .cases h
 split at h
 .cases h
 intro h0;have hn:a1U p=1:=by unfold a1U;rw[if_pos (by omega)]
 obtain⟨op,nm,n,ks⟩:=p;simp[a1q,oE,hn]at h
theorem b3p{num:List UInt8->Int×Bool}{l:List Tok}{ln:Int}(h:OkT num l ln):l≠[]/\∀t,l[l.length-1]? =some t->t.kind=0:=by
 induction h with
 |fin ln l hl=>exact⟨by simp,λt ht=>by simp at ht;subst ht;rfl⟩
 |cons t r ln h1 h2 h3 ih=>refine⟨by simp,λu hu=>ih.2 u ?_⟩;have:0<r.length:=List.length_pos_iff.2 ih.1;rw[List.length_cons,Nat.add_sub_cancel]at hu;rw[show r.length=(r.length-1)+1 by omega]at hu;simpa using hu
theorem e0b{l:List Tok}{ln:Int}(h:OkT gB l ln):∀t∈l,0<=t.n/\t.n<=1000000000000:=by
 induction h with
 |fin ln l hl=>intro t ht;simp at ht;subst ht;simp
 |cons t r ln h1 h2 h3 ih=>
  intro u hu;rcases List.mem_cons.1 hu with rfl|hu
  .have hn:(firstT gB u.text).2.2.1=u.n:=by rw[h2]
   rw[<-hn];have hb:∀s,0<=(gB s).1/\(gB s).1<=1000000000000:=λs=>by
    unfold gB;split
    .simp only;omega
    .simp only;omega
   unfold firstT;split
   .simp
   .split
    .simp
    .split
     .simp
     .split
      .exact hb _
      .split<;>simp
  .exact ih u hu
theorem c4O{l:List Tok}(h:l≠[])(i:Nat):aK l i∈l:=by
 unfold aK;split
 .rename_i hi;rw[List.getD_eq_getElem?_getD,f7L hi];exact List.getElem_mem hi
 .rw[List.getLastD_eq_getLast?,List.getLast?_eq_some_getLast h];exact List.getLast_mem h
theorem b9g(hG:G 1=some dP){s:List UInt8}{l:List Tok}(h:kE gB s 0 1 false=.ok l)(hs:s.length<=40000):oS G rdQ l:=by
 have mP:=(c4s h hs).1;have hO:=zY s 0 1 false l h;have hE:=b3p hO;refine⟨hG,mP.1,⟨hE.1,?_⟩,λi e hi he=>c1f hG mP i e hi he,λe i p j hi hx=>c1h hE.2 e i p j hi hx,λi e p j hi hx=>?_⟩
 .have a0E:0<l.length:=List.length_pos_iff.2 hE.1;have aE:l.length-1<l.length:=by omega
  refine hE.2 _ ?_;unfold aK;rw[if_pos aE,List.getD_eq_getElem?_getD,f7L aE]
  rfl
 .unfold rdQ at hx;split at hx
  .cases hx
  .rename_i q n hr;split at hx
   .rename_i hc;cases hx;have:=c0Q aU _ _ _ _ _ _ hr;exact⟨by omega,e0a hc⟩
   .cases hx
theorem b9h{s:List UInt8}{l:List Tok}(h:kE gB s 0 1 false=.ok l):∀i, -9223372036854775807<=(aK l i).n/\(aK l i).n<=9223372036854775807:=λi=>by have hO:=zY s 0 1 false l h;have:=e0b hO _ (c4O (b3p hO).1 i);omega
end
section
abbrev tyM(l:List Tok):aZ Ty:=kP aU bQ rdQ l
abbrev exM(l:List Tok):aZ jL:=a7V aU bQ rdQ l
abbrev moQ(l:List Tok):aZ oC:=b4x aU bQ rdQ l
def a2o{α:Type}(z:α):kN α->α
 | .ok a _=>a
 | .bad _ _=>z
def a2Q{α:Type}:kN α->Int
 | .ok _ _=>0
 | .bad _ e=>e
def d0U{α:Type}:kN α->Int
 | .ok _ _=>0
 | .bad n _=>n
end
end Go.Proofs.YtjpodcmhcenjjaaGreatDoor
section
namespace Go.VM
open Go Go.RowKit
section
variable {P:Program} {G:GT} {st:St} {base:cT} {R:Nat->Nat->Prop} {μ:Nat->Nat} {a:Act} {w:World}
theorem b6h{s0:St}(K:List (Nat×Nat)){f7F:List DV}{ls:List (Option Loc)}{rest:List (TypeId×List Loc)}{args:Array Value}(jR:aJ K s0 .undef s0.H=true)(jI:WkT f7F (aQ K s0.tmps))(hH:WkH st.H (cH K s0.H))(kJ:uW st st.own (s0.own.map (pK K ls))=some rest)(kn:zD st.tmps.length ls s0.own=true)(hr:Rel P G base R μ st a w)(hl:args.size=f7F.length)(hv:∀(i:Nat) (d:DV),f7F[i]? =some d->TV R μ w (args.getD i undef) d)(a6J:∀(i:Nat) (l:Loc),ls[i]? =some (some l)->∀u,cB a w μ l=some u->u=args.getD i undef):
  ∃jP:cT,(∀b,jP b->base b)/\Rel P G jP R (λk=>μ (rk K k)) s0 {tmps:=args,defers:=[]} w/\∀k o,getKey k st.H=some o->(∀p∈s0.H,k≠rk K p.1)-> ¬jP (μ k):=by
 simp only[aJ,f7H,decide_eq_true_eq,f7K]at jR;obtain⟨⟨⟨⟨⟨⟨⟨⟨kf,ks⟩,kp⟩,kt⟩,kh⟩,kl⟩,kr⟩,kd⟩,k1⟩:=jR;obtain⟨vs,rK⟩:=hr.own;obtain⟨vsT,vsR,t1,t2,t3,t4,t5,t6,t7⟩:=a5j hr _ _ _ vs ⟨rK.len,rK.one,rK.apart⟩ kJ;have inK:∀k o,getKey k s0.H=some o->(K.any λp=>p.1==k)=true/\aN K o=true/\(getKey k s0.H).isSome=true:=λk o hk=>by
  have:=kh _ (gN hk)
  try simp only[f7H]at this
  exact⟨this.1.1,this.1.2,this.2⟩
 have inst:∀k o,getKey k s0.H=some o->∃o',getKey (rk K k) st.H=some o'/\WkO o' (cP K o):=λk o hk=>by
  have hm:=gN hk;have:∀ {l:List (Nat×aW)},WkH st.H (cH K l)->(k,o)∈l->∃o',getKey (rk K k) st.H=some o'/\WkO o' (cP K o):=by
   intro l
   induction l with
   |nil=>intro _ h;cases h
   |cons p l ih=>
    intro hw hp;obtain⟨h1,h2⟩:=hw;rcases List.mem_cons.1 hp with rfl|hp
    .exact h1
    .exact ih h2 hp
  exact this hH hm
 have big:∀k,(K.any λp=>p.1==k)=true->100000<=k:=λk hk=>by obtain⟨p,h1,h2,_⟩:=a0F hk;rw[<-h2];exact kp p h1
 have d2T:∀k k',(K.any λp=>p.1==k)=true->(K.any λp=>p.1==k')=true->rk K k=rk K k'->k=k':=λk k' h h' he=>by
  obtain⟨p,p1,p2,p3⟩:=a0F h;obtain⟨q,q1,q2,q3⟩:=a0F h';have hpq:p.2=q.2:=by rw[<-p3, <- q3,he]
  have:p=q:=mA.b1J.a6k ks p1 q1 hpq;rw[<-p2, <- q2,this]
 have one:∀k,(getKey k s0.H).isSome=true->∃o,getKey k s0.H=some o:=λk hk=>by
  obtain⟨o,ho⟩:=Option.isSome_iff_exists.1 hk;have:=k1 _ (gN ho)
  try simp only[f7H]at this
  exact Option.isSome_iff_exists.1 this.2
 let jP:cT:=⟨λb=>w.heap.size<=b\/(∃k o,getKey k s0.H=some o/\b=μ (rk K k))\/(∃v∈vsT,bF v=some b),λk=>μ (rk K k)⟩
 have sub:∀b,jP b->base b:=λb hb=>by
  rcases hb with hb|⟨k,o,hk,rfl⟩|⟨v,hv,hs⟩
  .exact hr.base b hb
  .obtain⟨o',uI,_⟩:=inst k o hk;exact(hr.gY _ o' uI).1
  .obtain⟨i,hi⟩:=f7Y hv;have tY:i<(s0.own.map (pK K ls)).length:=by rw[<-t1];exact(f7I.1 hi).1
   exact(t2 i _ v (f7L tY) hi).own.a1v hs
 have a0N:Rel P G jP R (λk=>μ (rk K k)) s0 {tmps:=args,defers:=[]} w:=by
  obtain⟨g1,g2⟩:=yL jI;rw[qQ]at g1 g2;refine⟨rfl,by show args.size=s0.tmps.length;rw[List.length_map]at g1;omega,λi v d hiv hid=>?_,λk o hk=>?_,λk k' o o' hk hk' he=>?_,λc hc k off hl'=>?_,⟨vsT,by simpa using t1,λi c v hc zS=>?_,t3⟩,hr.tQ.up sub,hr.pH,λb hb=>.inl hb,λk hk=>rfl⟩
  .obtain⟨d0,hd0,b4h⟩:=g2 i (bA K d) (by rw[f7R,hid];rfl);have hva:=hv i d0 hd0;have hav:args.getD i undef=v:=by simp only at hiv;simp[f7J,hiv]
   rw[hav]at hva;have d2U:TV R μ w v (bA K d):=by
    rcases b4h with hc|hc|⟨hc1,hc2⟩
    .rw[hc];exact .undef _
    .rw[hc];exact hva
    .rw[hc2];rw[hc1]at hva;obtain⟨ao,rfl⟩:=hva.a7B.jQ;exact .d _ _ (.emp _ _)
   exact d2U.ren (μ:=μ) (λ_ _=>rfl) (kt d (f7M hid))
  .obtain⟨q1,q2,_⟩:=inK k o hk;obtain⟨o',uI,hw⟩:=inst k o hk;obtain⟨p1,p2,p3⟩:=hr.gY _ o' uI;exact⟨.inr (.inl ⟨k,o,hk,rfl⟩),p2,(b3h hw p3).ren (λ_ _=>rfl) q2⟩
  .obtain⟨o1,h1,_⟩:=inst k o hk;obtain⟨o2,h2,_⟩:=inst k' o' hk';exact d2T k k' (inK k o hk).1 (inK k' o' hk').1 (hr.inj _ _ o1 o2 h1 h2 he)
  .have:=f7K.1 (f7K.1 kl c hc) _ hl';exact Option.isSome_iff_exists.1 this
  .have ho:=t2 i (pK K ls c) v (by rw[f7R,hc];rfl) zS;refine⟨λl hl' u hu=>?_,?_,λk o hk=>?_⟩
   .have hn:=f7K.1 (f7K.1 kn c (f7M hc)) l hl';cases l with
    |t j=>
     simp only at hn;split at hn
     .rename_i t hj;simp only[decide_eq_true_eq]at hn;have ht:t<a.tmps.size:=by rw[hr.size];exact hn
      have hlv:cB a w μ (.t t)=some a.tmps[t]:=by simp[cB,ht]
      have h1:=a6J j _ hj _ hlv;have h2:=ho.dI (.t t) (List.mem_filterMap.2 ⟨.t j,hl',by simp[b4f,hj]⟩) _ hlv;simp only[cB]at hu;have h3:args.getD j undef=u:=by simp[f7J,hu]
      rw[<-h3, <- h1,h2]
     .cases hn
    |c k off=>exact ho.dI (.c (rk K k) off) (List.mem_filterMap.2 ⟨.c k off,hl',rfl⟩) u hu
   .rcases ho.own with h|⟨g,n,cap,cur,h0,h1,h2,h3,h4⟩
    .exact .inl h
    .by_cases wL:cap=0
     .subst wL;have:n=0:=by omega
      subst this;exact .inl ⟨_,h0⟩
     .exact .inr ⟨g,n,cap,cur,h0,.inr (.inr ⟨v,f7M zS,by rw[h0];simp[bF,wL]⟩),h2,h3,h4⟩
   .obtain⟨o',uI,_⟩:=inst k o hk;exact ho.keys _ o' uI
 refine⟨jP,sub,a0N,λk o ho hk hb=>?_⟩;rcases hb with hb|⟨k0,o0,h0,he'⟩|⟨u,hu,hsp⟩
 .have:=(hr.gY k o ho).2.2.lt;omega
 .obtain⟨o',uI,_⟩:=inst k0 o0 h0;have:=hr.inj k (rk K k0) o o' ho uI he';exact hk (k0,o0) (gN h0) this
 .obtain⟨i,hi⟩:=f7Y hu;have tY:i<(s0.own.map (pK K ls)).length:=by rw[<-t1];exact(f7I.1 hi).1
  exact(t2 i _ u (f7L tY) hi).keys k o ho hsp
def CHd(P:Program)(G:GT)(f:FuncId)(s0:St)(r:DV):Prop:=
 ∀(base:cT) (R:Nat->Nat->Prop) (μ:Nat->Nat) (args:Array Value) (w:World),Rel P G base R μ s0 {tmps:=args,defers:=[]} w->
  Calls P f args w λe w'=>∃v R',e=.returned v/\(∀μ',TV R' μ' w' v r)/\Step base R w R' w'/\∀b o,R' b o->b<w'.heap.size
theorem mA.e5t{f:FuncId}{s0:St}{r:DV}(yW:CHd P G f s0 r)(K:List (Nat×Nat)){f7F:List DV}{ls:List (Option Loc)}{dst:Option Tmp}{rest:List (TypeId×List Loc)}(H':List (Nat×aW))(jR:aJ K s0 .undef s0.H=true)(jI:WkT f7F (aQ K s0.tmps))(hH:WkH st.H (cH K s0.H))(kJ:uW st st.own (s0.own.map (pK K ls))=some rest)(kn:zD st.tmps.length ls s0.own=true)(hK:∀k o,getKey k H'=some o->getKey k st.H=some o/\∀p∈s0.H,k≠rk K p.1):
  mA P G f f7F ls st dst ⟨gV dst r st.tmps,H',[]⟩:=by
 intro base R μ a w args hr hl hv a6J;obtain⟨jP,sub,a0N,a0B⟩:=b6h K jR jI hH kJ kn hr hl hv a6J;refine(yW jP R _ args w a0N).mono λe w' ⟨v,R',he,hZ,hs,hb⟩=>⟨v,R',μ,he,?_,⟨hs.below.mono sub,hs.mono,λb o h1 h2=>sub b (hs.new b o h1 h2),hs.cells⟩⟩;have hsb:Step base R w R' w':=⟨hs.below.mono sub,hs.mono,λb o h1 h2=>sub b (hs.new b o h1 h2),hs.cells⟩;have kept:∀b, ¬jP b->w'.heap[b]? =w.heap[b]? /\∀off,R' b off->R b off:=λb hb=>⟨hs.below.block b hb,λoff h=>by
  by_cases hx:R b off
  .exact hx
  .exact absurd (hs.new b off h hx) hb⟩
 refine⟨by cases dst<;>exact hr.defers,?_,λi u d hu hd=>?_,λk o hk=>?_,λk k' o o' hk hk' he'=>?_,(λc hc=>by cases hc),⟨[],rfl,λi c v h _=>by simp at h,.nil⟩,hr.tQ.bI hsb,hb,λb hb=>hr.base b (Nat.le_trans hs.below.size hb),hr.pass⟩
 .cases dst with
  |none=>exact hr.size
  |some t=>simp[gV,Act.put,hr.size]
 .cases dst with
  |none=>exact(hr.tmps i u d hu hd).bI hsb
  |some t=>
   simp only[gV,Act.put]at hu hd;by_cases hti:t=i
   .subst hti;have h1:t<st.tmps.length:=by
     by_cases aE:t<st.tmps.length
     .exact aE
     .have sG:(st.tmps.set t r)[t]? =none:=List.getElem?_eq_none (by rw[List.length_set];exact Nat.le_of_not_lt aE);rw[sG]at hd;cases hd
    have h2:t<a.tmps.size:=by rw[hr.size];exact h1
    simp[h1]at hd;simp[h2]at hu;subst hu hd;exact hZ μ
   .rw[Array.getElem?_setIfInBounds_ne hti]at hu;rw[List.getElem?_set_ne hti]at hd;exact(hr.tmps i u d hu hd).bI hsb
 .obtain⟨hk2,hk1⟩:=hK k o hk;obtain⟨p1,p2,p3⟩:=hr.gY k o hk2;obtain⟨e1,e2⟩:=kept _ (a0B k o hk2 hk1);exact⟨p1,λoff h=>p2 off (e2 off h),p3.bI hsb e1⟩
 .exact hr.inj k k' o o' (hK k o hk).1 (hK k' o' hk').1 he'
theorem a9t.wK{f:FuncId}{s0:St}{v:Value}(yW:CPn P G f s0 v)(K:List (Nat×Nat)){f7F:List DV}{ls:List (Option Loc)}{rest:List (TypeId×List Loc)}(H':List (Nat×aW))(jR:aJ K s0 .undef s0.H=true)(jI:WkT f7F (aQ K s0.tmps))(hH:WkH st.H (cH K s0.H))(kJ:uW st st.own (s0.own.map (pK K ls))=some rest)(kn:zD st.tmps.length ls s0.own=true)(hK:∀k o,getKey k H'=some o->getKey k st.H=some o/\∀p∈s0.H,k≠rk K p.1){args:Array Value}(hr:Rel P G base R μ st a w)(hl:args.size=f7F.length)(hv:∀(i:Nat) (d:DV),f7F[i]? =some d->TV R μ w (args.getD i undef) d)(a6J:∀(i:Nat) (l:Loc),ls[i]? =some (some l)->∀u,cB a w μ l=some u->u=args.getD i undef):
  Calls P f args w λe w'=>∃R',e=.panicked (a0a v)/\Rel P G base R' μ ⟨st.tmps,H',[]⟩ a w'/\Step base R w R' w':=by
 obtain⟨jP,sub,a0N,a0B⟩:=b6h K jR jI hH kJ kn hr hl hv a6J;refine(yW jP R _ args w a0N).mono λe w' ⟨R',he,hs,hb⟩=>⟨R',he,?_,⟨hs.below.mono sub,hs.mono,λb o h1 h2=>sub b (hs.new b o h1 h2),hs.cells⟩⟩;have hsb:Step base R w R' w':=⟨hs.below.mono sub,hs.mono,λb o h1 h2=>sub b (hs.new b o h1 h2),hs.cells⟩;have kept:∀b, ¬jP b->w'.heap[b]? =w.heap[b]? /\∀off,R' b off->R b off:=λb hb=>⟨hs.below.block b hb,λoff h=>by
  by_cases hx:R b off
  .exact hx
  .exact absurd (hs.new b off h hx) hb⟩
 refine⟨hr.defers,hr.size,λi u d hu hd=>(hr.tmps i u d hu hd).bI hsb,λk o hk=>?_,λk k' o o' hk hk' he'=>?_,(λc hc=>by cases hc),⟨[],rfl,λi c v h _=>by simp at h,.nil⟩,hr.tQ.bI hsb,hb,λb hb=>hr.base b (Nat.le_trans hs.below.size hb),hr.pass⟩
 .obtain⟨hk2,hk1⟩:=hK k o hk;obtain⟨p1,p2,p3⟩:=hr.gY k o hk2;obtain⟨e1,e2⟩:=kept _ (a0B k o hk2 hk1);exact⟨p1,λoff h=>p2 off (e2 off h),p3.bI hsb e1⟩
 .exact hr.inj k k' o o' (hK k o hk).1 (hK k' o' hk').1 he'
end
end Go.VM
end
section
namespace Go.VM
open Go Go.RowKit
section
variable {P:Program} {G:GT} {st:St} {base:cT} {R:Nat->Nat->Prop} {μ:Nat->Nat} {a:Act} {w:World}
theorem put_defers(a:Act)(ds:List Deferred)(dst:Option Tmp)(v:Value):({a with defers:=ds}:Act).put dst v={a.put dst v with defers:=ds}:=by cases dst<;>rfl
theorem e9e{o:Oper}{ds:List Deferred}{K K':Act->World->Prop}{Q Q':Exit->Act->World->Prop}(ha:a.defers=[])(h:o.wp P a w K Q)(hK0:∀a' w',K a' w'->a'.defers=[])(hK:∀a' w',K a' w'->K' {a' with defers:=ds} w')(hQ:∀e a' w',Q e a' w'->Q' e {a' with defers:=ds} w'):o.wp P {a with defers:=ds} w K' Q':=by
 unfold Oper.wp at h|-;have he:execOp ({a with defers:=ds}:Act).eval o=execOp a.eval o:=rfl;rw[he];generalize (execOp a.eval o).run P w=r at h|-;unfold Oper.upon at h|-;split at h
 .rw[put_defers];exact hK _ _ h
 .rw[put_defers];exact hK _ _ h
 .rename_i d w';have:=hK0 _ _ h;rw[put_defers]at this;simp at this
 .refine h.mono λe w' hx=>?_;cases e with
  |returned v=>simp only at hx|-;rw[put_defers];exact hK _ _ hx
  |panicked chain=>exact hQ _ _ _ hx
  |outgrown=>obtain⟨a0,w0,h0⟩:=hx;exact⟨_,_,hQ _ _ _ h0⟩
 .refine h.mono λv w' hx=>?_;rw[put_defers];exact hK _ _ hx
 .exact hQ _ _ _ h
 .exact h.elim
def d0V(P:Program)(G:GT)(all:Array Oper)(Q:Exit->St->Prop):List Oper->St->Prop
 |[],st=>Q .normal st
 |o::rest,st=>b5X P G all o st (d0V P G all Q rest) Q
theorem c1i{all:Array Oper}{Q:Exit->St->Prop}(ds:List Deferred):∀(l:List Oper) (st:St),d0V P G all Q l st->∀(base:cT) (R:Nat->Nat->Prop) (μ:Nat->Nat) (a:Act) (w:World),Rel P G base R μ st a w->
  ∀QQ:Exit->Act->World->Prop,(∀e s a' w' R' μ',Q e s->Rel P G base R' μ' s a' w'->Step base R w R' w'->QQ e {a' with defers:=ds} w')->wpList P all QQ l {a with defers:=ds} w
 |[],st,h,base,R,μ,a,w,hr,QQ,hk=>hk _ st a w R μ h hr (.refl _ _ _)
 |o::rest,st,h,base,R,μ,a,w,hr,QQ,hk=>by
  have h1:=c4F (KK:=λa' w'=>a'.defers=[]/\wpList P all QQ rest {a' with defers:=ds} w') (QQ:=λe a' w'=>QQ e {a' with defers:=ds} w') (show b5X P G all o st (d0V P G all Q rest) Q from h) hr (λs v w' R' μ' p1 p2 p3=>⟨p2.defers,c1i ds rest s p1 base R' μ' _ w' p2 QQ λe s a' w2 R2 μ2 q1 q2 q3=>hk e s a' w2 R2 μ2 q1 q2 (p3.trans q3)⟩) λc s w' R' μ' p1 p2 p3=>hk _ s a w' R' μ' p1 p2 p3;unfold wpList;by_cases hw:Region.wanted o (yielded all a.tmps)=true
  .rw[if_pos hw]at h1;rw[if_pos (show Region.wanted o (yielded all ({a with defers:=ds}:Act).tmps)=true from hw)];rcases h1 with h1|⟨h1,a0,w0,h2⟩
   .exact .inl (e9e hr.defers h1 (λ_ _ h=>h.1) (λ_ _ h=>h.2) λ_ _ _ h=>h)
   .exact .inr ⟨h1,_,_,h2⟩
  .rw[if_neg hw]at h1;rw[if_neg (show ¬Region.wanted o (yielded all ({a with defers:=ds}:Act).tmps)=true from hw),put_defers];exact h1.2
def DW(P:Program)(G:GT)(ds:List Deferred)(c:Code)(st:St)(Q:Exit->St->Prop):Prop:=
 ∀(base:cT) (R:Nat->Nat->Prop) (μ:Nat->Nat) (a:Act) (w:World),Rel P G base R μ st a w->c.wp P (λe a' w'=>∃a0 s R' μ',a'={a0 with defers:=ds}/\Q e s/\Rel P G base R' μ' s a0 w'/\Step base R w R' w') {a with defers:=ds} w
theorem DW.region{ds:List Deferred}{id:Nat}{ops:Array Oper}{Q:Exit->St->Prop}(h:d0V P G ops Q ops.toList st):DW P G ds (.region id ops false) st Q:=λbase R μ a w hr=>wp_region_list (c1i ds ops.toList st h base R μ a w hr _ λe s a' w' R' μ' q1 q2 q3=>⟨a',s,R',μ',rfl,q1,q2,q3⟩)
theorem DW.seq{ds:List Deferred}{x y:Code}{Q:Exit->St->Prop}(h:DW P G ds x st λe s=>match e with
  | .normal=>DW P G ds y s Q
  |e=>Q e s):DW P G ds (.seq x y) st Q:=λbase R μ a w hr=>
 wp_seq (wp_mono (h base R μ a w hr) λe a1 w1 ⟨a0,s,R1,μ1,q0,q1,q2,q3⟩=>by
  cases e with
  |normal=>subst q0;exact wp_mono (q1 base R1 μ1 a0 w1 q2) λe2 a2 w2 ⟨a3,s2,R2,μ2,p0,p1,p2,p3⟩=>⟨a3,s2,R2,μ2,p0,p1,p2,q3.trans p3⟩
  |_=>exact⟨a0,s,R1,μ1,q0,q1,q2,q3⟩)
theorem DW.ret{ds:List Deferred}{Q:Exit->St->Prop}(h:Q .ret st):DW P G ds .ret st Q:=λbase R μ a w hr=>wp_ret ⟨a,st,R,μ,rfl,h,hr,.refl _ _ _⟩
attribute [simp] d0V
end
end Go.VM
end
namespace Go.Proofs.YtjpodcmhcenjjaaGreatDoor
section
open Go Go.VM
theorem d4W(p q:Addr)(w:World):
  CallsD prog 65 #[.pointer (some p),.pointer (some q)] .returning w λe u' w'=>e=.returned (.tuple #[])/\u'=.returning/\w'=w:=by
 refine callsD_of_wpS func65 rfl λc₀ cs hu=>?_;apply wpS_seq;apply wpS_region;simp[wpOpsS,go_sem,recoverD,hu,ntmps65,Exit.thenS];apply wpS_seq;apply wpS_region;simp[wpOpsS,go_sem,recoverD,hu,ntmps65,Exit.thenS];refine wpS_cond (t:=false) (by simp[Act.eval,Array.replicate]) ?_;simp only[Bool.false_eq_true,if_false];refine wpS_of_wp (wp_skip ?_);cases c₀
 simp_all [bodyPostS,results]
theorem e5u{P:Program}{T xT:TypeId}(hu:(P.underlying T).map (λtd=>match td with| .interface _=>false|_=>true)=some true)(v:Value)(w:World):(Instr.typeAssert (.iface T v) xT T true).run P w=.ok (.tuple #[v,.bool true]) w:=by obtain⟨td,h1,h2⟩:=f7G.1 hu;unfold Instr.typeAssert;rw[Sem.run_bind,run_underlying h1];simp only[Result.andThen_ok];cases td<;>first|(simp at h2;done)|(simp only[if_true,go_sem];done)|(simp[go_sem,Result.andThen];done)
variable {G:GT}
theorem c4P{P:Program}{id:Nat}{ops:Array Oper}{D:Code}{QQ:Exit->Act->World->Prop}{a:Act}{w:World}{base:cT}{R:Nat->Nat->Prop}(Qf:Exit->St->Prop)(hk:∀e s a' w' R' μ',Qf e s->Rel P G base R' μ' s a' w'->Step base R w R' w'->QQ e a' w')(h:∀QL:Exit->Act->World->Prop,(∀s a' w' R' μ',SW P G D s Qf->Rel P G base R' μ' s a' w'->Step base R w R' w'->QL .normal a' w')->wpList P ops QL ops.toList a w):(Code.seq (.region id ops false) D).wp P QQ a w:=
 wp_seq (wp_region_list (h _ λs a' w' R' μ' hD hr hs=>wp_mono (hD base R' μ' a' w' hr) λe a2 w2 ⟨s2,R2,μ2,q1,q2,q3⟩=>hk e s2 a2 w2 R2 μ2 q1 q2 (hs.trans q3)))
theorem LW.next{P:Program}{all:Array Oper}{l:List Oper}{st:St}{D:Code}{Qf:Exit->St->Prop}{base:cT}{R:Nat->Nat->Prop}{μ:Nat->Nat}{a:Act}{w:World}{QL:Exit->Act->World->Prop}(hQL:∀s a' w' R' μ',SW P G D s Qf->Rel P G base R' μ' s a' w'->Step base R w R' w'->QL .normal a' w')(hr:Rel P G base R μ st a w)(h:LW P G all l st λe s=>e=.normal/\SW P G D s Qf):wpList P all QL l a w:=by unfold LW at h;exact h base R μ a w hr QL λe s a' w' R' μ' hq eM hs=>by obtain⟨rfl,hq⟩:=hq;exact hQL s a' w' R' μ' hq eM hs
def e9f:OT:=(.op 0 (.op 1 (.op 2 (.op 3 (.op 4 (.op 5 .stop .none) .none) (.op 4 (.op 3 (.op 5 .stop .none) .none) .none)) (.op 4 (.op 2 (.op 3 (.op 5 .stop .none) .none) .none) .none)) (.op 2 (.op 1 (.op 3 (.op 4 (.op 5 .stop .none) .none) (.op 4 (.op 3 (.op 5 .stop .none) .none) .none)) (.op 3 (.op 1 (.op 4 (.op 5 .stop .none) .none) .none) .none)) .none)) (.op 2 (.op 0 (.op 1 (.op 3 (.op 4 (.op 5 .stop .none) .none) (.op 4 (.op 3 (.op 5 .stop .none) .none) .none)) (.op 3 (.op 1 (.op 4 (.op 5 .stop .none) .none) .none) .none)) (.op 3 (.op 0 (.op 1 (.op 4 (.op 5 .stop .none) .none) .none) .none) .none)) .none))
abbrev d4X(x y:Int):List (Nat×aW):=[(100000,.cells [.d (.int .i64 x)]),(100001,.cells [.d (.int .i64 y)])]
theorem e0c{base:cT}{R:Nat->Nat->Prop}{μ:Nat->Nat}{args:Array Value}{w:World}{x y:Int}(n e:Int)(hr:Rel prog G base R μ ⟨[.ptr 100000 0,.ptr 100001 0],d4X x y,[]⟩ {tmps:=args,defers:=[]} w):
  CallsD prog 65 args (.panicking (a0a (oX n e))) w λe' u' w'=>e'=.returned (.tuple #[])/\u'=.panicking [{v:=oX n e,recovered:=true}]/\∃R' μ' a',Rel prog G base R' μ' ⟨List.replicate 20 .undef,d4X n e,[]⟩ a' w'/\Step base R w R' w':=by
 have jG:args.size=2:=hr.size;obtain⟨v0,v1,rfl⟩:∃v0 v1,args=#[v0,v1]:=by
  obtain⟨l⟩:=args
  match l,jG with
  |[a,b],_=>exact⟨a,b,rfl⟩
 refine callsD_of_wpS func65 rfl λc₀ cs hu=>?_;apply wpS_seq;apply wpS_region;simp[wpOpsS,go_sem,recoverD,hu,ntmps65,Exit.thenS];apply wpS_seq;apply wpS_region;simp[wpOpsS,go_sem,recoverD,hu,ntmps65,Exit.thenS];refine wpS_cond (t:=true) (by simp[Act.eval,Array.replicate]) ?_;simp only[if_true];refine wpS_of_wp ?_;have hr1:Rel prog G base R μ ⟨.ptr 100000 0::.ptr 100001 0::List.replicate 18 .undef,d4X x y,[]⟩ {tmps:=#[v0,v1,oX n e,undef,undef,oX n e,oX n e,.bool true,undef,undef,undef,undef,undef,undef,undef,undef,undef,undef,undef,undef],defers:=[]} w:=by
  refine⟨rfl,rfl,λi v d hv hd=>?_,hr.gY,hr.inj,hr.dI,⟨[],rfl,λi c v h _=>by simp at h,.nil⟩,hr.tQ,hr.pH,hr.base,hr.pass⟩
  match i,hv,hd with
  |0,hv,hd=>exact hr.tmps 0 v d (by simpa using hv) (by simpa using hd)
  |1,hv,hd=>exact hr.tmps 1 v d (by simpa using hv) (by simpa using hd)
  |i+2,hv,hd=>
   simp only[List.getElem?_cons_succ,List.getElem?_replicate]at hd;split at hd
   .simp at hd;subst hd;exact .undef _
   .cases hd
 have hta:=λ(v:Value) (w:World)=>e5u (P:=prog) (T:=127) (xT:=20) (by kernel_rfl) v w
 show Code.wp prog _ _ {tmps:=#[v0,v1,oX n e,undef,undef,oX n e,oX n e,.bool true,undef,undef,undef,undef,undef,undef,undef,undef,undef,undef,undef,undef],defers:=[]} w
 generalize ha1:({tmps:=#[v0,v1,oX n e,undef,undef,oX n e,oX n e,.bool true,undef,undef,undef,undef,undef,undef,undef,undef,undef,undef,undef,undef],defers:=[]}:Act)=a1 at hr1|-;have h2:a1.eval (.tmp 2)=oX n e:=by rw[<-ha1];rfl
 have hz:a1.tmps.size=20:=by rw[<-ha1];rfl
 refine c4P (G:=G) (base:=base) (R:=R) (λe' s=>e'=.normal/\uN s ⟨List.replicate 20 .undef,d4X n e,[]⟩) (λe2 s2 a2 w2 R2 μ2 hq q2 q3=>?_) λQL hQL=>?_
 .obtain⟨he,hw⟩:=hq;subst he;exact⟨q2.defers,_,rfl,.tuple #[],by simp[results],rfl,rfl,R2,⟨μ2,a2,q2.a0H hw⟩,q3⟩
 have zC:=hr1.put (dst:=some 9) (v:=oX n e) (dv:=.undef) (act:=.no) (.undef _) trivial;refine qL (w':=w) (v:=oX n e) rfl (.inl (by show(pure (Next.value (a1.eval (.tmp 2))):Sem Next).run _ w=_;rw[h2];rfl)) rfl ?_;have h9:(a1.put (some 9) (oX n e)).eval (.tmp 9)=oX n e:=dR _ _ (by omega);have hr3:=zC.put (dst:=some 10) (v:=.tuple #[.agg #[.int .i64 n,.int .i64 e],.bool true]) (dv:=.bY [.agg [.int .i64 n,.int .i64 e],.bool true]) (act:=.no) (.bY _ _ rfl (λi d hd=>by
  match i,hd with
  |0,hd=>
   simp at hd;subst hd;refine .agg _ _ rfl (λi d hd=>?_) (λi d hd=>?_)
   .match i,hd with
    |0,hd=>simp at hd;subst hd;rfl
    |1,hd=>simp at hd;subst hd;rfl
   .match i,hd with
    |0,hd=>simp at hd;subst hd;exact .int _ _
    |1,hd=>simp at hd;subst hd;exact .int _ _
  |1,hd=>simp at hd;subst hd;exact .bool _)) trivial
 refine qL (w':=w) (v:=.tuple #[.agg #[.int .i64 n,.int .i64 e],.bool true]) rfl (.inl ?_) rfl ?_
 .show(Instr.typeAssert ((a1.put (some 9) (oX n e)).eval (.tmp 9)) _ _ true >>=λs=>pure (Next.value s):Sem Next).run _ w=_
  rw[h9,Sem.run_bind,hta]
  rfl
 refine LW.next hQL hr3 (LW.vk ?_);simp;refine SW.jZ (SW.xk ?_);simp;refine b9b e9f (by kernel_rfl) (by kernel_rfl) ?_;simp[e9f]
end
section
open Go Go.VM
variable {G:GT}
theorem kS:VM.Enters prog 32:=.mk func32 rfl
theorem Rel.frame{P:Program}{base:cT}{R:Nat->Nat->Prop}{μ:Nat->Nat}{args:Array Value}{w:World}{fn:Func}{n:Nat}{s0:St}(hn:fn.ntmps=n)(hT:(s0.own.all λc=>c.2.all λl=>match l with| .t i=>decide (i<s0.tmps.length)|_=>true)=true)(hr:Rel P G base R μ s0 {tmps:=args,defers:=[]} w):
  Rel P G base R μ ⟨s0.tmps++List.replicate (n-s0.tmps.length) (.bY []),s0.H,s0.own⟩ {tmps:=args++Array.replicate (fn.ntmps-args.size) undef,defers:=[]} w:=by
 have jG:args.size=s0.tmps.length:=hr.size;refine⟨rfl,by simp[jG,hn],λi v d hiv hid=>?_,hr.gY,hr.inj,hr.dI,?_,hr.tQ,hr.pH,hr.base,hr.pass⟩
 .simp only at hid;by_cases hi:i<s0.tmps.length
  .rw[f7S hi]at hid;rw[Array.getElem?_append_left (by omega)]at hiv;exact hr.tmps i v d hiv hid
  .rw[f7P (by omega),List.getElem?_replicate]at hid;split at hid<;>simp at hid;subst hid;rw[Array.getElem?_append_right (by omega),Array.getElem?_replicate]at hiv;split at hiv<;>simp at hiv;subst hiv;exact .bY #[] [] rfl (by simp)
 .obtain⟨vs,hl,h1,yV⟩:=hr.own;refine⟨vs,hl,λi c v hc hv=>?_,yV⟩;have ho:=h1 i c v hc hv;refine⟨λl hl u hu=>?_,ho.own,ho.keys⟩;cases l with
  |t j=>have hj:=f7K.1 (f7K.1 hT c (f7M hc)) _ hl;simp only[decide_eq_true_eq]at hj;simp only[cB]at hu;rw[Array.getElem?_append_left (by omega)]at hu;exact ho.dI _ hl u hu
  |c k off=>exact ho.dI _ hl u hu
theorem SW.wps{P:Program}{x y:Code}{st:St}{T:Exit->St->Prop}{QQ:Exit->Act->World->Prop}{base:cT}{R:Nat->Nat->Prop}{μ:Nat->Nat}{a:Act}{w:World}(h:SW P G x st T)(hr:Rel P G base R μ st a w)(hn:∀s R' μ' a' w',T .normal s->Rel P G base R' μ' s a' w'->Step base R w R' w'->y.wp P QQ a' w')(hq:∀e s R' μ' a' w',e≠ .normal->T e s->Rel P G base R' μ' s a' w'->Step base R w R' w'->QQ e a' w'):(Code.seq x y).wp P QQ a w:=
 wp_seq (wp_mono (h base R μ a w hr) λe a' w' ⟨s,R',μ',q1,q2,q3⟩=>by
  cases e with
  |normal=>exact hn s R' μ' a' w' q1 q2 q3
  |_=>exact hq _ s R' μ' a' w' (by simp) q1 q2 q3)
theorem SW.e0d{P:Program}{r0 r1 rc rest:Code}{st:St}{T:Exit->St->Prop}{QQ:Exit->Act->World->Prop}{base:cT}{R:Nat->Nat->Prop}{μ:Nat->Nat}{a:Act}{w:World}(h:SW P G r0 st λe s=>e=.normal/\SW P G r1 s λe s=>e=.normal/\SW P G rc s T)(hr:Rel P G base R μ st a w)(hn:∀s R' μ' a' w',T .normal s->Rel P G base R' μ' s a' w'->Step base R w R' w'->rest.wp P QQ a' w')(hq:∀e s R' μ' a' w',e≠ .normal->T e s->Rel P G base R' μ' s a' w'->Step base R w R' w'->QQ e a' w'):(Code.seq r0 (.seq r1 (.seq rc rest))).wp P QQ a w:=
 SW.wps h hr (λs R1 μ1 a1 w1 q1 q2 q3=>SW.wps q1.2 q2 (λs R2 μ2 a2 w2 p1 p2 p3=>SW.wps p1.2 p2 (λs R3 μ3 a3 w3 k1 k2 k3=>hn s R3 μ3 a3 w3 k1 k2 ((q3.trans p3).trans k3)) λe s R3 μ3 a3 w3 k0 k1 k2 k3=>hq e s R3 μ3 a3 w3 k0 k1 k2 ((q3.trans p3).trans k3)) λe s R2 μ2 a2 w2 p0 p1 p2 p3=>(p0 p1.1).elim) λe s R1 μ1 a1 w1 q0 q1 q2 q3=>(q0 q1.1).elim
theorem TV.c8K{R:Nat->Nat->Prop}{μ μ':Nat->Nat}{w:World}{v:Value}{ds:List D}(h:TV R μ w v (.bY ds)):TV R μ' w v (.bY ds):=by
 cases h with
 |bY vs ds h1 h2=>exact .bY _ _ h1 h2
theorem b6i(cs:List DV)(F:FuncId)(s:List UInt8)(n e:Int)(he:e≠0)(hlx:CS prog G 64 [.str s] (.bY [.aF,.int .i64 n,.int .i64 e]) none):
  CHd prog G 32 ⟨[.d (.str s),.clo F [.ptr 100001 0]],[(100001,.cells cs)],[]⟩ (.bY [.int .i64 n,.int .i64 e]):=by
 intro base R μ args w hr;refine calls_of_wp_defers func32 rfl ?_;have hr0:=Rel.frame ntmps32 rfl hr;refine SW.e0d (T:=λe' s'=>e'=.ret/\a1H prog s' [.cell 4 3,.cell 5 31]=some (.bY [.int .i64 n,.int .i64 e])) ?h hr0 (λs' R' μ' a' w' q1 q2 q3=>by cases q1.1) (λe' s' R' μ' a' w' q0 q1 q2 q3=>?_)
 case h=>refine SW.xk ?_;simp;refine SW.xk ?_;simp;refine mQ.mk wB hlx ?_;simp;refine SW.xk ?_;simp[he]
 .obtain⟨rfl,hZ⟩:=q1;obtain⟨v,hv1,hv2⟩:=a0M (fn:=f32) q2 hZ
  show Leaves _ _ _ _ a'.defers _ _
  rw[q2.defers];exact⟨v,hv1,v,R',rfl,λμ'=>TV.c8K hv2,q3,q2.pH⟩
abbrev b6j(s:List UInt8)(F:FuncId)(l:List Tok)(H:List (Nat×aW)):St:=⟨[.d (.str s),.clo F [.ptr 100001 0],.undef,.undef,.ptr 4 0,.ptr 5 0,.d (.sl (l.map bG))]++List.replicate 21 .undef,(4,.cells [.d (.int .i64 0)])::(5,.cells [.d (.int .i64 0)])::H,[]⟩
abbrev d0W(p q:Value):Deferred:={target:=.fn (.func 65) #[p,q],args:=#[]}
theorem a8C{base:cT}{R:Nat->Nat->Prop}{μ:Nat->Nat}{s:List UInt8}{F:FuncId}{l:List Tok}{H:List (Nat×aW)}{a:Act}{w:World}{QQ:Exit->Act->World->Prop}{id:Nat}{all:Array Oper}{y0 y1:TypeId}{p0 p1:String}{f0 f1:Array Edge}{rest:Code}(dB:all=#[⟨some 19,.makeFunc (.func 65) #[] #[.tmp 4,.tmp 5],y0,p0,f0,none⟩,⟨none,.defer {callee:=.value (.tmp 19),args:=#[],argTypes:=#[]},y1,p1,f1,none⟩])(hr:Rel prog G base R μ (b6j s F l H) a w)(h:∀a1,Rel prog G base R μ (b6j s F l H) a1 w->rest.wp prog QQ {a1 with defers:=[d0W (.pointer (some ⟨μ 4,0,none⟩)) (.pointer (some ⟨μ 5,0,none⟩))]} w):(Code.seq (.region id all false) rest).wp prog QQ a w:=by
 subst dB;have h4:a.eval (.tmp 4)=.pointer (some ⟨μ 4,0,none⟩):=hr.eC rfl;have h5:a.eval (.tmp 5)=.pointer (some ⟨μ 5,0,none⟩):=hr.eC rfl;have hz:a.tmps.size=28:=hr.size;refine wp_seq (wp_region_list ?_);generalize hfv:(Value.func (.func 65) #[] #[.pointer (some ⟨μ 4,0,none⟩),.pointer (some ⟨μ 5,0,none⟩)])=fv;have zC:=hr.put (dst:=some 19) (v:=fv) (dv:=.undef) (act:=.no) (.undef _) trivial;refine qL (w':=w) (v:=fv) rfl (.inl ?_) rfl ?_
 .rw[<-hfv, <- h4, <- h5]
  show(Instr.makeFunc (.func 65) (#[].map a.eval) (#[.tmp 4,.tmp 5].map a.eval) >>=λx=>pure (Next.value x):Sem Next).run _ w=_
  simp[Instr.makeFunc,go_sem]
 have h19:(a.put (some 19) fv).eval (.tmp 19)=fv:=dR _ _ (by omega);have hw:∀(o:Oper) y,o.guard=none->Region.wanted o y=true:=λo y hg=>by unfold Region.wanted;rw[hg]
 unfold wpList;rw[if_pos (hw _ _ rfl)];left;unfold Oper.wp;have e2:(execOp (a.put (some 19) fv).eval ⟨none,.defer {callee:=.value (.tmp 19),args:=#[],argTypes:=#[]},y1,p1,f1,none⟩).run prog w=.ok (.defer (d0W (.pointer (some ⟨μ 4,0,none⟩)) (.pointer (some ⟨μ 5,0,none⟩)))) w:=by
  show((Deferred.ofValue ((a.put (some 19) fv).eval (.tmp 19)) (#[].map (a.put (some 19) fv).eval) >>=λd=>pure (Next.defer d)):Sem Next).run _ w=_
  rw[h19, <- hfv,Sem.run_bind];simp[Deferred.ofValue,go_sem]
 rw[e2];have hd:(a.put (some 19) fv).defers=[]:=zC.defers;rw[Oper.upon_defer];unfold wpList;have yO:finish (b6j s F l H) (some 19) .undef .no=b6j s F l H:=by simp[finish,kV,cG,gV,List.replicate]
 rw[yO]at zC;have:=h (a.put (some 19) fv) zC;rw[<-hd]at this;exact this
end
section
open Go Go.VM
variable {G:GT}
theorem DW.go{P:Program}{ds:List Deferred}{c:Code}{st:St}{Q:Exit->St->Prop}(h:DW P G ds c st Q){base:cT}{R:Nat->Nat->Prop}{μ:Nat->Nat}{a:Act}{w:World}(hr:Rel P G base R μ st a w):c.wp P (λe a' w'=>∃a0 s R' μ',a'={a0 with defers:=ds}/\Q e s/\Rel P G base R' μ' s a0 w'/\Step base R w R' w') {a with defers:=ds} w:=h base R μ a w hr
@[simp] theorem d6Q(k:Nat)(ds:List D):ds.map (kV k∘DV.d)=ds.map DV.d:=rfl
@[simp] theorem d6R(k k':Nat)(ds:List D):ds.map ((kV k∘kV k')∘DV.d)=ds.map DV.d:=rfl
@[simp] theorem d4Y:∀ds:List D,WkT (ds.map DV.d) (ds.map DV.d)
 |[]=>by simp
 |d::r=>by have:=d4Y r;simp[this]
@[simp] theorem d0X(K:List (Nat×Nat)):∀ds:List D,aM K (ds.map DV.d)=true
 |[]=>by simp[aM]
 |d::r=>by have:=d0X K r;simp[aM,aT,this]
@[simp] theorem d0Y:∀ds:List D,d3w (ds.map DV.d) (ds.map DV.d)
 |[]=>by simp
 |d::r=>by have:=d0Y r;simp[this]
theorem a2R:VM.Enters prog 65:=.mk func65 rfl
theorem a0j{P:Program}{f:FuncId}(he:VM.Enters P f)(args cap:Array Value)(w:World):(invoke (.fn (.func f) cap) args).run P w=.ok (.enter f (args++cap)) w:=by
 obtain⟨fn,hf1,hf2,hf3⟩:=he;have b9z: ¬fn.body=none:=λhe=>by simp[he]at hf2
 have b9A: ¬fn.name= "runtime.NumGoroutine" :=by simpa using hf3
 simp[invoke,callFunc,hf1,b9z,b9A]
theorem e0e{α:Type}{aI:List Tok->Nat->Nat->kN Pr}{l:List Tok}(hV:oS G aI l)(C:α->List D)(a0 a:α)(j:Nat){F:FuncId}(he:VM.Enters prog F){s:List UInt8}(hlx:CS prog G 64 [.str s] (.bY [.sl (l.map bG),.int .i64 0,.int .i64 0]) none)(hc:mX G F [.ptr 100000 0,.ptr 100001 0] [(100001,.cells ((C a0).map .d))] [] l 0 (.ok a j) (λ_=>.bY []) (λa=>[(100001,.cells ((C a).map .d))]))(hj:j<l.length)(a1p:a2G l j=.ok () j):
  CH prog G 32 ⟨[.d (.str s),.clo F [.ptr 100001 0]],[(100001,.cells ((C a0).map .d))],[]⟩ ⟨[.bY [.int .i64 0,.int .i64 0]],[(100001,.cells ((C a).map .d))],[]⟩:=by
 intro base R μ args w hr;refine calls_of_wp_defers func32 rfl ?_;have hr0:=Rel.frame ntmps32 rfl hr;refine SW.e0d (T:=λe' s'=>e'=.normal/\uN s' (b6j s F l [(100001,.cells ((C a0).map .d))])) ?h hr0 (λs' R' μ' a' w' q1 q2 q3=>?_) (λe' s' R' μ' a' w' q0 q1 q2 q3=>(q0 q1.1).elim)
 case h=>refine SW.xk ?_;simp;refine SW.xk ?_;simp;refine mQ.mk wB hlx ?_;simp;refine SW.xk ?_;simp[List.replicate]
 .refine a8C rfl (q2.a0H q1.2) λa1 hr1=>?_;refine wp_mono (DW.go (Q:=λe s=>e=.ret/\a3z prog s [.cell 4 3,.cell 5 31] (.bY [.int .i64 0,.int .i64 0]) [(100001,.cells ((C a).map .d))] []) ?hD hr1) λe a2 w2 ⟨a3,s3,R3,μ3,h0,⟨h1,h2⟩,h3,h4⟩=>?_
  case hD=>
   refine DW.seq (DW.region ?_);simp[List.replicate];refine DW.seq (DW.region ?_);simp;refine b0h.mk (a0b he hc [(100000,22),(100001,100001)] (λa j hx=>?_) ?_ ?_ ?_ rfl rfl (λa2 j2 hx=>?_) (λn e hx=>by cases hx))
   .simp[aJ,aT,aN,aM,bC,getKey,dY]
   .simp[aJ,aT,aN,aM,bC,getKey,dY]
   .simp[aQ,bA,rk]
   .simp[aQ,bA,rk,cH,cP,jC]
   .cases hx;simp[bD,aQ,bA,rk,cH,cP,bM,jA,eZ,dJ,jC];refine DW.seq (DW.region ?_);simp;refine b0h.mk (a0b (X:=[]) (own:=[]) (r:=a2G l j) (enc:=λ_=>.bY []) (Y:=λ_=>[]) (av0:=[.ptr 100000 0]) b6b (b9c hV j hj) [(100000,22)] (λa j hx=>?_) ?_ ?_ ?_ rfl rfl (λu j2 hx=>?_) (λn e hx=>by rw[a1p]at hx;cases hx))
    .simp[aJ,aT,aN,aM,bC,getKey,dY]
    .simp[aJ,aT,aN,aM,bC,getKey,dY]
    .simp[aQ,bA,rk]
    .simp[aQ,bA,rk,cH,cP,jC]
    .simp[bD,aQ,bA,rk,cH,cP,bM,jA,eZ,dJ,jC];refine DW.seq (DW.region ?_);simp;exact DW.ret ⟨rfl,by simp⟩
  .subst h0 h1;have p4:=hr1.eC (x:=.tmp 4) rfl
   show Leaves _ _ _ _ [d0W _ _] .returning w2
   refine leaves_cons (f:=65) (args:=#[.pointer (some ⟨μ' 4,0,none⟩),.pointer (some ⟨μ' 5,0,none⟩)]) (by simp) (a0j a2R #[] #[.pointer (some ⟨μ' 4,0,none⟩),.pointer (some ⟨μ' 5,0,none⟩)] w2) ?_;refine(d4W _ _ w2).mono ?_;rintro e' u' w'' ⟨rfl,rfl,rfl⟩;unfold a3z at h2;split at h2
   .rename_i r hZ;obtain⟨v,hv1,hv2⟩:=a0M (fn:=f32) h3 hZ;exact⟨v,hv1,v,R3,μ3,rfl,((h3.ret hv1 hv2).e1M h2.1).e4J h2.2,q3.trans h4⟩
   .exact h2.elim
end
end Go.Proofs.YtjpodcmhcenjjaaGreatDoor
