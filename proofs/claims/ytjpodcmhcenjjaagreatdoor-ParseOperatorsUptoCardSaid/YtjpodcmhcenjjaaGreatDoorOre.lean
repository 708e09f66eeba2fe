/- Lemmas that the law of this claim needs (PsX PsY ZR ZS ZT ZW PrO PsZ PtA PrP PtB VmRP VmRQ PtC PtD PtE PtF VmRF PtG PtH PrM PrN PtI PrQ PtJ VmRH PvA PvD PvE PqA PqB PuA PuD PuE). No condition. -/
import Derived.Test.YtjpodcmhcenjjaaGreatDoorOrd
import Derived.Defers
import Derived.Recover
import Derived.Tactics2
import Derived.Laws.Pointers
import Derived.OrdersHeld
set_option linter.unusedVariables false
set_option linter.unusedSimpArgs false
set_option linter.unusedSectionVars false
set_option maxRecDepth 100000
set_option maxHeartbeats 64000000
namespace Go.Proofs.YtjpodcmhcenjjaaGreatDoor
section
open Go Go.VM
variable {G:GT}
theorem a4H:VM.Enters Tryz.prog 42:=VM.Enters.mk Tryz.func42 rfl
section
variable {rdP:List Tok→Nat→Nat→mH Pr} {l:List Tok} (hV:mO G rdP l) (hN:∀i, -9223372036854775807≤(aK l i).n∧(aK l i).n≤9223372036854775807)
include hV hN
def vI (m:kS):List (Nat×aZ):=[(100001,.cells [.d (.sl (m.a9D.map a9I)),.d (.sl (m.a5q.map b6O)),.d (.sl (m.insts.map c0T)),.d (.sl (m.a9E.map b6P)),.d (.sl (m.b6L.map c0U)),.d (.sl (m.defs.map b4g))])]
abbrev d4Q:List (TypeId×List VM.Loc):=[(78,[.c 100001 0]),(111,[.c 100001 1]),(114,[.c 100001 2]),(82,[.c 100001 3]),(118,[.c 100001 4]),(70,[.c 100001 5])]
abbrev d6K (d:a9z):List D:=[.str d.name,.sl (strs d.vars),.sl (d.a5o.map mF),.sl (d.cons.map b2J)]
abbrev d6L (d:a5p):List D:=[.str d.name,.str d.var,.sl (d.methods.map a2g)]
omit hN in
theorem a8m (i:Nat)(hi:i<l.length):pS G 79 [] l i (a0K bA bF rdP l i) (fun d=> .d (.agg (d6K d))):=b0F hV i hi
omit hN in
theorem b4Y (i:Nat)(hi:i<l.length):pS G 80 [] l i (wG bA bF rdP l i) (fun d=> .d (.agg (d6L d))):=b7D hV i hi
structure c5Y (m:kS) (i:Nat):Prop where
 a:m.a9D.length≤i
 b:m.a5q.length≤i
 c:m.insts.length≤i
 d:m.a9E.length≤i
 e:m.b6L.length≤i
 f:m.defs.length≤i
theorem b9W (m:kS)(i:Nat)(hi:i<l.length)(hm:c5Y m i):kM G 42 [.ptr 100000 0,.ptr 100001 0] (vI m) d4Q l i (tY bA bF rdP l m i) (fun _=> .cT []) vI:=by
 have hl:=hV.len;obtain ⟨j0,rfl⟩:∃j0,j0=i:=⟨_,rfl⟩;have p0:j0≤j0∧j0<l.length:=⟨d8T _,hi⟩;obtain ⟨m1,m2,m3,m4,m5,m6⟩:=hm;obtain ⟨da,cl,ins,me,qu,de⟩:=m;simp only at m1 m2 m3 m4 m5 m6;have eq1:∀d:a9z,a9I d=[.str d.name,.sl (strs d.vars),.sl (d.a5o.map mF),.sl (d.cons.map b2J)]:=fun d=>rfl
 have eq2:∀d:a5p,b6O d=[.str d.name,.str d.var,.sl (d.methods.map a2g)]:=fun d=>rfl
 have eq3:=c5T;have eq4:=c5V;have eq5:=c5W;have eq6:=a5P;refine kM.dB Tryz.func42 rfl Tryz.ntmps42 rfl (by simp) ?_
 intro Q Q0;unfold tY at Q0;simp [vI];cases s1:aJ l j0 [100,97,116,97] with
 |true=>
  have Q1:=Q0.ifp s1;refine bI (ds:=[.str [100,97,116,97]]) (d:= .d (.bool true)) aE (aV l j0 [100,97,116,97] p0.2 (by omega) s1) (by simp) (by simp) ?_
  have p1:j0+1≤j0+1∧j0+1<l.length:=⟨d8T _,aF hV.fin p0.2 s1⟩;obtain ⟨j1,hj1⟩:∃j,j0+1=j:=⟨_,rfl⟩;rw [hj1] at Q1 p1 ⊢;simp;refine kG [0,1,2,3,5] 6 [] (.op 4 (.call [7,8,9,10,11] .none) (.call [4,7,8,9,10,11] .none)) (gS (a0K bA bF rdP l j1)) (by kernel_rfl) (by kernel_rfl) ?_
  simp;refine ⟨?_,?_⟩
  all_goals
   refine tJ a8i ((a8m hV j1 p1.2)) (by simp) (by simp) (fun x j2 x2=>?_) (fun n e hx=>by first|exact Q1.fail hx _|(simp;exact Q1.fail hx _)|(simp;exact fun s=>Q1.fail hx s));have Q2:=Q1.step x2;have p2:=(aA.data hV.fin hV.pU.pred) j1 x j2 p1.2 x2;refine dG.mk ?_
   simp;refine eU (by first|omega|exact ⟨fun x _=>by rw [eq1];rfl,by omega⟩|exact ⟨fun x _=>rfl,by omega⟩) ?_
   simp;exact Q2.ok _ j2 .normal _ rfl (.inl rfl) (by simp [vI,eq1])
 |false=>
 have Q0:=Q0.yD (by rw [s1];decide);refine bI (ds:=[.str [100,97,116,97]]) (d:= .d (.bool false)) aE (aW l j0 [100,97,116,97] p0.2 (by omega) s1) (by simp) (by simp) ?_
 simp;cases s2:aJ l j0 [99,108,97,115,115] with
 |true=>
  have Q1:=Q0.ifp s2;refine bI (ds:=[.str [99,108,97,115,115]]) (d:= .d (.bool true)) aE (aV l j0 [99,108,97,115,115] p0.2 (by omega) s2) (by simp) (by simp) ?_
  have p1:j0+1≤j0+1∧j0+1<l.length:=⟨d8T _,aF hV.fin p0.2 s2⟩;obtain ⟨j1,hj1⟩:∃j,j0+1=j:=⟨_,rfl⟩;rw [hj1] at Q1 p1 ⊢;simp;refine kG [0,1,2,3,5] 6 [] (.op 4 (.call [7,8,9,10,11] .none) (.call [4,7,8,9,10,11] .none)) (gS (wG bA bF rdP l j1)) (by kernel_rfl) (by kernel_rfl) ?_
  simp;refine ⟨?_,?_⟩
  all_goals
   refine tJ b4X ((b4Y hV j1 p1.2)) (by simp) (by simp) (fun x j2 x2=>?_) (fun n e hx=>by first|exact Q1.fail hx _|(simp;exact Q1.fail hx _)|(simp;exact fun s=>Q1.fail hx s));have Q2:=Q1.step x2;have p2:=(aA.cls hV.fin hV.pU.pred) j1 x j2 p1.2 x2;refine dG.mk ?_
   simp;refine eU (by first|omega|exact ⟨fun x _=>by rw [eq2];rfl,by omega⟩|exact ⟨fun x _=>rfl,by omega⟩) ?_
   simp;exact Q2.ok _ j2 .normal _ rfl (.inl rfl) (by simp [vI,eq2])
 |false=>
 have Q0:=Q0.yD (by rw [s2];decide);refine bI (ds:=[.str [99,108,97,115,115]]) (d:= .d (.bool false)) aE (aW l j0 [99,108,97,115,115] p0.2 (by omega) s2) (by simp) (by simp) ?_
 simp;cases s3:aJ l j0 [105,110,115,116] with
 |true=>
  have Q1:=Q0.ifp s3;refine bI (ds:=[.str [105,110,115,116]]) (d:= .d (.bool true)) aE (aV l j0 [105,110,115,116] p0.2 (by omega) s3) (by simp) (by simp) ?_
  have p1:j0+1≤j0+1∧j0+1<l.length:=⟨d8T _,aF hV.fin p0.2 s3⟩;obtain ⟨j1,hj1⟩:∃j,j0+1=j:=⟨_,rfl⟩;rw [hj1] at Q1 p1 ⊢;simp;refine kG [0,1,2,3,5] 6 [] (.op 4 (.call [7,8,9,10,11] .none) (.call [4,7,8,9,10,11] .none)) (gS (a2c bA bF rdP l j1)) (by kernel_rfl) (by kernel_rfl) ?_
  simp;refine ⟨?_,?_⟩
  all_goals
   refine tJ a8l ((b0J hV hN j1 p1.2)) (by simp) (by simp) (fun x j2 x2=>?_) (fun n e hx=>by first|exact Q1.fail hx _|(simp;exact Q1.fail hx _)|(simp;exact fun s=>Q1.fail hx s));have Q2:=Q1.step x2;have p2:=(aA.inst hV.fin hV.pU) j1 x j2 p1.2 x2;refine dG.mk ?_
   simp;refine eU (by first|omega|exact ⟨fun x _=>by rw [eq3];rfl,by omega⟩|exact ⟨fun x _=>rfl,by omega⟩) ?_
   simp;exact Q2.ok _ j2 .normal _ rfl (.inl rfl) (by simp [vI,eq3])
 |false=>
 have Q0:=Q0.yD (by rw [s3];decide);refine bI (ds:=[.str [105,110,115,116]]) (d:= .d (.bool false)) aE (aW l j0 [105,110,115,116] p0.2 (by omega) s3) (by simp) (by simp) ?_
 simp;cases s4:aJ l j0 [109,101,97,115,117,114,101] with
 |true=>
  have Q1:=Q0.ifp s4;refine bI (ds:=[.str [109,101,97,115,117,114,101]]) (d:= .d (.bool true)) aE (aV l j0 [109,101,97,115,117,114,101] p0.2 (by omega) s4) (by simp) (by simp) ?_
  have p1:j0+1≤j0+1∧j0+1<l.length:=⟨d8T _,aF hV.fin p0.2 s4⟩;obtain ⟨j1,hj1⟩:∃j,j0+1=j:=⟨_,rfl⟩;rw [hj1] at Q1 p1 ⊢;simp;refine kG [0,1,2,3,5] 6 [] (.op 4 (.call [7,8,9,10,11] .none) (.call [4,7,8,9,10,11] .none)) (gS (a2d bA rdP l j1)) (by kernel_rfl) (by kernel_rfl) ?_
  simp;refine ⟨?_,?_⟩
  all_goals
   refine tJ b0K ((b2a hV j1 p1.2)) (by simp) (by simp) (fun x j2 x2=>?_) (fun n e hx=>by first|exact Q1.fail hx _|(simp;exact Q1.fail hx _)|(simp;exact fun s=>Q1.fail hx s));have Q2:=Q1.step x2;have p2:=(aA.c4Z hV.fin hV.pU.pred) j1 x j2 p1.2 x2;refine dG.mk ?_
   simp;refine eU (by first|omega|exact ⟨fun x _=>by rw [eq4];rfl,by omega⟩|exact ⟨fun x _=>rfl,by omega⟩) ?_
   simp;exact Q2.ok _ j2 .normal _ rfl (.inl rfl) (by simp [vI,eq4])
 |false=>
 have Q0:=Q0.yD (by rw [s4];decide);refine bI (ds:=[.str [109,101,97,115,117,114,101]]) (d:= .d (.bool false)) aE (aW l j0 [109,101,97,115,117,114,101] p0.2 (by omega) s4) (by simp) (by simp) ?_
 simp;cases s5:aJ l j0 [113,117,97,108] with
 |true=>
  have Q1:=Q0.ifp s5;refine bI (ds:=[.str [113,117,97,108]]) (d:= .d (.bool true)) aE (aV l j0 [113,117,97,108] p0.2 (by omega) s5) (by simp) (by simp) ?_
  have p1:j0+1≤j0+1∧j0+1<l.length:=⟨d8T _,aF hV.fin p0.2 s5⟩;obtain ⟨j1,hj1⟩:∃j,j0+1=j:=⟨_,rfl⟩;rw [hj1] at Q1 p1 ⊢;simp;refine kG [0,1,2,3,5] 6 [] (.op 4 (.call [7,8,9,10,11] .none) (.call [4,7,8,9,10,11] .none)) (gS (a2e bA rdP l j1)) (by kernel_rfl) (by kernel_rfl) ?_
  simp;refine ⟨?_,?_⟩
  all_goals
   refine tJ b7E ((b9V hV j1 p1.2)) (by simp) (by simp) (fun x j2 x2=>?_) (fun n e hx=>by first|exact Q1.fail hx _|(simp;exact Q1.fail hx _)|(simp;exact fun s=>Q1.fail hx s));have Q2:=Q1.step x2;have p2:=(aA.c5a hV.fin hV.pU.pred) j1 x j2 p1.2 x2;refine dG.mk ?_
   simp;refine eU (by first|omega|exact ⟨fun x _=>by rw [eq5];rfl,by omega⟩|exact ⟨fun x _=>rfl,by omega⟩) ?_
   simp;exact Q2.ok _ j2 .normal _ rfl (.inl rfl) (by simp [vI,eq5])
 |false=>
 have Q0:=Q0.yD (by rw [s5];decide);refine bI (ds:=[.str [113,117,97,108]]) (d:= .d (.bool false)) aE (aW l j0 [113,117,97,108] p0.2 (by omega) s5) (by simp) (by simp) ?_
 simp;refine cJ a0X ((a3i hV hN j0 p0.2)) (by simp) (by simp) (fun d j1 x1=>?_) (fun n e hx=>by first|exact Q0.fail hx _|(simp;exact Q0.fail hx _)|(simp;exact fun s=>Q0.fail hx s));have Q1:=Q0.step x1;have p1:=a3j hV j0 d j1 p0.2 x1;cases d with
 |none=>
  simp;refine cJ (ds:=[]) sK (uB (α:=kS) l j1 p1.2 (by omega) fun _=> .cT []) (by simp) (by simp) (fun a j hx=>by unfold cH at hx;cases hx) (fun n e hx=>?_)
  first|exact Q1.bad n e _ hx|(simp;exact Q1.bad n e _ hx)
 |some d=>
  simp;refine SW.vk ?_
  simp;refine ⟨mK.mk (by kernel_rfl),?_⟩;refine eU (by first|omega|exact ⟨fun x _=>by rw [eq6];rfl,by omega⟩) ?_
  simp;exact Q1.ok _ j1 .normal _ rfl (.inl rfl) (by simp [vI,eq6,a8j,b4S])
end
end
section
open Go Go.VM
variable {G:GT}
theorem a6J:VM.Enters Tryz.prog 33:=VM.Enters.mk Tryz.func33 rfl
theorem a6K:VM.Enters Tryz.prog 38:=VM.Enters.mk Tryz.func38 rfl
theorem a4I:VM.Enters Tryz.prog 40:=VM.Enters.mk Tryz.func40 rfl
theorem a8n:VM.Enters Tryz.prog 57:=VM.Enters.mk Tryz.func57 rfl
section
variable {rdP:List Tok→Nat→Nat→mH Pr} {l:List Tok} (hV:mO G rdP l) (hN:∀i, -9223372036854775807≤(aK l i).n∧(aK l i).n≤9223372036854775807)
include hV
def exX (e:bW):List (Nat×aZ):=[(100001,.cells ((tK e).map .d))]
def tyX (t:Ty):List (Nat×aZ):=[(100001,.cells ((tyD t).map .d))]
def deX (d:kR):List (Nat×aZ):=[(100001,.cells ((a8j d).map .d))]
theorem b7F (t0:Ty)(i:Nat)(hi:i<l.length):kM G 38 [.ptr 100000 0,.ptr 100001 0] (tyX t0) [] l i (cB bA bF rdP l i) (fun _=> .cT []) tyX:=by
 have hl:=hV.len;refine kM.dB Tryz.func38 rfl Tryz.ntmps38 rfl (by simp) ?_
 intro Q Q0;simp [tyX];refine cJ (ds:=[]) cU (kW hV i hi) (by simp) (by simp) (fun t j h=>?_) (fun n e h=>Q0.bad n e _ h);simp;exact Q0.ok t j _ _ h (.inl rfl) (by simp [tyX])
include hN
theorem b7G (e0:bW)(i:Nat)(hi:i<l.length):kM G 33 [.ptr 100000 0,.ptr 100001 0] (exX e0) [] l i (a2b bA bF rdP l i) (fun _=> .cT []) exX:=by
 have hl:=hV.len;refine kM.dB Tryz.func33 rfl Tryz.ntmps33 rfl (by simp) ?_
 intro Q Q0;simp [exX];refine cJ (ds:=[]) cC (zC hV hN i hi) (by simp) (by simp) (fun t j h=>?_) (fun n e h=>Q0.bad n e _ h);simp;exact Q0.ok t j _ _ h (.inl rfl) (by simp [exX])
abbrev zQ (rdP:List Tok→Nat→Nat→mH Pr)(l:List Tok):aR kR:=do
 let d ← xP bA bF rdP l
 match d with
 |none=>cH l
 |some d=>do
  let _ ← cM l [59]
  pure d
theorem b9X (d0:kR)(i:Nat)(hi:i<l.length):kM G 57 [.ptr 100000 0,.ptr 100001 0] (deX d0) [] l i (zQ rdP l i) (fun _=> .cT []) deX:=by
 have hl:=hV.len;obtain ⟨j0,rfl⟩:∃j0,j0=i:=⟨_,rfl⟩;have p0:j0≤j0∧j0<l.length:=⟨d8T _,hi⟩;refine kM.dB Tryz.func57 rfl Tryz.ntmps57 rfl (by simp) ?_
 intro Q Q0;simp [deX];refine cJ a0X ((a3i hV hN j0 p0.2)) (by simp) (by simp) (fun d j1 x1=>?_) (fun n e hx=>by first|exact Q0.fail hx _|(simp;exact Q0.fail hx _)|(simp;exact fun s=>Q0.fail hx s));have Q1:=Q0.step x1;have p1:=a3j hV j0 d j1 p0.2 x1;cases d with
 |none=>
  simp;refine cJ (ds:=[]) sK (uB (α:=kR) l j1 p1.2 (by omega) fun _=> .cT []) (by simp) (by simp) (fun a j hx=>by unfold cH at hx;cases hx) (fun n e hx=>?_)
  first|exact Q1.bad n e _ hx|(simp;exact Q1.bad n e _ hx)
 |some d=>
  simp;cases hs:aJ l j1 [59] with
  |true=>
   have Q2:=Q1.step (jC hs);refine bI (ds:=[.str [59]]) (d:= .d (.bool true)) aE (aV l j1 [59] p1.2 (by omega) hs) (by simp) (by simp) ?_
   have p2:j1+1≤j1+1∧j1+1<l.length:=⟨d8T _,aF hV.fin p1.2 hs⟩;simp;exact Q2.ok _ (j1+1) _ _ rfl (.inl rfl) (by simp [deX,a8j,b4S])
  |false=>
   have Q2:=Q1.step (jD hs);refine bI (ds:=[.str [59]]) (d:= .d (.bool false)) aE (aW l j1 [59] p1.2 (by omega) hs) (by simp) (by simp) ?_
   simp;exact Q2.ok _ j1 _ _ rfl (.inl rfl) (by simp [deX,a8j,b4S])
abbrev moM (rdP:List Tok→Nat→Nat→mH Pr)(l:List Tok)(m:kS):aR kS:=do
 let m ← tY bA bF rdP l m
 aL l [[59]]
 pure m
omit hN in
theorem b0O (m:kS):aA l 1 (tY bA bF rdP l m):=aA.decl hV.fin hV.pU m
omit hN in
theorem b7H (m:kS)(i:Nat)(m2:kS)(j:Nat)(hi:i<l.length)(hm:c5Y m i)(h:tY bA bF rdP l m i= .ok m2 j):c5Y m2 j:=by
 have ha:=b0O hV m i m2 j hi h;obtain ⟨m1,m2,m3,m4,m5,m6⟩:=hm;unfold tY at h;split at h
 ·obtain ⟨x,k,_,h⟩:=bZ h;cases h;constructor<;>simp<;>omega
 split at h
 ·obtain ⟨x,k,_,h⟩:=bZ h;cases h;constructor<;>simp<;>omega
 split at h
 ·obtain ⟨x,k,_,h⟩:=bZ h;cases h;constructor<;>simp<;>omega
 split at h
 ·obtain ⟨x,k,_,h⟩:=bZ h;cases h;constructor<;>simp<;>omega
 split at h
 ·obtain ⟨x,k,_,h⟩:=bZ h;cases h;constructor<;>simp<;>omega
 ·obtain ⟨x,k,_,h⟩:=bZ h;cases x with
  |none=>unfold cH at h;cases h
  |some d=>cases h;constructor<;>simp<;>omega
theorem b2b (i:Nat)(hi:i<l.length):kM G 40 [.ptr 100000 0,.ptr 100001 0] (vI ⟨[],[],[],[],[],[]⟩) d4Q l i (a9G bA bF rdP l i) (fun _=> .cT []) vI:=by
 have hl:=hV.len;obtain ⟨j0,rfl⟩:∃j0,j0=i:=⟨_,rfl⟩;have p0:j0≤j0∧j0<l.length:=⟨d8T _,hi⟩;refine kM.dB Tryz.func40 rfl Tryz.ntmps40 rfl (by simp) ?_
 intro Q Q0;simp [vI];refine SW.vY (ι:={ x:kS×Nat×Nat // j0≤x.2.1∧x.2.1<l.length∧l.length<x.2.2+x.2.1∧c5Y x.1 x.2.1∧dF (fun i=> !decide ((aK l i).kind=0)) (moM rdP l) x.2.2 x.1 x.2.1=a9G bA bF rdP l j0 }) (fun _=>[]) (fun x=>rH l x.1.2.1++vI x.1.1) (fun _=>d4Q) (fun x=>l.length-x.1.2.1) ⟨(⟨[],[],[],[],[],[]⟩,j0,l.length+2),d8T _,p0.2,by simp only;omega,⟨Nat.zero_le _,Nat.zero_le _,Nat.zero_le _,Nat.zero_le _,Nat.zero_le _,Nat.zero_le _⟩,rfl⟩ (by simp [vI]) ?_
 rintro ⟨⟨m,j1,g⟩,hb,hj1,hg,hm,hp⟩;simp only at hb hj1 hg hm hp;obtain ⟨g,rfl⟩:∃k,g=k+1:=⟨g-1,by omega⟩;have p1:j0≤j1∧j1<l.length:=⟨hb,hj1⟩;have ht:=cO (G:=G) l j1 j1 0 (by omega) (by omega) (by intro e;subst e;simp at hi) (by omega);simp [vI];refine bI (i:=j1) (ds:=[.int .i64 0]) bS ht (by simp) (by simp) ?_
 by_cases hk:(aK l j1).kind=0
 ·have hc:(fun i=> !decide ((aK l i).kind=0)) j1=false:=by simp [hk]
  rw [uD hV hc] at hp;simp [cR,hk];exact Q0.ok m j1 _ _ hp.symm (.inl rfl) (by simp [vI])
 ·have hc:(fun i=> !decide ((aK l i).kind=0)) j1=true:=by simp [hk]
  simp [cR,hk];refine hM.mk (wJ a4H (b9W hV hN m j1 hj1 hm) [(100000,100000),(100001,100001)] (fun a j hx=>?_) ?_ ?_ ?_ rfl rfl (fun m2 j2 x2=>?_) (fun n e hx=>by simp;exact Q0.bad _ _ _ (hp.symm.trans (pH hV hc (cW hx)))))
  ·simp [vI,aQ,aX,aT,aS,bC,getKey]
  ·simp [vI,aQ,aX,aT,aS,bC,getKey]
  ·simp [aU,bE,rk]
  ·simp [vI,aU,bE,rk,cS,dC]
  ·have p2:=b0O hV m j1 m2 j2 hj1 x2;have hm2:=b7H hV m j1 m2 j2 hj1 hm x2;simp [bD,vI,aU,bE,rk,cS,dC,bQ,gU,gE,eJ];refine cJ (ds:=[.sl (strs [[59]])]) aG (aH l [[59]] j2 p2.2 (by omega) hV.fin (by simp)) (by simp [strs]) (by simp) (fun u j3 x3=>?_) (fun n e hx=>by simp;exact Q0.bad _ _ _ (hp.symm.trans (pH hV hc ((aY x2).trans (cW hx)))));have p3:=aA.exp hV.fin _ _ j2 u j3 p2.2 x3;have hm3:c5Y m2 j3:=⟨by have:=hm2.a;omega,by have:=hm2.b;omega,by have:=hm2.c;omega,by have:=hm2.d;omega,by have:=hm2.e;omega,by have:=hm2.f;omega⟩;have h1:moM rdP l m j1= .ok m2 j3:=(aY x2).trans ((aY x3).trans rfl);rw [uC hV hc h1] at hp;simp;exact bR.mk ⟨(m2,j3,g),by simp only;omega,p3.2,by simp only;omega,hm3,hp⟩ (by simp [vI]) (by simp;omega)
end
end
end Go.Proofs.YtjpodcmhcenjjaaGreatDoor
section
section
namespace Go.Proofs.YtjpodcmhcenjjaaGreatDoor
def hU (l:List Tok)(i:Nat)(s:List UInt8):Bool:=match l[i]? with
 |some t=>decide (t.kind=4)&&decide (t.text=s)
 |none=>false
def kdB (l:List Tok)(i:Nat)(k:Int):Bool:=match l[i]? with
 |some t=>decide (t.kind=k)
 |none=>false
def wtB (l:List Tok)(i:Nat):Bool:=kdB l i 1||kdB l i 2
def txA (l:List Tok)(i:Nat):List UInt8:=((l[i]?).map (·.text)).getD []
def nmA (l:List Tok)(i:Nat):Int:=((l[i]?).map (·.n)).getD 0
def tw (op:Int)(a b:Pr):Pr:=⟨op,[],0,[a,b]⟩
def mG (l:List Tok):Nat→Nat→List UInt8→List UInt8×Nat
 |0,i,s=>(s,i)
 |f+1,i,s=>
  if hU l i [46]=true then
   if wtB l (i+1)=true then mG l f (i+2) (s++[46]++txA l (i+1))
   else if kdB l (i+1) 3=true then
    if wtB l (i+2)=true then mG l f (i+3) (s++[46]++txA l (i+1)++txA l (i+2)) else mG l f (i+2) (s++[46]++txA l (i+1))
   else (s,i)
  else (s,i)
def opL:Nat→List (Int×List UInt8)
 |1=>[(18,[60,61,62])]
 |3=>[(16,[124,124])]
 |4=>[(15,[38,38])]
 |7=>[(6,[43]),(7,[45])]
 |8=>[(8,[42])]
 |_=>[]
def a0Y (l:List Tok)(n k:Nat):Option Int:=((opL k).find? fun p=>hU l n p.2).map (·.1)
def cmpL:List (List UInt8×Int×Bool):=[([61],10,false),([33,61],11,false),([60],12,false),([62],12,true),([60,61],13,false),([62,61],13,true)]
def tE (l:List Tok)(n:Nat):Option (Int×Bool):=(cmpL.find? fun p=>hU l n p.1).map (·.2)
section
variable (kw:List UInt8→Bool) (rd:Nat→Nat→Option (Pr×Nat)) (l:List Tok)
def a8o (i:Nat):Bool:=wtB l i&&(!kw (txA l i)||decide (txA l i=[118])||decide (txA l i=[116,97,103])||decide (txA l i=[118,97,108]))
def pD (i:Nat):Option (List UInt8×Nat):=if a8o kw l i=true then some (mG l l.length (i+1) (txA l i)) else none
def dH (k:Nat):Nat→Pr→Nat→Pr×Nat
 |0,a,n=>(a,n)
 |g+1,a,n=>match a0Y l n k with
  |none=>(a,n)
  |some op=>match rd (n+1) (k+1) with
   |none=>(a,n)
   |some (b,m)=>dH k g (tw op a b) m
def eP:Nat→Nat→List Pr→Option (List Pr×Nat)
 |0,_,_=>none
 |g+1,i,acc=>match rd (i+1) 1 with
  |none=>none
  |some (p,n)=>if hU l n [41]=true then some (acc++[p],n+1) else if hU l n [44]=true then eP g n (acc++[p]) else none
def oM (i:Nat):Option (List Pr×Nat):=if hU l i [40]=true then eP rd l l.length i [] else none
def tF (i:Nat):Option (Pr×Nat):=match l[i]? with
 |none=>none
 |some t=>
  if t.kind=3 then some (⟨1,[],t.n,[]⟩,i+1)
  else if t.kind=1∧t.text=[116,114,117,101] then some (⟨2,[],1,[]⟩,i+1)
  else if t.kind=1∧t.text=[102,97,108,115,101] then some (⟨2,[],0,[]⟩,i+1)
  else if hU l i [63]=true then (match pD kw l (i+1) with
   |none=>none
   |some (s,n)=>(oM rd l n).map fun q=>(⟨5,s,0,q.1⟩,q.2))
  else if hU l i [40]=true then
   if hU l (i+1) [45]=true∧kdB l (i+2) 3=true∧hU l (i+3) [41]=true then some (⟨1,[],IntKind.i64.wrap (-nmA l (i+2)),[]⟩,i+4)
   else (match rd (i+1) 1 with
    |none=>none
    |some (p,n)=>if hU l n [41]=true then some (p,n+1) else none)
  else (match pD kw l i with
   |none=>none
   |some (s,n)=>(match oM rd l n with
    |some (ks,m)=>some (⟨4,s,0,ks⟩,m)
    |none=>some (⟨3,s,0,[]⟩,n)))
def yC (i:Nat):Option (Pr×Nat):=match rd i 7 with
 |none=>none
 |some (a,n)=>(match tE l n with
  |none=>some (a,n)
  |some (op,ex)=>(match rd (n+1) 7 with
   |none=>some (a,n)
   |some (b,m)=>some (if ex=true then tw op b a else tw op a b,m)))
def a6M (i:Nat):Option (Pr×Nat):=match rd i 3 with
 |none=>none
 |some (a,n)=>if hU l n [61,62]=true then (match rd (n+1) 2 with
  |some (b,m)=>some (tw 17 a b,m)
  |none=>some (a,n)) else some (a,n)
def atG (i k:Nat):Option (Pr×Nat):=
 match k with
 |2=>a6M rd l i
 |5=>if hU l i [33]=true then (rd (i+1) 5).map fun q=>(⟨14,[],0,[q.1]⟩,q.2) else rd i 6
 |6=>yC rd l i
 |9=>if hU l i [45]=true then (rd (i+1) 9).map fun q=>(⟨9,[],0,[q.1]⟩,q.2) else rd i 10
 |10=>tF kw rd l i
 |k=>(rd i (k+1)).map fun q=>dH rd l k l.length q.1 q.2
end
def mW (kw:List UInt8→Bool)(l:List Tok):Nat→Nat→Nat→Option (Pr×Nat)
 |0,_,_=>none
 |f+1,i,k=>atG kw (mW kw l f) l i k
theorem oY {l:List Tok}{i:Nat}{s:List UInt8}(h:hU l i s=true):i<l.length:=by
 unfold hU at h;split at h
 ·rename_i t ht;exact (d8E.1 ht).1
 ·cases h
theorem b4Z {l:List Tok}{i:Nat}{k:Int}(h:kdB l i k=true):i<l.length:=by
 unfold kdB at h;split at h
 ·rename_i t ht;exact (d8E.1 ht).1
 ·cases h
theorem a6N {l:List Tok}{i:Nat}(h:wtB l i=true):i<l.length:=by unfold wtB at h;rw [d8P] at h;rcases h with h|h<;>exact b4Z h
theorem uE {l:List Tok}:∀(f i:Nat) (s:List UInt8),i≤l.length→i≤(mG l f i s).2∧(mG l f i s).2≤l.length
 |0,i,s,h=>⟨d8T _,h⟩
 |f+1,i,s,h=>by
  rw [mG];split
  ·rename_i h1;have:=oY h1;split
   ·rename_i h2;have:=a6N h2;have:=uE (l:=l) f (i+2) (s++[46]++txA l (i+1)) (by omega);omega
   ·split
    ·rename_i h3;have:=b4Z h3;split
     ·rename_i h4;have:=a6N h4;have:=uE (l:=l) f (i+3) (s++[46]++txA l (i+1)++txA l (i+2)) (by omega);omega
     ·have:=uE (l:=l) f (i+2) (s++[46]++txA l (i+1)) (by omega);omega
    ·exact ⟨d8T _,h⟩
  ·exact ⟨d8T _,h⟩
theorem oG {kw:List UInt8→Bool}{l:List Tok}{i n:Nat}{s:List UInt8}(h:pD kw l i=some (s,n)):i<n∧n≤l.length:=by
 unfold pD at h;split at h
 ·rename_i hb;unfold a8o at hb;rw [d8D] at hb;have h1:=a6N hb.1;have h2:=uE (l:=l) l.length (i+1) (txA l i) (by omega);rw [d8J] at h;rw [h] at h2;simp only at h2;omega
 ·cases h
def Adv (l:List Tok)(rd:Nat→Nat→Option (Pr×Nat)):Prop:=∀i k p n,rd i k=some (p,n)→i<n∧n≤l.length
section
variable {kw:List UInt8→Bool} {rd rd':Nat→Nat→Option (Pr×Nat)} {l:List Tok}
theorem wU (h:Adv l rd)(k:Nat):∀(g:Nat) (a:Pr) (n:Nat),n≤l.length→n≤(dH rd l k g a n).2∧(dH rd l k g a n).2≤l.length
 |0,a,n,hn=>⟨d8T _,hn⟩
 |g+1,a,n,hn=>by
  rw [dH];split
  ·exact ⟨d8T _,hn⟩
  ·split
   ·exact ⟨d8T _,hn⟩
   ·rename_i op _ _ b m hr;have h1:=h _ _ _ _ hr;have h2:=wU h k g (tw op a b) m h1.2;omega
theorem a0k (h:Adv l rd):∀(g i:Nat) (acc ks:List Pr) (m:Nat),eP rd l g i acc=some (ks,m)→i<m∧m≤l.length
 |0,_,_,_,_,hr=>by cases hr
 |g+1,i,acc,ks,m,hr=>by
  rw [eP] at hr;split at hr
  ·cases hr
  ·rename_i p n hp;have h1:=h _ _ _ _ hp;split at hr
   ·rename_i hs;have:=oY hs;cases hr;omega
   ·split at hr
    ·have:=a0k h g n _ ks m hr;omega
    ·cases hr
theorem a5T (h:Adv l rd){i m:Nat}{ks:List Pr}(hr:oM rd l i=some (ks,m)):i<m∧m≤l.length:=by
 unfold oM at hr;split at hr
 ·exact a0k h _ _ _ _ _ hr
 ·cases hr
theorem c5Z (h:Adv l rd){i n:Nat}{p:Pr}(hr:tF kw rd l i=some (p,n)):i<n∧n≤l.length:=by
 unfold tF at hr;split at hr
 ·cases hr
 ·rename_i t ht;have hil:=(d8E.1 ht).1;split at hr
  ·cases hr;omega
  split at hr
  ·cases hr;omega
  split at hr
  ·cases hr;omega
  split at hr
  ·split at hr
   ·cases hr
   ·rename_i s m hn;have h1:=oG hn;rw [d8C] at hr;obtain ⟨⟨ks,q⟩,hq,he⟩:=hr;have h2:=a5T h hq;cases he;simp only at *;omega
  split at hr
  ·split at hr
   ·rename_i hc;have:=oY hc.2.2;cases hr;omega
   ·split at hr
    ·cases hr
    ·rename_i q m hq;have h1:=h _ _ _ _ hq;split at hr
     ·rename_i hs;have:=oY hs;cases hr;omega
     ·cases hr
  ·split at hr
   ·cases hr
   ·rename_i s m hn;have h1:=oG hn;split at hr
    ·rename_i ks q hq;have h2:=a5T h hq;cases hr;omega
    ·cases hr;omega
theorem c6a (h:Adv l rd){i k n:Nat}{p:Pr}(hr:atG kw rd l i k=some (p,n)):i<n∧n≤l.length:=by
 unfold atG at hr;split at hr
 ·unfold a6M at hr;split at hr
  ·cases hr
  ·rename_i a m ha;have h1:=h _ _ _ _ ha;split at hr
   ·split at hr
    ·rename_i b q hb;have h2:=h _ _ _ _ hb;cases hr;omega
    ·cases hr;exact h1
   ·cases hr;exact h1
 ·split at hr
  ·rw [d8C] at hr;obtain ⟨⟨a,m⟩,ha,he⟩:=hr;have h1:=h _ _ _ _ ha;cases he;simp only;omega
  ·exact h _ _ _ _ hr
 ·unfold yC at hr;split at hr
  ·cases hr
  ·rename_i a m ha;have h1:=h _ _ _ _ ha;split at hr
   ·cases hr;exact h1
   ·split at hr
    ·cases hr;exact h1
    ·rename_i b q hb;have h2:=h _ _ _ _ hb;cases hr;omega
 ·split at hr
  ·rw [d8C] at hr;obtain ⟨⟨a,m⟩,ha,he⟩:=hr;have h1:=h _ _ _ _ ha;cases he;simp only;omega
  ·exact h _ _ _ _ hr
 ·exact c5Z h hr
 ·rw [d8C] at hr;obtain ⟨⟨a,m⟩,ha,he⟩:=hr;have h1:=h _ _ _ _ ha;have h2:=wU (k:=k) h l.length a m h1.2;have h3:(dH rd l k l.length a m).2=n:=by rw [he]
  omega
end
theorem oZ (kw:List UInt8→Bool)(l:List Tok):∀f,Adv l (mW kw l f)
 |0=>fun _ _ _ _ h=>by cases h
 |f+1=>fun _ _ _ _ h=>c6a (oZ kw l f) h
end Go.Proofs.YtjpodcmhcenjjaaGreatDoor
end
section
namespace Go.Proofs.YtjpodcmhcenjjaaGreatDoor
theorem b3k {l:List Tok}{n k:Nat}{op:Int}(h:a0Y l n k=some op):n<l.length∧1≤k∧k≤8:=by unfold a0Y at h;rw [d8C] at h;obtain ⟨p,hp,_⟩:=h;have hs:hU l n p.2=true:=List.find?_some (p:=fun p:Int×List UInt8=>hU l n p.2) hp;refine ⟨oY hs,?_⟩;have hm:=List.mem_of_find?_eq_some hp;unfold opL at hm;split at hm<;>first|omega|cases hm
theorem b9Y {l:List Tok}{n:Nat}{q:Int×Bool}(h:tE l n=some q):n<l.length:=by unfold tE at h;rw [d8C] at h;obtain ⟨p,hp,_⟩:=h;have hs:hU l n p.1=true:=List.find?_some (p:=fun p:List UInt8×Int×Bool=>hU l n p.1) hp;exact oY hs
section
variable {kw:List UInt8→Bool} {rd rd':Nat→Nat→Option (Pr×Nat)} {l:List Tok}
theorem a7V (hA:Adv l rd){i k:Nat}(h:∀i' k',1≤k'→k'≤10→i<i'→i'≤l.length→rd i' k'=rd' i' k'):∀(g:Nat) (a:Pr) (n:Nat),i≤n→dH rd l k g a n=dH rd' l k g a n
 |0,_,_,_=>rfl
 |g+1,a,n,hn=>by
  rw [dH,dH];cases ho:a0Y l n k with
  |none=>rfl
  |some op=>
   obtain ⟨h1,h2,h3⟩:=b3k ho;rw [← h (n+1) (k+1) (by omega) (by omega) (by omega) (by omega)];cases hr:rd (n+1) (k+1) with
   |none=>rfl
   |some q=>obtain ⟨b,m⟩:=q;have:=hA _ _ _ _ hr;exact a7V hA h g _ m (by omega)
theorem b0P (hA:Adv l rd){i:Nat}(h:∀i' k',1≤k'→k'≤10→i<i'→i'≤l.length→rd i' k'=rd' i' k'):∀(g n:Nat) (acc:List Pr),i≤n→n<l.length→eP rd l g n acc=eP rd' l g n acc
 |0,_,_,_,_=>rfl
 |g+1,n,acc,hn,hl=>by
  rw [eP,eP, ← h (n+1) 1 (by omega) (by omega) (by omega) (by omega)];cases hr:rd (n+1) 1 with
  |none=>rfl
  |some q=>
   obtain ⟨p,m⟩:=q;have:=hA _ _ _ _ hr;simp only;split
   ·rfl
   ·split
    ·rename_i hs;exact b0P hA h g m _ (by omega) (oY hs)
    ·rfl
theorem b0Q (hA:Adv l rd){i n:Nat}(h:∀i' k',1≤k'→k'≤10→i<i'→i'≤l.length→rd i' k'=rd' i' k')(hn:i≤n):oM rd l n=oM rd' l n:=by
 unfold oM;split
 ·rename_i hs;exact b0P hA h _ _ _ hn (oY hs)
 ·rfl
theorem b9Z (hA:Adv l rd){i:Nat}(h:∀i' k',1≤k'→k'≤10→i<i'→i'≤l.length→rd i' k'=rd' i' k'):tF kw rd l i=tF kw rd' l i:=by
 unfold tF;cases ht:l[i]? with
 |none=>rfl
 |some t=>
  simp only;split
  ·rfl
  split
  ·rfl
  split
  ·rfl
  split
  ·cases hn:pD kw l (i+1) with
   |none=>rfl
   |some q=>have:=oG (s:=q.1) (n:=q.2) hn;simp only;rw [b0Q hA h (by omega)]
  split
  ·rename_i hs;have:=oY hs;split
   ·rfl
   ·rw [h (i+1) 1 (by omega) (by omega) (by omega) (by omega)]
  ·cases hn:pD kw l i with
   |none=>rfl
   |some q=>have:=oG (s:=q.1) (n:=q.2) hn;simp only;rw [b0Q hA h (by omega)]
theorem b7I (hA:Adv l rd){i k:Nat}(hk:1≤k∧k≤10)(h:∀i' k',1≤k'→k'≤10→i<i'→i'≤l.length→rd i' k'=rd' i' k')(h0:∀k',k<k'→k'≤10→rd i k'=rd' i k'):atG kw rd l i k=atG kw rd' l i k:=by
 unfold atG;split
 ·unfold a6M;rw [← h0 3 (by omega) (by omega)];cases hr:rd i 3 with
  |none=>rfl
  |some q=>
   obtain ⟨a,n⟩:=q;have:=hA _ _ _ _ hr;simp only;split
   ·rename_i hs;have:=oY hs;rw [h (n+1) 2 (by omega) (by omega) (by omega) (by omega)]
   ·rfl
 ·split
  ·rename_i hs;have:=oY hs;rw [h (i+1) 5 (by omega) (by omega) (by omega) (by omega)]
  ·exact h0 6 (by omega) (by omega)
 ·unfold yC;rw [← h0 7 (by omega) (by omega)];cases hr:rd i 7 with
  |none=>rfl
  |some q=>
   obtain ⟨a,n⟩:=q;have:=hA _ _ _ _ hr;simp only;cases hc:tE l n with
   |none=>rfl
   |some c=>have:=b9Y hc;simp only;rw [h (n+1) 7 (by omega) (by omega) (by omega) (by omega)]
 ·split
  ·rename_i hs;have:=oY hs;rw [h (i+1) 9 (by omega) (by omega) (by omega) (by omega)]
  ·exact h0 10 (by omega) (by omega)
 ·exact b9Z hA h
 ·rename_i hx2 hx5 hx6 hx9 hx10;have hne:k≠10:=fun e=>hx10 e
  rw [← h0 (k+1) (by omega) (by omega)];cases hr:rd i (k+1) with
  |none=>rfl
  |some q=>obtain ⟨a,n⟩:=q;have:=hA _ _ _ _ hr;simp only [Option.map_some];rw [a7V hA h l.length a n (by omega)]
end
def mu (L i k:Nat):Nat:=(L+1-i)*12+(11-k)
theorem wM {L i i' k k':Nat}(hi:i<i')(hl:i'≤L)(hk:1≤k')(hk2:k≤10):mu L i' k'<mu L i k:=by unfold mu;omega
theorem a5U {L i k k':Nat}(h:k<k')(hk:k'≤10):mu L i k'<mu L i k:=by unfold mu;omega
theorem a5V (kw:List UInt8→Bool)(l:List Tok):∀(f f' i k:Nat),1≤k→k≤10→i≤l.length→mu l.length i k≤f→mu l.length i k≤f'→mW kw l f i k=mW kw l f' i k
 |0,_,i,k,_,h2,hi,h,_=>by unfold mu at h;omega
 |_+1,0,i,k,_,h2,hi,_,h=>by unfold mu at h;omega
 |f+1,f'+1,i,k,h1,h2,hi,h,h'=>by
  rw [mW,mW];exact b7I (oZ kw l f) ⟨h1,h2⟩ (fun i' k' q1 q2 q3 q4=>by
   have:=wM (k:=k) q3 q4 q1 h2;exact a5V kw l f f' i' k' q1 q2 q4 (by omega) (by omega)) (fun k' q1 q2=>by
   have:=a5U (L:=l.length) (i:=i) q1 q2;exact a5V kw l f f' i k' (by omega) q2 hi (by omega) (by omega))
end Go.Proofs.YtjpodcmhcenjjaaGreatDoor
end
section
namespace Go.Proofs.YtjpodcmhcenjjaaGreatDoor
structure Out (α:Type) where
 sg:List UInt8→List α
 nm:List UInt8→List α
 nu:Nat→List α
 bo:Bool→List α
 sp:List α
def kZ (ln:Int)(s:List UInt8):Tok:=⟨4,s,0,ln⟩
end Go.Proofs.YtjpodcmhcenjjaaGreatDoor
end
section
namespace Go.Proofs.YtjpodcmhcenjjaaGreatDoor
def RR (kw:List UInt8→Bool)(l:List Tok)(i k:Nat):Option (Pr×Nat):=mW kw l (mu l.length i k) i k
theorem c6b (kw:List UInt8→Bool)(l:List Tok):Adv l (RR kw l):=fun i k p n h=>oZ kw l _ i k p n h
theorem a1t {kw:List UInt8→Bool}{l:List Tok}{i k:Nat}(h1:1≤k)(h2:k≤10)(hi:i≤l.length):RR kw l i k=atG kw (RR kw l) l i k:=by
 obtain ⟨f,hf⟩:∃f,mu l.length i k=f+1:=⟨mu l.length i k-1,by unfold mu;omega⟩;have h:RR kw l i k=atG kw (mW kw l f) l i k:=by unfold RR;rw [hf,mW]
 rw [h];refine b7I (oZ kw l f) ⟨h1,h2⟩ (fun i' k' q1 q2 q3 q4=>?_) (fun k' q1 q2=>?_)
 ·have:=wM (k:=k) q3 q4 q1 h2;exact a5V kw l f _ i' k' q1 q2 q4 (by omega) (d8T _)
 ·have:=a5U (L:=l.length) (i:=i) q1 q2;exact a5V kw l f _ i k' (by omega) q2 hi (by omega) (d8T _)
def lvS (s:List UInt8):Nat:=if s=[60,61,62] then 1 else if s=[61,62] then 2 else if s=[124,124] then 3 else if s=[38,38] then 4
 else if s=[61]∨s=[33,61]∨s=[60]∨s=[62]∨s=[60,61]∨s=[62,61] then 6 else if s=[43]∨s=[45] then 7 else if s=[42] then 8 else 0
section
variable {l rest:List Tok} {n k:Nat}
theorem c6c (j:Nat):∀p∈opL j,lvS p.2=j:=by unfold opL;split<;>simp [lvS]
theorem c1m:∀p∈cmpL,lvS p.1=6:=by simp [cmpL,lvS]
end
section
variable {kw:List UInt8→Bool} {l:List Tok} {i:Nat}
theorem b0R {rd:Nat→Nat→Option (Pr×Nat)}{k n:Nat}(h:a0Y l n k=none)(g:Nat)(a:Pr):dH rd l k g a n=(a,n):=by
 cases g with
 |zero=>rfl
 |succ g=>rw [dH,h]
end
end Go.Proofs.YtjpodcmhcenjjaaGreatDoor
end
section
namespace Go.Proofs.YtjpodcmhcenjjaaGreatDoor
def a6O (k:List Tok):Except Int (List Tok)→Except Int (List Tok)
 | .ok l=> .ok (k++l)
 | .error e=> .error e
theorem c6d (a b:List Tok)(x):a6O a (a6O b x)=a6O (a++b) x:=by cases x<;>simp [a6O]
theorem b7J (x):a6O [] x=x:=by cases x<;>rfl
section
variable {num:List UInt8→Int×Bool} {ln:Int}
def Lx (num:List UInt8→Int×Bool)(ln:Int)(t:List UInt8)(k:List Tok)(r:List UInt8):Prop:=dL num (t++r) 0 ln false=a6O k (dL num r 0 ln false)
theorem Lx.sp {r:List UInt8}:Lx num ln [32] [] r:=by unfold Lx;rw [b7J,List.cons_append,List.nil_append,dL];simp
theorem Lx.tok {c:UInt8}{s r:List UInt8}{k n:Int}(hf:firstT num (c::s++r)=(k,c::s,n,true)):Lx num ln (c::s) [⟨k,c::s,n,ln⟩] r:=by
 unfold Lx;have h0:(firstT num (c::(s++r))).2.2.2=true:=by rw [List.cons_append] at hf;rw [hf]
 obtain ⟨h1,h2,h3,h4⟩:=b9k h0;rw [List.cons_append] at hf ⊢;rw [dL,if_neg h1,if_neg (by simp [h2,h3]),if_neg h4,if_pos h0,hf];simp only [List.length_cons,Nat.add_sub_cancel];rw [a6v (s++r) s.length ln false (by simp),List.drop_left];cases dL num r 0 ln false<;>rfl
theorem Lx.sg {c:UInt8}{s r:List UInt8}(h1:smU c=false)(h2:caU c=false)(h3:dgU c=false)(hs:kQ (c::s++r)=c::s):Lx num ln (c::s) [kZ ln (c::s)] r:=by
 refine Lx.tok ?_
 rw [List.cons_append] at hs ⊢;unfold firstT;simp only [h1,h2,h3,hs];simp
variable {dig:Nat→List UInt8}
theorem b5a {r:List UInt8}:Lx num ln [40] [kZ ln [40]] r:=Lx.sg (by decide) (by decide) (by decide) rfl
theorem c6e {r:List UInt8}:Lx num ln [41] [kZ ln [41]] r:=Lx.sg (by decide) (by decide) (by decide) rfl
end
end Go.Proofs.YtjpodcmhcenjjaaGreatDoor
end
end
section
section
namespace Go.Proofs.YtjpodcmhcenjjaaGreatDoor
open Go Go.VM
variable {G:GT}
theorem rg1:List.range 1=[0]:=rfl
theorem rg2:List.range 2=[0,1]:=rfl
theorem rg3:List.range 3=[0,1,2]:=rfl
abbrev rdD (l:List Tok):D:= .agg [.sl (l.map cR)]
theorem c0a {l:List Tok}{i:Nat}(h:i<l.length)(s:List UInt8):hU l i s=(decide (l[i].kind=4)&&decide (l[i].text=s)):=by simp [hU,h]
theorem c6g {l:List Tok}{i:Nat}(h: ¬i<l.length)(s:List UInt8):hU l i s=false:=by unfold hU;rw [List.getElem?_eq_none (by omega)]
theorem b5b {l:List Tok}{i:Nat}(h:i<l.length)(k:Int):kdB l i k=decide (l[i].kind=k):=by simp [kdB,h]
theorem c6h {l:List Tok}{i:Nat}(h: ¬i<l.length)(k:Int):kdB l i k=false:=by unfold kdB;rw [List.getElem?_eq_none (by omega)]
theorem c0b {l:List Tok}{i:Nat}(h:i<l.length):txA l i=l[i].text:=by simp [txA,h]
theorem d4R {l:List Tok}{i:Nat}(h:i<l.length):nmA l i=l[i].n:=by simp [nmA,h]
theorem bO:VM.Enters Tryz.prog 209:=VM.Enters.mk Tryz.func209 rfl
theorem oH (l:List Tok)(i:Nat)(s:List UInt8)(hl:l.length≤900000000):CS Tryz.prog G 209 [rdD l,.int .i64 i,.str s] (.d (.bool (hU l i s))) none:=by
 refine CS.bH Tryz.func209 rfl Tryz.ntmps209 rfl ?_
 by_cases hlt:i<l.length
 ·rw [c0a hlt];obtain ⟨t,ht⟩:∃t,l[i]=t:=⟨_,rfl⟩;rw [ht];simp [hlt,ht,cR];by_cases h1:t.kind=4
  ·by_cases h2:t.text=s<;>simp [h1,h2,hlt,ht,cR]
  ·simp [h1,hlt,ht,cR]
 ·rw [c6g hlt];simp [hlt]
theorem qY:VM.Enters Tryz.prog 210:=VM.Enters.mk Tryz.func210 rfl
theorem rP (op:Int)(a b:Pr):CS Tryz.prog G 210 [.int .i64 op,.agg (prD a),.agg (prD b)] (.d (.agg (prD (tw op a b)))) none:=by
 refine CS.bH Tryz.func210 rfl Tryz.ntmps210 rfl ?_
 simp [tw,rg2,gF]
def a3w (k:Nat):List (List D):=(opL k).map fun p=>[.int .i64 p.1]
theorem tG:VM.Enters Tryz.prog 234:=VM.Enters.mk Tryz.func234 rfl
theorem a1z (k:Nat):CS Tryz.prog G 234 [.int .i64 k] (.d (.sl (a3w k))) none:=by
 refine CS.bH Tryz.func234 rfl Tryz.ntmps234 rfl ?_
 match k with
 |0=>simp [a3w,opL,rg1,rg2]
 |1=>simp [a3w,opL,rg1,rg2]
 |2=>simp [a3w,opL,rg1,rg2]
 |3=>simp [a3w,opL,rg1,rg2]
 |4=>simp [a3w,opL,rg1,rg2]
 |5=>simp [a3w,opL,rg1,rg2]
 |6=>simp [a3w,opL,rg1,rg2]
 |7=>simp [a3w,opL,rg1,rg2]
 |8=>simp [a3w,opL,rg1,rg2]
 |k+9=>
  have h1: ¬(k:Int)+9=1:=by omega
  have h3: ¬(k:Int)+9=3:=by omega
  have h4: ¬(k:Int)+9=4:=by omega
  have h7: ¬(k:Int)+9=7:=by omega
  have h8: ¬(k:Int)+9=8:=by omega
  simp [a3w,opL,h1,h3,h4,h7,h8]
def frm (op:Int):Option (Int×Int×Int×List UInt8):=
 if op=18 then some (1,1,2,[60,61,62]) else if op=17 then some (2,3,2,[61,62]) else if op=16 then some (3,3,4,[124,124]) else if op=15 then some (4,4,5,[38,38])
 else if op=10 then some (6,7,7,[61]) else if op=11 then some (6,7,7,[33,61]) else if op=12 then some (6,7,7,[60]) else if op=13 then some (6,7,7,[60,61])
 else if op=6 then some (7,7,8,[43]) else if op=7 then some (7,7,8,[45]) else if op=8 then some (8,8,9,[42]) else none
def a5W:Option (Int×Int×Int×List UInt8)→DV
 |some (a,b,c,s)=> .cT [.agg [.int .i64 a,.int .i64 b,.int .i64 c,.str s],.bool true]
 |none=> .cT [.agg [.int .i64 0,.int .i64 0,.int .i64 0,.str []],.bool false]
theorem a4J:VM.Enters Tryz.prog 236:=VM.Enters.mk Tryz.func236 rfl
theorem a5X (op:Int):CS Tryz.prog G 236 [.int .i64 op] (a5W (frm op)) none:=by
 refine CS.bH Tryz.func236 rfl Tryz.ntmps236 rfl ?_
 simp;by_cases h18:op=18
 ·simp [h18,frm,a5W]
 by_cases h17:op=17
 ·simp [h17,frm,a5W]
 by_cases h16:op=16
 ·simp [h16,frm,a5W]
 by_cases h15:op=15
 ·simp [h15,frm,a5W]
 by_cases h10:op=10
 ·simp [h10,frm,a5W]
 by_cases h11:op=11
 ·simp [h11,frm,a5W]
 by_cases h12:op=12
 ·simp [h12,frm,a5W]
 by_cases h13:op=13
 ·simp [h13,frm,a5W]
 by_cases h6:op=6
 ·simp [h6,frm,a5W]
 by_cases h7:op=7
 ·simp [h7,frm,a5W]
 by_cases h8:op=8
 ·simp [h8,frm,a5W]
 simp [h18,h17,h16,h15,h10,h11,h12,h13,h6,h7,h8,frm,a5W]
end Go.Proofs.YtjpodcmhcenjjaaGreatDoor
end
section
namespace Go.Proofs.YtjpodcmhcenjjaaGreatDoor
open Go Go.VM
variable {G:GT}
theorem d0H (k:Nat):∀p∈opL k,∃a b c,frm p.1=some (a,b,c,p.2):=by unfold opL;split<;>simp [frm]
abbrev c6i (l:List Tok)(n:Nat):List (Nat×aZ):=[(100000,.cells [.d (.sl (l.map cR))]),(100001,.cells [.d (.int .i64 n)])]
theorem c0c:VM.Enters Tryz.prog 235:=VM.Enters.mk Tryz.func235 rfl
theorem c3k (l:List Tok)(n:Nat)(hl:l.length≤900000000){op a b c:Int}{s:List UInt8}(h:frm op=some (a,b,c,s)):CH Tryz.prog G 235 ⟨[.d (.int .i64 op),.ptr 100000 0,.ptr 100001 0],c6i l n,[]⟩ ⟨[.d (.bool (hU l n s))],c6i l n,[]⟩:=by
 have h1:=a5X (G:=G) op;rw [h,a5W] at h1;have h2:=oH (G:=G) l n s hl;refine CH.bH Tryz.func235 rfl Tryz.ntmps235 rfl (by simp) ?_
 simp;refine aI.mk a4J h1 ?_
 simp;refine aI.mk bO h2 ?_
 simp
def ixO (l:List Tok)(n:Nat):List (Int×List UInt8)→Nat→Int
 |[],_=> -1
 |p::r,i=>if hU l n p.2=true then (i:Int) else ixO l n r (i+1)
theorem c6j {l:List Tok}{n:Nat}{o:List (Int×List UInt8)}{i:Nat}(h:i<o.length):ixO l n (o.drop i) i=if hU l n o[i].2=true then (i:Int) else ixO l n (o.drop (i+1)) (i+1):=by rw [d8Q h,ixO]
theorem c6k:VM.Enters Tryz.prog 233:=VM.Enters.mk Tryz.func233 rfl
theorem d0I (l:List Tok)(n:Nat)(o:List (Int×List UInt8))(ho:∀p∈o,∃a b c,frm p.1=some (a,b,c,p.2))(hl:l.length≤900000000)(hol:o.length≤10):
  CH Tryz.prog G 233 ⟨[.d (.sl (o.map fun p=>[.int .i64 p.1])),.zT 235 [.ptr 100000 0,.ptr 100001 0]],c6i l n,[]⟩ ⟨[.d (.int .i64 (ixO l n o 0))],c6i l n,[]⟩:=by
 obtain ⟨r,hr⟩:∃r,ixO l n o 0=r:=⟨_,rfl⟩;rw [hr];refine CH.bH Tryz.func233 rfl Tryz.ntmps233 rfl (by simp) ?_
 simp;refine SW.kJ (ι:={ i:Nat // i≤o.length∧ixO l n (o.drop i) i=r }) (fun i=>[(8,.d (.int .i64 i.1))]) (fun _=>c6i l n) (fun _=>[]) (fun i=>o.length-i.1) ⟨0,by simpa using hr⟩ (by simp) ?_
 rintro ⟨i,hi,hR⟩
 try simp only at hi hR
 by_cases hlt:i<o.length
 ·have hw:=bP (show i<9223372036854775807 by omega);obtain ⟨q,hq⟩:∃q,o[i]=q:=⟨_,rfl⟩;obtain ⟨a,b,c,hf⟩:=ho o[i] (List.getElem_mem hlt);rw [c6j hlt] at hR;rw [hq] at hf hR;have hc:=c3k (G:=G) l n hl hf;simp [hlt,hq];refine gD.ro c0c hc [(100000,100000),(100001,100001)] (by simp) (by simp) (by simp) (by simp) (by simp) ?_
  cases hs:hU l n q.2
  ·rw [if_neg (by simp [hs])] at hR;simp;exact bR.mk ⟨i+1,hlt,hR⟩ (by simp [hw]) (by simp;omega)
  ·rw [if_pos hs] at hR;simp [hR]
 ·have:i=o.length:=by omega
  subst this;rw [List.drop_length,ixO] at hR;simp [← hR]
end Go.Proofs.YtjpodcmhcenjjaaGreatDoor
end
section
namespace Go.Proofs.YtjpodcmhcenjjaaGreatDoor
open Go Go.VM
variable {G:GT}
theorem c6l:VM.Enters Tryz.prog 265:=VM.Enters.mk Tryz.func265 rfl
theorem d0J (xs:List (List UInt8))(sep:List UInt8)(hl:xs.length≤140737488355328)(hj:(Lib.join xs sep).length≤140737488355328):CS Tryz.prog G 265 [.sl (xs.map fun s=>[.str s]),.str sep] (.d (.str (Lib.join xs sep))) none:=
 c9T Tryz.strings_Join_none Tryz.strings_Join hl hj
theorem b3l:∀xs:List (List UInt8),Lib.join xs []=xs.flatten
 |[]=>rfl
 |x::r=>by rw [Lib.join_cons,Lib.joinTail];simp
theorem jY:VM.Enters Tryz.prog 248:=VM.Enters.mk Tryz.func248 rfl
theorem xX (xs:List (List UInt8))(hl:xs.length≤1000000)(hj:xs.flatten.length≤900000000):CS Tryz.prog G 248 [.sl (xs.map fun s=>[.str s])] (.d (.str xs.flatten)) none:=by
 have h:=d0J (G:=G) xs [] (by omega) (by rw [b3l];omega);rw [b3l] at h;refine CS.bH Tryz.func248 rfl Tryz.ntmps248 rfl ?_
 simp;refine aI.mk c6l h ?_
 simp
theorem d0K (a b:List UInt8)(h:(a++b).length≤900000000):CS Tryz.prog G 248 [.sl [[.str a],[.str b]]] (.d (.str (a++b))) none:=by have:=xX (G:=G) [a,b] (by simp) (by simpa using h);simpa using this
theorem d0L (a b c:List UInt8)(h:(a++(b++c)).length≤900000000):CS Tryz.prog G 248 [.sl [[.str a],[.str b],[.str c]]] (.d (.str (a++(b++c)))) none:=by have:=xX (G:=G) [a,b,c] (by simp) (by simpa using h);simpa using this
def txS:List Tok→Nat
 |[]=>0
 |t::r=>t.text.length+1+txS r
theorem b5c:∀a b:List Tok,txS (a++b)=txS a+txS b
 |[],b=>by simp [txS]
 |t::a,b=>by rw [List.cons_append,txS,txS,b5c a b];omega
theorem a5Y {l:List Tok}{i:Nat}(h:i<l.length):txS (l.take (i+1))=txS (l.take i)+(l[i].text.length+1):=by rw [d8S h,b5c];simp [txS]
theorem d4S (l:List Tok)(i:Nat):txS (l.take i)≤txS l:=by have:=b5c (l.take i) (l.drop i);rw [List.take_append_drop] at this;omega
def a2E (l:List Tok):Prop:=l.length≤50000∧txS l≤900000
theorem c0d {l:List Tok}{j:Nat}{s:List UInt8}(hs:s.length≤txS (l.take j))(h1:j+1<l.length):(s++([46]++(l[j+1]).text)).length≤txS (l.take (j+2)):=by have q1:=a5Y (l:=l) (i:=j) (by omega);have q2:txS (l.take (j+2))=txS (l.take (j+1))+((l[j+1]).text.length+1):=a5Y h1;simp only [List.length_append,List.length_cons,List.length_nil];omega
theorem b7L {l:List Tok}{j:Nat}{s:List UInt8}(hs:s.length≤txS (l.take (j+2)))(h1:j+2<l.length):(s++(l[j+2]).text).length≤txS (l.take (j+3)):=by have q2:txS (l.take (j+3))=txS (l.take (j+2))+((l[j+2]).text.length+1):=a5Y h1;simp only [List.length_append];omega
theorem a2E.le {l:List Tok}(h:a2E l){i n:Nat}(hn:n≤txS (l.take i)):n≤900000000:=by have h1:=d4S l i;have h2:=h.2;omega
theorem c0e {l:List Tok}{i:Nat}(h:i<l.length):wtB l i=(decide (l[i].kind=1)||decide (l[i].kind=2)):=by simp [wtB,b5b h]
theorem c0f {l:List Tok}{i:Nat}(h: ¬i<l.length):wtB l i=false:=by simp [wtB,c6h h]
theorem c0g {l:List Tok}{f i:Nat}{s:List UInt8}(h:hU l i [46]=false):mG l f i s=(s,i):=by
 cases f with
 |zero=>rfl
 |succ f=>rw [mG,if_neg (by simp [h])]
def a6P:Option (List UInt8×Nat)→DV
 |some (s,n)=> .cT [.str s,.int .i64 n]
 |none=> .cT [.str [],.int .i64 (-1)]
theorem wN (o):pO (a6P o)=true:=by
 cases o with
 |none=>rfl
 |some q=>obtain ⟨a,b⟩:=q;rfl
theorem b0S {P:Program}{x y:Code}{st:St}{Q:Exit→St→Prop}(st':St)(h1:SW P G x st fun e s=>match e with
  | .normal=>wD s st'
  |e=>Q e s)(h2:SW P G y st' Q):SW P G (.seq x y) st Q:=SW.pL fun base R μ a w hr=>
 wp_mono (h1 base R μ a w hr) fun e a1 w1 ⟨s,R1,μ1,q1,q2,q3⟩=>by
  cases e with
  |normal=>exact ⟨s,R1,μ1,fun base R μ a w hr=>h2 base R μ a w (hr.zI q1),q2,q3⟩
  |_=>exact ⟨s,R1,μ1,q1,q2,q3⟩
theorem a3k:VM.Enters Tryz.prog 230:=VM.Enters.mk Tryz.func230 rfl
theorem b7M (hG:G 1=some eB)(l:List Tok)(i:Nat)(hl:a2E l)(hi:i≤l.length):CS Tryz.prog G 230 [rdD l,.int .i64 i] (a6P (pD bA l i)) none:=by
 have hll:=hl.1;obtain ⟨o,ho⟩:∃o,pD bA l i=o:=⟨_,rfl⟩;rw [ho];refine CS.b4h Tryz.func230 rfl Tryz.ntmps230 rfl ?_
 refine SW.pL (SW.vk ?_);simp;by_cases hlt:i<l.length;rotate_left
 ·have hge:l.length≤i:=Nat.le_of_not_lt hlt;have:o=none:=by rw [← ho];simp [pD,a8o,c0f hlt]
  subst this;refine SW.pL (SW.vk ?_);simp [hge,a6P]
 have hge: ¬l.length≤i:=by omega
 unfold pD a8o at ho;rw [c0e hlt,c0b hlt] at ho;obtain ⟨t,ht⟩:∃t,l[i]=t:=⟨_,rfl⟩;rw [ht] at ho;by_cases hw:t.kind=1∨t.kind=2;rotate_left
 ·have k1: ¬t.kind=1:=fun h=>hw (.inl h)
  have k2: ¬t.kind=2:=fun h=>hw (.inr h)
  have:o=none:=by rw [← ho];simp [k1,k2]
  subst this;refine SW.pL (SW.vk ?_);simp [hge,hlt,ht,cR];simp [k1,k2,hlt,ht,cR,a6P]
 have hwd:(decide (t.kind=1)||decide (t.kind=2))=true:=by simpa using hw
 rw [hwd,Bool.true_and] at ho;refine b0S ⟨[.d (rdD l),.d (.int .i64 i),.ptr 2 0,.undef,.d (.str []),.d (.int .i64 0)]++List.replicate 125 .undef,[(2,.cells [.d (.sl (l.map cR))])],[]⟩ (SW.vk ?_) ?_
 ·simp [hge,hlt,ht,cR];by_cases k1:t.kind=1
  ·simp [k1,hlt,ht,cR,List.replicate]
  ·have k2:=hw.resolve_left k1;simp [k1,k2,hlt,ht,cR,List.replicate]
 refine SW.pL (SW.vk ?_);simp [hlt,ht,cR,List.replicate];cases hok:(!bA t.text||decide (t.text=[118])||decide (t.text=[116,97,103])||decide (t.text=[118,97,108]))
 ·have:o=none:=by rw [← ho];simp [hok]
  subst this;simp at hok;obtain ⟨⟨⟨q1,q2⟩,q3⟩,q4⟩:=hok;refine SW.pL (SW.vk ?_);simp;refine aI.mk uL (wE hG t.text) ?_
  simp [q1,q2,q3,q4,a6P]
 rw [if_pos hok] at ho;refine b0S ⟨[.d (rdD l),.d (.int .i64 i),.ptr 2 0,.undef,.d (.str []),.d (.int .i64 0),.d (.str t.text)]++List.replicate 124 .undef,[(2,.cells [.d (.sl (l.map cR))])],[]⟩ (SW.vk ?_) ?_
 ·simp;refine aI.mk uL (wE hG t.text) ?_
  by_cases q1:bA t.text=true
  ·by_cases q2:t.text=[118]
   ·rw [q2] at q1;simp [q1,q2,List.replicate]
   ·by_cases q3:t.text=[116,97,103]
    ·rw [q3] at q1;simp [q1,q3,List.replicate]
    ·have q4:t.text=[118,97,108]:=by simpa [q1,q2,q3] using hok
     rw [q4] at q1;simp [q1,q4,List.replicate]
  ·simp [q1,List.replicate]
 obtain ⟨rs,rn,hrr⟩:∃rs rn,mG l l.length (i+1) t.text=(rs,rn):=⟨_,_,rfl⟩;rw [hrr] at ho;subst ho;have hw1:=bP (show i<9223372036854775807 by omega);refine SW.vk ?_
 simp [hw1,List.replicate];refine SW.kJ (ι:={ p:Nat×List UInt8 // p.1≤l.length∧p.2.length≤txS (l.take p.1)∧∃f,l.length≤f+p.1∧mG l f p.1 p.2=(rs,rn) }) (fun p=>[(1,.d (.int .i64 p.1.1)),(6,.d (.str p.1.2))]) (fun _=>[(2,.cells [.d (.sl (l.map cR))])]) (fun _=>[]) (fun p=>l.length-p.1.1) ⟨(i+1,t.text),hlt,by have:=a5Y hlt;rw [ht] at this;simp only;omega,l.length,by omega,hrr⟩ (by simp) ?_
 rintro ⟨⟨j,s⟩,hj,hs,f,hf,hp⟩;simp only at hj hs hf hp;have hsg:=oH (G:=G) l j [46] (by omega);have hj1:=bP (show j<9223372036854775807 by omega);have hj2:IntKind.i64.wrap ((j:Int)+2)=((j+2:Nat):Int):=by rw [wrap64 (by omega)];simp
 have hj3:IntKind.i64.wrap ((j:Int)+2+1)=((j+3:Nat):Int):=by rw [wrap64 (by omega)];omega
 simp;refine aI.mk bO hsg ?_
 cases hd:hU l j [46] with
 |false=>rw [c0g hd] at hp;cases hp;simp [a6P]
 |true=>
  have hjl:=oY hd;obtain ⟨f,rfl⟩:∃g,f=g+1:=⟨f-1,by omega⟩;rw [mG,if_pos hd] at hp;simp [hj1];by_cases hlt1:j+1<l.length;rotate_left
  ·rw [if_neg (by rw [c0f hlt1];simp),if_neg (by rw [c6h hlt1];simp)] at hp;cases hp;simp [hlt1,a6P]
  obtain ⟨u,hu⟩:∃u,l[j+1]=u:=⟨_,rfl⟩;have hgr:=c0d hs hlt1;rw [hu] at hgr;rw [c0e hlt1,b5b hlt1,c0b hlt1,hu] at hp;have hjoin:=d0L (G:=G) s [46] u.text (hl.le hgr);simp [hj1,hlt1,hu,cR];by_cases k1:u.kind=1
  ·simp [k1] at hp;simp [k1,hj1,hlt1,hu,cR,rg3];refine aI.mk jY hjoin ?_
   simp [hj2,k1];exact bR.mk ⟨(j+2,s++([46]++u.text)),hlt1,hgr,f,by omega,by simpa using hp⟩ (by simp [hj2]) (by simp;omega)
  by_cases k2:u.kind=2
  ·simp [k2] at hp;simp [k1,k2,hj1,hlt1,hu,cR,rg3];refine aI.mk jY hjoin ?_
   simp [hj2,k2];exact bR.mk ⟨(j+2,s++([46]++u.text)),hlt1,hgr,f,by omega,by simpa using hp⟩ (by simp [hj2]) (by simp;omega)
  by_cases k3:u.kind=3;rotate_left
  ·simp [k1,k2,k3] at hp;obtain ⟨rfl,rfl⟩:=hp;simp [k1,k2,k3,a6P]
  simp [k3] at hp;simp [k1,k2,k3,hj1,hlt1,hu,cR,rg3];refine aI.mk jY hjoin ?_
  simp [hj2,k3];by_cases hlt2:j+2<l.length;rotate_left
  ·rw [if_neg (by rw [c0f hlt2];simp)] at hp;have hlt2': ¬(j:Int)+2<(l.length:Int):=by omega
   simp [hlt2'];exact bR.mk ⟨(j+2,s++([46]++u.text)),hlt1,hgr,f,by omega,by simpa using hp⟩ (by simp [hj2]) (by simp;omega)
  have hlt2':(j:Int)+2<(l.length:Int):=by omega
  have hnn:(0:Int)≤(j:Int)+2:=by omega
  have htn:((j:Int)+2).toNat=j+2:=by omega
  obtain ⟨v,hv⟩:∃v,l[j+2]=v:=⟨_,rfl⟩;have hgr3:=b7L hgr hlt2;rw [hv] at hgr3;rw [c0e hlt2,c0b hlt2,hv] at hp;have hjoin2:=d0K (G:=G) (s++([46]++u.text)) v.text (hl.le hgr3);simp at hjoin2;simp [hlt2',hlt2,hnn,htn,hv,cR];by_cases m1:v.kind=1
  ·simp [m1] at hp;simp [m1,hlt2,hlt2',hnn,htn,hv,cR,rg2];refine aI.mk jY hjoin2 ?_
   simp [hj3];exact bR.mk ⟨(j+3,s++([46]++u.text)++v.text),hlt2,hgr3,f,by omega,by simpa using hp⟩ (by simp [hj3]) (by simp;omega)
  by_cases m2:v.kind=2
  ·simp [m2] at hp;simp [m1,m2,hlt2,hlt2',hnn,htn,hv,cR,rg2];refine aI.mk jY hjoin2 ?_
   simp [hj3];exact bR.mk ⟨(j+3,s++([46]++u.text)++v.text),hlt2,hgr3,f,by omega,by simpa using hp⟩ (by simp [hj3]) (by simp;omega)
  simp [m1,m2] at hp;simp [m1,m2,hlt2,hlt2',hnn,htn,hv,cR];exact bR.mk ⟨(j+2,s++([46]++u.text)),hlt1,hgr,f,by omega,by simpa using hp⟩ (by simp [hj2]) (by simp;omega)
end Go.Proofs.YtjpodcmhcenjjaaGreatDoor
end
section
namespace Go.Proofs.YtjpodcmhcenjjaaGreatDoor
open Go Go.VM
variable {G:GT}
def eE:Option (Pr×Nat)→Pr→DV
 |some (p,n),_=> .cT [.agg (prD p),.int .i64 n]
 |none,j=> .cT [.agg (prD j),.int .i64 (-1)]
def b2d:Option (List Pr×Nat)→DV
 |some (ks,n)=> .cT [.sl (ks.map rG),.int .i64 n]
 |none=> .cT [.sl [],.int .i64 (-1)]
theorem bY (o)(j):pO (eE o j)=true:=by
 cases o with
 |none=>rfl
 |some q=>obtain ⟨a,b⟩:=q;rfl
theorem a0Z (o):pO (b2d o)=true:=by
 cases o with
 |none=>rfl
 |some q=>obtain ⟨a,b⟩:=q;rfl
theorem c6m (l:List Pr):∀x:List D,x∈l.map rG→x.length=4:=fun x hx=>by
 obtain ⟨p,_,rfl⟩:=List.mem_map.1 hx;rw [gF]
 rfl
section
variable {l:List Tok} {f:Nat}
def AtC (G:GT)(l:List Tok)(f:Nat):Prop:=∀i k,1≤k→k≤9→k≠6→i≤l.length→mu l.length i k≤f→∃j,CS Tryz.prog G 198 [rdD l,.int .i64 i,.int .i64 k] (eE (mW bA l f i k) j) none
def CmC (G:GT)(l:List Tok)(f:Nat):Prop:=∀i,i≤l.length→mu l.length i 6≤f→∃j,CS Tryz.prog G 211 [rdD l,.int .i64 i] (eE (mW bA l f i 6) j) none
def PrC (G:GT)(l:List Tok)(f:Nat):Prop:=∀i,i≤l.length→mu l.length i 10≤f→∃j,CS Tryz.prog G 212 [rdD l,.int .i64 i] (eE (mW bA l f i 10) j) none
theorem tH:VM.Enters Tryz.prog 198:=VM.Enters.mk Tryz.func198 rfl
theorem a6Q:VM.Enters Tryz.prog 231:=VM.Enters.mk Tryz.func231 rfl
theorem d4T {L n:Nat}(h:n<L):mu L (n+1) 1=(L-n)*12+10:=by unfold mu;omega
theorem b7N (hl:a2E l)(hA:AtC G l f)(n:Nat)(hf:(l.length-n)*12+10≤f):CS Tryz.prog G 231 [rdD l,.int .i64 n] (b2d (oM (mW bA l f) l n)) none:=by
 have hll:=hl.1;obtain ⟨o,ho⟩:∃o,oM (mW bA l f) l n=o:=⟨_,rfl⟩;rw [ho];unfold oM at ho;have hsg:=oH (G:=G) l n [40] (by omega);refine CS.bH Tryz.func231 rfl Tryz.ntmps231 rfl ?_
 simp;refine aI.mk bO hsg ?_
 cases hd:hU l n [40] with
 |false=>rw [if_neg (by simp [hd])] at ho;subst ho;simp [b2d]
 |true=>
  have hnl:=oY hd;rw [if_pos hd] at ho;simp;refine SW.kJ (ι:={ p:Nat×List Pr // p.1<l.length∧(l.length-p.1)*12+10≤f∧p.2.length≤p.1∧∃g,l.length≤g+p.1∧eP (mW bA l f) l g p.1 p.2=o }) (fun p=>[(1,.d (.int .i64 p.1.1)),(6,.d (.sl (p.1.2.map rG)))]) (fun _=>[(2,.cells [.d (.sl (l.map cR))])]) (fun _=>[(43,[.t 6])]) (fun p=>l.length-p.1.1) ⟨(n,[]),hnl,hf,by simp,l.length,by omega,ho⟩ (by simp) ?_
  rintro ⟨⟨i,acc⟩,hi,hf,hal,g,hg,hR⟩;simp only at hi hf hal hg hR;have hi1:=bP (show i<9223372036854775807 by omega);obtain ⟨g,rfl⟩:∃h,g=h+1:=⟨g-1,by omega⟩;rw [eP] at hR;obtain ⟨jk,hat⟩:=hA (i+1) 1 (by omega) (by omega) (by omega) hi (by rw [d4T hi];exact hf);simp [hi1];refine aI.mk (hkl:=bY _ _) tH hat ?_
  cases hr:mW bA l f (i+1) 1 with
  |none=>rw [hr] at hR;simp only at hR;subst hR;simp [eE,b2d]
  |some q=>
   obtain ⟨p,m⟩:=q;have hadv:=oZ bA l f _ _ _ _ hr;rw [hr] at hR;simp only at hR;have hm1:=bP (show m<9223372036854775807 by omega);have hs1:=oH (G:=G) l m [41] (by omega);have hs2:=oH (G:=G) l m [44] (by omega);have hfour:=c6m acc;have hap:acc.map rG++[prD p]=(acc++[p]).map rG:=by simp [gF]
   simp [eE];have hsz:(acc.length+1)*57≤140737488355328:=by omega
   simp [hsz];refine aI.mk bO hs1 ?_
   cases hd1:hU l m [41] with
   |true=>rw [if_pos hd1] at hR;subst hR;simp [hm1,b2d,gF]
   |false=>
    rw [if_neg (by simp [hd1])] at hR;simp;refine aI.mk bO hs2 ?_
    cases hd2:hU l m [44] with
    |false=>rw [if_neg (by simp [hd2])] at hR;subst hR;simp [b2d]
    |true=>
     rw [if_pos hd2] at hR;have hml:=oY hd2;have hmu:(l.length-m)*12+10≤f:=by omega
     have hac:(acc++[p]).length≤m:=by simp;omega
     simp;exact bR.mk ⟨(m,acc++[p]),hml,hmu,hac,g,by omega,hR⟩ (by simp [gF]) (by simp;omega)
theorem a0l:VM.Enters Tryz.prog 213:=VM.Enters.mk Tryz.func213 rfl
theorem d0M {l:List Tok}{n k:Nat}:(match a0Y l n k with
  |none=>ixO l n (opL k) 0= -1
  |some op=>∃(q:Nat) (h:q<(opL k).length),ixO l n (opL k) 0=q∧(opL k)[q].1=op):=by
 have gen:∀(o:List (Int×List UInt8)) (i:Nat),(match (o.find? fun p=>hU l n p.2).map (·.1) with
   |none=>ixO l n o i= -1
   |some op=>∃(q:Nat) (h:q<o.length),ixO l n o i=((q+i:Nat):Int)∧o[q].1=op):=by
  intro o
  induction o with
  |nil=>intro i;rfl
  |cons p r ih=>
   intro i;rw [List.find?_cons,ixO];cases hs:hU l n p.2 with
   |true=>exact ⟨0,by simp,by simp,rfl⟩
   |false=>
    have:=ih (i+1);simp only [Bool.false_eq_true,if_false];cases ho:(r.find? fun p=>hU l n p.2).map (·.1) with
    |none=>rw [ho] at this;exact this
    |some op=>rw [ho] at this;obtain ⟨q,hq,h1,h2⟩:=this;exact ⟨q+1,by simpa using hq,by rw [h1];congr 1;omega,by simpa using h2⟩
 have:=gen (opL k) 0;unfold a0Y;cases ho:((opL k).find? fun p=>hU l n p.2).map (·.1) with
 |none=>rw [ho] at this;exact this
 |some op=>rw [ho] at this;simpa using this
theorem d0N (k:Nat):(opL k).length≤2:=by unfold opL;split<;>simp
def b5d (p:Pr)(z:Int):St:=⟨List.replicate 6 .undef++[.ptr 6 0,.d (.int .i64 0),.ptr 8 0,.ptr 9 0]++List.replicate 41 .undef,[(6,.cells [.d (.int .i64 0),.d (.str []),.d (.int .i64 0),.d .aN]),(8,.cells ((prD p).map .d)),(9,.cells [.d (.int .i64 z)])],[]⟩
theorem a2F (hl:a2E l)(hA:AtC G l f)(i k:Nat)(hk:1≤k∧k≤8∧k≠5)(hi:i≤l.length)(hf:mu l.length i k≤f+1):
  ∃j,CS Tryz.prog G 213 [rdD l,.int .i64 i,.int .i64 k] (eE ((mW bA l f i (k+1)).map fun q=>dH (mW bA l f) l k l.length q.1 q.2) j) none:=by
 have hll:=hl.1;obtain ⟨ja,hat⟩:=hA i (k+1) (by omega) (by omega) (by omega) hi (by unfold mu at hf ⊢;omega);refine ⟨ja,?_⟩;obtain ⟨o,ho⟩:∃o,((mW bA l f i (k+1)).map fun q=>dH (mW bA l f) l k l.length q.1 q.2)=o:=⟨_,rfl⟩;rw [ho];have hops:=a1z (G:=G) k;have hk1:=bP (show k<9223372036854775807 by omega);refine CS.b4h Tryz.func213 rfl Tryz.ntmps213 rfl ?_
 refine SW.pL (SW.vk ?_);simp;refine SW.pL (SW.vk ?_);simp [hk1];refine aI.mk (hkl:=bY _ _) tH hat ?_
 cases hr:mW bA l f i (k+1) with
 |none=>
  rw [hr] at ho;subst ho;simp [eE];refine b0S (b5d ja (-1)) (SW.vk ?_) ?_
  rotate_left
  ·skip
   refine SW.pL (b6R (by kernel_rfl) (by kernel_rfl) rfl rfl rfl rfl ⟨?_,?_⟩)
   ·simp [b5d,List.replicate];refine SW.vk ?_
    simp
   ·simp [b5d,List.replicate];refine SW.vk ?_
    simp
  simp;refine SW.kJ (ι:={ x:Unit // True }) (fun _=>[]) (fun _=>[(3,.cells [.d (.sl (l.map cR))]),(6,.cells [.d (.int .i64 0),.d (.str []),.d (.int .i64 0),.d .aN]),(8,.cells ((prD ja).map .d)),(9,.cells [.d (.int .i64 (-1))])]) (fun _=>[]) (fun _=>0) ⟨(),trivial⟩ (by simp) ?_
  rintro ⟨_,_⟩;simp [b5d,List.replicate]
 |some q=>
  obtain ⟨a,n⟩:=q;have hadv:=oZ bA l f _ _ _ _ hr;rw [hr] at ho;simp only [Option.map_some] at ho;obtain ⟨⟨rp,rn⟩,hres⟩:∃r,dH (mW bA l f) l k l.length a n=r:=⟨_,rfl⟩;rw [hres] at ho;subst ho;simp [eE];refine b0S (b5d rp rn) (SW.vk ?_) ?_
  rotate_left
  ·skip
   refine SW.pL (b6R (by kernel_rfl) (by kernel_rfl) rfl rfl rfl rfl ⟨?_,?_⟩)
   ·simp [b5d,List.replicate];refine SW.vk ?_
    simp
   ·simp [b5d,List.replicate];refine SW.vk ?_
    simp
  simp;refine SW.kJ (ι:={ p:Pr×Nat // p.2≤l.length∧i<p.2∧∃g,l.length≤g+p.2∧dH (mW bA l f) l k g p.1 p.2=(rp,rn) }) (fun _=>[]) (fun p=>[(3,.cells [.d (.sl (l.map cR))]),(6,.cells [.d (.int .i64 0),.d (.str []),.d (.int .i64 0),.d .aN]),(8,.cells ((prD p.1.1).map .d)),(9,.cells [.d (.int .i64 p.1.2)])]) (fun _=>[]) (fun p=>l.length-p.1.2) ⟨(a,n),hadv.2,hadv.1,l.length,by omega,hres⟩ (by simp) ?_
  rintro ⟨⟨a,n⟩,hn,hin,g,hg,hR⟩;simp only at hn hin hg hR;have hcx:=d0I (G:=G) l n (opL k) (d0H k) (by omega) (by have:=d0N k;omega);have hix:=d0M (l:=l) (n:=n) (k:=k);have hn1:=bP (show n<9223372036854775807 by omega)
  change CH _ _ _ ⟨[.d (.sl (a3w k)),_],_,_⟩ _ at hcx
  simp;refine aI.mk tG hops ?_
  simp;refine gD.ro c6k hcx [(100000,3),(100001,9)] (by simp) (by simp) (by simp) (by simp) (by simp) ?_
  cases hop:a0Y l n k with
  |none=>
   rw [hop] at hix;simp only at hix;have:(a,n)=(rp,rn):=by
    rw [← hR];cases g with
    |zero=>rfl
    |succ g=>rw [dH,hop]
   cases this;simp [hix,b5d,List.replicate]
  |some op=>
   rw [hop] at hix;obtain ⟨q,hq,hx,hqo⟩:=hix;obtain ⟨hnl,_,_⟩:=b3k hop;obtain ⟨g,rfl⟩:∃h,g=h+1:=⟨g-1,by omega⟩;rw [dH,hop] at hR;obtain ⟨jb,hat2⟩:=hA (n+1) (k+1) (by omega) (by omega) (by omega) hnl (by have:=wM (L:=l.length) (i:=i) (i':=n+1) (k:=k) (k':=k+1) (by omega) hnl (by omega) (by omega);omega)
   have hql:q<(a3w k).length:=by simpa [a3w] using hq
   have hqe:(a3w k)[q]=[.int .i64 op]:=by simp [a3w,hqo]
   simp [hx,hn1,hk1];refine aI.mk (hkl:=bY _ _) tH hat2 ?_
   cases hr2:mW bA l f (n+1) (k+1) with
   |none=>rw [hr2] at hR;cases hR;simp [eE,b5d,List.replicate]
   |some z=>
    obtain ⟨b,m⟩:=z;have hadv2:=oZ bA l f _ _ _ _ hr2;rw [hr2] at hR;simp only at hR;have htw:=rP (G:=G) op a b;simp [eE];refine ⟨mK.mk (by kernel_rfl),?_⟩;refine aI.mk tG hops ?_
    simp [hql,hqe];refine aI.mk qY htw ?_
    simp;exact bR.mk ⟨(tw op a b,m),hadv2.2,by simp only;omega,g,by simp only;omega,hR⟩ (by simp) (by simp;omega)
end
end Go.Proofs.YtjpodcmhcenjjaaGreatDoor
end
end
section
section
namespace Go.Proofs.YtjpodcmhcenjjaaGreatDoor
open Go Go.VM
variable {G:GT}
section
variable {l:List Tok} {f:Nat}
theorem b5e:VM.Enters Tryz.prog 211:=VM.Enters.mk Tryz.func211 rfl
def b0T (s:List UInt8):Option (Int×Bool):=(cmpL.find? fun p=>decide (s=p.1)).map (·.2)
theorem c6n {n:Nat}(h:n<l.length):tE l n=if l[n].kind=4 then b0T l[n].text else none:=by
 unfold tE b0T;by_cases hk:l[n].kind=4
 ·simp [c0a h,hk]
 ·simp [c0a h,hk]
theorem c6o {n:Nat}(h: ¬n<l.length):tE l n=none:=by unfold tE;simp [c6g h]
def b7O (l:List Tok)(a:Pr)(n:Nat)(op:Int)(ex:Bool):St:=⟨[.undef,.undef,.ptr 2 0,.undef,.ptr 4 0,.d (.int .i64 0),.ptr 6 0,.d (.int .i64 n),.d (.int .i64 op),.d (.bool ex)]++List.replicate 79 .undef,[(2,.cells [.d (.sl (l.map cR))]),(4,.cells [.d (.int .i64 0),.d (.str []),.d (.int .i64 0),.d .aN]),(6,.cells ((prD a).map .d))],[]⟩
theorem b7P (hl:a2E l)(hA:AtC G l f)(i:Nat)(hi:i≤l.length)(hf:mu l.length i 6≤f+1):
  ∃j,CS Tryz.prog G 211 [rdD l,.int .i64 i] (eE (yC (mW bA l f) l i) j) none:=by
 have hll:=hl.1;obtain ⟨ja,hat⟩:=hA i 7 (by omega) (by omega) (by omega) hi (by unfold mu at hf ⊢;omega);refine ⟨ja,?_⟩;obtain ⟨o,ho⟩:∃o,yC (mW bA l f) l i=o:=⟨_,rfl⟩;rw [ho];unfold yC at ho;refine CS.b4h Tryz.func211 rfl Tryz.ntmps211 rfl ?_
 refine SW.pL (SW.vk ?_);simp;refine SW.pL (SW.vk ?_);simp;refine aI.mk (hkl:=bY _ _) tH hat ?_
 cases hr:mW bA l f i 7 with
 |none=>
  rw [hr] at ho;subst ho;simp [eE];refine SW.vk ?_
  simp
 |some q=>
  obtain ⟨a,n⟩:=q;have hadv:=oZ bA l f _ _ _ _ hr;rw [hr] at ho;simp only at ho;simp [eE];by_cases hlt:n<l.length;rotate_left
  ·rw [c6o hlt] at ho;subst ho;have hge:l.length≤n:=Nat.le_of_not_lt hlt;refine SW.vk ?_
   simp [hge,eE]
  have hge: ¬l.length≤n:=by omega
  rw [c6n hlt] at ho;obtain ⟨t,ht⟩:∃t,l[n]=t:=⟨_,rfl⟩;rw [ht] at ho;by_cases hk:t.kind=4;rotate_left
  ·rw [if_neg hk] at ho;subst ho;refine SW.vk ?_
   simp [hge,hlt,ht,cR];simp [hk,eE]
  rw [if_pos hk] at ho;refine SW.pL (SW.vk ?_);simp [hge,hlt,ht,cR];simp [hk];refine SW.pL (SW.vk ?_);simp;cases hc:b0T t.text with
  |none=>rw [hc] at ho;simp only at ho;subst ho;simp [b0T,cmpL] at hc;obtain ⟨e1,e2,e3,e4,e5,e6⟩:=hc;refine SW.pL (SW.vk ?_);simp [hlt,ht,cR,e1,e2,e3,e4,e5,e6,eE]
  |some c=>
   obtain ⟨op,ex⟩:=c;rw [hc] at ho;simp only at ho;refine b0S (b7O l a n op ex) (SW.vk ?_) ?_
   ·simp [hlt,ht,cR];by_cases e1:t.text=[61]
    ·obtain ⟨rfl,rfl⟩:10=op∧false=ex:=by simpa [b0T,cmpL,e1] using hc
     simp [e1,b7O,List.replicate]
    by_cases e2:t.text=[33,61]
    ·obtain ⟨rfl,rfl⟩:11=op∧false=ex:=by simpa [b0T,cmpL,e2] using hc
     simp [e2,b7O,List.replicate]
    by_cases e3:t.text=[60]
    ·obtain ⟨rfl,rfl⟩:12=op∧false=ex:=by simpa [b0T,cmpL,e3] using hc
     simp [e3,hlt,ht,cR];refine ⟨mK.mk (by kernel_rfl),?_⟩;simp [e3,hlt,ht,cR,b7O,List.replicate]
    by_cases e4:t.text=[62]
    ·obtain ⟨rfl,rfl⟩:12=op∧true=ex:=by simpa [b0T,cmpL,e4] using hc
     simp [e4,hlt,ht,cR];refine ⟨mK.mk (by kernel_rfl),?_⟩;simp [e4,hlt,ht,cR,b7O,List.replicate]
    by_cases e5:t.text=[60,61]
    ·obtain ⟨rfl,rfl⟩:13=op∧false=ex:=by simpa [b0T,cmpL,e5] using hc
     simp [e5,hlt,ht,cR];refine ⟨mK.mk (by kernel_rfl),?_⟩;simp [e5,hlt,ht,cR,b7O,List.replicate]
    by_cases e6:t.text=[62,61]
    ·obtain ⟨rfl,rfl⟩:13=op∧true=ex:=by simpa [b0T,cmpL,e6] using hc
     simp [e6,hlt,ht,cR];refine ⟨mK.mk (by kernel_rfl),?_⟩;simp [e6,hlt,ht,cR,b7O,List.replicate]
    simp [b0T,cmpL,e1,e2,e3,e4,e5,e6] at hc
   have hn1:=bP (show n<9223372036854775807 by omega);obtain ⟨jb,hat2⟩:=hA (n+1) 7 (by omega) (by omega) (by omega) hlt (by have:=wM (L:=l.length) (i:=i) (i':=n+1) (k:=6) (k':=7) (by omega) hlt (by omega) (by omega);omega)
   refine SW.vk ?_
   simp [b7O,List.replicate,hn1];refine aI.mk (hkl:=bY _ _) tH hat2 ?_
   cases hr2:mW bA l f (n+1) 7 with
   |none=>rw [hr2] at ho;simp only at ho;subst ho;simp [eE]
   |some z=>
    obtain ⟨b,m⟩:=z;rw [hr2] at ho;simp only at ho;subst ho;cases ex with
    |false=>
     simp [eE];refine aI.mk qY (rP op a b) ?_
     simp
    |true=>
     simp [eE];refine aI.mk qY (rP op b a) ?_
     simp
end
end Go.Proofs.YtjpodcmhcenjjaaGreatDoor
end
section
namespace Go.Proofs.YtjpodcmhcenjjaaGreatDoor
open Go Go.VM
variable {G:GT}
section
variable {l:List Tok} {f:Nat}
theorem d2L {L i k f:Nat}(h:mu L i k≤f+1)(hk:k+1≤10):mu L i (k+1)≤f:=by have:=a5U (L:=L) (i:=i) (show k<k+1 by omega) hk;omega
theorem b7Q:VM.Enters Tryz.prog 212:=VM.Enters.mk Tryz.func212 rfl
theorem d6N (hl:a2E l)(hA:AtC G l f)(hC:CmC G l f)(hP:PrC G l f):AtC G l (f+1):=by
 have hll:=hl.1;intro i k h1 h9 h6 hi hf;obtain rfl|rfl|rfl|rfl|rfl|rfl|rfl|rfl:k=1∨k=2∨k=3∨k=4∨k=5∨k=7∨k=8∨k=9:=by omega
 ·skip
  obtain ⟨j,hc⟩:=a2F hl hA i 1 (by omega) hi hf;refine ⟨j,?_⟩;have he:mW bA l (f+1) i 1=(mW bA l f i (1+1)).map fun q=>dH (mW bA l f) l 1 l.length q.1 q.2:=rfl
  rw [he];refine CS.bH Tryz.func198 rfl Tryz.ntmps198 rfl ?_
  simp;refine aI.mk (hkl:=bY _ _) a0l hc ?_
  cases (mW bA l f i (1+1)).map fun q=>dH (mW bA l f) l 1 l.length q.1 q.2 with
  |none=>simp [eE]
  |some q=>obtain ⟨p,n⟩:=q;simp [eE]
 ·obtain ⟨ja,hat⟩:=hA i 3 (by omega) (by omega) (by omega) hi (by unfold mu at hf ⊢;omega);refine ⟨ja,?_⟩;obtain ⟨o,ho⟩:∃o,a6M (mW bA l f) l i=o:=⟨_,rfl⟩;have he:mW bA l (f+1) i 2=o:=ho;rw [he];unfold a6M at ho;refine CS.bH Tryz.func198 rfl Tryz.ntmps198 rfl ?_
  simp;refine aI.mk (hkl:=bY _ _) tH hat ?_
  cases hr:mW bA l f i 3 with
  |none=>rw [hr] at ho;subst ho;simp [eE]
  |some q=>
   obtain ⟨a,n⟩:=q;have hadv:=oZ bA l f _ _ _ _ hr;rw [hr] at ho;simp only at ho;have hsg:=oH (G:=G) l n [61,62] (by omega);simp [eE];refine aI.mk bO hsg ?_
   cases hd:hU l n [61,62] with
   |false=>rw [if_neg (by simp [hd])] at ho;subst ho;simp [eE]
   |true=>
    rw [if_pos hd] at ho;have hnl:=oY hd;have hn1:=bP (show n<9223372036854775807 by omega);obtain ⟨jb,hat2⟩:=hA (n+1) 2 (by omega) (by omega) (by omega) hnl (by have:=wM (L:=l.length) (i:=i) (i':=n+1) (k:=2) (k':=2) (by omega) hnl (by omega) (by omega);omega)
    simp [hn1];refine aI.mk (hkl:=bY _ _) tH hat2 ?_
    cases hr2:mW bA l f (n+1) 2 with
    |none=>rw [hr2] at ho;subst ho;simp [eE]
    |some z=>
     obtain ⟨b,m⟩:=z;rw [hr2] at ho;subst ho;simp [eE];refine aI.mk qY (rP 17 a b) ?_
     simp
 ·skip
  obtain ⟨j,hc⟩:=a2F hl hA i 3 (by omega) hi hf;refine ⟨j,?_⟩;have he:mW bA l (f+1) i 3=(mW bA l f i (3+1)).map fun q=>dH (mW bA l f) l 3 l.length q.1 q.2:=rfl
  rw [he];refine CS.bH Tryz.func198 rfl Tryz.ntmps198 rfl ?_
  simp;refine aI.mk (hkl:=bY _ _) a0l hc ?_
  cases (mW bA l f i (3+1)).map fun q=>dH (mW bA l f) l 3 l.length q.1 q.2 with
  |none=>simp [eE]
  |some q=>obtain ⟨p,n⟩:=q;simp [eE]
 ·skip
  obtain ⟨j,hc⟩:=a2F hl hA i 4 (by omega) hi hf;refine ⟨j,?_⟩;have he:mW bA l (f+1) i 4=(mW bA l f i (4+1)).map fun q=>dH (mW bA l f) l 4 l.length q.1 q.2:=rfl
  rw [he];refine CS.bH Tryz.func198 rfl Tryz.ntmps198 rfl ?_
  simp;refine aI.mk (hkl:=bY _ _) a0l hc ?_
  cases (mW bA l f i (4+1)).map fun q=>dH (mW bA l f) l 4 l.length q.1 q.2 with
  |none=>simp [eE]
  |some q=>obtain ⟨p,n⟩:=q;simp [eE]
 ·skip
  have hsg:=oH (G:=G) l i [33] (by omega);cases hd:hU l i [33] with
  |true=>
   have hil:=oY hd;have hi1:=bP (show i<9223372036854775807 by omega);obtain ⟨ja,hat⟩:=hA (i+1) 5 (by omega) (by omega) (by omega) hil (by have:=wM (L:=l.length) (i:=i) (i':=i+1) (k:=5) (k':=5) (by omega) hil (by omega) (by omega);omega)
   refine ⟨⟨0,[],0,[]⟩,?_⟩;have he:mW bA l (f+1) i 5=(mW bA l f (i+1) 5).map fun q=>((⟨14,[],0,[q.1]⟩:Pr),q.2):=by
    show (if hU l i [33]=true then _ else _)=_
    rw [if_pos hd]
   rw [he];rw [hd] at hsg;refine CS.bH Tryz.func198 rfl Tryz.ntmps198 rfl ?_
   simp;refine aI.mk bO hsg ?_
   simp [hi1];refine aI.mk (hkl:=bY _ _) tH hat ?_
   cases mW bA l f (i+1) 5 with
   |none=>simp [eE]
   |some q=>obtain ⟨p,n⟩:=q;simp [eE,rg1,gF]
  |false=>
   obtain ⟨j,hc⟩:=hC i hi (d2L hf (by omega));refine ⟨j,?_⟩;have he:mW bA l (f+1) i 5=mW bA l f i (5+1):=by
    show (if hU l i [33]=true then _ else _)=_
    rw [if_neg (by simp [hd])]
   rw [he];rw [hd] at hsg;refine CS.bH Tryz.func198 rfl Tryz.ntmps198 rfl ?_
   simp;refine aI.mk bO hsg ?_
   simp;refine aI.mk (hkl:=bY _ _) b5e hc ?_
   cases mW bA l f i (5+1) with
   |none=>simp [eE]
   |some q=>obtain ⟨p,n⟩:=q;simp [eE]
 ·skip
  obtain ⟨j,hc⟩:=a2F hl hA i 7 (by omega) hi hf;refine ⟨j,?_⟩;have he:mW bA l (f+1) i 7=(mW bA l f i (7+1)).map fun q=>dH (mW bA l f) l 7 l.length q.1 q.2:=rfl
  rw [he];refine CS.bH Tryz.func198 rfl Tryz.ntmps198 rfl ?_
  simp;refine aI.mk (hkl:=bY _ _) a0l hc ?_
  cases (mW bA l f i (7+1)).map fun q=>dH (mW bA l f) l 7 l.length q.1 q.2 with
  |none=>simp [eE]
  |some q=>obtain ⟨p,n⟩:=q;simp [eE]
 ·skip
  obtain ⟨j,hc⟩:=a2F hl hA i 8 (by omega) hi hf;refine ⟨j,?_⟩;have he:mW bA l (f+1) i 8=(mW bA l f i (8+1)).map fun q=>dH (mW bA l f) l 8 l.length q.1 q.2:=rfl
  rw [he];refine CS.bH Tryz.func198 rfl Tryz.ntmps198 rfl ?_
  simp;refine aI.mk (hkl:=bY _ _) a0l hc ?_
  cases (mW bA l f i (8+1)).map fun q=>dH (mW bA l f) l 8 l.length q.1 q.2 with
  |none=>simp [eE]
  |some q=>obtain ⟨p,n⟩:=q;simp [eE]
 ·skip
  have hsg:=oH (G:=G) l i [45] (by omega);cases hd:hU l i [45] with
  |true=>
   have hil:=oY hd;have hi1:=bP (show i<9223372036854775807 by omega);obtain ⟨ja,hat⟩:=hA (i+1) 9 (by omega) (by omega) (by omega) hil (by have:=wM (L:=l.length) (i:=i) (i':=i+1) (k:=9) (k':=9) (by omega) hil (by omega) (by omega);omega)
   refine ⟨⟨0,[],0,[]⟩,?_⟩;have he:mW bA l (f+1) i 9=(mW bA l f (i+1) 9).map fun q=>((⟨9,[],0,[q.1]⟩:Pr),q.2):=by
    show (if hU l i [45]=true then _ else _)=_
    rw [if_pos hd]
   rw [he];rw [hd] at hsg;refine CS.bH Tryz.func198 rfl Tryz.ntmps198 rfl ?_
   simp;refine aI.mk bO hsg ?_
   simp [hi1];refine aI.mk (hkl:=bY _ _) tH hat ?_
   cases mW bA l f (i+1) 9 with
   |none=>simp [eE]
   |some q=>obtain ⟨p,n⟩:=q;simp [eE,rg1,gF]
  |false=>
   obtain ⟨j,hc⟩:=hP i hi (d2L hf (by omega));refine ⟨j,?_⟩;have he:mW bA l (f+1) i 9=mW bA l f i (9+1):=by
    show (if hU l i [45]=true then _ else _)=_
    rw [if_neg (by simp [hd])]
   rw [he];rw [hd] at hsg;refine CS.bH Tryz.func198 rfl Tryz.ntmps198 rfl ?_
   simp;refine aI.mk bO hsg ?_
   simp;refine aI.mk (hkl:=bY _ _) b7Q hc ?_
   cases mW bA l f i (9+1) with
   |none=>simp [eE]
   |some q=>obtain ⟨p,n⟩:=q;simp [eE]
end
end Go.Proofs.YtjpodcmhcenjjaaGreatDoor
end
section
namespace Go.Proofs.YtjpodcmhcenjjaaGreatDoor
open Go Go.VM
variable {G:GT}
section
variable {l:List Tok} {f:Nat}
def b5f (rd:Nat→Nat→Option (Pr×Nat))(l:List Tok)(i:Nat):Option (Pr×Nat):=match pD bA l i with
 |none=>none
 |some (s,n)=>(match oM rd l n with
  |some (ks,m)=>some (⟨4,s,0,ks⟩,m)
  |none=>some (⟨3,s,0,[]⟩,n))
theorem b3m {L i n f:Nat}(hf:mu L i 10≤f+1)(hn:i<n)(hl:n≤L):(L-n)*12+10≤f:=by unfold mu at hf;omega
theorem c3m:VM.Enters Tryz.prog 232:=VM.Enters.mk Tryz.func232 rfl
theorem c3n (hG:G 1=some eB)(hl:a2E l)(hA:AtC G l f)(i:Nat)(hi:i≤l.length)(hf:mu l.length i 10≤f+1):
  CS Tryz.prog G 232 [rdD l,.int .i64 i] (eE (b5f (mW bA l f) l i) ⟨0,[],0,[]⟩) none:=by
 have hll:=hl.1;have hnm:=b7M (G:=G) hG l i hl hi;obtain ⟨o,ho⟩:∃o,b5f (mW bA l f) l i=o:=⟨_,rfl⟩;rw [ho];unfold b5f at ho;refine CS.bH Tryz.func232 rfl Tryz.ntmps232 rfl ?_
 simp;refine aI.mk (hkl:=wN _) a3k hnm ?_
 cases hn:pD bA l i with
 |none=>rw [hn] at ho;subst ho;simp [a6P,eE]
 |some q=>
  obtain ⟨s,n⟩:=q;have hadv:=oG hn;rw [hn] at ho;simp only at ho;have hli:=b7N (G:=G) hl hA n (b3m hf hadv.1 hadv.2);simp [a6P];refine aI.mk (hkl:=a0Z _) a6Q hli ?_
  cases hL:oM (mW bA l f) l n with
  |none=>rw [hL] at ho;subst ho;simp [b2d,eE]
  |some z=>obtain ⟨ks,m⟩:=z;rw [hL] at ho;subst ho;simp [b2d,eE]
theorem c0h (hG:G 1=some eB)(hl:a2E l)(hA:AtC G l f):PrC G l (f+1):=by
 have hll:=hl.1;intro i hi hf;obtain ⟨o,ho⟩:∃o,tF bA (mW bA l f) l i=o:=⟨_,rfl⟩;have he:mW bA l (f+1) i 10=o:=ho;rw [he];unfold tF at ho;by_cases hlt:i<l.length;rotate_left
 ·rw [List.getElem?_eq_none (by omega)] at ho;subst ho;have hge:l.length≤i:=Nat.le_of_not_lt hlt;refine ⟨⟨0,[],0,[]⟩,?_⟩;refine CS.bH Tryz.func212 rfl Tryz.ntmps212 rfl ?_
  simp [hge,eE]
 have hge: ¬l.length≤i:=by omega
 rw [d8H hlt] at ho;obtain ⟨t,ht⟩:∃t,l[i]=t:=⟨_,rfl⟩;rw [ht] at ho;simp only at ho;have hi1:=bP (show i<9223372036854775807 by omega);have hi2:IntKind.i64.wrap ((i:Int)+2)=((i+2:Nat):Int):=by rw [wrap64 (by omega)];simp
 have hi3:IntKind.i64.wrap ((i:Int)+3)=((i+3:Nat):Int):=by rw [wrap64 (by omega)];simp
 have hi4:IntKind.i64.wrap ((i:Int)+4)=((i+4:Nat):Int):=by rw [wrap64 (by omega)];simp
 by_cases k3:t.kind=3
 ·rw [if_pos k3] at ho;subst ho;refine ⟨⟨0,[],0,[]⟩,?_⟩;refine CS.bH Tryz.func212 rfl Tryz.ntmps212 rfl ?_
  simp [hge,hlt,ht,cR];simp [k3,hi1,eE]
 rw [if_neg k3] at ho;by_cases kt:t.kind=1∧t.text=[116,114,117,101]
 ·rw [if_pos kt] at ho;subst ho;refine ⟨⟨0,[],0,[]⟩,?_⟩;refine CS.bH Tryz.func212 rfl Tryz.ntmps212 rfl ?_
  simp [hge,hlt,ht,cR];simp [kt.1,kt.2,hi1,eE]
 rw [if_neg kt] at ho;by_cases kf:t.kind=1∧t.text=[102,97,108,115,101]
 ·rw [if_pos kf] at ho;subst ho;refine ⟨⟨0,[],0,[]⟩,?_⟩;refine CS.bH Tryz.func212 rfl Tryz.ntmps212 rfl ?_
  simp [hge,hlt,ht,cR];simp [kf.1,kf.2,hi1,eE]
 rw [if_neg kf] at ho;have hk:t.kind=1→ ¬t.text=[116,114,117,101]∧ ¬t.text=[102,97,108,115,101]:=fun h=>⟨fun e=>kt ⟨h,e⟩,fun e=>kf ⟨h,e⟩⟩
 have hsq:=oH (G:=G) l i [63] (by omega);have hsp:=oH (G:=G) l i [40] (by omega);cases hq:hU l i [63] with
 |true=>
  rw [if_pos hq] at ho;rw [hq] at hsq;have hnm:=b7M (G:=G) hG l (i+1) hl hlt;cases hn:pD bA l (i+1) with
  |none=>
   rw [hn] at ho hnm;subst ho;refine ⟨⟨0,[],0,[]⟩,?_⟩;refine CS.bH Tryz.func212 rfl Tryz.ntmps212 rfl ?_
   simp [hge,hlt,ht,cR];simp [k3];rcases Classical.em (t.kind=1) with k1|k1
   case' inl=>simp [k1,(hk k1).1,(hk k1).2]
   case' inr=>simp [k1]
   all_goals
    refine aI.mk bO hsq ?_
    simp [hi1];refine aI.mk (hkl:=wN _) a3k hnm ?_
    simp [a6P,eE]
  |some q=>
   obtain ⟨s,n⟩:=q;have hadv:=oG hn;rw [hn] at ho hnm;simp only at ho;have hli:=b7N (G:=G) hl hA n (b3m hf (by omega) hadv.2);cases hL:oM (mW bA l f) l n with
   |none=>
    rw [hL] at ho hli;subst ho;refine ⟨⟨5,s,0,[]⟩,?_⟩;refine CS.bH Tryz.func212 rfl Tryz.ntmps212 rfl ?_
    simp [hge,hlt,ht,cR];simp [k3];rcases Classical.em (t.kind=1) with k1|k1
    case' inl=>simp [k1,(hk k1).1,(hk k1).2]
    case' inr=>simp [k1]
    all_goals
     refine aI.mk bO hsq ?_
     simp [hi1];refine aI.mk (hkl:=wN _) a3k hnm ?_
     simp [a6P];refine aI.mk (hkl:=a0Z _) a6Q hli ?_
     simp [b2d,eE]
   |some z=>
    obtain ⟨ks,m⟩:=z;rw [hL] at ho hli;subst ho;refine ⟨⟨0,[],0,[]⟩,?_⟩;refine CS.bH Tryz.func212 rfl Tryz.ntmps212 rfl ?_
    simp [hge,hlt,ht,cR];simp [k3];rcases Classical.em (t.kind=1) with k1|k1
    case' inl=>simp [k1,(hk k1).1,(hk k1).2]
    case' inr=>simp [k1]
    all_goals
     refine aI.mk bO hsq ?_
     simp [hi1];refine aI.mk (hkl:=wN _) a3k hnm ?_
     simp [a6P];refine aI.mk (hkl:=a0Z _) a6Q hli ?_
     simp [b2d,eE]
 |false=>
 rw [if_neg (by simp [hq])] at ho;rw [hq] at hsq;cases hp:hU l i [40] with
 |false=>
  rw [if_neg (by simp [hp])] at ho;rw [hp] at hsp;have hnd:=c3n hG hl hA i hi hf;have hx:b5f (mW bA l f) l i=o:=ho;rw [hx] at hnd;refine ⟨⟨0,[],0,[]⟩,?_⟩;refine CS.bH Tryz.func212 rfl Tryz.ntmps212 rfl ?_
  simp [hge,hlt,ht,cR];simp [k3];rcases Classical.em (t.kind=1) with k1|k1
  case' inl=>simp [k1,(hk k1).1,(hk k1).2]
  case' inr=>simp [k1]
  all_goals
   refine aI.mk bO hsq ?_
   simp;refine aI.mk bO hsp ?_
   simp;refine aI.mk (hkl:=bY _ _) c3m hnd ?_
   cases o with
   |none=>simp [eE]
   |some q=>obtain ⟨p,n⟩:=q;simp [eE]
 |true=>
 rw [if_pos hp] at ho;rw [hp] at hsp;have hsm:=oH (G:=G) l (i+1) [45] (by omega);have hsc:=oH (G:=G) l (i+3) [41] (by omega);by_cases hneg:hU l (i+1) [45]=true∧kdB l (i+2) 3=true∧hU l (i+3) [41]=true
 ·rw [if_pos hneg] at ho;subst ho;obtain ⟨n1,n2,n3⟩:=hneg;have h2:=b4Z n2;rw [b5b h2] at n2;rw [d4R h2];obtain ⟨u,hu⟩:∃u,l[i+2]=u:=⟨_,rfl⟩;rw [hu] at n2 ⊢;have ku:u.kind=3:=of_decide_eq_true n2;rw [n1] at hsm;rw [n3] at hsc;have h2':(i:Int)+2<(l.length:Int):=by omega
  have hnn:(0:Int)≤(i:Int)+2:=by omega
  have htn:((i:Int)+2).toNat=i+2:=by omega
  refine ⟨⟨0,[],0,[]⟩,?_⟩;refine CS.bH Tryz.func212 rfl Tryz.ntmps212 rfl ?_
  simp [hge,hlt,ht,cR];simp [k3];rcases Classical.em (t.kind=1) with k1|k1
  case' inl=>simp [k1,(hk k1).1,(hk k1).2]
  case' inr=>simp [k1]
  all_goals
   refine aI.mk bO hsq ?_
   simp;refine aI.mk bO hsp ?_
   simp [hi1];refine aI.mk bO hsm ?_
   simp [hi2,h2,h2',hnn,htn,hu,ku,cR,hi3];refine aI.mk bO hsc ?_
   simp [hi2,h2,h2',hnn,htn,hu,ku,cR,hi4,eE]
 ·rw [if_neg hneg] at ho;obtain ⟨jp,hat⟩:=hA (i+1) 1 (by omega) (by omega) (by omega) hlt (by have:=wM (L:=l.length) (i:=i) (i':=i+1) (k:=10) (k':=1) (by omega) hlt (by omega) (by omega);omega)
  refine ⟨⟨0,[],0,[]⟩,?_⟩;have tail:∀n:Nat,CS Tryz.prog G 209 [rdD l,.int .i64 n,.str [41]] (.d (.bool (hU l n [41]))) none:=fun n=>oH (G:=G) l n [41] (by omega)
  cases n1:hU l (i+1) [45] with
  |false=>
   rw [n1] at hsm;refine CS.bH Tryz.func212 rfl Tryz.ntmps212 rfl ?_
   simp [hge,hlt,ht,cR];simp [k3];rcases Classical.em (t.kind=1) with k1|k1
   case' inl=>simp [k1,(hk k1).1,(hk k1).2]
   case' inr=>simp [k1]
   all_goals
    refine aI.mk bO hsq ?_
    simp;refine aI.mk bO hsp ?_
    simp [hi1];refine aI.mk bO hsm ?_
    simp [hi1];refine aI.mk (hkl:=bY _ _) tH hat ?_
    cases hr:mW bA l f (i+1) 1 with
    |none=>rw [hr] at ho;subst ho;simp [eE]
    |some q=>
     obtain ⟨p,n⟩:=q;have hadv:=oZ bA l f _ _ _ _ hr;have hcs:=tail n;rw [hr] at ho;simp only at ho;simp [eE];refine aI.mk bO hcs ?_
     cases hc:hU l n [41] with
     |false=>rw [if_neg (by simp [hc])] at ho;subst ho;simp [eE]
     |true=>rw [if_pos hc] at ho;subst ho;have hn1:=bP (show n<9223372036854775807 by omega);simp [hn1,eE]
  |true=>
  rw [n1] at hsm;have hnn:(0:Int)≤(i:Int)+2:=by omega
  have htn:((i:Int)+2).toNat=i+2:=by omega
  by_cases h2:i+2<l.length;rotate_left
  ·have h2': ¬(i:Int)+2<(l.length:Int):=by omega
   refine CS.bH Tryz.func212 rfl Tryz.ntmps212 rfl ?_
   simp [hge,hlt,ht,cR];simp [k3];rcases Classical.em (t.kind=1) with k1|k1
   case' inl=>simp [k1,(hk k1).1,(hk k1).2]
   case' inr=>simp [k1]
   all_goals
    refine aI.mk bO hsq ?_
    simp;refine aI.mk bO hsp ?_
    simp [hi1];refine aI.mk bO hsm ?_
    simp [hi1,hi2,h2'];refine aI.mk (hkl:=bY _ _) tH hat ?_
    cases hr:mW bA l f (i+1) 1 with
    |none=>rw [hr] at ho;subst ho;simp [eE]
    |some q=>
     obtain ⟨p,n⟩:=q;have hadv:=oZ bA l f _ _ _ _ hr;have hcs:=tail n;rw [hr] at ho;simp only at ho;simp [eE];refine aI.mk bO hcs ?_
     cases hc:hU l n [41] with
     |false=>rw [if_neg (by simp [hc])] at ho;subst ho;simp [eE]
     |true=>rw [if_pos hc] at ho;subst ho;have hn1:=bP (show n<9223372036854775807 by omega);simp [hn1,eE]
  have h2':(i:Int)+2<(l.length:Int):=by omega
  obtain ⟨u,hu⟩:∃u,l[i+2]=u:=⟨_,rfl⟩;by_cases ku:u.kind=3;rotate_left
  ·skip
   refine CS.bH Tryz.func212 rfl Tryz.ntmps212 rfl ?_
   simp [hge,hlt,ht,cR];simp [k3];rcases Classical.em (t.kind=1) with k1|k1
   case' inl=>simp [k1,(hk k1).1,(hk k1).2]
   case' inr=>simp [k1]
   all_goals
    refine aI.mk bO hsq ?_
    simp;refine aI.mk bO hsp ?_
    simp [hi1];refine aI.mk bO hsm ?_
    simp [hi1,hi2,h2,h2',hnn,htn,hu,ku,cR];refine aI.mk (hkl:=bY _ _) tH hat ?_
    cases hr:mW bA l f (i+1) 1 with
    |none=>rw [hr] at ho;subst ho;simp [eE]
    |some q=>
     obtain ⟨p,n⟩:=q;have hadv:=oZ bA l f _ _ _ _ hr;have hcs:=tail n;rw [hr] at ho;simp only at ho;simp [eE];refine aI.mk bO hcs ?_
     cases hc:hU l n [41] with
     |false=>rw [if_neg (by simp [hc])] at ho;subst ho;simp [eE]
     |true=>rw [if_pos hc] at ho;subst ho;have hn1:=bP (show n<9223372036854775807 by omega);simp [hn1,eE]
  have n3:hU l (i+3) [41]=false:=by
   cases n3:hU l (i+3) [41] with
   |false=>rfl
   |true=>exact absurd ⟨n1,by rw [b5b h2,hu];simp [ku],n3⟩ hneg
  rw [n3] at hsc;refine CS.bH Tryz.func212 rfl Tryz.ntmps212 rfl ?_
  simp [hge,hlt,ht,cR];simp [k3];rcases Classical.em (t.kind=1) with k1|k1
  case' inl=>simp [k1,(hk k1).1,(hk k1).2]
  case' inr=>simp [k1]
  all_goals
   refine aI.mk bO hsq ?_
   simp;refine aI.mk bO hsp ?_
   simp [hi1];refine aI.mk bO hsm ?_
   simp [hi2,h2,h2',hnn,htn,hu,ku,cR,hi3];refine aI.mk bO hsc ?_
   simp [hi1];refine aI.mk (hkl:=bY _ _) tH hat ?_
   cases hr:mW bA l f (i+1) 1 with
   |none=>rw [hr] at ho;subst ho;simp [eE]
   |some q=>
    obtain ⟨p,n⟩:=q;have hadv:=oZ bA l f _ _ _ _ hr;have hcs:=tail n;rw [hr] at ho;simp only at ho;simp [eE];refine aI.mk bO hcs ?_
    cases hc:hU l n [41] with
    |false=>rw [if_neg (by simp [hc])] at ho;subst ho;simp [eE]
    |true=>rw [if_pos hc] at ho;subst ho;have hn1:=bP (show n<9223372036854775807 by omega);simp [hn1,eE]
end
end Go.Proofs.YtjpodcmhcenjjaaGreatDoor
end
end
section
section
namespace Go.Proofs.YtjpodcmhcenjjaaGreatDoor
def Nod (rd:Nat→Nat→Option (Pr×Nat)):Prop:=∀i k p n,rd i k=some (p,n)→dM p+i≤n
theorem c0i (op:Int)(a b:Pr):dM (tw op a b)=dM a+dM b+1:=by simp [tw,dM,eM];omega
theorem c1n (op:Int)(a:Pr):dM ⟨op,[],0,[a]⟩=dM a+1:=by simp [dM,eM];omega
theorem a2G (op:Int)(s:List UInt8)(n:Int):dM ⟨op,s,n,[]⟩=1:=by simp [dM,eM]
theorem c1o (op:Int)(s:List UInt8)(ks:List Pr):dM ⟨op,s,0,ks⟩=eM ks+1:=by simp [dM];omega
section
variable {kw:List UInt8→Bool} {rd:Nat→Nat→Option (Pr×Nat)} {l:List Tok}
theorem b3n (h:Nod rd)(k:Nat):∀(g:Nat) (a:Pr) (n i:Nat),dM a+i≤n→dM (dH rd l k g a n).1+i≤(dH rd l k g a n).2
 |0,a,n,i,hn=>hn
 |g+1,a,n,i,hn=>by
  rw [dH];split
  ·exact hn
  ·split
   ·exact hn
   ·rename_i op _ _ b m hr;have h1:=h _ _ _ _ hr;exact b3n h k g (tw op a b) m i (by rw [c0i];omega)
theorem b7R (h:Nod rd):∀(g i:Nat) (acc ks:List Pr) (m b:Nat),eM acc+b≤i→eP rd l g i acc=some (ks,m)→eM ks+b+1≤m
 |0,_,_,_,_,_,_,hr=>by cases hr
 |g+1,i,acc,ks,m,b,hb,hr=>by
  rw [eP] at hr;split at hr
  ·cases hr
  ·rename_i p n hp;have h1:=h _ _ _ _ hp;have h2:eM (acc++[p])=eM acc+dM p:=by rw [a6x];simp [eM]
   split at hr
   ·cases hr;omega
   ·split at hr
    ·exact b7R h g n _ ks m b (by omega) hr
    ·cases hr
theorem b7S (h:Nod rd){i m:Nat}{ks:List Pr}(hr:oM rd l i=some (ks,m)):eM ks+i+1≤m:=by
 unfold oM at hr;split at hr
 ·exact b7R h _ _ _ _ _ _ (by simp [eM]) hr
 ·cases hr
theorem c6p (h:Nod rd){i n:Nat}{p:Pr}(hr:tF kw rd l i=some (p,n)):dM p+i≤n:=by
 unfold tF at hr;split at hr
 ·cases hr
 ·split at hr
  ·cases hr;rw [a2G];omega
  split at hr
  ·cases hr;rw [a2G];omega
  split at hr
  ·cases hr;rw [a2G];omega
  split at hr
  ·split at hr
   ·cases hr
   ·rename_i s m hn;have h1:=oG hn;rw [d8C] at hr;obtain ⟨⟨ks,q⟩,hq,he⟩:=hr;have h2:=b7S h hq;cases he;rw [c1o];simp only at *;omega
  split at hr
  ·split at hr
   ·cases hr;rw [a2G];omega
   ·split at hr
    ·cases hr
    ·rename_i q m hq;have h1:=h _ _ _ _ hq;split at hr
     ·cases hr;omega
     ·cases hr
  ·split at hr
   ·cases hr
   ·rename_i s m hn;have h1:=oG hn;split at hr
    ·rename_i ks q hq;have h2:=b7S h hq;cases hr;rw [c1o];omega
    ·cases hr;rw [a2G];omega
theorem d4U (h:Nod rd){i k n:Nat}{p:Pr}(hr:atG kw rd l i k=some (p,n)):dM p+i≤n:=by
 unfold atG at hr;split at hr
 ·unfold a6M at hr;split at hr
  ·cases hr
  ·rename_i a m ha;have h1:=h _ _ _ _ ha;split at hr
   ·split at hr
    ·rename_i b q hb;have h2:=h _ _ _ _ hb;cases hr;rw [c0i];omega
    ·cases hr;exact h1
   ·cases hr;exact h1
 ·split at hr
  ·rw [d8C] at hr;obtain ⟨⟨a,m⟩,ha,he⟩:=hr;have h1:=h _ _ _ _ ha;cases he;rw [c1n];simp only;omega
  ·exact h _ _ _ _ hr
 ·unfold yC at hr;split at hr
  ·cases hr
  ·rename_i a m ha;have h1:=h _ _ _ _ ha;split at hr
   ·cases hr;exact h1
   ·split at hr
    ·cases hr;exact h1
    ·rename_i b q hb;have h2:=h _ _ _ _ hb;cases hr;split<;>rw [c0i]<;>omega
 ·split at hr
  ·rw [d8C] at hr;obtain ⟨⟨a,m⟩,ha,he⟩:=hr;have h1:=h _ _ _ _ ha;cases he;rw [c1n];simp only;omega
  ·exact h _ _ _ _ hr
 ·exact c6p h hr
 ·rw [d8C] at hr;obtain ⟨⟨a,m⟩,ha,he⟩:=hr;have h1:=h _ _ _ _ ha;have h2:=b3n (l:=l) h k l.length a m i h1;simp only at he;rw [he] at h2;exact h2
end
theorem b5g (kw:List UInt8→Bool)(l:List Tok):∀f,Nod (mW kw l f)
 |0=>fun _ _ _ _ h=>by cases h
 |f+1=>fun _ _ _ _ h=>d4U (b5g kw l f) h
end Go.Proofs.YtjpodcmhcenjjaaGreatDoor
end
section
namespace Go.Proofs.YtjpodcmhcenjjaaGreatDoor
theorem c6q (s:List UInt8):(kQ s).length≤s.length:=by
 unfold kQ;cases h:dY.find? fun t=>t.isPrefixOf s with
 |none=>simp
 |some t=>have h1:t.isPrefixOf s=true:=List.find?_some (p:=fun t:List UInt8=>t.isPrefixOf s) h;exact (List.isPrefixOf_iff_prefix.1 h1).length_le
theorem c3o (num:List UInt8→Int×Bool)(c:UInt8)(r:List UInt8):(firstT num (c::r)).2.1.length≤r.length+1:=by
 have h1:∀p:UInt8→Bool,((c::r).takeWhile p).length≤r.length+1:=fun p=>(List.takeWhile_sublist p).length_le
 have h2:(kQ (c::r)).length≤r.length+1:=c6q (c::r)
 show (if smU c then _ else _:Int×List UInt8×Int×Bool).2.1.length≤_
 split
 ·exact h1 _
 split
 ·exact h1 _
 split
 ·exact h1 _
 split
 ·simp
 ·exact h2
theorem uF (num:List UInt8→Int×Bool):∀(s:List UInt8) (k:Nat) (ln:Int) (cm:Bool) (l:List Tok),dL num s k ln cm= .ok l→1≤l.length∧l.length≤s.length+1∧txS l≤2*(s.length-k)+1
 |[],k,ln,cm,l,h=>by cases k<;>(simp [dL] at h;subst h;simp [txS])
 |c::r,k+1,ln,cm,l,h=>by rw [dL] at h;obtain ⟨h1,h2,h3⟩:=uF num r k ln cm l h;simp only [List.length_cons];omega
 |c::r,0,ln,cm,l,h=>by
  rw [dL] at h;simp only [List.length_cons];split at h
  ·obtain ⟨h1,h2,h3⟩:=uF num r 0 (ln+1) false l h;omega
  split at h
  ·obtain ⟨h1,h2,h3⟩:=uF num r 0 ln cm l h;omega
  split at h
  ·obtain ⟨h1,h2,h3⟩:=uF num r 0 ln true l h;omega
  split at h
  ·generalize hT:(firstT num (c::r)).2.1=T at h;split at h
   ·rename_i l' hl';obtain ⟨h1,h2,h3⟩:=uF num r (T.length-1) ln false l' hl';cases h;have hTl:T.length≤r.length+1:=by rw [← hT];exact c3o num c r
    simp only [List.length_cons,txS];omega
   ·cases h
  ·cases h
end Go.Proofs.YtjpodcmhcenjjaaGreatDoor
end
section
namespace Go.Proofs.YtjpodcmhcenjjaaGreatDoor
open Go Go.VM
variable {G:GT}
theorem b0U (hG:G 1=some eB){l:List Tok}(hl:a2E l):∀f,AtC G l f∧CmC G l f∧PrC G l f
 |0=>⟨fun i k _ h9 _ hi h=>by unfold mu at h;omega,fun i hi h=>by unfold mu at h;omega,fun i hi h=>by unfold mu at h;omega⟩
 |f+1=>by obtain ⟨hA,hC,hP⟩:=b0U hG hl f;exact ⟨d6N hl hA hC hP,fun i hi h=>b7P hl hA i hi h,c0h hG hl hA⟩
def a7W (l:List Tok):Option (Pr×Nat):=mW bA l (mu l.length 0 1) 0 1
theorem d4V (hG:G 1=some eB){l:List Tok}(hl:a2E l):∃j,CS Tryz.prog G 198 [rdD l,.int .i64 0,.int .i64 1] (eE (a7W l) j) none:=
 (b0U hG hl _).1 0 1 (by omega) (by omega) (by omega) (by omega) (d8T _)
theorem a6R {l:List Tok}{p:Pr}{n:Nat}(h:a7W l=some (p,n)):0<n∧n≤l.length:=oZ bA l _ _ _ _ _ h
def b7T (l:List Tok):DV:=match a7W l with
 |none=> .cT [.agg (prD ⟨0,[],0,[]⟩),.int .i64 0,.int .i64 14]
 |some (p,n)=>if a6C p=0 then .cT [.agg (prD p),.int .i64 n,.int .i64 0] else .cT [.agg (prD ⟨0,[],0,[]⟩),.int .i64 0,.int .i64 (a6C p)]
theorem a5Z:VM.Enters Tryz.prog 186:=VM.Enters.mk Tryz.func186 rfl
theorem a6S (hG:G 1=some eB)(l:List Tok)(hl:a2E l)(hn:∀p n,a7W l=some (p,n)→dM p≤1000000):CS Tryz.prog G 186 [.sl (l.map cR)] (b7T l) none:=by
 obtain ⟨j,hat⟩:=d4V hG hl;obtain ⟨o,ho⟩:∃o,a7W l=o:=⟨_,rfl⟩;rw [ho] at hat hn;unfold b7T;rw [ho];refine CS.bH Tryz.func186 rfl Tryz.ntmps186 rfl ?_
 simp;refine aI.mk (hkl:=bY _ _) tH hat ?_
 cases o with
 |none=>simp [eE]
 |some q=>
  obtain ⟨p,n⟩:=q;have hck:=b1P hG p (hn p n rfl);simp [eE];refine aI.mk b0h hck ?_
  by_cases h0:a6C p=0
  ·simp [h0]
  ·simp [h0]
end Go.Proofs.YtjpodcmhcenjjaaGreatDoor
end
section
namespace Go.Proofs.YtjpodcmhcenjjaaGreatDoor
open Go Go.VM
variable {G:GT}
theorem c6r {s:List UInt8}{l:List Tok}(h:dL gN s 0 1 false= .ok l)(hs:s.length≤40000):a2E l∧1≤l.length:=by obtain ⟨h1,h2,h3⟩:=uF gN s 0 1 false l h;exact ⟨⟨by omega,by omega⟩,h1⟩
theorem c3p {l:List Tok}{p:Pr}{n:Nat}(h:a7W l=some (p,n)):dM p≤l.length:=by have h1:=b5g bA l _ _ _ _ _ h;have h2:=a6R h;omega
end Go.Proofs.YtjpodcmhcenjjaaGreatDoor
end
end
namespace Go.Proofs.YtjpodcmhcenjjaaGreatDoor
section
def tL (l:List Tok)(i e:Nat):mH Pr:=match a7W ((l.take e).drop (min i e)) with
 |none=> .bad (aK l i).line 14
 |some (p,n)=>if a6C p=0 then .ok p (i+n) else .bad (aK l i).line (a6C p)
end
section
open Go Go.VM
variable {G:GT}
theorem b0V (a b:List Tok):txS (a++b)=txS a+txS b:=by
 induction a with
 |nil=>simp [txS]
 |cons t r ih=>simp only [List.cons_append,txS,ih];omega
theorem c6s {l:List Tok}(h:a2E l)(e k:Nat):a2E ((l.take e).drop k):=by have h1:=b0V (l.take e) (l.drop e);rw [List.take_append_drop] at h1;have h2:=b0V ((l.take e).take k) ((l.take e).drop k);rw [List.take_append_drop] at h2;refine ⟨?_,by have:=h.2;omega⟩;have:=h.1;simp;omega
theorem b2e (l:List Tok):pO (b7T l)=true:=by
 unfold b7T;split
 ·rfl
 ·split<;>rfl
theorem b5h (hG:G 1=some eB){l:List Tok}(hok:a2E l)(i e:Nat)(hi:i<l.length)(he:e≤l.length):pS G 155 [.int .i64 e] l i (tL l i e) d4G:=by
 have hl:=hok.1;obtain ⟨k,hk⟩:∃k,min i e=k:=⟨_,rfl⟩;have hke:k≤e:=by omega
 have hmin:min (i:Int) (e:Int)=(k:Int):=by omega
 obtain ⟨L,hL⟩:∃L,(l.take e).drop k=L:=⟨_,rfl⟩;have hokL:a2E L:=by rw [← hL];exact c6s hok e k
 have hrd:=a6S (G:=G) hG L hokL (fun p n h=>Nat.le_trans (c3p h) (by have:=hokL.1;omega));have hLm:((l.map cR).take e).drop k=L.map cR:=by rw [← hL,List.map_drop,List.map_take]
 rw [← hLm] at hrd;have hsel:(if e<i then (e:Int) else (i:Int))=(k:Int):=by split<;>omega
 have ht:=cO (G:=G) l i i 0 (by omega) (by omega) (by intro e;subst e;simp at hi) (by omega);refine kM.a3I Tryz.func155 rfl Tryz.ntmps155 rfl (by simp) ?_
 intro Q Q0;unfold tL at Q0;rw [hk,hL] at Q0;refine SW.pL (SW.xk ?_);simp;refine SW.pL (SW.vk ?_);simp [hmin,hke,he,hsel,a2y];refine ⟨mK.mk (by kernel_rfl),?_⟩;refine aI.mk (hkl:=b2e L) a5Z hrd ?_
 unfold b7T;cases hR:a7W L with
 |none=>
  rw [hR] at Q0;simp;refine SW.pL (SW.pL (SW.xk ?_));simp;refine SW.a3N rfl ?_
  refine SW.lw (LW.app 5 ?_);simp;refine b4y (i:=i) (ds:=[.int .i64 0]) bS ht (by simp) (by simp) (by simp) ?_
  have hb:=fun s=>Q0.bad (aK l i).line 14 s rfl
  simp [cR];refine LW.b9u (td:=_) (n:=(aK l i).line) (e:=14) rfl rfl (by simp) (by simp) ?_
  exact hb _
 |some q=>
  obtain ⟨p,n⟩:=q;have hn:=a6R hR;have hLl:L.length≤e-k:=by rw [← hL];simp;omega
  rw [hR] at Q0;simp only at Q0 ⊢;by_cases hc:a6C p=0
  ·have Q0:=Q0.ifp hc;have hw:IntKind.i64.wrap ((i:Int)+(n:Int))=((i+n:Nat):Int):=by rw [wrap64 (by omega)];omega
   rw [if_pos hc];simp;refine SW.xk ?_
   simp [hw];exact Q0.ok p (i+n) _ _ rfl (.inr rfl) (by simp)
  ·have Q0:=Q0.yD hc;rw [if_neg hc];simp;refine SW.pL (SW.pL (SW.xk ?_));simp [hc];refine SW.a3N rfl ?_
   refine SW.lw (LW.app 5 ?_);simp;refine b4y (i:=i) (ds:=[.int .i64 0]) bS ht (by simp) (by simp) (by simp) ?_
   have hb:=fun s=>Q0.bad (aK l i).line (a6C p) s rfl
   simp [cR];refine LW.b9u (td:=_) (n:=(aK l i).line) (e:=a6C p) rfl rfl (by simp) (by simp) ?_
   exact hb _
end
section
def a6a (l:List Tok):Prop:=∀t,l[l.length-1]? =some t→t.kind=0
theorem a6T {l:List Tok}(hE:a6a l){i:Nat}{t:Tok}(h:l[i]? =some t)(hk:t.kind≠0):i+1<l.length:=by
 have hi:=(d8E.1 h).1;rcases Nat.lt_or_ge (i+1) l.length with h1|h1
 ·exact h1
 ·have:l.length-1=i:=by omega
  exact (hk (hE t (by rw [this];exact h))).elim
theorem a8C {l:List Tok}(hE:a6a l){i:Nat}{s:List UInt8}(h:hU l i s=true):i+1<l.length:=by
 unfold hU at h;split at h
 ·rename_i t ht;simp only [d8D,decide_eq_true_eq] at h;exact a6T hE ht (by omega)
 ·cases h
theorem c1p {l:List Tok}(hE:a6a l){i:Nat}{k:Int}(h:kdB l i k=true)(hk:k≠0:=by omega):i+1<l.length:=by
 unfold kdB at h;split at h
 ·rename_i t ht;simp only [decide_eq_true_eq] at h;exact a6T hE ht (by omega)
 ·cases h
theorem b5i {l:List Tok}(hE:a6a l){i:Nat}(h:wtB l i=true):i+1<l.length:=by unfold wtB at h;rw [d8P] at h;rcases h with h|h<;>exact c1p hE h
theorem a1a {l:List Tok}(hE:a6a l):∀(f i:Nat) (s:List UInt8),i<l.length→i≤(mG l f i s).2∧(mG l f i s).2<l.length
 |0,i,s,h=>⟨d8T _,h⟩
 |f+1,i,s,h=>by
  rw [mG];split
  ·rename_i h1;have:=a8C hE h1;split
   ·rename_i h2;have:=b5i hE h2;have:=a1a hE (l:=l) f (i+2) (s++[46]++txA l (i+1)) (by omega);omega
   ·split
    ·rename_i h3;have:=c1p hE h3;split
     ·rename_i h4;have:=b5i hE h4;have:=a1a hE (l:=l) f (i+3) (s++[46]++txA l (i+1)++txA l (i+2)) (by omega);omega
     ·have:=a1a hE (l:=l) f (i+2) (s++[46]++txA l (i+1)) (by omega);omega
    ·exact ⟨d8T _,h⟩
  ·exact ⟨d8T _,h⟩
theorem b3o {kw:List UInt8→Bool}{l:List Tok}(hE:a6a l){i n:Nat}{s:List UInt8}(h:pD kw l i=some (s,n)):i<n∧n<l.length:=by
 unfold pD at h;split at h
 ·rename_i hb;unfold a8o at hb;rw [d8D] at hb;have h1:=b5i hE hb.1;have h2:=a1a hE (l:=l) l.length (i+1) (txA l i) (by omega);rw [d8J] at h;rw [h] at h2;simp only at h2;omega
 ·cases h
def c3q (l:List Tok)(rd:Nat→Nat→Option (Pr×Nat)):Prop:=∀i k p n,rd i k=some (p,n)→i<n∧n<l.length
section
variable {kw:List UInt8→Bool} {rd rd':Nat→Nat→Option (Pr×Nat)} {l:List Tok}
theorem b0W (hE:a6a l)(h:c3q l rd)(k:Nat):∀(g:Nat) (a:Pr) (n:Nat),n<l.length→n≤(dH rd l k g a n).2∧(dH rd l k g a n).2<l.length
 |0,a,n,hn=>⟨d8T _,hn⟩
 |g+1,a,n,hn=>by
  rw [dH];split
  ·exact ⟨d8T _,hn⟩
  ·split
   ·exact ⟨d8T _,hn⟩
   ·rename_i op _ _ b m hr;have h1:=h _ _ _ _ hr;have h2:=b0W hE h k g (tw op a b) m h1.2;omega
theorem b3p (hE:a6a l)(h:c3q l rd):∀(g i:Nat) (acc ks:List Pr) (m:Nat),eP rd l g i acc=some (ks,m)→i<m∧m<l.length
 |0,_,_,_,_,hr=>by cases hr
 |g+1,i,acc,ks,m,hr=>by
  rw [eP] at hr;split at hr
  ·cases hr
  ·rename_i p n hp;have h1:=h _ _ _ _ hp;split at hr
   ·rename_i hs;have:=a8C hE hs;cases hr;omega
   ·split at hr
    ·have:=b3p hE h g n _ ks m hr;omega
    ·cases hr
theorem b3q (hE:a6a l)(h:c3q l rd){i m:Nat}{ks:List Pr}(hr:oM rd l i=some (ks,m)):i<m∧m<l.length:=by
 unfold oM at hr;split at hr
 ·exact b3p hE h _ _ _ _ _ hr
 ·cases hr
theorem c3r (hE:a6a l)(h:c3q l rd){i n:Nat}{p:Pr}(hr:tF kw rd l i=some (p,n)):i<n∧n<l.length:=by
 unfold tF at hr;split at hr
 ·cases hr
 ·rename_i t ht;have hil:=(d8E.1 ht).1;have hnx:∀x:Int,x≠0→t.kind=x→i+1<l.length:=fun x hx hk=>a6T hE ht (by omega)
  split at hr
  ·rename_i hk;have:=hnx 3 (by omega) hk;cases hr;omega
  split at hr
  ·rename_i hk;have:=hnx 1 (by omega) hk.1;cases hr;omega
  split at hr
  ·rename_i hk;have:=hnx 1 (by omega) hk.1;cases hr;omega
  split at hr
  ·split at hr
   ·cases hr
   ·rename_i s m hn;have h1:=b3o hE hn;rw [d8C] at hr;obtain ⟨⟨ks,q⟩,hq,he⟩:=hr;have h2:=b3q hE h hq;cases he;simp only at *;omega
  split at hr
  ·split at hr
   ·rename_i hc;have:=a8C hE hc.2.2;cases hr;omega
   ·split at hr
    ·cases hr
    ·rename_i q m hq;have h1:=h _ _ _ _ hq;split at hr
     ·rename_i hs;have:=a8C hE hs;cases hr;omega
     ·cases hr
  ·split at hr
   ·cases hr
   ·rename_i s m hn;have h1:=b3o hE hn;split at hr
    ·rename_i ks q hq;have h2:=b3q hE h hq;cases hr;omega
    ·cases hr;omega
theorem d0O (hE:a6a l)(h:c3q l rd){i k n:Nat}{p:Pr}(hr:atG kw rd l i k=some (p,n)):i<n∧n<l.length:=by
 unfold atG at hr;split at hr
 ·unfold a6M at hr;split at hr
  ·cases hr
  ·rename_i a m ha;have h1:=h _ _ _ _ ha;split at hr
   ·split at hr
    ·rename_i b q hb;have h2:=h _ _ _ _ hb;cases hr;omega
    ·cases hr;exact h1
   ·cases hr;exact h1
 ·split at hr
  ·rw [d8C] at hr;obtain ⟨⟨a,m⟩,ha,he⟩:=hr;have h1:=h _ _ _ _ ha;cases he;simp only;omega
  ·exact h _ _ _ _ hr
 ·unfold yC at hr;split at hr
  ·cases hr
  ·rename_i a m ha;have h1:=h _ _ _ _ ha;split at hr
   ·cases hr;exact h1
   ·split at hr
    ·cases hr;exact h1
    ·rename_i b q hb;have h2:=h _ _ _ _ hb;cases hr;omega
 ·split at hr
  ·rw [d8C] at hr;obtain ⟨⟨a,m⟩,ha,he⟩:=hr;have h1:=h _ _ _ _ ha;cases he;simp only;omega
  ·exact h _ _ _ _ hr
 ·exact c3r hE h hr
 ·rw [d8C] at hr;obtain ⟨⟨a,m⟩,ha,he⟩:=hr;have h1:=h _ _ _ _ ha;have h2:=b0W (k:=k) hE h l.length a m h1.2;have h3:(dH rd l k l.length a m).2=n:=by rw [he]
  omega
end
theorem b7U (kw:List UInt8→Bool)(l:List Tok)(hE:a6a l):∀f,c3q l (mW kw l f)
 |0=>fun _ _ _ _ h=>by cases h
 |f+1=>fun _ _ _ _ h=>d0O hE (b7U kw l hE f) h
end
section
theorem b5j {l:List Tok}(hE:a6a l)(e i:Nat)(p:Pr)(j:Nat)(hi:i<l.length)(h:tL l i e= .ok p j):i≤j∧j<l.length:=by
 unfold tL at h;split at h
 ·cases h
 ·rename_i q n hr;split at h
  ·cases h;refine ⟨by omega,?_⟩;have h1:=a6R hr;rw [List.length_drop,List.length_take] at h1;rcases Nat.lt_or_ge e l.length with he|he
   ·omega
   ·have hmin:min i e=i:=by omega
    rw [hmin,List.take_of_length_le he] at hr;have hS:a6a (l.drop i):=fun t ht=>by rw [List.length_drop,d8W] at ht;exact hE t (by rw [show l.length-1=i+(l.length-i-1) by omega];exact ht)
    have h2:=(b7U bA (l.drop i) hS _ _ _ _ _ hr).2;rw [List.length_drop] at h2;omega
  ·cases h
def dU {α:Type}(x:List Tok→aR α)(s:List UInt8):mH α:=if 40000<s.length then .bad 0 7 else match dL gN s 0 1 false with
 | .error n=> .bad n 14
 | .ok l=>match x l 0 with
  | .bad n e=> .bad n e
  | .ok a j=>match a0d l j with
   | .bad n e=> .bad n e
   | .ok _ _=> .ok a j
theorem b3r {α:Type}{x:List Tok→aR α}{s:List UInt8}{a:α}{j:Nat}(h:dU x s= .ok a j): ¬40000<s.length∧∃l,dL gN s 0 1 false= .ok l∧x l 0= .ok a j∧(aK l j).kind=0:=by
 unfold dU at h;split at h
 ·cases h
 ·rename_i hl;split at h
  ·cases h
  ·rename_i l hlx;split at h
   ·cases h
   ·rename_i b k hx;split at h
    ·cases h
    ·rename_i u m he;cases h;refine ⟨hl,l,hlx,hx,?_⟩;unfold a0d at he;split at he
     ·assumption
     ·unfold cH at he;cases he
theorem c6t {α:Type}{x:List Tok→aR α}{s:List UInt8}{a:α}{j:Nat}{l:List Tok}(hs: ¬40000<s.length)(hl:dL gN s 0 1 false= .ok l)(hx:x l 0= .ok a j)(he:(aK l j).kind=0):dU x s= .ok a j:=by unfold dU;rw [if_neg hs,hl];simp only [hx];unfold a0d;rw [if_pos he]
end
section
open Go Go.VM
variable {G:GT}
theorem d0P {p:Pr}(h:a6C p=0):p.op≠0:=by
 unfold a6C b4F at h;split at h
 ·cases h
 split at h
 ·cases h
 intro h0;have hn:b3b p=1:=by unfold b3b;rw [if_pos (by omega)]
 obtain ⟨op,nm,n,ks⟩:=p;simp [a0T,a0U,hn] at h
theorem b5k {num:List UInt8→Int×Bool}{l:List Tok}{ln:Int}(h:OkT num l ln):l≠[]∧∀t,l[l.length-1]? =some t→t.kind=0:=by
 induction h with
 |fin ln l hl=>exact ⟨by simp,fun t ht=>by simp at ht;subst ht;rfl⟩
 |cons t r ln h1 h2 h3 ih=>refine ⟨by simp,fun u hu=>ih.2 u ?_⟩;have:0<r.length:=List.length_pos_iff.2 ih.1;rw [List.length_cons,Nat.add_sub_cancel] at hu;rw [show r.length=(r.length-1)+1 by omega] at hu;simpa using hu
theorem d0Q {l:List Tok}{ln:Int}(h:OkT gN l ln):∀t∈l,0≤t.n∧t.n≤1000000000000:=by
 induction h with
 |fin ln l hl=>intro t ht;simp at ht;subst ht;simp
 |cons t r ln h1 h2 h3 ih=>
  intro u hu;rcases List.mem_cons.1 hu with rfl|hu
  ·have hn:(firstT gN u.text).2.2.1=u.n:=by rw [h2]
   rw [← hn];have hb:∀s,0≤(gN s).1∧(gN s).1≤1000000000000:=fun s=>by
    unfold gN;split
    ·simp only;omega
    ·simp only;omega
   unfold firstT;split
   ·simp
   ·split
    ·simp
    ·split
     ·simp
     ·split
      ·exact hb _
      ·split<;>simp
  ·exact ih u hu
theorem c6u {l:List Tok}(h:l≠[])(i:Nat):aK l i∈l:=by
 unfold aK;split
 ·rename_i hi;rw [List.getD_eq_getElem?_getD,d8H hi];exact List.getElem_mem hi
 ·rw [List.getLastD_eq_getLast?,List.getLast?_eq_some_getLast h];exact List.getLast_mem h
theorem b3s (hG:G 1=some eB){s:List UInt8}{l:List Tok}(h:dL gN s 0 1 false= .ok l)(hs:s.length≤40000):mO G tL l:=by
 have hok:=(c6r h hs).1;have hO:=sX s 0 1 false l h;have hE:=b5k hO;refine ⟨hG,hok.1,⟨hE.1,?_⟩,fun i e hi he=>b5h hG hok i e hi he,fun e i p j hi hx=>b5j hE.2 e i p j hi hx,fun i e p j hi hx=>?_⟩
 ·have hpos:0<l.length:=List.length_pos_iff.2 hE.1;have hlt:l.length-1<l.length:=by omega
  refine hE.2 _ ?_
  unfold aK;rw [if_pos hlt,List.getD_eq_getElem?_getD,d8H hlt]
  rfl
 ·unfold tL at hx;split at hx
  ·cases hx
  ·rename_i q n hr;split at hx
   ·rename_i hc;cases hx;have:=b5g bA _ _ _ _ _ _ hr;exact ⟨by omega,d0P hc⟩
   ·cases hx
theorem c3s {s:List UInt8}{l:List Tok}(h:dL gN s 0 1 false= .ok l):∀i, -9223372036854775807≤(aK l i).n∧(aK l i).n≤9223372036854775807:=fun i=>by have hO:=sX s 0 1 false l h;have:=d0Q hO _ (c6u (b5k hO).1 i);omega
end
end Go.Proofs.YtjpodcmhcenjjaaGreatDoor
section
namespace Go.VM
open Go Go.RowKit
section
variable {P:Program} {G:GT} {st:St} {base:cZ} {R:Nat→Nat→Prop} {μ:Nat→Nat} {a:Act} {w:World}
theorem b0X {s0:St}(K:List (Nat×Nat)){d8B:List DV}{ls:List (Option Loc)}{rest:List (TypeId×List Loc)}{args:Array Value}(hfit:aQ K s0 .undef s0.H=true)(hargs:WkT d8B (aU K s0.tmps))(hH:WkH st.H (cS K s0.H))(jW:sG st st.own (s0.own.map (oA K ls))=some rest)(kn:vO st.tmps.length ls s0.own=true)(hr:Rel P G base R μ st a w)(hl:args.size=d8B.length)(hv:∀(i:Nat) (d:DV),d8B[i]? =some d→TV R μ w (args.getD i undef) d)(hloc:∀(i:Nat) (l:Loc),ls[i]? =some (some l)→∀u,cE a w μ l=some u→u=args.getD i undef):
  ∃base':cZ,(∀b,base' b→base b)∧Rel P G base' R (fun k=>μ (rk K k)) s0 { tmps:=args,defers:=[] } w∧∀k o,getKey k st.H=some o→(∀p∈s0.H,k≠rk K p.1)→ ¬base' (μ k):=by
 simp only [aQ,d8D,decide_eq_true_eq,d8G] at hfit;obtain ⟨⟨⟨⟨⟨⟨⟨⟨kf,ks⟩,kp⟩,kt⟩,kh⟩,kl⟩,kr⟩,kd⟩,k1⟩:=hfit;obtain ⟨vs,hvs⟩:=hr.own;obtain ⟨vsT,vsR,t1,t2,t3,t4,t5,t6,t7⟩:=a2a hr _ _ _ vs ⟨hvs.len,hvs.one,hvs.apart⟩ jW;have inK:∀k o,getKey k s0.H=some o→(K.any fun p=>p.1==k)=true∧aT K o=true∧(getKey k s0.H).isSome=true:=fun k o hk=>by
  have:=kh _ (gV hk)
  try simp only [d8D] at this
  exact ⟨this.1.1,this.1.2,this.2⟩
 have inst:∀k o,getKey k s0.H=some o→∃o',getKey (rk K k) st.H=some o'∧WkO o' (dC K o):=fun k o hk=>by
  have hm:=gV hk;have:∀ {l:List (Nat×aZ)},WkH st.H (cS K l)→(k,o)∈l→∃o',getKey (rk K k) st.H=some o'∧WkO o' (dC K o):=by
   intro l
   induction l with
   |nil=>intro _ h;cases h
   |cons p l ih=>
    intro hw hp;obtain ⟨h1,h2⟩:=hw;rcases List.mem_cons.1 hp with rfl|hp
    ·exact h1
    ·exact ih h2 hp
  exact this hH hm
 have big:∀k,(K.any fun p=>p.1==k)=true→100000≤k:=fun k hk=>by obtain ⟨p,h1,h2,_⟩:=xF hk;rw [← h2];exact kp p h1
 have rinj:∀k k',(K.any fun p=>p.1==k)=true→(K.any fun p=>p.1==k')=true→rk K k=rk K k'→k=k':=fun k k' h h' he=>by
  obtain ⟨p,p1,p2,p3⟩:=xF h;obtain ⟨q,q1,q2,q3⟩:=xF h';have hpq:p.2=q.2:=by rw [← p3, ← q3,he]
  have:p=q:=mC.a7x.a2V ks p1 q1 hpq;rw [← p2, ← q2,this]
 have one:∀k,(getKey k s0.H).isSome=true→∃o,getKey k s0.H=some o:=fun k hk=>by
  obtain ⟨o,ho⟩:=Option.isSome_iff_exists.1 hk;have:=k1 _ (gV ho)
  try simp only [d8D] at this
  exact Option.isSome_iff_exists.1 this.2
 let base':cZ:=⟨fun b=>w.heap.size≤b∨(∃k o,getKey k s0.H=some o∧b=μ (rk K k))∨(∃v∈vsT,bG v=some b),fun k=>μ (rk K k)⟩
 have sub:∀b,base' b→base b:=fun b hb=>by
  rcases hb with hb|⟨k,o,hk,rfl⟩|⟨v,hv,hs⟩
  ·exact hr.base b hb
  ·obtain ⟨o',ho',_⟩:=inst k o hk;exact (hr.gT _ o' ho').1
  ·obtain ⟨i,hi⟩:=d8U hv;have hil:i<(s0.own.map (oA K ls)).length:=by rw [← t1];exact (d8E.1 hi).1
   exact (t2 i _ v (d8H hil) hi).own.yH hs
 have hrel0:Rel P G base' R (fun k=>μ (rk K k)) s0 { tmps:=args,defers:=[] } w:=by
  obtain ⟨g1,g2⟩:=xH hargs;rw [pA] at g1 g2;refine ⟨rfl,by show args.size=s0.tmps.length;rw [List.length_map] at g1;omega,fun i v d hiv hid=>?_,fun k o hk=>?_,fun k k' o o' hk hk' he=>?_,fun c hc k off hl'=>?_,⟨vsT,by simpa using t1,fun i c v hc hv'=>?_,t3⟩,hr.sN.up sub,hr.oP,fun b hb=> .inl hb,fun k hk=>rfl⟩
  ·obtain ⟨d0,hd0,hcase⟩:=g2 i (bE K d) (by rw [d8N,hid];rfl);have hva:=hv i d0 hd0;have hav:args.getD i undef=v:=by simp only at hiv;simp [d8F,hiv]
   rw [hav] at hva;have hren:TV R μ w v (bE K d):=by
    rcases hcase with hc|hc|⟨hc1,hc2⟩
    ·rw [hc];exact .undef _
    ·rw [hc];exact hva
    ·rw [hc2];rw [hc1] at hva;obtain ⟨ao,rfl⟩:=hva.a4U.jI;exact .d _ _ (.emp _ _)
   exact hren.ren (μ:=μ) (fun _ _=>rfl) (kt d (d8I hid))
  ·obtain ⟨q1,q2,_⟩:=inK k o hk;obtain ⟨o',ho',hw⟩:=inst k o hk;obtain ⟨p1,p2,p3⟩:=hr.gT _ o' ho';exact ⟨.inr (.inl ⟨k,o,hk,rfl⟩),p2,(a8x hw p3).ren (fun _ _=>rfl) q2⟩
  ·obtain ⟨o1,h1,_⟩:=inst k o hk;obtain ⟨o2,h2,_⟩:=inst k' o' hk';exact rinj k k' (inK k o hk).1 (inK k' o' hk').1 (hr.inj _ _ o1 o2 h1 h2 he)
  ·have:=d8G.1 (d8G.1 kl c hc) _ hl';exact Option.isSome_iff_exists.1 this
  ·have ho:=t2 i (oA K ls c) v (by rw [d8N,hc];rfl) hv';refine ⟨fun l hl' u hu=>?_,?_,fun k o hk=>?_⟩
   ·have hn:=d8G.1 (d8G.1 kn c (d8I hc)) l hl';cases l with
    |t j=>
     simp only at hn;split at hn
     ·rename_i t hj;simp only [decide_eq_true_eq] at hn;have ht:t<a.tmps.size:=by rw [hr.size];exact hn
      have hlv:cE a w μ (.t t)=some a.tmps[t]:=by simp [cE,ht]
      have h1:=hloc j _ hj _ hlv;have h2:=ho.dV (.t t) (List.mem_filterMap.2 ⟨.t j,hl',by simp [a9r,hj]⟩) _ hlv;simp only [cE] at hu;have h3:args.getD j undef=u:=by simp [d8F,hu]
      rw [← h3, ← h1,h2]
     ·cases hn
    |c k off=>exact ho.dV (.c (rk K k) off) (List.mem_filterMap.2 ⟨.c k off,hl',rfl⟩) u hu
   ·rcases ho.own with h|⟨g,n,cap,cur,h0,h1,h2,h3,h4⟩
    ·exact .inl h
    ·by_cases hc0:cap=0
     ·subst hc0;have:n=0:=by omega
      subst this;exact .inl ⟨_,h0⟩
     ·exact .inr ⟨g,n,cap,cur,h0,.inr (.inr ⟨v,d8I hv',by rw [h0];simp [bG,hc0]⟩),h2,h3,h4⟩
   ·obtain ⟨o',ho',_⟩:=inst k o hk;exact ho.keys _ o' ho'
 refine ⟨base',sub,hrel0,fun k o ho hk hb=>?_⟩;rcases hb with hb|⟨k0,o0,h0,he'⟩|⟨u,hu,hsp⟩
 ·have:=(hr.gT k o ho).2.2.lt;omega
 ·obtain ⟨o',ho',_⟩:=inst k0 o0 h0;have:=hr.inj k (rk K k0) o o' ho ho' he';exact hk (k0,o0) (gV h0) this
 ·obtain ⟨i,hi⟩:=d8U hu;have hil:i<(s0.own.map (oA K ls)).length:=by rw [← t1];exact (d8E.1 hi).1
  exact (t2 i _ u (d8H hil) hi).keys k o ho hsp
def CHd (P:Program)(G:GT)(f:FuncId)(s0:St)(r:DV):Prop:=
 ∀(base:cZ) (R:Nat→Nat→Prop) (μ:Nat→Nat) (args:Array Value) (w:World),Rel P G base R μ s0 { tmps:=args,defers:=[] } w→
  Calls P f args w fun e w'=>∃v R',e= .returned v∧(∀μ',TV R' μ' w' v r)∧Step base R w R' w'∧∀b o,R' b o→b<w'.heap.size
theorem mC.d4W {f:FuncId}{s0:St}{r:DV}(hch:CHd P G f s0 r)(K:List (Nat×Nat)){d8B:List DV}{ls:List (Option Loc)}{dst:Option Tmp}{rest:List (TypeId×List Loc)}(H':List (Nat×aZ))(hfit:aQ K s0 .undef s0.H=true)(hargs:WkT d8B (aU K s0.tmps))(hH:WkH st.H (cS K s0.H))(jW:sG st st.own (s0.own.map (oA K ls))=some rest)(kn:vO st.tmps.length ls s0.own=true)(hK:∀k o,getKey k H'=some o→getKey k st.H=some o∧∀p∈s0.H,k≠rk K p.1):
  mC P G f d8B ls st dst ⟨qD dst r st.tmps,H',[]⟩:=by
 intro base R μ a w args hr hl hv hloc;obtain ⟨base',sub,hrel0,hout⟩:=b0X K hfit hargs hH jW kn hr hl hv hloc;refine (hch base' R _ args w hrel0).mono fun e w' ⟨v,R',he,hres,hs,hb⟩=>⟨v,R',μ,he,?_,⟨hs.below.mono sub,hs.mono,fun b o h1 h2=>sub b (hs.new b o h1 h2),hs.cells⟩⟩
 have hsb:Step base R w R' w':=⟨hs.below.mono sub,hs.mono,fun b o h1 h2=>sub b (hs.new b o h1 h2),hs.cells⟩;have kept:∀b, ¬base' b→w'.heap[b]? =w.heap[b]? ∧∀off,R' b off→R b off:=fun b hb=>⟨hs.below.block b hb,fun off h=>by
  by_cases hx:R b off
  ·exact hx
  ·exact absurd (hs.new b off h hx) hb⟩
 refine ⟨by cases dst<;>exact hr.defers,?_,fun i u d hu hd=>?_,fun k o hk=>?_,fun k k' o o' hk hk' he'=>?_,(fun c hc=>by cases hc),⟨[],rfl,fun i c v h _=>by simp at h,.nil⟩,hr.sN.bL hsb,hb,fun b hb=>hr.base b (Nat.le_trans hs.below.size hb),hr.pass⟩
 ·cases dst with
  |none=>exact hr.size
  |some t=>simp [qD,Act.put,hr.size]
 ·cases dst with
  |none=>exact (hr.tmps i u d hu hd).bL hsb
  |some t=>
   simp only [qD,Act.put] at hu hd;by_cases hti:t=i
   ·subst hti;have h1:t<st.tmps.length:=by
     by_cases hlt:t<st.tmps.length
     ·exact hlt
     ·have hno:(st.tmps.set t r)[t]? =none:=List.getElem?_eq_none (by rw [List.length_set];exact Nat.le_of_not_lt hlt)
      rw [hno] at hd;cases hd
    have h2:t<a.tmps.size:=by rw [hr.size];exact h1
    simp [h1] at hd;simp [h2] at hu;subst hu hd;exact hres μ
   ·rw [Array.getElem?_setIfInBounds_ne hti] at hu;rw [List.getElem?_set_ne hti] at hd;exact (hr.tmps i u d hu hd).bL hsb
 ·obtain ⟨hk2,hk1⟩:=hK k o hk;obtain ⟨p1,p2,p3⟩:=hr.gT k o hk2;obtain ⟨e1,e2⟩:=kept _ (hout k o hk2 hk1);exact ⟨p1,fun off h=>p2 off (e2 off h),p3.bL hsb e1⟩
 ·exact hr.inj k k' o o' (hK k o hk).1 (hK k' o' hk').1 he'
theorem a5x.b3J {f:FuncId}{s0:St}{v:Value}(hch:CPn P G f s0 v)(K:List (Nat×Nat)){d8B:List DV}{ls:List (Option Loc)}{rest:List (TypeId×List Loc)}(H':List (Nat×aZ))(hfit:aQ K s0 .undef s0.H=true)(hargs:WkT d8B (aU K s0.tmps))(hH:WkH st.H (cS K s0.H))(jW:sG st st.own (s0.own.map (oA K ls))=some rest)(kn:vO st.tmps.length ls s0.own=true)(hK:∀k o,getKey k H'=some o→getKey k st.H=some o∧∀p∈s0.H,k≠rk K p.1){args:Array Value}(hr:Rel P G base R μ st a w)(hl:args.size=d8B.length)(hv:∀(i:Nat) (d:DV),d8B[i]? =some d→TV R μ w (args.getD i undef) d)(hloc:∀(i:Nat) (l:Loc),ls[i]? =some (some l)→∀u,cE a w μ l=some u→u=args.getD i undef):
  Calls P f args w fun e w'=>∃R',e= .panicked (wI v)∧Rel P G base R' μ ⟨st.tmps,H',[]⟩ a w'∧Step base R w R' w':=by
 obtain ⟨base',sub,hrel0,hout⟩:=b0X K hfit hargs hH jW kn hr hl hv hloc;refine (hch base' R _ args w hrel0).mono fun e w' ⟨R',he,hs,hb⟩=>⟨R',he,?_,⟨hs.below.mono sub,hs.mono,fun b o h1 h2=>sub b (hs.new b o h1 h2),hs.cells⟩⟩
 have hsb:Step base R w R' w':=⟨hs.below.mono sub,hs.mono,fun b o h1 h2=>sub b (hs.new b o h1 h2),hs.cells⟩;have kept:∀b, ¬base' b→w'.heap[b]? =w.heap[b]? ∧∀off,R' b off→R b off:=fun b hb=>⟨hs.below.block b hb,fun off h=>by
  by_cases hx:R b off
  ·exact hx
  ·exact absurd (hs.new b off h hx) hb⟩
 refine ⟨hr.defers,hr.size,fun i u d hu hd=>(hr.tmps i u d hu hd).bL hsb,fun k o hk=>?_,fun k k' o o' hk hk' he'=>?_,(fun c hc=>by cases hc),⟨[],rfl,fun i c v h _=>by simp at h,.nil⟩,hr.sN.bL hsb,hb,fun b hb=>hr.base b (Nat.le_trans hs.below.size hb),hr.pass⟩
 ·obtain ⟨hk2,hk1⟩:=hK k o hk;obtain ⟨p1,p2,p3⟩:=hr.gT k o hk2;obtain ⟨e1,e2⟩:=kept _ (hout k o hk2 hk1);exact ⟨p1,fun off h=>p2 off (e2 off h),p3.bL hsb e1⟩
 ·exact hr.inj k k' o o' (hK k o hk).1 (hK k' o' hk').1 he'
end
end Go.VM
end
section
namespace Go.VM
open Go Go.RowKit
section
variable {P:Program} {G:GT} {st:St} {base:cZ} {R:Nat→Nat→Prop} {μ:Nat→Nat} {a:Act} {w:World}
theorem put_defers (a:Act)(ds:List Deferred)(dst:Option Tmp)(v:Value):({ a with defers:=ds }:Act).put dst v={ a.put dst v with defers:=ds }:=by cases dst<;>rfl
theorem d6O {o:Oper}{ds:List Deferred}{K K':Act→World→Prop}{Q Q':Exit→Act→World→Prop}(ha:a.defers=[])(h:o.wp P a w K Q)(hK0:∀a' w',K a' w'→a'.defers=[])(hK:∀a' w',K a' w'→K' { a' with defers:=ds } w')(hQ:∀e a' w',Q e a' w'→Q' e { a' with defers:=ds } w'):o.wp P { a with defers:=ds } w K' Q':=by
 unfold Oper.wp at h ⊢;have he:execOp ({ a with defers:=ds }:Act).eval o=execOp a.eval o:=rfl;rw [he];generalize (execOp a.eval o).run P w=r at h ⊢;unfold Oper.upon at h ⊢;split at h
 ·rw [put_defers];exact hK _ _ h
 ·rw [put_defers];exact hK _ _ h
 ·rename_i d w';have:=hK0 _ _ h;rw [put_defers] at this;simp at this
 ·refine h.mono fun e w' hx=>?_
  cases e with
  |returned v=>simp only at hx ⊢;rw [put_defers];exact hK _ _ hx
  |panicked chain=>exact hQ _ _ _ hx
  |outgrown=>obtain ⟨a0,w0,h0⟩:=hx;exact ⟨_,_,hQ _ _ _ h0⟩
 ·refine h.mono fun v w' hx=>?_
  rw [put_defers];exact hK _ _ hx
 ·exact hQ _ _ _ h
 ·exact h.elim
def c3t (P:Program)(G:GT)(all:Array Oper)(Q:Exit→St→Prop):List Oper→St→Prop
 |[],st=>Q .normal st
 |o::rest,st=>a2B P G all o st (c3t P G all Q rest) Q
theorem b5l {all:Array Oper}{Q:Exit→St→Prop}(ds:List Deferred):∀(l:List Oper) (st:St),c3t P G all Q l st→∀(base:cZ) (R:Nat→Nat→Prop) (μ:Nat→Nat) (a:Act) (w:World),Rel P G base R μ st a w→
  ∀QQ:Exit→Act→World→Prop,(∀e s a' w' R' μ',Q e s→Rel P G base R' μ' s a' w'→Step base R w R' w'→QQ e { a' with defers:=ds } w')→wpList P all QQ l { a with defers:=ds } w
 |[],st,h,base,R,μ,a,w,hr,QQ,hk=>hk _ st a w R μ h hr (.refl _ _ _)
 |o::rest,st,h,base,R,μ,a,w,hr,QQ,hk=>by
  have h1:=b7B (KK:=fun a' w'=>a'.defers=[]∧wpList P all QQ rest { a' with defers:=ds } w') (QQ:=fun e a' w'=>QQ e { a' with defers:=ds } w') (show a2B P G all o st (c3t P G all Q rest) Q from h) hr (fun s v w' R' μ' p1 p2 p3=>⟨p2.defers,b5l ds rest s p1 base R' μ' _ w' p2 QQ fun e s a' w2 R2 μ2 q1 q2 q3=>hk e s a' w2 R2 μ2 q1 q2 (p3.trans q3)⟩) fun c s w' R' μ' p1 p2 p3=>hk _ s a w' R' μ' p1 p2 p3
  unfold wpList;by_cases hw:Region.wanted o (yielded all a.tmps)=true
  ·rw [if_pos hw] at h1;rw [if_pos (show Region.wanted o (yielded all ({ a with defers:=ds }:Act).tmps)=true from hw)];rcases h1 with h1|⟨h1,a0,w0,h2⟩
   ·exact .inl (d6O hr.defers h1 (fun _ _ h=>h.1) (fun _ _ h=>h.2) fun _ _ _ h=>h)
   ·exact .inr ⟨h1,_,_,h2⟩
  ·rw [if_neg hw] at h1;rw [if_neg (show ¬Region.wanted o (yielded all ({ a with defers:=ds }:Act).tmps)=true from hw),put_defers];exact h1.2
def DW (P:Program)(G:GT)(ds:List Deferred)(c:Code)(st:St)(Q:Exit→St→Prop):Prop:=
 ∀(base:cZ) (R:Nat→Nat→Prop) (μ:Nat→Nat) (a:Act) (w:World),Rel P G base R μ st a w→c.wp P (fun e a' w'=>∃a0 s R' μ',a'={ a0 with defers:=ds }∧Q e s∧Rel P G base R' μ' s a0 w'∧Step base R w R' w') { a with defers:=ds } w
theorem DW.region {ds:List Deferred}{id:Nat}{ops:Array Oper}{Q:Exit→St→Prop}(h:c3t P G ops Q ops.toList st):DW P G ds (.region id ops false) st Q:=fun base R μ a w hr=>wp_region_list (b5l ds ops.toList st h base R μ a w hr _ fun e s a' w' R' μ' q1 q2 q3=>⟨a',s,R',μ',rfl,q1,q2,q3⟩)
theorem DW.seq {ds:List Deferred}{x y:Code}{Q:Exit→St→Prop}(h:DW P G ds x st fun e s=>match e with
  | .normal=>DW P G ds y s Q
  |e=>Q e s):DW P G ds (.seq x y) st Q:=fun base R μ a w hr=>
 wp_seq (wp_mono (h base R μ a w hr) fun e a1 w1 ⟨a0,s,R1,μ1,q0,q1,q2,q3⟩=>by
  cases e with
  |normal=>subst q0;exact wp_mono (q1 base R1 μ1 a0 w1 q2) fun e2 a2 w2 ⟨a3,s2,R2,μ2,p0,p1,p2,p3⟩=>⟨a3,s2,R2,μ2,p0,p1,p2,q3.trans p3⟩
  |_=>exact ⟨a0,s,R1,μ1,q0,q1,q2,q3⟩)
theorem DW.ret {ds:List Deferred}{Q:Exit→St→Prop}(h:Q .ret st):DW P G ds .ret st Q:=fun base R μ a w hr=>wp_ret ⟨a,st,R,μ,rfl,h,hr,.refl _ _ _⟩
attribute [simp] c3t
end
end Go.VM
end
namespace Go.Proofs.YtjpodcmhcenjjaaGreatDoor
section
open Go Go.VM
theorem c6v (p q:Addr)(w:World):
  CallsD Tryz.prog 65 #[.pointer (some p),.pointer (some q)] .returning w fun e u' w'=>e= .returned (.tuple #[])∧u'= .returning∧w'=w:=by
 refine callsD_of_wpS Tryz.func65 rfl fun c₀ cs hu=>?_
 apply wpS_seq;apply wpS_region;simp [wpOpsS,go_sem,recoverD,hu,Tryz.ntmps65,Exit.thenS];apply wpS_seq;apply wpS_region;simp [wpOpsS,go_sem,recoverD,hu,Tryz.ntmps65,Exit.thenS];refine wpS_cond (t:=false) (by simp [Act.eval,Array.replicate]) ?_
 simp only [Bool.false_eq_true,if_false];refine wpS_of_wp (wp_skip ?_);cases c₀
 simp_all [bodyPostS,results]
theorem d4X {P:Program}{T xT:TypeId}(hu:(P.underlying T).map (fun td=>match td with| .interface _=>false|_=>true)=some true)(v:Value)(w:World):(Instr.typeAssert (.iface T v) xT T true).run P w= .ok (.tuple #[v,.bool true]) w:=by obtain ⟨td,h1,h2⟩:=d8C.1 hu;unfold Instr.typeAssert;rw [Sem.run_bind,run_underlying h1];simp only [Result.andThen_ok];cases td<;>first|(simp at h2;done)|(simp only [if_true,go_sem];done)|(simp [go_sem,Result.andThen];done)
variable {G:GT}
theorem b7V {P:Program}{id:Nat}{ops:Array Oper}{D:Code}{QQ:Exit→Act→World→Prop}{a:Act}{w:World}{base:cZ}{R:Nat→Nat→Prop}(Qf:Exit→St→Prop)(hk:∀e s a' w' R' μ',Qf e s→Rel P G base R' μ' s a' w'→Step base R w R' w'→QQ e a' w')(h:∀QL:Exit→Act→World→Prop,(∀s a' w' R' μ',SW P G D s Qf→Rel P G base R' μ' s a' w'→Step base R w R' w'→QL .normal a' w')→wpList P ops QL ops.toList a w):(Code.seq (.region id ops false) D).wp P QQ a w:=
 wp_seq (wp_region_list (h _ fun s a' w' R' μ' hD hr hs=>wp_mono (hD base R' μ' a' w' hr) fun e a2 w2 ⟨s2,R2,μ2,q1,q2,q3⟩=>hk e s2 a2 w2 R2 μ2 q1 q2 (hs.trans q3)))
theorem LW.next {P:Program}{all:Array Oper}{l:List Oper}{st:St}{D:Code}{Qf:Exit→St→Prop}{base:cZ}{R:Nat→Nat→Prop}{μ:Nat→Nat}{a:Act}{w:World}{QL:Exit→Act→World→Prop}(hQL:∀s a' w' R' μ',SW P G D s Qf→Rel P G base R' μ' s a' w'→Step base R w R' w'→QL .normal a' w')(hr:Rel P G base R μ st a w)(h:LW P G all l st fun e s=>e= .normal∧SW P G D s Qf):wpList P all QL l a w:=by unfold LW at h;exact h base R μ a w hr QL fun e s a' w' R' μ' hq hr' hs=>by obtain ⟨rfl,hq⟩:=hq;exact hQL s a' w' R' μ' hq hr' hs
def d6P:OT:=(.op 0 (.op 1 (.op 2 (.op 3 (.op 4 (.op 5 .stop .none) .none) (.op 4 (.op 3 (.op 5 .stop .none) .none) .none)) (.op 4 (.op 2 (.op 3 (.op 5 .stop .none) .none) .none) .none)) (.op 2 (.op 1 (.op 3 (.op 4 (.op 5 .stop .none) .none) (.op 4 (.op 3 (.op 5 .stop .none) .none) .none)) (.op 3 (.op 1 (.op 4 (.op 5 .stop .none) .none) .none) .none)) .none)) (.op 2 (.op 0 (.op 1 (.op 3 (.op 4 (.op 5 .stop .none) .none) (.op 4 (.op 3 (.op 5 .stop .none) .none) .none)) (.op 3 (.op 1 (.op 4 (.op 5 .stop .none) .none) .none) .none)) (.op 3 (.op 0 (.op 1 (.op 4 (.op 5 .stop .none) .none) .none) .none) .none)) .none))
abbrev c6w (x y:Int):List (Nat×aZ):=[(100000,.cells [.d (.int .i64 x)]),(100001,.cells [.d (.int .i64 y)])]
theorem d0R {base:cZ}{R:Nat→Nat→Prop}{μ:Nat→Nat}{args:Array Value}{w:World}{x y:Int}(n e:Int)(hr:Rel Tryz.prog G base R μ ⟨[.ptr 100000 0,.ptr 100001 0],c6w x y,[]⟩ { tmps:=args,defers:=[] } w):
  CallsD Tryz.prog 65 args (.panicking (wI (mR n e))) w fun e' u' w'=>e'= .returned (.tuple #[])∧u'= .panicking [{ v:=mR n e,recovered:=true }]∧∃R' μ' a',Rel Tryz.prog G base R' μ' ⟨List.replicate 20 .undef,c6w n e,[]⟩ a' w'∧Step base R w R' w':=by
 have hsz:args.size=2:=hr.size;obtain ⟨v0,v1,rfl⟩:∃v0 v1,args= #[v0,v1]:=by
  obtain ⟨l⟩:=args
  match l,hsz with
  |[a,b],_=>exact ⟨a,b,rfl⟩
 refine callsD_of_wpS Tryz.func65 rfl fun c₀ cs hu=>?_
 apply wpS_seq;apply wpS_region;simp [wpOpsS,go_sem,recoverD,hu,Tryz.ntmps65,Exit.thenS];apply wpS_seq;apply wpS_region;simp [wpOpsS,go_sem,recoverD,hu,Tryz.ntmps65,Exit.thenS];refine wpS_cond (t:=true) (by simp [Act.eval,Array.replicate]) ?_
 simp only [if_true];refine wpS_of_wp ?_
 have hr1:Rel Tryz.prog G base R μ ⟨.ptr 100000 0:: .ptr 100001 0::List.replicate 18 .undef,c6w x y,[]⟩ { tmps:= #[v0,v1,mR n e,undef,undef,mR n e,mR n e,.bool true,undef,undef,undef,undef,undef,undef,undef,undef,undef,undef,undef,undef],defers:=[] } w:=by
  refine ⟨rfl,rfl,fun i v d hv hd=>?_,hr.gT,hr.inj,hr.dV,⟨[],rfl,fun i c v h _=>by simp at h,.nil⟩,hr.sN,hr.oP,hr.base,hr.pass⟩
  match i,hv,hd with
  |0,hv,hd=>exact hr.tmps 0 v d (by simpa using hv) (by simpa using hd)
  |1,hv,hd=>exact hr.tmps 1 v d (by simpa using hv) (by simpa using hd)
  |i+2,hv,hd=>
   simp only [List.getElem?_cons_succ,List.getElem?_replicate] at hd;split at hd
   ·simp at hd;subst hd;exact .undef _
   ·cases hd
 have hta:=fun (v:Value) (w:World)=>d4X (P:=Tryz.prog) (T:=127) (xT:=20) (by kernel_rfl) v w
 show Code.wp Tryz.prog _ _ { tmps:= #[v0,v1,mR n e,undef,undef,mR n e,mR n e,.bool true,undef,undef,undef,undef,undef,undef,undef,undef,undef,undef,undef,undef],defers:=[] } w
 generalize ha1:({ tmps:= #[v0,v1,mR n e,undef,undef,mR n e,mR n e,.bool true,undef,undef,undef,undef,undef,undef,undef,undef,undef,undef,undef,undef],defers:=[] }:Act)=a1 at hr1 ⊢;have h2:a1.eval (.tmp 2)=mR n e:=by rw [← ha1];rfl
 have hz:a1.tmps.size=20:=by rw [← ha1];rfl
 refine b7V (G:=G) (base:=base) (R:=R) (fun e' s=>e'= .normal∧wD s ⟨List.replicate 20 .undef,c6w n e,[]⟩) (fun e2 s2 a2 w2 R2 μ2 hq q2 q3=>?_) fun QL hQL=>?_
 ·obtain ⟨he,hw⟩:=hq;subst he;exact ⟨q2.defers,_,rfl,.tuple #[],by simp [results],rfl,rfl,R2,⟨μ2,a2,q2.zI hw⟩,q3⟩
 have hr2:=hr1.put (dst:=some 9) (v:=mR n e) (dv:= .undef) (act:= .no) (.undef _) trivial;refine oX (w':=w) (v:=mR n e) rfl (.inl (by show (pure (Next.value (a1.eval (.tmp 2))):Sem Next).run _ w=_;rw [h2];rfl)) rfl ?_
 have h9:(a1.put (some 9) (mR n e)).eval (.tmp 9)=mR n e:=dR _ _ (by omega);have hr3:=hr2.put (dst:=some 10) (v:= .tuple #[.agg #[.int .i64 n,.int .i64 e],.bool true]) (dv:= .cT [.agg [.int .i64 n,.int .i64 e],.bool true]) (act:= .no) (.cT _ _ rfl (fun i d hd=>by
  match i,hd with
  |0,hd=>
   simp at hd;subst hd;refine .agg _ _ rfl (fun i d hd=>?_) (fun i d hd=>?_)
   ·match i,hd with
    |0,hd=>simp at hd;subst hd;rfl
    |1,hd=>simp at hd;subst hd;rfl
   ·match i,hd with
    |0,hd=>simp at hd;subst hd;exact .int _ _
    |1,hd=>simp at hd;subst hd;exact .int _ _
  |1,hd=>simp at hd;subst hd;exact .bool _)) trivial
 refine oX (w':=w) (v:= .tuple #[.agg #[.int .i64 n,.int .i64 e],.bool true]) rfl (.inl ?_) rfl ?_
 ·show (Instr.typeAssert ((a1.put (some 9) (mR n e)).eval (.tmp 9)) _ _ true >>=fun s=>pure (Next.value s):Sem Next).run _ w=_
  rw [h9,Sem.run_bind,hta]
  rfl
 refine LW.next hQL hr3 (LW.vk ?_);simp;refine SW.pL (SW.xk ?_);simp;refine b3i d6P (by kernel_rfl) (by kernel_rfl) ?_
 simp [d6P]
end
section
open Go Go.VM
variable {G:GT}
theorem jN:VM.Enters Tryz.prog 32:=VM.Enters.mk Tryz.func32 rfl
theorem Rel.frame {P:Program}{base:cZ}{R:Nat→Nat→Prop}{μ:Nat→Nat}{args:Array Value}{w:World}{fn:Func}{n:Nat}{s0:St}(hn:fn.ntmps=n)(hT:(s0.own.all fun c=>c.2.all fun l=>match l with| .t i=>decide (i<s0.tmps.length)|_=>true)=true)(hr:Rel P G base R μ s0 { tmps:=args,defers:=[] } w):
  Rel P G base R μ ⟨s0.tmps++List.replicate (n-s0.tmps.length) (.cT []),s0.H,s0.own⟩ { tmps:=args++Array.replicate (fn.ntmps-args.size) undef,defers:=[] } w:=by
 have hsz:args.size=s0.tmps.length:=hr.size;refine ⟨rfl,by simp [hsz,hn],fun i v d hiv hid=>?_,hr.gT,hr.inj,hr.dV,?_,hr.sN,hr.oP,hr.base,hr.pass⟩
 ·simp only at hid;by_cases hi:i<s0.tmps.length
  ·rw [d8O hi] at hid;rw [Array.getElem?_append_left (by omega)] at hiv;exact hr.tmps i v d hiv hid
  ·rw [d8L (by omega),List.getElem?_replicate] at hid;split at hid<;>simp at hid;subst hid;rw [Array.getElem?_append_right (by omega),Array.getElem?_replicate] at hiv;split at hiv<;>simp at hiv;subst hiv;exact .cT #[] [] rfl (by simp)
 ·obtain ⟨vs,hl,h1,hap⟩:=hr.own;refine ⟨vs,hl,fun i c v hc hv=>?_,hap⟩;have ho:=h1 i c v hc hv;refine ⟨fun l hl u hu=>?_,ho.own,ho.keys⟩;cases l with
  |t j=>have hj:=d8G.1 (d8G.1 hT c (d8I hc)) _ hl;simp only [decide_eq_true_eq] at hj;simp only [cE] at hu;rw [Array.getElem?_append_left (by omega)] at hu;exact ho.dV _ hl u hu
  |c k off=>exact ho.dV _ hl u hu
theorem SW.wps {P:Program}{x y:Code}{st:St}{T:Exit→St→Prop}{QQ:Exit→Act→World→Prop}{base:cZ}{R:Nat→Nat→Prop}{μ:Nat→Nat}{a:Act}{w:World}(h:SW P G x st T)(hr:Rel P G base R μ st a w)(hn:∀s R' μ' a' w',T .normal s→Rel P G base R' μ' s a' w'→Step base R w R' w'→y.wp P QQ a' w')(hq:∀e s R' μ' a' w',e≠ .normal→T e s→Rel P G base R' μ' s a' w'→Step base R w R' w'→QQ e a' w'):(Code.seq x y).wp P QQ a w:=
 wp_seq (wp_mono (h base R μ a w hr) fun e a' w' ⟨s,R',μ',q1,q2,q3⟩=>by
  cases e with
  |normal=>exact hn s R' μ' a' w' q1 q2 q3
  |_=>exact hq _ s R' μ' a' w' (by simp) q1 q2 q3)
theorem SW.d0S {P:Program}{r0 r1 rc rest:Code}{st:St}{T:Exit→St→Prop}{QQ:Exit→Act→World→Prop}{base:cZ}{R:Nat→Nat→Prop}{μ:Nat→Nat}{a:Act}{w:World}(h:SW P G r0 st fun e s=>e= .normal∧SW P G r1 s fun e s=>e= .normal∧SW P G rc s T)(hr:Rel P G base R μ st a w)(hn:∀s R' μ' a' w',T .normal s→Rel P G base R' μ' s a' w'→Step base R w R' w'→rest.wp P QQ a' w')(hq:∀e s R' μ' a' w',e≠ .normal→T e s→Rel P G base R' μ' s a' w'→Step base R w R' w'→QQ e a' w'):(Code.seq r0 (.seq r1 (.seq rc rest))).wp P QQ a w:=
 SW.wps h hr (fun s R1 μ1 a1 w1 q1 q2 q3=>SW.wps q1.2 q2 (fun s R2 μ2 a2 w2 p1 p2 p3=>SW.wps p1.2 p2 (fun s R3 μ3 a3 w3 k1 k2 k3=>hn s R3 μ3 a3 w3 k1 k2 ((q3.trans p3).trans k3)) fun e s R3 μ3 a3 w3 k0 k1 k2 k3=>hq e s R3 μ3 a3 w3 k0 k1 k2 ((q3.trans p3).trans k3)) fun e s R2 μ2 a2 w2 p0 p1 p2 p3=>(p0 p1.1).elim) fun e s R1 μ1 a1 w1 q0 q1 q2 q3=>(q0 q1.1).elim
theorem TV.c1q {R:Nat→Nat→Prop}{μ μ':Nat→Nat}{w:World}{v:Value}{ds:List D}(h:TV R μ w v (.cT ds)):TV R μ' w v (.cT ds):=by
 cases h with
 |cT vs ds h1 h2=>exact .cT _ _ h1 h2
theorem b0Y (cs:List DV)(F:FuncId)(s:List UInt8)(n e:Int)(he:e≠0)(hlx:CS Tryz.prog G 64 [.str s] (.cT [.aN,.int .i64 n,.int .i64 e]) none):
  CHd Tryz.prog G 32 ⟨[.d (.str s),.zT F [.ptr 100001 0]],[(100001,.cells cs)],[]⟩ (.cT [.int .i64 n,.int .i64 e]):=by
 intro base R μ args w hr;refine calls_of_wp_defers Tryz.func32 rfl ?_
 have hr0:=Rel.frame Tryz.ntmps32 rfl hr;refine SW.d0S (T:=fun e' s'=>e'= .ret∧yQ Tryz.prog s' [.cell 4 3,.cell 5 31]=some (.cT [.int .i64 n,.int .i64 e])) ?h hr0 (fun s' R' μ' a' w' q1 q2 q3=>by cases q1.1) (fun e' s' R' μ' a' w' q0 q1 q2 q3=>?_)
 case h=>
  refine SW.xk ?_
  simp;refine SW.xk ?_
  simp;refine mB.mk tC hlx ?_
  simp;refine SW.xk ?_
  simp [he]
 ·obtain ⟨rfl,hres⟩:=q1;obtain ⟨v,hv1,hv2⟩:=xL (fn:=Tryz.f32) q2 hres
  show Leaves _ _ _ _ a'.defers _ _
  rw [q2.defers];exact ⟨v,hv1,v,R',rfl,fun μ'=>TV.c1q hv2,q3,q2.oP⟩
abbrev b0Z (s:List UInt8)(F:FuncId)(l:List Tok)(H:List (Nat×aZ)):St:=⟨[.d (.str s),.zT F [.ptr 100001 0],.undef,.undef,.ptr 4 0,.ptr 5 0,.d (.sl (l.map cR))]++List.replicate 21 .undef,(4,.cells [.d (.int .i64 0)])::(5,.cells [.d (.int .i64 0)])::H,[]⟩
abbrev c3u (p q:Value):Deferred:={ target:= .fn (.func 65) #[p,q],args:= #[] }
theorem a4L {base:cZ}{R:Nat→Nat→Prop}{μ:Nat→Nat}{s:List UInt8}{F:FuncId}{l:List Tok}{H:List (Nat×aZ)}{a:Act}{w:World}{QQ:Exit→Act→World→Prop}{id:Nat}{all:Array Oper}{y0 y1:TypeId}{p0 p1:String}{f0 f1:Array Edge}{rest:Code}(hall:all= #[⟨some 19,.makeFunc (.func 65) #[] #[.tmp 4,.tmp 5],y0,p0,f0,none⟩,⟨none,.defer { callee:= .value (.tmp 19),args:= #[],argTypes:= #[] },y1,p1,f1,none⟩])(hr:Rel Tryz.prog G base R μ (b0Z s F l H) a w)(h:∀a1,Rel Tryz.prog G base R μ (b0Z s F l H) a1 w→rest.wp Tryz.prog QQ { a1 with defers:=[c3u (.pointer (some ⟨μ 4,0,none⟩)) (.pointer (some ⟨μ 5,0,none⟩))] } w):(Code.seq (.region id all false) rest).wp Tryz.prog QQ a w:=by
 subst hall;have h4:a.eval (.tmp 4)= .pointer (some ⟨μ 4,0,none⟩):=hr.dQ rfl;have h5:a.eval (.tmp 5)= .pointer (some ⟨μ 5,0,none⟩):=hr.dQ rfl;have hz:a.tmps.size=28:=hr.size;refine wp_seq (wp_region_list ?_);generalize hfv:(Value.func (.func 65) #[] #[.pointer (some ⟨μ 4,0,none⟩),.pointer (some ⟨μ 5,0,none⟩)])=fv;have hr2:=hr.put (dst:=some 19) (v:=fv) (dv:= .undef) (act:= .no) (.undef _) trivial;refine oX (w':=w) (v:=fv) rfl (.inl ?_) rfl ?_
 ·rw [← hfv, ← h4, ← h5]
  show (Instr.makeFunc (.func 65) (#[].map a.eval) (#[.tmp 4,.tmp 5].map a.eval) >>=fun x=>pure (Next.value x):Sem Next).run _ w=_
  simp [Instr.makeFunc,go_sem]
 have h19:(a.put (some 19) fv).eval (.tmp 19)=fv:=dR _ _ (by omega);have hw:∀(o:Oper) y,o.guard=none→Region.wanted o y=true:=fun o y hg=>by unfold Region.wanted;rw [hg]
 unfold wpList;rw [if_pos (hw _ _ rfl)];left;unfold Oper.wp;have e2:(execOp (a.put (some 19) fv).eval ⟨none,.defer { callee:= .value (.tmp 19),args:= #[],argTypes:= #[] },y1,p1,f1,none⟩).run Tryz.prog w= .ok (.defer (c3u (.pointer (some ⟨μ 4,0,none⟩)) (.pointer (some ⟨μ 5,0,none⟩)))) w:=by
  show ((Deferred.ofValue ((a.put (some 19) fv).eval (.tmp 19)) (#[].map (a.put (some 19) fv).eval) >>=fun d=>pure (Next.defer d)):Sem Next).run _ w=_
  rw [h19, ← hfv,Sem.run_bind];simp [Deferred.ofValue,go_sem]
 rw [e2];have hd:(a.put (some 19) fv).defers=[]:=hr2.defers;rw [Oper.upon_defer];unfold wpList;have hfin:finish (b0Z s F l H) (some 19) .undef .no=b0Z s F l H:=by simp [finish,jP,cL,qD,List.replicate]
 rw [hfin] at hr2;have:=h (a.put (some 19) fv) hr2;rw [← hd] at this;exact this
end
section
open Go Go.VM
variable {G:GT}
theorem DW.go {P:Program}{ds:List Deferred}{c:Code}{st:St}{Q:Exit→St→Prop}(h:DW P G ds c st Q){base:cZ}{R:Nat→Nat→Prop}{μ:Nat→Nat}{a:Act}{w:World}(hr:Rel P G base R μ st a w):c.wp P (fun e a' w'=>∃a0 s R' μ',a'={ a0 with defers:=ds }∧Q e s∧Rel P G base R' μ' s a0 w'∧Step base R w R' w') { a with defers:=ds } w:=h base R μ a w hr
@[simp] theorem c8g (k:Nat)(ds:List D):ds.map (jP k∘DV.d)=ds.map DV.d:=rfl
@[simp] theorem c8h (k k':Nat)(ds:List D):ds.map ((jP k∘jP k')∘DV.d)=ds.map DV.d:=rfl
@[simp] theorem c6x:∀ds:List D,WkT (ds.map DV.d) (ds.map DV.d)
 |[]=>by simp
 |d::r=>by have:=c6x r;simp [this]
@[simp] theorem c3v (K:List (Nat×Nat)):∀ds:List D,aS K (ds.map DV.d)=true
 |[]=>by simp [aS]
 |d::r=>by have:=c3v K r;simp [aS,aX,this]
@[simp] theorem c3w:∀ds:List D,c5j (ds.map DV.d) (ds.map DV.d)
 |[]=>by simp
 |d::r=>by have:=c3w r;simp [this]
theorem a0m:VM.Enters Tryz.prog 65:=VM.Enters.mk Tryz.func65 rfl
theorem wO {P:Program}{f:FuncId}(he:VM.Enters P f)(args cap:Array Value)(w:World):(invoke (.fn (.func f) cap) args).run P w= .ok (.enter f (args++cap)) w:=by
 obtain ⟨fn,hf1,hf2,hf3⟩:=he;have hf2': ¬fn.body=none:=fun he=>by simp [he] at hf2
 have hf3': ¬fn.name= "runtime.NumGoroutine" :=by simpa using hf3
 simp [invoke,callFunc,hf1,hf2',hf3']
theorem d0T {α:Type}{rdP:List Tok→Nat→Nat→mH Pr}{l:List Tok}(hV:mO G rdP l)(C:α→List D)(a0 a:α)(j:Nat){F:FuncId}(he:VM.Enters Tryz.prog F){s:List UInt8}(hlx:CS Tryz.prog G 64 [.str s] (.cT [.sl (l.map cR),.int .i64 0,.int .i64 0]) none)(hc:kM G F [.ptr 100000 0,.ptr 100001 0] [(100001,.cells ((C a0).map .d))] [] l 0 (.ok a j) (fun _=> .cT []) (fun a=>[(100001,.cells ((C a).map .d))]))(hj:j<l.length)(hend:a0d l j= .ok () j):
  CH Tryz.prog G 32 ⟨[.d (.str s),.zT F [.ptr 100001 0]],[(100001,.cells ((C a0).map .d))],[]⟩ ⟨[.cT [.int .i64 0,.int .i64 0]],[(100001,.cells ((C a).map .d))],[]⟩:=by
 intro base R μ args w hr;refine calls_of_wp_defers Tryz.func32 rfl ?_
 have hr0:=Rel.frame Tryz.ntmps32 rfl hr;refine SW.d0S (T:=fun e' s'=>e'= .normal∧wD s' (b0Z s F l [(100001,.cells ((C a0).map .d))])) ?h hr0 (fun s' R' μ' a' w' q1 q2 q3=>?_) (fun e' s' R' μ' a' w' q0 q1 q2 q3=>(q0 q1.1).elim)
 case h=>
  refine SW.xk ?_
  simp;refine SW.xk ?_
  simp;refine mB.mk tC hlx ?_
  simp;refine SW.xk ?_
  simp [List.replicate]
 ·refine a4L rfl (q2.zI q1.2) fun a1 hr1=>?_
  refine wp_mono (DW.go (Q:=fun e s=>e= .ret∧a2m Tryz.prog s [.cell 4 3,.cell 5 31] (.cT [.int .i64 0,.int .i64 0]) [(100001,.cells ((C a).map .d))] []) ?hD hr1) fun e a2 w2 ⟨a3,s3,R3,μ3,h0,⟨h1,h2⟩,h3,h4⟩=>?_
  case hD=>
   refine DW.seq (DW.region ?_);simp [List.replicate];refine DW.seq (DW.region ?_);simp;refine a5Q.mk (wJ he hc [(100000,22),(100001,100001)] (fun a j hx=>?_) ?_ ?_ ?_ rfl rfl (fun a2 j2 hx=>?_) (fun n e hx=>by cases hx))
   ·simp [aQ,aX,aT,aS,bC,getKey,gJ]
   ·simp [aQ,aX,aT,aS,bC,getKey,gJ]
   ·simp [aU,bE,rk]
   ·simp [aU,bE,rk,cS,dC,jU]
   ·cases hx;simp [bD,aU,bE,rk,cS,dC,bQ,gU,gE,eJ,jU];refine DW.seq (DW.region ?_);simp;refine a5Q.mk (wJ (X:=[]) (own:=[]) (r:=a0d l j) (enc:=fun _=> .cT []) (Y:=fun _=>[]) (av0:=[.ptr 100000 0]) b0L (b3j hV j hj) [(100000,22)] (fun a j hx=>?_) ?_ ?_ ?_ rfl rfl (fun u j2 hx=>?_) (fun n e hx=>by rw [hend] at hx;cases hx))
    ·simp [aQ,aX,aT,aS,bC,getKey,gJ]
    ·simp [aQ,aX,aT,aS,bC,getKey,gJ]
    ·simp [aU,bE,rk]
    ·simp [aU,bE,rk,cS,dC,jU]
    ·simp [bD,aU,bE,rk,cS,dC,bQ,gU,gE,eJ,jU];refine DW.seq (DW.region ?_);simp;exact DW.ret ⟨rfl,by simp⟩
  ·subst h0 h1;have p4:=hr1.dQ (x:= .tmp 4) rfl
   show Leaves _ _ _ _ [c3u _ _] .returning w2
   refine leaves_cons (f:=65) (args:= #[.pointer (some ⟨μ' 4,0,none⟩),.pointer (some ⟨μ' 5,0,none⟩)]) (by simp) (wO a0m #[] #[.pointer (some ⟨μ' 4,0,none⟩),.pointer (some ⟨μ' 5,0,none⟩)] w2) ?_
   refine (c6v _ _ w2).mono ?_
   rintro e' u' w'' ⟨rfl,rfl,rfl⟩;unfold a2m at h2;split at h2
   ·rename_i r hres;obtain ⟨v,hv1,hv2⟩:=xL (fn:=Tryz.f32) h3 hres;exact ⟨v,hv1,v,R3,μ3,rfl,((h3.ret hv1 hv2).d2t h2.1).d6s h2.2,q3.trans h4⟩
   ·exact h2.elim
end
section
open Go Go.VM
variable {G:GT}
abbrev a2H (x y:Int):List (Nat×aZ):=[(4,.cells [.d (.int .i64 x)]),(5,.cells [.d (.int .i64 y)])]
theorem a3W {base:cZ}{R:Nat→Nat→Prop}{μ:Nat→Nat}{a:Act}{w:World}{tmps:List DV}{x y:Int}(n e:Int)(hr:Rel Tryz.prog G base R μ ⟨tmps,a2H x y,[]⟩ a w)(h4:tmps[4]? =some (.ptr 4 0))(h5:tmps[5]? =some (.ptr 5 0))(RR:Ending→World→Prop)(hR:∀v R' w',(∀μ',TV R' μ' w' v (.cT [.int .i64 n,.int .i64 e]))→Step base R w R' w'→(∀b o,R' b o→b<w'.heap.size)→RR (.returned v) w'):
  Leaves Tryz.prog Tryz.f32 a.tmps RR [c3u (.pointer (some ⟨μ 4,0,none⟩)) (.pointer (some ⟨μ 5,0,none⟩))] (.panicking (wI (mR n e))) w:=by
 refine leaves_cons (f:=65) (args:= #[.pointer (some ⟨μ 4,0,none⟩),.pointer (some ⟨μ 5,0,none⟩)]) (by simp) (wO a0m #[] #[.pointer (some ⟨μ 4,0,none⟩),.pointer (some ⟨μ 5,0,none⟩)] w) ?_
 obtain ⟨base',sub,hrel0,hout⟩:=b0X (s0:=⟨[.ptr 100000 0,.ptr 100001 0],c6w x y,[]⟩) (args:= #[.pointer (some ⟨μ 4,0,none⟩),.pointer (some ⟨μ 5,0,none⟩)]) [(100000,4),(100001,5)] («d8B» :=[.ptr 4 0,.ptr 5 0]) (ls:=[]) (rest:=[]) (by simp [aQ,aX,aT,aS,bC,getKey]) (by simp [aU,bE,rk]) (by simp [aU,bE,rk,cS,dC]) rfl rfl hr rfl (fun i d hd=>by
  match i,hd with
  |0,hd=>simp at hd;subst hd;exact .ptr 4 0
  |1,hd=>simp at hd;subst hd;exact .ptr 5 0) (fun i l h=>by simp at h)
 refine (d0R n e hrel0).mono ?_
 rintro e' u' w' ⟨rfl,rfl,R',μ',a',hr',hs⟩;have hs':Step base R w R' w':=⟨hs.below.mono sub,hs.mono,fun b o h1 h2=>sub b (hs.new b o h1 h2),hs.cells⟩;have m4:μ' 100000=μ 4:=(hr'.pass 100000 (by omega)).trans (hrel0.pass 100000 (by omega)).symm;have m5:μ' 100001=μ 5:=(hr'.pass 100001 (by omega)).trans (hrel0.pass 100001 (by omega)).symm;have hfin:Rel Tryz.prog G base R' μ ⟨tmps,a2H n e,[]⟩ a w':=by
  refine ⟨hr.defers,hr.size,fun i u d hu hd=>(hr.tmps i u d hu hd).bL hs',fun k o hk=>?_,fun k k' o o' hk hk' he'=>?_,(fun c hc=>by cases hc),⟨[],rfl,fun i c v h _=>by simp at h,.nil⟩,hr.sN.bL hs',hr'.oP,fun b hb=>hr.base b (Nat.le_trans hs.below.size hb),hr.pass⟩
  ·simp only [a2H,getKey] at hk;split at hk
   ·rename_i hk4;cases hk;subst hk4;obtain ⟨q1,q2,q3⟩:=hr'.gT 100000 (.cells [.d (.int .i64 n)]) rfl;rw [m4] at q1 q2 q3;exact ⟨sub _ q1,q2,q3.b2r (ν:=μ') (K:=[]) (fun k hk=>by simp at hk) rfl⟩
   ·split at hk
    ·rename_i hk5;cases hk;subst hk5;obtain ⟨q1,q2,q3⟩:=hr'.gT 100001 (.cells [.d (.int .i64 e)]) rfl;rw [m5] at q1 q2 q3;exact ⟨sub _ q1,q2,q3.b2r (ν:=μ') (K:=[]) (fun k hk=>by simp at hk) rfl⟩
    ·cases hk
  ·have one:∀k o,getKey k (a2H n e)=some o→∃o1,getKey k (a2H x y)=some o1:=fun k o h=>by
    simp only [a2H,getKey] at h ⊢;split at h
    ·exact ⟨_,by rw [if_pos (by assumption)]⟩
    ·split at h
     ·exact ⟨_,by rw [if_neg (by assumption),if_pos (by assumption)]⟩
     ·cases h
   obtain ⟨o1,h1⟩:=one k o hk;obtain ⟨o2,h2⟩:=one k' o' hk';exact hr.inj k k' o1 o2 h1 h2 he'
 have hset:settle (.panicking [{ v:=mR n e,recovered:=true }])= .returning:=by simp [settle]
 show Leaves _ _ _ _ [] (settle _) _
 rw [hset];have hres:yQ Tryz.prog ⟨tmps,a2H n e,[]⟩ (Tryz.f32).results.toList=some (.cT [.int .i64 n,.int .i64 e]):=by simp [yQ,h4,h5]
 obtain ⟨v,hv1,hv2⟩:=xL (fn:=Tryz.f32) hfin hres;exact ⟨v,hv1,hR v R' w' (fun μ'=>TV.c1q hv2) hs' hr'.oP⟩
end
end Go.Proofs.YtjpodcmhcenjjaaGreatDoor
section
namespace Go.VM
open Go Go.RowKit
section
variable {P:Program} {G:GT} {st:St}
theorem wV {a:Act}{dst:Option Tmp}{t:Tmp}(hd:dst≠some t)(v:Value):(a.put dst v).eval (.tmp t)=a.eval (.tmp t):=by
 cases dst with
 |none=>rfl
 |some x=>exact bU _ _ (fun e=>hd (by rw [e]))
theorem c6y {o:Oper}{a:Act}{w:World}{K:Act→World→Prop}{Q:Exit→Act→World→Prop}{t:Tmp}(hd:o.dst≠some t)(h:o.wp P a w K Q):o.wp P a w (fun a' w'=>K a' w'∧a'.eval (.tmp t)=a.eval (.tmp t)) (fun e a' w'=>Q e a' w'∧(e≠ .outgrown→a'.eval (.tmp t)=a.eval (.tmp t))):=by
 unfold Oper.wp at h ⊢;generalize (execOp a.eval o).run P w=r at h ⊢;unfold Oper.upon at h ⊢;split at h
 ·exact ⟨h,wV hd _⟩
 ·exact ⟨h,wV hd _⟩
 ·rename_i d w';exact ⟨h,(wV (a:={ a with defers:=d::a.defers }) hd _).trans rfl⟩
 ·refine h.mono fun e w' hx=>?_
  cases e with
  |returned v=>exact ⟨hx,wV hd _⟩
  |panicked chain=>exact ⟨hx,fun _=>rfl⟩
  |outgrown=>obtain ⟨a0,w0,h0⟩:=hx;exact ⟨a0,w0,h0,fun h=>(h rfl).elim⟩
 ·exact h.mono fun v w' hx=>⟨hx,wV hd _⟩
 ·exact ⟨h,fun _=>rfl⟩
 ·exact h.elim
theorem a1b {all:Array Oper}{QQ:Exit→Act→World→Prop}{t:Tmp}:∀(l:List Oper) (a:Act) (w:World),(∀o∈l,o.dst≠some t)→wpList P all QQ l a w→wpList P all (fun e a' w'=>QQ e a' w'∧(e≠ .outgrown→a'.eval (.tmp t)=a.eval (.tmp t))) l a w
 |[],a,w,_,h=>⟨h,fun _=>rfl⟩
 |o::rest,a,w,hd,h=>by
  have h0:=hd o (by simp);have hr:=fun o' (ho:o'∈rest)=>hd o' (by simp [ho])
  have mono:∀(a1:Act) (w1:World),a1.eval (.tmp t)=a.eval (.tmp t)→wpList P all QQ rest a1 w1→wpList P all (fun e a' w'=>QQ e a' w'∧(e≠ .outgrown→a'.eval (.tmp t)=a.eval (.tmp t))) rest a1 w1:=fun a1 w1 he hx=>by
   have:=a1b rest a1 w1 hr hx
   rwa [he] at this
  unfold wpList at h ⊢;split at h
  ·rename_i hw;rw [if_pos hw];rcases h with h|⟨h1,a0,w0,h2⟩
   ·exact .inl (Oper.wp_mono (fun a1 w1 hx=>mono a1 w1 hx.2 hx.1) (c6y h0 h))
   ·exact .inr ⟨h1,a0,w0,h2,fun h=>(h rfl).elim⟩
  ·rename_i hw;rw [if_neg hw];exact mono _ _ (wV h0 _) h
theorem DW.frame {ds:List Deferred}{id:Nat}{ops:Array Oper}{Q:Exit→St→Prop}{t u:Tmp}(h:c3t P G ops Q ops.toList st)(ht:∀o∈ops.toList,o.dst≠some t)(hu:∀o∈ops.toList,o.dst≠some u){base:cZ}{R:Nat→Nat→Prop}{μ:Nat→Nat}{a:Act}{w:World}(hr:Rel P G base R μ st a w):
  (Code.region id ops false).wp P (fun e a' w'=>((∃a0 s R' μ',a'={ a0 with defers:=ds }∧Q e s∧Rel P G base R' μ' s a0 w'∧Step base R w R' w')∧(e≠ .outgrown→a'.eval (.tmp t)=a.eval (.tmp t)))∧(e≠ .outgrown→a'.eval (.tmp u)=a.eval (.tmp u))) { a with defers:=ds } w:=
 wp_region_list (a1b ops.toList _ w hu (a1b ops.toList _ w ht (b5l ds ops.toList st h base R μ a w hr _ fun e s a' w' R' μ' q1 q2 q3=>⟨a',s,R',μ',rfl,q1,q2,q3⟩)))
end
end Go.VM
end
namespace Go.Proofs.YtjpodcmhcenjjaaGreatDoor
section
open Go Go.VM
variable {G:GT}
abbrev b1a (s:List UInt8)(F:FuncId)(l:List Tok)(ds:List D):St:=⟨[.d (.str s),.zT F [.ptr 100001 0],.undef,.undef,.ptr 4 0,.ptr 5 0,.undef,.undef,.ptr 22 0]++List.replicate 19 .undef,[(4,.cells [.d (.int .i64 0)]),(5,.cells [.d (.int .i64 0)]),(22,rdO l 0),(100001,.cells (ds.map .d))],[]⟩
theorem c6z {α:Type}{rdP:List Tok→Nat→Nat→mH Pr}{l:List Tok}(hV:mO G rdP l)(C:α→List D)(a0:α)(n e:Int){F:FuncId}(he:VM.Enters Tryz.prog F){s:List UInt8}(hlx:CS Tryz.prog G 64 [.str s] (.cT [.sl (l.map cR),.int .i64 0,.int .i64 0]) none)(hc:kM G F [.ptr 100000 0,.ptr 100001 0] [(100001,.cells ((C a0).map .d))] [] l 0 (.bad n e:mH α) (fun _=> .cT []) (fun a=>[(100001,.cells ((C a).map .d))])):
  CHd Tryz.prog G 32 ⟨[.d (.str s),.zT F [.ptr 100001 0]],[(100001,.cells ((C a0).map .d))],[]⟩ (.cT [.int .i64 n,.int .i64 e]):=by
 intro base R μ args w hr;refine calls_of_wp_defers Tryz.func32 rfl ?_
 have hr0:=Rel.frame Tryz.ntmps32 rfl hr;refine SW.d0S (T:=fun e' s'=>e'= .normal∧wD s' (b0Z s F l [(100001,.cells ((C a0).map .d))])) ?h hr0 (fun s' R' μ' a' w' q1 q2 q3=>?_) (fun e' s' R' μ' a' w' q0 q1 q2 q3=>(q0 q1.1).elim)
 case h=>
  refine SW.xk ?_
  simp;refine SW.xk ?_
  simp;refine mB.mk tC hlx ?_
  simp;refine SW.xk ?_
  simp [List.replicate]
 ·refine a4L rfl (q2.zI q1.2) fun a1 hr1=>?_
  refine wp_seq (wp_mono (DW.frame (t:=4) (u:=5) (Q:=fun e s'=>e= .normal∧wD s' (b1a s F l (C a0))) ?hD (by decide) (by decide) hr1) fun e2 a2 w2 ⟨⟨⟨a3,s3,R3,μ3,h0,⟨h1,h2⟩,h3,h4⟩,f4⟩,f5⟩=>?_)
  case hD=>simp [List.replicate]
  ·subst h0 h1;have hr3:=h3.zI h2;have f4:a3.eval (.tmp 4)=a1.eval (.tmp 4):=f4 (by simp);have f5:a3.eval (.tmp 5)=a1.eval (.tmp 5):=f5 (by simp);have m4:μ3 4=μ' 4:=by have k1:=hr3.dQ (x:= .tmp 4) (k:=4) (off:=0) rfl;have k2:=hr1.dQ (x:= .tmp 4) (k:=4) (off:=0) rfl;rw [f4,k2] at k1;exact ((Addr.mk.inj (Option.some.inj (Value.pointer.inj k1))).1).symm
   have m5:μ3 5=μ' 5:=by have k1:=hr3.dQ (x:= .tmp 5) (k:=5) (off:=0) rfl;have k2:=hr1.dQ (x:= .tmp 5) (k:=5) (off:=0) rfl;rw [f5,k2] at k1;exact ((Addr.mk.inj (Option.some.inj (Value.pointer.inj k1))).1).symm
   have hz:a3.tmps.size=28:=hr3.size;obtain ⟨vs,hclo,hvs,hvc⟩:=(hr3.kN (x:= .tmp 1) rfl).a4W;obtain ⟨vc,rfl⟩:∃vc,vs= #[vc]:=by
    obtain ⟨L⟩:=vs
    match L,hvs with
    |[x],_=>exact ⟨x,rfl⟩
   have h8:a3.eval (.tmp 8)= .pointer (some ⟨μ3 22,0,none⟩):=hr3.dQ rfl;refine wp_seq (wp_region_list ?_);have hr4:=hr3.put (dst:=some 23) (v:= .func (.func F) #[] #[vc]) (dv:= .undef) (act:= .no) (.undef _) trivial;have hr5:=hr4.put (dst:=some 24) (v:= .pointer (some ⟨μ3 22,0,none⟩)) (dv:= .undef) (act:= .no) (.undef _) trivial;have hfin:finish (finish (b1a s F l (C a0)) (some 23) .undef .no) (some 24) .undef .no=b1a s F l (C a0):=by simp [finish,jP,cL,qD,List.replicate]
   rw [hfin] at hr5;refine oX (w':=w2) (v:= .func (.func F) #[] #[vc]) rfl (.inl (by show (pure (Next.value (a3.eval (.tmp 1))):Sem Next).run _ w2=_;rw [hclo];rfl)) rfl ?_
   refine oX (w':=w2) (v:= .pointer (some ⟨μ3 22,0,none⟩)) rfl (.inl (by show (pure (Next.value (((a3.put (some 23) (.func (.func F) #[] #[vc]))).eval (.tmp 8))):Sem Next).run _ w2=_;rw [bU _ _ (by decide),h8];rfl)) rfl ?_
   change wpList _ _ _ _ { (a3.put (some 23) (.func (.func F) #[] #[vc])).put (some 24) (.pointer (some ⟨μ3 22,0,none⟩)) with defers:=[c3u (.pointer (some ⟨μ' 4,0,none⟩)) (.pointer (some ⟨μ' 5,0,none⟩))] } w2
   generalize ha5:(a3.put (some 23) (.func (.func F) #[] #[vc])).put (some 24) (.pointer (some ⟨μ3 22,0,none⟩))=a5 at hr5 ⊢;have e23:a5.eval (.tmp 23)= .func (.func F) #[] #[vc]:=by rw [← ha5,bU _ _ (by decide)];exact dR _ _ (by omega)
   have e24:a5.eval (.tmp 24)= .pointer (some ⟨μ3 22,0,none⟩):=by rw [← ha5];exact dR _ _ (by rw [size_put];omega)
   have hd5:a5.defers=[]:=hr5.defers;have hw:∀(o:Oper) y,o.guard=none→Region.wanted o y=true:=fun o y hg=>by unfold Region.wanted;rw [hg]
   unfold wpList;rw [if_pos (hw _ _ rfl)];left;unfold Oper.wp;have e2:∀(o:Oper),o.op= .call { callee:= .value (.tmp 23),args:= #[.tmp 24],argTypes:= #[85] }→(execOp a5.eval o).run Tryz.prog w2= .ok (.enter F (#[.pointer (some ⟨μ3 22,0,none⟩)]++ #[vc])) w2:=fun o ho=>by have hi:=wO he #[.pointer (some ⟨μ3 22,0,none⟩)] #[vc] w2;simp [execOp,ho,resolve,e23,e24,Deferred.ofValue];exact hi
   show Oper.upon _ _ _ _ _ ((execOp a5.eval _).run Tryz.prog w2)
   rw [e2 _ (by rfl),Oper.upon_enter];refine (a5x.b3J (st:=b1a s F l (C a0)) hc [(100000,22),(100001,100001)] («d8B» :=[.ptr 22 0,.ptr 100001 0]) (ls:=[]) (rest:=[]) (a2H 0 0) (by simp [aQ,aX,aT,aS,bC,getKey]) (by simp [aU,bE,rk]) (by simp [aU,bE,rk,cS,dC,jU]) rfl rfl (fun k o hk=>?_) hr5 rfl (fun i d hd=>?_) (fun i l h=>by simp at h)).mono ?_
   ·simp only [a2H,getKey] at hk;split at hk
    ·rename_i hk4;subst hk4;exact ⟨by simpa [getKey] using hk,by simp [rk]⟩
    ·split at hk
     ·rename_i hk5;subst hk5;exact ⟨by simpa [getKey] using hk,by simp [rk]⟩
     ·cases hk
   ·match i,hd with
    |0,hd=>simp at hd;subst hd;exact (TV.ptr 22 0:TV R3 μ3 w2 (.pointer (some ⟨μ3 22,0,none⟩)) _)
    |1,hd=>simp at hd;subst hd;exact hvc 0 (.ptr 100001 0) rfl
   ·rintro e' w4 ⟨R4,rfl,hr6,hs6⟩;have hP:=a3W n e hr6 rfl rfl (fun en w'=>∃v R',en= .returned v∧(∀μ',TV R' μ' w' v (.cT [.int .i64 n,.int .i64 e]))∧Step base R w R' w'∧∀b o,R' b o→b<w'.heap.size) fun v R7 w7 hv hs7 hb7=>by exact ⟨v,R7,rfl,hv,((q3.trans h4).trans hs6).trans hs7,hb7⟩
    rw [m4,m5] at hP;exact hP
end
section
open Go Go.VM
variable {G:GT}
abbrev b5m (s:List UInt8)(F:FuncId)(l:List Tok)(j:Nat)(ds:List D):St:=⟨[.d (.str s),.zT F [.ptr 100001 0],.undef,.undef,.ptr 4 0,.ptr 5 0,.undef,.undef,.ptr 22 0]++List.replicate 19 .undef,[(4,.cells [.d (.int .i64 0)]),(5,.cells [.d (.int .i64 0)]),(22,rdO l j),(100001,.cells (ds.map .d))],[]⟩
theorem c3x {α:Type}{rdP:List Tok→Nat→Nat→mH Pr}{l:List Tok}(hV:mO G rdP l)(C:α→List D)(a0 a:α)(j:Nat)(n e:Int){F:FuncId}(he:VM.Enters Tryz.prog F){s:List UInt8}(hlx:CS Tryz.prog G 64 [.str s] (.cT [.sl (l.map cR),.int .i64 0,.int .i64 0]) none)(hc:kM G F [.ptr 100000 0,.ptr 100001 0] [(100001,.cells ((C a0).map .d))] [] l 0 (.ok a j) (fun _=> .cT []) (fun a=>[(100001,.cells ((C a).map .d))]))(hj:j<l.length)(hend:a0d l j= .bad n e):
  CHd Tryz.prog G 32 ⟨[.d (.str s),.zT F [.ptr 100001 0]],[(100001,.cells ((C a0).map .d))],[]⟩ (.cT [.int .i64 n,.int .i64 e]):=by
 intro base R μ args w hr;refine calls_of_wp_defers Tryz.func32 rfl ?_
 have hr0:=Rel.frame Tryz.ntmps32 rfl hr;refine SW.d0S (T:=fun e' s'=>e'= .normal∧wD s' (b0Z s F l [(100001,.cells ((C a0).map .d))])) ?h hr0 (fun s' R' μ' a' w' q1 q2 q3=>?_) (fun e' s' R' μ' a' w' q0 q1 q2 q3=>(q0 q1.1).elim)
 case h=>
  refine SW.xk ?_
  simp;refine SW.xk ?_
  simp;refine mB.mk tC hlx ?_
  simp;refine SW.xk ?_
  simp [List.replicate]
 ·refine a4L rfl (q2.zI q1.2) fun a1 hr1=>?_
  refine wp_seq (wp_mono (DW.frame (t:=4) (u:=5) (Q:=fun e s'=>e= .normal∧wD s' (b1a s F l (C a0))) ?hD (by decide) (by decide) hr1) fun e2 a2 w2 ⟨⟨⟨a3,s3,R3,μ3,h0,⟨h1,h2⟩,h3,h4⟩,f4⟩,f5⟩=>?_)
  case hD=>simp [List.replicate]
  ·subst h0 h1;have hr3:=h3.zI h2;have f4:a3.eval (.tmp 4)=a1.eval (.tmp 4):=f4 (by simp);have f5:a3.eval (.tmp 5)=a1.eval (.tmp 5):=f5 (by simp);have m4:μ3 4=μ' 4:=by have k1:=hr3.dQ (x:= .tmp 4) (k:=4) (off:=0) rfl;have k2:=hr1.dQ (x:= .tmp 4) (k:=4) (off:=0) rfl;rw [f4,k2] at k1;exact ((Addr.mk.inj (Option.some.inj (Value.pointer.inj k1))).1).symm
   have m5:μ3 5=μ' 5:=by have k1:=hr3.dQ (x:= .tmp 5) (k:=5) (off:=0) rfl;have k2:=hr1.dQ (x:= .tmp 5) (k:=5) (off:=0) rfl;rw [f5,k2] at k1;exact ((Addr.mk.inj (Option.some.inj (Value.pointer.inj k1))).1).symm
   have hz:a3.tmps.size=28:=hr3.size;refine wp_seq (wp_mono (DW.frame (t:=4) (u:=5) (Q:=fun e s'=>e= .normal∧wD s' (b5m s F l j (C a))) ?hD2 (by decide) (by decide) hr3) fun e5 a5 w5 ⟨⟨⟨a6,s6,R6,μ6,h0',⟨h1',h2'⟩,h3',h4'⟩,g4⟩,g5⟩=>?_)
   case hD2=>
    simp [List.replicate];refine a5Q.mk (wJ he hc [(100000,22),(100001,100001)] (fun a j hx=>?_) ?_ ?_ ?_ rfl rfl (fun a2 j2 hx=>?_) (fun n e hx=>by cases hx))
    ·simp [aQ,aX,aT,aS,bC,getKey,gJ]
    ·simp [aQ,aX,aT,aS,bC,getKey,gJ]
    ·simp [aU,bE,rk]
    ·simp [aU,bE,rk,cS,dC,jU]
    ·cases hx;simp [bD,aU,bE,rk,cS,dC,bQ,gU,gE,eJ,jU]
   ·subst h0' h1';have hr6:=h3'.zI h2';have g4:a6.eval (.tmp 4)=a3.eval (.tmp 4):=g4 (by simp);have g5:a6.eval (.tmp 5)=a3.eval (.tmp 5):=g5 (by simp);have n4:μ6 4=μ' 4:=by have k1:=hr6.dQ (x:= .tmp 4) (k:=4) (off:=0) rfl;have k2:=hr1.dQ (x:= .tmp 4) (k:=4) (off:=0) rfl;rw [g4,f4,k2] at k1;exact ((Addr.mk.inj (Option.some.inj (Value.pointer.inj k1))).1).symm
    have n5:μ6 5=μ' 5:=by have k1:=hr6.dQ (x:= .tmp 5) (k:=5) (off:=0) rfl;have k2:=hr1.dQ (x:= .tmp 5) (k:=5) (off:=0) rfl;rw [g5,f5,k2] at k1;exact ((Addr.mk.inj (Option.some.inj (Value.pointer.inj k1))).1).symm
    have h8:a6.eval (.tmp 8)= .pointer (some ⟨μ6 22,0,none⟩):=hr6.dQ rfl;have hz6:a6.tmps.size=28:=hr6.size;refine wp_seq (wp_region_list ?_);have hr7:=hr6.put (dst:=some 26) (v:= .pointer (some ⟨μ6 22,0,none⟩)) (dv:= .undef) (act:= .no) (.undef _) trivial;have hfin:finish (b5m s F l j (C a)) (some 26) .undef .no=b5m s F l j (C a):=by simp [finish,jP,cL,qD,List.replicate]
    rw [hfin] at hr7;refine oX (w':=w5) (v:= .pointer (some ⟨μ6 22,0,none⟩)) rfl (.inl (by show (pure (Next.value (a6.eval (.tmp 8))):Sem Next).run _ w5=_;rw [h8];rfl)) rfl ?_
    change wpList _ _ _ _ { a6.put (some 26) (.pointer (some ⟨μ6 22,0,none⟩)) with defers:=[c3u (.pointer (some ⟨μ' 4,0,none⟩)) (.pointer (some ⟨μ' 5,0,none⟩))] } w5
    generalize ha7:a6.put (some 26) (.pointer (some ⟨μ6 22,0,none⟩))=a7 at hr7 ⊢;have e26:a7.eval (.tmp 26)= .pointer (some ⟨μ6 22,0,none⟩):=by rw [← ha7];exact dR _ _ (by omega)
    have hw:∀(o:Oper) y,o.guard=none→Region.wanted o y=true:=fun o y hg=>by unfold Region.wanted;rw [hg]
    unfold wpList;rw [if_pos (hw _ _ rfl)];left;unfold Oper.wp;have e2:∀(o:Oper),o.op= .call { callee:= .value (.func 66),args:= #[.tmp 26],argTypes:= #[85] }→(execOp a7.eval o).run Tryz.prog w5= .ok (.enter 66 (#[.pointer (some ⟨μ6 22,0,none⟩)]++ #[])) w5:=fun o ho=>by
     have hi:=wO b0L #[.pointer (some ⟨μ6 22,0,none⟩)] #[] w5;have e26u:a7.tmps[26]?.getD undef= .pointer (some ⟨μ6 22,0,none⟩):=by simpa [Act.eval] using e26
     simp [execOp,ho,resolve,e26u,Deferred.ofValue,Act.eval] at hi ⊢;exact hi
    show Oper.upon _ _ _ _ _ ((execOp a7.eval _).run Tryz.prog w5)
    rw [e2 _ (by rfl),Oper.upon_enter];have hce:=b3j (G:=G) hV j hj;rw [hend] at hce;refine (a5x.b3J (st:=b5m s F l j (C a)) hce [(100000,22)] («d8B» :=[.ptr 22 0]) (ls:=[]) (rest:=[]) (a2H 0 0) (by simp [aQ,aX,aT,aS,bC,getKey]) (by simp [aU,bE,rk]) (by simp [aU,bE,rk,cS,dC,jU]) rfl rfl (fun k o hk=>?_) hr7 rfl (fun i d hd=>?_) (fun i l h=>by simp at h)).mono ?_
    ·simp only [a2H,getKey] at hk;split at hk
     ·rename_i hk4;subst hk4;exact ⟨by simpa [getKey] using hk,by simp [rk]⟩
     ·split at hk
      ·rename_i hk5;subst hk5;exact ⟨by simpa [getKey] using hk,by simp [rk]⟩
      ·cases hk
    ·match i,hd with
     |0,hd=>simp at hd;subst hd;exact (TV.ptr 22 0:TV R6 μ6 w5 (.pointer (some ⟨μ6 22,0,none⟩)) _)
    ·rintro e' w8 ⟨R8,rfl,hr8,hs8⟩;have hP:=a3W n e hr8 rfl rfl (fun en w'=>∃v R',en= .returned v∧(∀μ',TV R' μ' w' v (.cT [.int .i64 n,.int .i64 e]))∧Step base R w R' w'∧∀b o,R' b o→b<w'.heap.size) fun v R9 w9 hv hs9 hb9=>by exact ⟨v,R9,rfl,hv,(((q3.trans h4).trans h4').trans hs8).trans hs9,hb9⟩
     rw [n4,n5] at hP;exact hP
end
section
def aB {α:Type}(l:List Tok)(low:Nat)(x:aR α):Prop:=∀(i:Nat) (n e:Int),low≤i→i<l.length→x i= .bad n e→e≠0
section
variable {kw:Nm→Bool} {l:List Tok} {low m:Nat} {α β:Type}
theorem aB.up {x:aR α}{k:Nat}(h:aB l low x)(hk:low≤k):aB l k x:=fun i n e h1 h2 h3=>h i n e (by omega) h2 h3
theorem aB.aO (a:α):aB l low (pure a:aR α):=fun i n e _ _ h=>by cases h
theorem aB.bind {x:aR α}{f:α→aR β}(hx:aB l low x)(ax:aA l m x)(hf:∀a,aB l (low+m) (f a)):aB l low (x >>=f):=fun i n e h1 h2 h3=>by
 rw [eC] at h3;cases hk:x i with
 |bad n' e'=>rw [hk] at h3;cases h3;exact hx i n e h1 h2 hk
 |ok a j=>rw [hk] at h3;have:=ax i a j h2 hk;exact hf a j n e (by omega) this.2 h3
theorem aB.ite {c:Prop}[Decidable c]{x y:aR α}(hx:aB l low x)(hy:aB l low y):aB l low (if c then x else y):=by
 split
 ·exact hx
 ·exact hy
theorem aB.failed:aB l low (cH l:aR α):=fun i n e _ _ h=>by unfold cH at h;cases h;decide
theorem aB.exp (hE:oK l):∀s:List Nm,aB l low (aL l s)
 |[]=>aB.aO ()
 |s::r=>fun i n e h1 h2 h3=>by
  have h3:(if aJ l i s=true then aL l r (i+1) else cH l i)= .bad n e:=h3;split at h3
  ·rename_i hs;exact aB.exp hE r (i+1) n e (by omega) (aF hE h2 hs) h3
  ·exact aB.failed (low:=low) i n e h1 h2 h3
theorem aB.skip (s:Nm):aB l low (cM l s):=fun i n e _ _ h=>by unfold cM at h;split at h<;>cases h
theorem aB.take (ok:Tok→Bool):aB l low (mE l ok):=fun i n e h1 h2 h=>by
 unfold mE at h;split at h
 ·cases h
 ·exact aB.failed (low:=low) i n e h1 h2 h
theorem aB.loop (hE:oK l){c:Nm}{one:α→aR α}(h0:∀a,aB l low (one a))(a0:∀a,aA l 0 (one a)):∀(g:Nat) (a:α) (i:Nat) (n e:Int),low≤i→i<l.length→l.length<g+i→gR l c one g a i= .bad n e→e≠0
 |0,a,i,n,e,_,h2,h3,_=>by omega
 |g+1,a,i,n,e,h1,h2,h3,h=>by
  unfold gR at h;split at h
  ·rename_i n' e' hb;cases h;exact h0 a i n e h1 h2 hb
  ·rename_i b j hb;have:=a0 a i b j h2 hb;split at h
   ·rename_i hs;exact aB.loop hE h0 a0 g b (j+1) n e (by omega) (aF hE this.2 hs) (by omega) h
   ·cases h
theorem aB.list (hE:oK l){c:Nm}{one:α→aR α}(h0:∀a,aB l low (one a))(a0:∀a,aA l 0 (one a))(a:α):aB l low (eO l c one a):=fun i n e h1 h2 h=>aB.loop hE h0 a0 _ a i n e h1 h2 (by omega) h
theorem aB.a7Z {c:Nat→Bool}{one:α→aR α}(h0:∀a,aB l low (one a))(a1:∀a i b j,i<l.length→c i=true→one a i= .ok b j→i+1≤j∧j<l.length):∀(g:Nat) (a:α) (i:Nat) (n e:Int),low≤i→i<l.length→l.length<g+i→dF c one g a i= .bad n e→e≠0
 |0,a,i,n,e,_,h2,h3,_=>by omega
 |g+1,a,i,n,e,h1,h2,h3,h=>by
  unfold dF at h;split at h
  ·rename_i hc;split at h
   ·rename_i n' e' hb;cases h;exact h0 a i n e h1 h2 hb
   ·rename_i b j hb;have:=a1 a i b j h2 hc hb;exact aB.a7Z h0 a1 g b j n e (by omega) this.2 (by omega) h
  ·cases h
theorem aB.many {c:Nat→Bool}{one:α→aR α}(h0:∀a,aB l low (one a))(a1:∀a i b j,i<l.length→c i=true→one a i= .ok b j→i+1≤j∧j<l.length)(a:α):aB l low (oW l c one a):=fun i n e h1 h2 h=>aB.a7Z h0 a1 _ a i n e h1 h2 (by omega) h
theorem aB.b0 {x:aR α}{f:α→aR β}(hx:aB l low x)(ax:aA l m x)(hf:∀a,aB l low (f a)):aB l low (x >>=f):=aB.bind hx ax fun a=>(hf a).up (by omega)
section
variable {andP:Pr→Pr→Pr} {rdP:List Tok→Nat→Nat→mH Pr} (hE:oK l) (hB:vP rdP l) (hN:∀i e n x,i<l.length→rdP l i e= .bad n x→x≠0)
include hE
theorem aB.word:aB l low (bN kw l):=aB.take _
theorem aB.title:aB l low (eV l):=aB.take _
theorem aB.sort:aB l low (a0H kw l):=aB.take _
theorem aB.words:aB l low (cV kw l):=by unfold cV;exact aB.b0 (aB.exp hE _) (aA.exp hE _ _) fun _=>aB.b0 (aB.list hE (fun a=>aB.b0 (aB.word hE) (aA.word hE) fun _=>aB.aO _) (fun a=>((aA.word hE).le (by omega)).bl fun _=>aA.aO _) _) (aA.list hE (m:=0) (fun a=>((aA.word hE).le (by omega)).bl fun _=>aA.aO _) _) fun _=>aB.b0 (aB.exp hE _) (aA.exp hE _ _) fun _=>aB.aO _
theorem aB.vars (v:Bool):aB l low (tX kw l v):=by
 unfold tX;refine aB.list hE (fun a=>?_) (fun a=>?_) _
 ·refine aB.b0 (m:=0) (aB.ite (aB.skip _) (aB.aO _)) (aA.ite (aA.skip hE _) (aA.aO _)) fun b=>?_
  refine aB.b0 (m:=0) (aB.ite (aB.aO _) (aB.word hE)) (aA.ite (aA.aO _) ((aA.word hE).le (by omega))) fun nm=>?_
  exact aB.b0 (aB.exp hE _) (aA.exp hE _ _) fun _=>aB.b0 (aB.sort hE) (aA.sort hE) fun _=>aB.aO _
 ·refine aA.br (aA.ite (aA.skip hE _) (aA.aO _)) fun b=>?_
  refine aA.br (aA.ite (aA.aO _) ((aA.word hE).le (by omega))) fun nm=>?_
  exact ((aA.exp hE _ _).le (by omega)).bl fun _=>((aA.sort hE).le (by omega)).bl fun _=>aA.aO _
include hN in
omit hE in
theorem aB.pred:aB l low (cQ rdP l):=fun i n e h1 h2 h=>hN i _ n e h2 h
omit hE in
theorem aB.base:aB l low (jK kw l):=fun i n e h1 h2 h=>by
 unfold jK at h
 repeat' split at h
 all_goals cases h
end
section
variable {andP:Pr→Pr→Pr} {rdP:List Tok→Nat→Nat→mH Pr} (hE:oK l) (hB:vP rdP l) (hN:∀i e n x,i<l.length→rdP l i e= .bad n x→x≠0)
include hE hB hN
section
variable {ty:aR Ty} (hty:aB l (low+1) ty) (aty:aA l 1 ty)
include hty aty
theorem aB.a5r:aB l low (oB andP rdP l ty):=by
 unfold oB;refine aB.bind (m:=1) (aB.exp hE _) (aA.exp hE _ _) fun _=>aB.b0 hty aty fun t=>aB.ite aB.failed ?_
 exact aB.b0 (aB.exp hE _) (aA.exp hE _ _) fun _=>aB.b0 (aB.pred hN) hB.pred fun _=>aB.b0 (aB.exp hE _) (aA.exp hE _ _) fun _=>aB.aO _
theorem aB.rX:aB l low (dZ kw andP rdP l ty):=by
 unfold dZ;refine aB.b0 aB.base (aA.base hE) fun o=>?_
 cases o with
 |some t=>exact aB.aO _
 |none=>
  intro i n e h1 h2 h3;simp only at h3;split at h3
  ·cases h3
  ·split at h3
   ·exact aB.a5r hE hB hN hty aty i n e h1 h2 h3
   ·exact (aB.bind (m:=1) (aB.exp hE _) (aA.exp hE _ _) fun _=>aB.b0 hty aty fun t=>aB.b0 (aB.exp hE _) (aA.exp hE _ _) fun _=>aB.aO _:aB l low _) i n e h1 h2 h3
theorem aB.a7E:aB l low (mL kw andP rdP l ty):=by
 unfold mL;have hs:aB l low (dZ kw andP rdP l ty):=aB.rX hE hB hN hty aty;have ash:aA l 1 (dZ kw andP rdP l ty):=aA.rX hE (aty.le (by omega)) hB.pred;refine aB.b0 (aB.title hE) (aA.title hE) fun nm=>aB.b0 (aB.many (fun a=>aB.b0 hs ash fun _=>aB.aO _) (fun a i b j hi hc h=>(ash.bl fun _=>aA.aO _) i b j hi h) _) (aA.many (fun a=>(ash.le (by omega)).bl fun _=>aA.aO _) _) fun args=>aB.b0 (aB.skip _) (aA.skip hE _) fun b=>aB.ite ?_ (aB.aO _)
 refine aB.b0 (m:=0) (aB.list hE (fun a=>aB.b0 (aB.exp hE _) (aA.exp hE _ _) fun _=>aB.b0 (aB.pred hN) hB.pred fun _=>aB.aO _) (fun a=>((aA.exp hE _ _).le (by omega)).bl fun _=>hB.pred.bl fun _=>aA.aO _) _) (aA.list hE (fun a=>((aA.exp hE _ _).le (by omega)).bl fun _=>hB.pred.bl fun _=>aA.aO _) _) fun ps=>aB.b0 (aB.exp hE _) (aA.exp hE _ _) fun _=>aB.aO _
theorem aB.b4f:aB l low (qE kw l ty):=by
 unfold qE;have n1:∀out:List Nm×List Ty,aB l (low+1) (do
   let w ← bN kw l
   aL l [[58]]
   let t ← ty
   pure (out.1++[w],out.2++[t]):aR (List Nm×List Ty)):=fun out=>aB.b0 (aB.word hE) (aA.word hE) fun _=>aB.b0 (aB.exp hE _) (aA.exp hE _ _) fun _=>aB.b0 hty aty fun _=>aB.aO _
 have n2:∀out:List Nm×List Ty,aB l (low+1) (do
   let t ← ty
   pure (out.1,out.2++[t]):aR (List Nm×List Ty)):=fun out=>aB.b0 hty aty fun _=>aB.aO _
 have a1:∀out:List Nm×List Ty,aA l 0 (do
   let w ← bN kw l
   aL l [[58]]
   let t ← ty
   pure (out.1++[w],out.2++[t]):aR (List Nm×List Ty)):=fun out=>((aA.word hE).le (by omega)).bl fun _=>((aA.exp hE _ _).le (by omega)).bl fun _=>(aty.le (by omega)).bl fun _=>aA.aO _
 have a2:∀out:List Nm×List Ty,aA l 0 (do
   let t ← ty
   pure (out.1,out.2++[t]):aR (List Nm×List Ty)):=fun out=>(aty.le (by omega)).bl fun _=>aA.aO _
 refine aB.bind (m:=1) (aB.exp hE _) (aA.exp hE _ _) fun _=>aB.b0 (m:=0) (fun i n e h1 h2 h3=>?_) (fun i a j h2 h3=>?_) fun q=>?_
 ·split at h3
  ·exact aB.list hE n1 a1 _ i n e h1 h2 h3
  ·exact aB.list hE n2 a2 _ i n e h1 h2 h3
 ·split at h3
  ·exact aA.list hE a1 _ i a j h2 h3
  ·exact aA.list hE a2 _ i a j h2 h3
 ·obtain ⟨ns,ts⟩:=q;refine aB.b0 (aB.exp hE _) (aA.exp hE _ _) fun _=>fun i n e h1 h2 h3=>?_
  simp only at h3;split at h3
  ·cases h3
  ·exact (aB.b0 (aB.exp hE _) (aA.exp hE _ _) fun _=>aB.b0 hty aty fun _=>aB.aO _:aB l (low+1) _) i n e h1 h2 h3
theorem aB.b6M:aB l low (rI kw andP rdP l ty):=by
 unfold rI;refine aB.b0 aB.base (aA.base hE) fun o=>?_
 cases o with
 |some t=>exact aB.aO _
 |none=>
  intro i n e h1 h2 h3;simp only at h3;split at h3
  ·exact aB.a7E hE hB hN hty aty i n e h1 h2 h3
  ·split at h3
   ·exact aB.a5r hE hB hN hty aty i n e h1 h2 h3
   ·exact aB.b4f hE hB hN hty aty i n e h1 h2 h3
end
theorem aB.a3s:∀(n:Nat) (low:Nat),l.length<n+low→aB l low (rJ kw andP rdP l n)
 |0,low,h=>fun i n e h1 h2 h3=>by omega
 |n+1,low,h=>aB.b6M hE hB hN (aB.a3s n (low+1) (by omega)) (aA.a3s hE hB.pred n)
theorem aB.uQ:aB l low (cB kw andP rdP l):=aB.a3s hE hB hN _ low (by omega)
theorem aB.types:aB l low (mM kw andP rdP l):=by unfold mM;have ht:aB l low (cB kw andP rdP l):=aB.uQ hE hB hN;have hta:aA l 1 (cB kw andP rdP l):=aA.uQ hE hB.pred;exact aB.b0 (aB.skip _) (aA.skip hE _) fun b=>aB.ite (aB.b0 (m:=0) (aB.list hE (fun a=>aB.b0 ht hta fun _=>aB.aO _) (fun a=>(hta.le (by omega)).bl fun _=>aA.aO _) _) (aA.list hE (fun a=>(hta.le (by omega)).bl fun _=>aA.aO _) _) fun _=>aB.b0 (aB.exp hE _) (aA.exp hE _ _) fun _=>aB.aO _) (aB.aO _)
section
variable {ex:Nat→aR bW} (hx:∀k,aB l (low+1) (ex k)) (ax:∀k,aA l 1 (ex k))
include hx ax
theorem aB.eP:aB l low (eN l ex):=by unfold eN;exact aB.bind (m:=1) (aB.exp hE _) (aA.exp hE _ _) fun _=>aB.b0 (m:=0) (aB.list hE (fun a=>aB.b0 (hx 0) (ax 0) fun _=>aB.aO _) (fun a=>((ax 0).le (by omega)).bl fun _=>aA.aO _) _) (aA.list hE (fun a=>((ax 0).le (by omega)).bl fun _=>aA.aO _) _) fun _=>aB.b0 (aB.exp hE _) (aA.exp hE _ _) fun _=>aB.aO _
theorem aB.a6y (op:Int):aB l low (rV l ex op):=by unfold rV;exact aB.bind (m:=1) (aB.exp hE _) (aA.exp hE _ _) fun _=>aB.b0 (hx 0) (ax 0) fun _=>aB.b0 (aB.exp hE _) (aA.exp hE _ _) fun _=>aB.aO _
theorem aB.b9n:aB l (low+1) (sY kw andP rdP l ex):=by
 unfold sY;refine aB.b0 (aB.word hE) (aA.word hE) fun _=>aB.b0 (aB.skip _) (aA.skip hE _) fun b=>aB.b0 (m:=0) (aB.ite (aB.b0 (aB.uQ hE hB hN) (aA.uQ hE hB.pred) fun _=>aB.aO _) (aB.aO _)) (aA.ite (((aA.uQ hE hB.pred).le (by omega)).bl fun _=>aA.aO _) (aA.aO _)) fun _=>?_
 exact aB.b0 (aB.exp hE _) (aA.exp hE _ _) fun _=>aB.b0 (hx 0) (ax 0) fun _=>aB.b0 (aB.exp hE _) (aA.exp hE _ _) fun _=>aB.b0 (hx 0) (ax 0) fun _=>aB.aO _
theorem aB.a4r:aB l (low+1) (mN kw l ex):=by
 unfold mN;have aw:aA l 0 (fun i=>if aJ l i [40] then cV kw l i else .ok [] i:aR (List Nm)):=fun i b j hi h=>by
  simp only at h;split at h
  ·exact ((aA.words hE).le (by omega)) _ _ _ hi h
  ·cases h;omega
 have nw:aB l (low+1) (fun i=>if aJ l i [40] then cV kw l i else .ok [] i:aR (List Nm)):=fun i n e h1 h2 h=>by
  simp only at h;split at h
  ·exact aB.words hE (low:=low+1) i n e h1 h2 h
  ·cases h
 refine aB.b0 (hx 0) (ax 0) fun _=>aB.b0 (aB.exp hE _) (aA.exp hE _ _) fun _=>aB.b0 (m:=0) (aB.list hE (fun a=>?_) (fun a=>?_) _) (aA.list hE (fun a=>?_) _) fun _=>aB.b0 (aB.exp hE _) (aA.exp hE _ _) fun _=>aB.aO _
 ·exact aB.b0 (aB.title hE) (aA.title hE) fun _=>aB.b0 nw aw fun _=>aB.b0 (aB.exp hE _) (aA.exp hE _ _) fun _=>aB.b0 (hx 0) (ax 0) fun _=>aB.aO _
 all_goals exact ((aA.title hE).le (by omega)).bl fun _=>aw.bl fun _=>((aA.exp hE _ _).le (by omega)).bl fun _=>((ax 0).le (by omega)).bl fun _=>aA.aO _
theorem aB.b9o:aB l (low+1) (sZ kw andP rdP l ex):=by
 unfold sZ;refine aB.b0 (aB.exp hE _) (aA.exp hE _ _) fun _=>aB.b0 (m:=0) (aB.list hE (fun a=>?_) (fun a=>?_) _) (aA.list hE (fun a=>?_) _) fun _=>aB.b0 (aB.exp hE _) (aA.exp hE _ _) fun _=>aB.b0 (hx 0) (ax 0) fun _=>aB.aO _
 ·exact aB.b0 (aB.word hE) (aA.word hE) fun _=>aB.b0 (aB.skip _) (aA.skip hE _) fun _=>aB.b0 (m:=0) (aB.ite (aB.uQ hE hB hN) (aB.aO _)) (aA.ite ((aA.uQ hE hB.pred).le (by omega)) (aA.aO _)) fun _=>aB.aO _
 all_goals exact ((aA.word hE).le (by omega)).bl fun _=>(aA.skip hE _).bl fun _=>aA.bl (aA.ite ((aA.uQ hE hB.pred).le (by omega)) (aA.aO _)) fun _=>aA.aO _
theorem aB.wH:aB l low (dI kw andP rdP l ex):=by
 unfold dI;refine aB.bind (m:=1) (aB.exp hE _) (aA.exp hE _ _) fun _=>fun i n e h1 h2 h=>?_
 split at h
 ·cases h
 ·exact (aB.b0 (hx 0) (ax 0) fun _=>aB.b0 (aB.skip _) (aA.skip hE _) fun _=>aB.b0 (m:=0) (aB.ite (aB.b0 (aB.uQ hE hB hN) (aA.uQ (kw:=kw) (andP:=andP) hE hB.pred) fun _=>aB.aO _) (aB.aO _)) (aA.ite (((aA.uQ hE hB.pred).le (by omega)).bl fun _=>aA.aO _) (aA.aO _)) fun _=>aB.b0 (aB.exp hE _) (aA.exp hE _ _) fun _=>aB.aO _:aB l (low+1) _) i n e h1 h2 h
theorem aB.a9H:aB l low (mV kw andP rdP l ex):=fun i n e h1 h2 h=>by
 unfold mV at h;split at h
 ·cases h
 split at h
 ·cases h
 split at h
 ·cases h
 split at h
 ·rename_i hs;exact aB.a6y hE hB hN hx ax 22 (i+1) n e (by omega) (aF hE h2 hs) h
 split at h
 ·rename_i hs;exact aB.a6y hE hB hN hx ax 23 (i+1) n e (by omega) (aF hE h2 hs) h
 split at h
 ·rename_i hs;exact (aB.b0 (aB.exp hE _) (aA.exp hE _ _) fun _=>aB.b0 (hx 0) (ax 0) fun _=>aB.b0 (aB.exp hE _) (aA.exp hE _ _) fun _=>aB.b0 (hx 0) (ax 0) fun _=>aB.b0 (aB.exp hE _) (aA.exp hE _ _) fun _=>aB.aO _:aB l (low+1) _) (i+1) n e (by omega) (aF hE h2 hs) h
 split at h
 ·rename_i hs;have hn:i+1<l.length:=kF hE h2 (by unfold jJ at hs;simp only [d8D,decide_eq_true_eq] at hs;omega);split at h
  ·cases h
  ·exact (aB.b0 (aB.types hE hB hN) (aA.types hE hB.pred) fun _=>aB.b0 (aB.eP hE hB hN hx ax) (aA.eP hE ax) fun _=>aB.aO _:aB l low _) (i+1) n e (by omega) hn h
 split at h
 ·rename_i hs;have hn:i+1<l.length:=kF hE h2 (by unfold kT at hs;simp only [decide_eq_true_eq] at hs;omega);refine (aB.b0 (aB.types hE hB hN) (aA.types hE hB.pred) fun _=>aB.b0 (m:=0) (fun i n e h1 h2 h=>?_) (fun i b j hi h=>?_) fun _=>aB.aO _:aB l low _) (i+1) n e (by omega) hn h
  ·split at h
   ·exact aB.eP hE hB hN hx ax i n e h1 h2 h
   ·cases h
  ·split at h
   ·exact ((aA.eP hE ax).le (by omega)) _ _ _ hi h
   ·cases h;omega
 ·exact aB.wH hE hB hN hx ax i n e h1 h2 h
theorem aB.unG:aB l low (mA kw andP rdP l ex):=fun i n e h1 h2 h=>by
 unfold mA at h;split at h
 ·rename_i hs;exact (aB.b0 (hx 7) (ax 7) fun _=>aB.aO _:aB l (low+1) _) (i+1) n e (by omega) (aF hE h2 hs) h
 ·exact aB.a9H hE hB hN hx ax i n e h1 h2 h
omit hx ax hB hN in
theorem aB.chain {ops:List (Nm×Int)}{one:aR bW}(h0:aB l low one)(a0:aA l 0 one):∀(g:Nat) (e0:bW) (i:Nat) (n e:Int),low≤i→i<l.length→l.length<g+i→cN l ops one g e0 i= .bad n e→e≠0
 |0,e0,i,n,e,_,h2,h3,_=>by omega
 |g+1,e0,i,n,e,h1,h2,h3,h=>by
  unfold cN at h;split at h
  ·cases h
  ·rename_i p hp;have hs:aJ l i p.1=true:=by simpa using List.find?_some hp
   have hn:=aF hE h2 hs;split at h
   ·rename_i n' e' hb;cases h;exact h0 (i+1) n e (by omega) hn hb
   ·rename_i x j hb;have:=a0 (i+1) x j hn hb;exact aB.chain h0 a0 g _ j n e (by omega) this.2 (by omega) h
omit hx ax hB hN in
theorem aB.lvl {ops:List (Nm×Int)}{one:aR bW}(h0:aB l low one)(a1:aA l 1 one):aB l low (pR l ops one):=by unfold pR;exact aB.b0 h0 a1 fun e0=>fun i n e h1 h2 h=>aB.chain hE h0 (a1.le (by omega)) _ e0 i n e h1 h2 (by omega) h
theorem aB.a1w:aB l low (bX kw andP rdP l ex):=aB.lvl hE (aB.lvl hE (aB.unG hE hB hN hx ax) (aA.unG hE ax hB.pred)) (aA.b6N hE ax hB.pred)
theorem aB.yC:aB l low (kU kw andP rdP l ex):=by
 unfold kU;have hs:aB l low (bX kw andP rdP l ex):=aB.a1w hE hB hN hx ax;have ha:aA l 1 (bX kw andP rdP l ex):=aA.a1w hE ax hB.pred;have one:∀(f:bW→bW) (i:Nat) (n e:Int) (w:Nm),low≤i→i<l.length→aJ l i w=true→(bX kw andP rdP l ex >>=fun x=>pure (f x)) (i+1)= .bad n e→e≠0:=fun f i n e w h1 h2 hw h=>(aB.b0 hs ha fun _=>aB.aO _:aB l low _) (i+1) n e (by omega) (aF hE h2 hw) h
 refine aB.b0 hs ha fun e0=>fun i n e h1 h2 h=>?_
 split at h
 ·rename_i hw;exact one _ i n e _ h1 h2 hw h
 split at h
 ·rename_i hw;exact one _ i n e _ h1 h2 hw h
 split at h
 ·rename_i hw;exact one _ i n e _ h1 h2 hw h
 split at h
 ·rename_i hw;exact one _ i n e _ h1 h2 hw h
 split at h
 ·rename_i hw;exact one _ i n e _ h1 h2 hw h
 split at h
 ·rename_i hw;exact one _ i n e _ h1 h2 hw h
 ·cases h
theorem aB.a0L:aB l low (mP kw andP rdP l ex):=fun i n e h1 h2 h=>by
 unfold mP at h;split at h
 ·rename_i hs;exact (aB.b0 (hx 3) (ax 3) fun _=>aB.aO _:aB l (low+1) _) (i+1) n e (by omega) (aF hE h2 hs) h
 ·exact aB.yC hE hB hN hx ax i n e h1 h2 h
theorem aB.orG:aB l low (xO kw andP rdP l ex):=aB.lvl hE (aB.lvl hE (aB.a0L hE hB hN hx ax) (aA.a0L hE ax hB.pred)) (aA.lvl hE (aA.a0L hE ax hB.pred))
theorem aB.exG:aB l low (sH kw andP rdP l ex):=fun i n e h1 h2 h=>by
 unfold sH at h;split at h
 ·rename_i hs;exact aB.b9n hE hB hN hx ax (i+1) n e (by omega) (aF hE h2 hs) h
 split at h
 ·rename_i hs;exact (aB.b0 (hx 0) (ax 0) fun _=>aB.b0 (aB.exp hE _) (aA.exp hE _ _) fun _=>aB.b0 (hx 0) (ax 0) fun _=>aB.b0 (aB.exp hE _) (aA.exp hE _ _) fun _=>aB.b0 (hx 0) (ax 0) fun _=>aB.aO _:aB l (low+1) _) (i+1) n e (by omega) (aF hE h2 hs) h
 split at h
 ·rename_i hs;exact aB.a4r hE hB hN hx ax (i+1) n e (by omega) (aF hE h2 hs) h
 split at h
 ·rename_i hs;exact aB.b9o hE hB hN hx ax (i+1) n e (by omega) (aF hE h2 hs) h
 split at h
 ·rename_i hs;exact (aB.b0 (aB.word hE) (aA.word hE) fun _=>aB.b0 ((aB.eP hE hB hN hx ax).up (by omega)) (aA.eP hE ax) fun _=>aB.b0 (aB.exp hE _) (aA.exp hE _ _) fun _=>aB.b0 (hx 0) (ax 0) fun _=>aB.aO _:aB l (low+1) _) (i+1) n e (by omega) (aF hE h2 hs) h
 ·exact aB.orG hE hB hN hx ax i n e h1 h2 h
end
theorem aB.exF:∀(n:Nat) (low:Nat),l.length<n+low→∀k,aB l low (jG kw andP rdP l n k)
 |0,low,h,k=>fun i n e h1 h2 h3=>by omega
 |n+1,low,h,k=>by
  have hx:=aB.exF n (low+1) (by omega);have ax:=aA.exF (kw:=kw) (andP:=andP) hE hB.pred n;unfold jG;split
  ·exact aB.unG hE hB hN hx ax
  ·split
   ·exact aB.a0L hE hB hN hx ax
   ·exact aB.exG hE hB hN hx ax
theorem aB.expr:aB l low (a2b kw andP rdP l):=aB.exF hE hB hN _ low (by omega) 0
end
end
end
section
section
variable {kw:Nm→Bool} {l:List Tok} {low m:Nat} {α β:Type}
variable {andP:Pr→Pr→Pr} {rdP:List Tok→Nat→Nat→mH Pr} (hE:oK l) (hB:vP rdP l) (hN:∀i e n x,i<l.length→rdP l i e= .bad n x→x≠0)
include hE
theorem aB.xN:aB l low (uO kw l):=by unfold uO;exact aB.list hE (fun a=>aB.b0 (aB.title hE) (aA.title hE) fun _=>aB.b0 (aB.word hE) (aA.word hE) fun _=>aB.aO _) (fun a=>((aA.title hE).le (by omega)).bl fun _=>((aA.word hE).le (by omega)).bl fun _=>aA.aO _) _
theorem b3t (a:List Nm)(i:Nat)(b:List Nm)(j:Nat)(hi:i<l.length)(h:(do let w ← bN kw l;pure (a++[w]):aR (List Nm)) i= .ok b j):i+1≤j∧j<l.length:=((aA.word hE).bl fun _=>aA.aO _:aA l 1 _) i b j hi h
theorem aB.head (mode:Int):aB l low (a0I kw l mode):=by
 unfold a0I;refine aB.b0 (aB.word hE) (aA.word hE) fun nm=>aB.b0 (m:=0) (fun i n e h1 h2 h=>?_) (fun i a j hi h=>?_) fun _=>aB.aO _
 ·split at h
  ·split at h
   ·cases h
   ·exact aB.words hE (low:=low) i n e h1 h2 h
  ·cases h
 ·split at h
  ·rename_i hs;have h1:=aF hE hi hs;split at h
   ·rename_i hf;have h2:=kF hE h1 (rW hE hf);cases h;omega
   ·exact ((aA.words hE).le (by omega)) _ _ _ hi h
  ·cases h;omega
include hB hN
theorem aB.bound:aB l low (uP kw rdP l):=by unfold uP;exact aB.b0 (aB.word hE) (aA.word hE) fun _=>aB.b0 (aB.exp hE _) (aA.exp hE _ _) fun _=>aB.b0 (aB.vars hE _) (aA.vars hE _) fun _=>aB.b0 (aB.exp hE _) (aA.exp hE _ _) fun _=>aB.b0 (aB.pred hN) hB.pred fun _=>aB.b0 (aB.exp hE _) (aA.exp hE _ _) fun _=>aB.b0 (aB.pred hN) hB.pred fun _=>aB.b0 (aB.exp hE _) (aA.exp hE _ _) fun _=>aB.aO _
theorem aB.con:aB l low (a7D kw andP rdP l):=by
 unfold a7D;have n1:∀out:List Nm×List Ty,aB l low (do
   let w ← bN kw l
   aL l [[58]]
   let t ← cB kw andP rdP l
   pure (out.1++[w],out.2++[t]):aR (List Nm×List Ty)):=fun out=>aB.b0 (aB.word hE) (aA.word hE) fun _=>aB.b0 (aB.exp hE _) (aA.exp hE _ _) fun _=>aB.b0 (aB.uQ hE hB hN) (aA.uQ hE hB.pred) fun _=>aB.aO _
 have a1:∀out:List Nm×List Ty,aA l 0 (do
   let w ← bN kw l
   aL l [[58]]
   let t ← cB kw andP rdP l
   pure (out.1++[w],out.2++[t]):aR (List Nm×List Ty)):=fun out=>((aA.word hE).le (by omega)).bl fun _=>((aA.exp hE _ _).le (by omega)).bl fun _=>((aA.uQ hE hB.pred).le (by omega)).bl fun _=>aA.aO _
 exact aB.b0 (aB.title hE) (aA.title hE) fun _=>aB.b0 (aB.skip _) (aA.skip hE _) fun _=>aB.ite (aB.b0 (m:=0) (aB.list hE n1 a1 _) (aA.list hE a1 _) fun _=>aB.b0 (aB.exp hE _) (aA.exp hE _ _) fun _=>aB.aO _) (aB.aO _)
theorem aB.data:aB l low (a0K kw andP rdP l):=by
 unfold a0K;refine aB.b0 (aB.title hE) (aA.title hE) fun _=>aB.b0 (m:=0) (aB.many (fun a=>aB.b0 (aB.word hE) (aA.word hE) fun _=>aB.aO _) (fun a i b j hi _ h=>b3t hE a i b j hi h) _) (aA.many (fun a=>((aA.word hE).le (by omega)).bl fun _=>aA.aO _) _) fun _=>aB.b0 (aB.skip _) (aA.skip hE _) fun _=>?_
 refine aB.b0 (m:=0) (aB.ite (aB.b0 (aB.vars hE _) (aA.vars hE _) fun _=>aB.b0 (aB.exp hE _) (aA.exp hE _ _) fun _=>aB.aO _) (aB.aO _)) (aA.ite (((aA.vars hE _).le (by omega)).bl fun _=>((aA.exp hE _ _).le (by omega)).bl fun _=>aA.aO _) (aA.aO _)) fun _=>aB.b0 (aB.exp hE _) (aA.exp hE _ _) fun _=>?_
 exact aB.b0 (m:=0) (aB.list hE (fun a=>aB.b0 (aB.con hE hB hN) (aA.con hE hB.pred) fun _=>aB.aO _) (fun a=>((aA.con hE hB.pred).le (by omega)).bl fun _=>aA.aO _) _) (aA.list hE (fun a=>((aA.con hE hB.pred).le (by omega)).bl fun _=>aA.aO _) _) fun _=>aB.aO _
theorem aB.cls:aB l low (wG kw andP rdP l):=by
 unfold wG;have n1:∀out:List (Nm×Ty),aB l low (do
   let w ← bN kw l
   aL l [[58]]
   let t ← cB kw andP rdP l
   pure (out++[(w,t)]):aR (List (Nm×Ty))):=fun out=>aB.b0 (aB.word hE) (aA.word hE) fun _=>aB.b0 (aB.exp hE _) (aA.exp hE _ _) fun _=>aB.b0 (aB.uQ hE hB hN) (aA.uQ hE hB.pred) fun _=>aB.aO _
 have a1:∀out:List (Nm×Ty),aA l 0 (do
   let w ← bN kw l
   aL l [[58]]
   let t ← cB kw andP rdP l
   pure (out++[(w,t)]):aR (List (Nm×Ty))):=fun out=>((aA.word hE).le (by omega)).bl fun _=>((aA.exp hE _ _).le (by omega)).bl fun _=>((aA.uQ hE hB.pred).le (by omega)).bl fun _=>aA.aO _
 exact aB.b0 (aB.title hE) (aA.title hE) fun _=>aB.b0 (aB.word hE) (aA.word hE) fun _=>aB.b0 (aB.exp hE _) (aA.exp hE _ _) fun _=>aB.b0 (m:=0) (aB.list hE n1 a1 _) (aA.list hE a1 _) fun _=>aB.aO _
theorem aB.c4Z:aB l low (a2d kw rdP l):=by
 unfold a2d;have aw:aA l 0 (fun i=>if aJ l i [40] then cV kw l i else .ok [] i:aR (List Nm)):=fun i b j hi h=>by
  simp only at h;split at h
  ·exact ((aA.words hE).le (by omega)) _ _ _ hi h
  ·cases h;omega
 have nw:aB l low (fun i=>if aJ l i [40] then cV kw l i else .ok [] i:aR (List Nm)):=fun i n e h1 h2 h=>by
  simp only at h;split at h
  ·exact aB.words hE (low:=low) i n e h1 h2 h
  ·cases h
 refine aB.b0 (aB.word hE) (aA.word hE) fun _=>aB.b0 (aB.exp hE _) (aA.exp hE _ _) fun _=>aB.b0 (aB.title hE) (aA.title hE) fun _=>aB.b0 (aB.exp hE _) (aA.exp hE _ _) fun _=>aB.b0 (aB.sort hE) (aA.sort hE) fun _=>aB.b0 (aB.exp hE _) (aA.exp hE _ _) fun _=>?_
 refine aB.b0 (m:=0) (aB.list hE (fun a=>?_) (fun a=>?_) _) (aA.list hE (fun a=>?_) _) fun _=>aB.b0 (aB.exp hE _) (aA.exp hE _ _) fun _=>aB.b0 (aB.skip _) (aA.skip hE _) fun _=>aB.b0 (m:=0) (aB.ite (aB.pred hN) (aB.aO _)) (aA.ite hB.pred (aA.aO _)) fun _=>aB.aO _
 ·exact aB.b0 (aB.title hE) (aA.title hE) fun _=>aB.b0 nw aw fun _=>aB.b0 (aB.exp hE _) (aA.exp hE _ _) fun _=>aB.b0 (aB.pred hN) hB.pred fun _=>aB.aO _
 all_goals exact ((aA.title hE).le (by omega)).bl fun _=>aw.bl fun _=>((aA.exp hE _ _).le (by omega)).bl fun _=>hB.pred.bl fun _=>aA.aO _
theorem aB.c5a:aB l low (a2e kw rdP l):=by unfold a2e;exact aB.b0 (aB.word hE) (aA.word hE) fun _=>aB.b0 (aB.exp hE _) (aA.exp hE _ _) fun _=>aB.b0 (aB.vars hE _) (aA.vars hE _) fun _=>aB.b0 (aB.exp hE _) (aA.exp hE _ _) fun _=>aB.b0 (aB.pred hN) hB.pred fun _=>aB.aO _
theorem aB.body (d:kR):aB l low (a0J kw andP rdP l d):=by unfold a0J;exact aB.b0 (aB.exp hE _) (aA.exp hE _ _) fun _=>aB.b0 (aB.expr hE hB hN) (aA.expr hE hB.pred) fun _=>aB.aO _
theorem aB.sig:aB l low (a1o kw andP rdP l):=by
 unfold a1o;refine aB.b0 (aB.skip _) (aA.skip hE _) fun b=>aB.b0 (m:=0) (aB.ite (aB.b0 (aB.word hE) (aA.word hE) fun _=>aB.b0 (m:=0) (aB.many (fun a=>aB.b0 (aB.word hE) (aA.word hE) fun _=>aB.aO _) (fun a i b j hi _ h=>b3t hE a i b j hi h) _) (aA.many (fun a=>((aA.word hE).le (by omega)).bl fun _=>aA.aO _) _) fun _=>aB.b0 (aB.exp hE _) (aA.exp hE _ _) fun _=>aB.aO _) (aB.aO _)) (aA.ite (((aA.word hE).le (by omega)).bl fun _=>(aA.many (fun a=>((aA.word hE).le (by omega)).bl fun _=>aA.aO _) _).bl fun _=>((aA.exp hE _ _).le (by omega)).bl fun _=>aA.aO _) (aA.aO _)) fun _=>?_
 refine aB.b0 (aB.skip _) (aA.skip hE _) fun b=>aB.b0 (m:=0) (aB.ite (aB.b0 (aB.xN hE) (aA.xN hE) fun _=>aB.b0 (aB.exp hE _) (aA.exp hE _ _) fun _=>aB.aO _) (aB.aO _)) (aA.ite (((aA.xN hE).le (by omega)).bl fun _=>((aA.exp hE _ _).le (by omega)).bl fun _=>aA.aO _) (aA.aO _)) fun _=>?_
 refine aB.b0 (aB.skip _) (aA.skip hE _) fun b=>aB.b0 (m:=0) (aB.ite (aB.b0 (aB.vars hE _) (aA.vars hE _) fun _=>aB.b0 (aB.exp hE _) (aA.exp hE _ _) fun _=>aB.aO _) (aB.aO _)) (aA.ite (((aA.vars hE _).le (by omega)).bl fun _=>((aA.exp hE _ _).le (by omega)).bl fun _=>aA.aO _) (aA.aO _)) fun _=>?_
 refine aB.b0 (m:=0) (aB.many (fun a=>aB.b0 (aB.exp hE _) (aA.exp hE _ _) fun _=>aB.b0 (aB.bound hE hB hN) (aA.bound hE hB.pred) fun _=>aB.aO _) (fun a i b j hi _ h=>((aA.exp hE _ _).bl fun _=>((aA.bound hE hB.pred).le (by omega)).bl fun _=>aA.aO _:aA l 1 _) i b j hi h) _) (aA.many (fun a=>((aA.exp hE _ _).le (by omega)).bl fun _=>((aA.bound hE hB.pred).le (by omega)).bl fun _=>aA.aO _) _) fun _=>?_
 have am:∀(i0:Nat) (a:List Pr),aA l 0 (do
  let p ← (fun j=>rdP l j (vF l (l.length+1) 0 i0):aR Pr)
  pure (a++[p]):aR (List Pr)):=fun i0 a=>aA.bl (m:=0) (fun i' p j' hi' h'=>by have:=hB _ _ _ _ hi' h';omega) fun _=>aA.aO _
 have nm:∀(i0:Nat) (a:List Pr),aB l low (do
  let p ← (fun j=>rdP l j (vF l (l.length+1) 0 i0):aR Pr)
  pure (a++[p]):aR (List Pr)):=fun i0 a=>aB.b0 (m:=0) (fun i' n e _ h2 h=>hN _ _ n e h2 h) (fun i' p j' hi' h'=>by have:=hB _ _ _ _ hi' h';omega) fun _=>aB.aO _
 refine aB.b0 (aB.uQ hE hB hN) (aA.uQ hE hB.pred) fun _=>aB.b0 (aB.skip _) (aA.skip hE _) fun b=>aB.b0 (m:=0) (aB.ite (fun i n e h1 h2 h=>?_) (aB.aO _)) (aA.ite (fun i a j hi h=>?_) (aA.aO _)) fun _=>aB.aO _
 ·exact aB.list hE (nm i) (am i) _ i n e h1 h2 h
 ·exact aA.list hE (am i) _ i a j hi h
theorem aB.defn:aB l low (xP kw andP rdP l):=fun i n e h1 h2 h=>by
 unfold xP at h;have asig:aA l 1 (a1o kw andP rdP l):=aA.sig hE hB;split at h
 ·rename_i hs;refine (aB.b0 (aB.head hE _) (aA.head hE _) fun _=>aB.b0 (aB.skip _) (aA.skip hE _) fun _=>aB.b0 (m:=0) (aB.ite (aB.b0 (aB.sig hE hB hN) asig fun _=>aB.aO _) (aB.aO _)) (aA.ite ((asig.le (by omega:0≤1)).bl fun _=>aA.aO _) (aA.aO _)) fun _=>aB.body hE hB hN _:aB l low _) (i+1) n e (by omega) (aF hE h2 hs) h
 split at h
 ·rename_i hs;exact (aB.b0 (aB.head hE _) (aA.head hE _) fun _=>aB.b0 (aB.exp hE _) (aA.exp hE _ _) fun _=>aB.b0 (aB.sig hE hB hN) asig fun _=>aB.aO _:aB l low _) (i+1) n e (by omega) (aF hE h2 hs) h
 split at h
 ·rename_i hs;exact (aB.b0 (aB.head hE _) (aA.head hE _) fun _=>aB.b0 (aB.exp hE _) (aA.exp hE _ _) fun _=>aB.b0 (aB.sig hE hB hN) asig fun _=>aB.body hE hB hN _:aB l low _) (i+1) n e (by omega) (aF hE h2 hs) h
 ·cases h
theorem aB.inst:aB l low (a2c kw andP rdP l):=by
 unfold a2c;have n1:∀ds:List kR,aB l low (do
  let d ← xP kw andP rdP l
  aL l [[59]]
  pure (ds++[d.getD ⟨[],[],a1u,0,false,a7Y⟩]):aR (List kR)):=fun ds=>aB.b0 (m:=0) (aB.defn hE hB hN) (aA.b9q hE hB) fun _=>aB.b0 (aB.exp hE _) (aA.exp hE _ _) fun _=>aB.aO _
 have a1:∀ds:List kR,aA l 1 (do
  let d ← xP kw andP rdP l
  aL l [[59]]
  pure (ds++[d.getD ⟨[],[],a1u,0,false,a7Y⟩]):aR (List kR)):=fun ds=>aA.br (aA.b9q hE hB) fun _=>(aA.exp hE _ _).bl fun _=>aA.aO _
 refine aB.b0 (aB.title hE) (aA.title hE) fun _=>aB.b0 (aB.rX hE hB hN (aB.uQ hE hB hN) (aA.uQ hE hB.pred)) (aA.rX hE ((aA.uQ hE hB.pred).le (by omega)) hB.pred) fun _=>aB.b0 (aB.skip _) (aA.skip hE _) fun _=>aB.b0 (m:=0) (aB.ite (aB.xN hE) (aB.aO _)) (aA.ite ((aA.xN hE).le (by omega)) (aA.aO _)) fun _=>aB.b0 (aB.exp hE _) (aA.exp hE _ _) fun _=>?_
 exact aB.b0 (m:=0) (aB.many n1 (fun a i b j hi _ h=>a1 a i b j hi h) _) (aA.many (fun a=>(a1 a).le (by omega)) _) fun _=>aB.b0 (aB.exp hE _) (aA.exp hE _ _) fun _=>aB.aO _
theorem aB.decl (m:kS):aB l low (tY kw andP rdP l m):=fun i n e h1 h2 h=>by
 unfold tY at h;split at h
 ·rename_i hs;exact (aB.b0 (aB.data hE hB hN) (aA.data hE hB.pred) fun _=>aB.aO _:aB l low _) (i+1) n e (by omega) (aF hE h2 hs) h
 split at h
 ·rename_i hs;exact (aB.b0 (aB.cls hE hB hN) (aA.cls hE hB.pred) fun _=>aB.aO _:aB l low _) (i+1) n e (by omega) (aF hE h2 hs) h
 split at h
 ·rename_i hs;exact (aB.b0 (aB.inst hE hB hN) (aA.inst hE hB) fun _=>aB.aO _:aB l low _) (i+1) n e (by omega) (aF hE h2 hs) h
 split at h
 ·rename_i hs;exact (aB.b0 (aB.c4Z hE hB hN) (aA.c4Z hE hB.pred) fun _=>aB.aO _:aB l low _) (i+1) n e (by omega) (aF hE h2 hs) h
 split at h
 ·rename_i hs;exact (aB.b0 (aB.c5a hE hB hN) (aA.c5a hE hB.pred) fun _=>aB.aO _:aB l low _) (i+1) n e (by omega) (aF hE h2 hs) h
 refine (aB.b0 (m:=0) (aB.defn hE hB hN) (aA.b9q hE hB) fun d=>?_:aB l low _) i n e h1 h2 h;cases d with
 |none=>exact aB.failed
 |some d=>exact aB.aO _
theorem aB.mod:aB l low (a9G kw andP rdP l):=by
 unfold a9G;have n1:∀m:kS,aB l low (do
  let m ← tY kw andP rdP l m
  aL l [[59]]
  pure m:aR kS):=fun m=>aB.b0 (aB.decl hE hB hN m) (aA.decl hE hB m) fun _=>aB.b0 (aB.exp hE _) (aA.exp hE _ _) fun _=>aB.aO _
 have a1:∀m:kS,aA l 1 (do
  let m ← tY kw andP rdP l m
  aL l [[59]]
  pure m:aR kS):=fun m=>(aA.decl hE hB m).bl fun _=>((aA.exp hE _ _).le (by omega)).bl fun _=>aA.aO _
 exact aB.many n1 (fun a i b j hi _ h=>a1 a i b j hi h) _
end
end
section
open Go Go.VM
variable {G:GT}
theorem a0b {α:Type}(hG:G 1=some eB)(hS:G 0=some uS)(C:α→List D)(a0:α){F:FuncId}(he:VM.Enters Tryz.prog F)(x:List Tok→aR α)(s:List UInt8)(hs:s.length≤900000000)(hc:∀l:List Tok,mO G tL l→(∀i, -9223372036854775807≤(aK l i).n∧(aK l i).n≤9223372036854775807)→0<l.length→kM G F [.ptr 100000 0,.ptr 100001 0] [(100001,.cells ((C a0).map .d))] [] l 0 (x l 0) (fun _=> .cT []) fun a=>[(100001,.cells ((C a).map .d))])(ha:∀(l:List Tok) a j,oK l→vP tL l→x l 0= .ok a j→j<l.length):
  match dU x s with
  | .ok a _=>CH Tryz.prog G 32 ⟨[.d (.str s),.zT F [.ptr 100001 0]],[(100001,.cells ((C a0).map .d))],[]⟩ ⟨[.cT [.int .i64 0,.int .i64 0]],[(100001,.cells ((C a).map .d))],[]⟩
  | .bad n e=>CHd Tryz.prog G 32 ⟨[.d (.str s),.zT F [.ptr 100001 0]],[(100001,.cells ((C a0).map .d))],[]⟩ (.cT [.int .i64 n,.int .i64 e]):=by
 have hlx:=b1I hS s hs;unfold dU;by_cases hl:40000<s.length
 ·rw [if_pos hl] at hlx ⊢;exact b0Y _ F s 0 7 (by decide) hlx
 ·rw [if_neg hl] at hlx ⊢;cases hr:dL gN s 0 1 false with
  |error n=>rw [hr] at hlx;exact b0Y _ F s n 14 (by decide) hlx
  |ok l=>
   rw [hr] at hlx;have hV:mO G tL l:=b3s hG hr (by omega);have hN:=c3s hr;have hpos:0<l.length:=List.length_pos_iff.2 hV.fin.1;have hcl:=hc l hV hN hpos;simp only;cases hx:x l 0 with
   |bad n e=>rw [hx] at hcl;exact c6z hV C a0 n e he hlx hcl
   |ok a j=>
    rw [hx] at hcl;have hj:=ha l a j hV.fin hV.pU hx;simp only;cases hend:a0d l j with
    |bad n e=>exact c3x hV C a0 a j n e he hlx hcl hj hend
    |ok u k=>
     have hk:a0d l j= .ok () j:=by
      unfold a0d at hend ⊢;split at hend
      ·rename_i h0;rw [if_pos h0]
      ·unfold cH at hend;cases hend
     exact d0T hV C a0 a j he hlx hcl hj hk
theorem a2I {α:Type}{x:List Tok→aR α}{s:List UInt8}(h:∀(l:List Tok) n e,oK l→vP tL l→0<l.length→x l 0= .bad n e→e≠0){n e:Int}(hb:dU x s= .bad n e):e≠0:=by
 unfold dU at hb;split at hb
 ·cases hb;decide
 ·split at hb
  ·cases hb;decide
  ·rename_i l hl;have hE:=b5k (sX s 0 1 false l hl);have hpos:0<l.length:=List.length_pos_iff.2 hE.1;have hfin:oK l:=by
    refine ⟨hE.1,hE.2 _ ?_⟩;unfold aK;rw [if_pos (by omega),List.getD_eq_getElem?_getD,d8H (by omega)]
    rfl
   split at hb
   ·rename_i n' e' hx;cases hb;exact h l _ _ hfin (fun e i p j hi hx=>b5j hE.2 e i p j hi hx) hpos hx
   ·rename_i a j hx;split at hb
    ·rename_i n' e' he;cases hb;unfold a0d at he;split at he
     ·cases he
     ·unfold cH at he;cases he;decide
    ·cases hb
theorem b1b (l:List Tok):∀i e n x,i<l.length→tL l i e= .bad n x→x≠0:=fun i e n x _ h=>by
 unfold tL at h;split at h
 ·cases h;decide
 ·split at h
  ·cases h
  ·rename_i hc;cases h;exact hc
abbrev moN:List D:=[.aN,.aN,.aN,.aN,.aN,.aN]
def moC:Option kS→List D
 |none=>moN
 |some m=>a3L m
def a4M {α:Type}:mH α→mH (Option α)
 | .ok a j=> .ok (some a) j
 | .bad n e=> .bad n e
section
variable {rdP:List Tok→Nat→Nat→mH Pr} {l:List Tok} (hV:mO G rdP l) (hN:∀i, -9223372036854775807≤(aK l i).n∧(aK l i).n≤9223372036854775807)
include hV hN
theorem b1c (i:Nat)(hi:i<l.length):kM G 40 [.ptr 100000 0,.ptr 100001 0] [(100001,.cells ((moC none).map .d))] [] l i (a4M (a9G bA bF rdP l i)) (fun _=> .cT []) fun a=>[(100001,.cells ((moC a).map .d))]:=by
 have h:=b2b hV hN i hi;cases hr:a9G bA bF rdP l i with
 |ok m j=>
  rw [hr] at h;intro base R μ args w hrel;refine (h base R μ args w (hrel.zI ⟨by simp [moC],by simp [vI,moC],by simp [moC],by simp [bC,moC,vI,getKey]⟩)).mono ?_
  rintro e w' ⟨v,R',μ',h1,h2,h3⟩;exact ⟨v,R',μ',h1,h2.zI ⟨by simp [moC,a3L],by simp [vI,moC,a3L],by simp [moC,a3L],by simp [bC,moC,a3L]⟩,h3⟩
 |bad n e=>rw [hr] at h;intro base R μ args w hrel;exact h base R μ args w (hrel.zI ⟨by simp [moC],by simp [vI,moC],by simp [moC],by simp [bC,moC,vI,getKey]⟩)
end
end
section
abbrev tyM (l:List Tok):aR Ty:=cB bA bF tL l
abbrev exM (l:List Tok):aR bW:=a2b bA bF tL l
abbrev moQ (l:List Tok):aR kS:=a9G bA bF tL l
def a1A {α:Type}(z:α):mH α→α
 | .ok a _=>a
 | .bad _ _=>z
def zR {α:Type}:mH α→Int
 | .ok _ _=>0
 | .bad _ e=>e
def c3y {α:Type}:mH α→Int
 | .ok _ _=>0
 | .bad n _=>n
end
section
open Go Go.VM
variable {G:GT}
theorem a2J:VM.Enters Tryz.prog 17:=VM.Enters.mk Tryz.func17 rfl
theorem gD.mkd {P:Program}{q ro:Bool}{ls:List (Option VM.Loc)}{f:FuncId}{s0:St}{r:DV}{st:St}{«d8B» :List DV}{dst:Option Tmp}{all:Array Oper}{ops:List Oper}{k:List KI}{Q:Exit→St→Prop}{rest:List (TypeId×List VM.Loc)}(he:VM.Enters P f)(hch:CHd P G f s0 r)(K:List (Nat×Nat))(H':List (Nat×aZ))(hfit:aQ K s0 .undef s0.H=true)(hargs:WkT «d8B» (aU K s0.tmps))(hH:WkH st.H (cS K s0.H))(jW:sG st st.own (s0.own.map (oA K ls))=some rest)(harg:vO st.tmps.length ls s0.own=true)(hK:∀k o,getKey k H'=some o→getKey k st.H=some o∧∀p∈s0.H,k≠rk K p.1)(h:VK P G (.ops q all ops::k) .normal ⟨qD dst r st.tmps,H',[]⟩ Q)(hro:ro=false:=by kernel_rfl):gD P G q ro f «d8B» ls dst all ops k st Q:=gD.mk' ⟨_,⟨he,mC.d4W hch K H' hfit hargs hH jW harg hK⟩,h⟩ hro
theorem a3X (hG:G 1=some eB)(hS:G 0=some uS)(s:List UInt8)(hs:s.length≤900000000):CS Tryz.prog G 17 [.str s] (.cT [.agg (tyD (a1A pC (dU tyM s))),.int .i64 (zR (dU tyM s))]) none:=by
 have hrd:=a0b hG hS (C:=tyD) pC a6K tyM s hs (fun l hV hN hp=>b7F hV pC 0 hp) (fun l a j hE hB hx=>((aA.uQ hE hB.pred) 0 a j (List.length_pos_iff.2 hE.1) hx).2);have hnz:∀n e,dU tyM s= .bad n e→e≠0:=fun n e h=>a2I (fun l n e hE hB hp h=>aB.uQ (low:=0) hE hB (b1b l) 0 n e (Nat.zero_le _) hp h) h
 cases hr:dU tyM s with
 |ok t j=>
  rw [hr] at hrd;refine CS.bH Tryz.func17 rfl Tryz.ntmps17 rfl ?_
  simp;refine gD.mk jN hrd [(100001,4)] ?_ ?_ ?_ rfl rfl ?_ (rest:=[])
  ·simp [aQ,aX,aT,aS,bC,getKey]
  ·simp [aU,bE,rk]
  ·simp [aU,bE,rk,cS,dC,pC,mD,strs]
  ·simp [bD,aU,bE,rk,cS,dC,bQ,gU,gE,eJ,a1A,zR]
 |bad n e=>
  rw [hr] at hrd;have he:=hnz n e hr;refine CS.bH Tryz.func17 rfl Tryz.ntmps17 rfl ?_
  simp;refine gD.mkd jN hrd [(100001,4)] [(2,.cells [.d (.int .i64 0),.d (.str []),.d .aN,.d .aN,.d (.int .i64 0),.d (.str []),.d (.int .i64 0),.d .aN,.d .aN])] ?_ ?_ ?_ rfl rfl ?_ ?_ (rest:=[])
  ·simp [aQ,aX,aT,aS,bC,getKey]
  ·simp [aU,bE,rk]
  ·simp [aU,bE,rk,cS,dC,pC,mD,strs]
  ·intro k o hk;simp only [getKey] at hk;split at hk
   ·rename_i h2;subst h2;exact ⟨by simpa [getKey] using hk,by simp [rk]⟩
   ·cases hk
  ·simp [a1A,zR,he,pC,mD,strs]
theorem dP:VM.Enters Tryz.prog 14:=VM.Enters.mk Tryz.func14 rfl
theorem eF (hG:G 1=some eB)(hS:G 0=some uS)(s:List UInt8)(hs:s.length≤900000000):CS Tryz.prog G 14 [.str s] (.cT [.agg (tK (a1A a1u (dU exM s))),.int .i64 (zR (dU exM s))]) none:=by
 have hrd:=a0b hG hS (C:=tK) a1u a6J exM s hs (fun l hV hN hp=>b7G hV hN a1u 0 hp) (fun l a j hE hB hx=>((aA.exF hE hB.pred _ 0) 0 a j (List.length_pos_iff.2 hE.1) hx).2);have hnz:∀n e,dU exM s= .bad n e→e≠0:=fun n e h=>a2I (fun l n e hE hB hp h=>aB.expr (low:=0) hE hB (b1b l) 0 n e (Nat.zero_le _) hp h) h
 cases hr:dU exM s with
 |ok t j=>
  rw [hr] at hrd;refine CS.bH Tryz.func14 rfl Tryz.ntmps14 rfl ?_
  simp;refine gD.mk jN hrd [(100001,4)] ?_ ?_ ?_ rfl rfl ?_ (rest:=[])
  ·simp [aQ,aX,aT,aS,bC,getKey]
  ·simp [aU,bE,rk]
  ·simp [aU,bE,rk,cS,dC,a1u,tK,strs]
  ·simp [bD,aU,bE,rk,cS,dC,bQ,gU,gE,eJ,a1A,zR]
 |bad n e=>
  rw [hr] at hrd;have he:=hnz n e hr;refine CS.bH Tryz.func14 rfl Tryz.ntmps14 rfl ?_
  simp;refine gD.mkd jN hrd [(100001,4)] [(2,.cells [.d (.int .i64 0),.d (.str []),.d (.int .i64 0),.d .aN,.d .aN,.d .aN,.d .aN])] ?_ ?_ ?_ rfl rfl ?_ ?_ (rest:=[])
  ·simp [aQ,aX,aT,aS,bC,getKey]
  ·simp [aU,bE,rk]
  ·simp [aU,bE,rk,cS,dC,a1u,tK,strs]
  ·intro k o hk;simp only [getKey] at hk;split at hk
   ·rename_i h2;subst h2;exact ⟨by simpa [getKey] using hk,by simp [rk]⟩
   ·cases hk
  ·simp [a1A,zR,he,a1u,tK,strs]
theorem c6A {l:List Tok}(hE:oK l)(hB:vP tL l):aA l 0 (zQ tL l):=aA.bl (aA.b9q hE hB) fun d=>by
 cases d with
 |none=>exact aA.failed
 |some d=>exact (aA.skip hE _).bl fun _=>aA.aO _
theorem d0U {l:List Tok}(hE:oK l)(hB:vP tL l):aB l 0 (zQ tL l):=aB.b0 (m:=0) (aB.defn hE hB (b1b l)) (aA.b9q hE hB) fun d=>by
 cases d with
 |none=>exact aB.failed
 |some d=>exact aB.b0 (aB.skip _) (aA.skip hE _) fun _=>aB.aO _
theorem b2f:VM.Enters Tryz.prog 27:=VM.Enters.mk Tryz.func27 rfl
theorem b5n (hG:G 1=some eB)(hS:G 0=some uS)(s:List UInt8)(hs:s.length≤900000000):CS Tryz.prog G 27 [.str s] (.cT [.agg (a8j (a1A a8k (dU (zQ tL) s))),.int .i64 (zR (dU (zQ tL) s))]) none:=by
 have hrd:=a0b hG hS (C:=a8j) a8k a8n (zQ tL) s hs (fun l hV hN hp=>b9X hV hN a8k 0 hp) (fun l a j hE hB hx=>((c6A hE hB) 0 a j (List.length_pos_iff.2 hE.1) hx).2);have hnz:∀n e,dU (zQ tL) s= .bad n e→e≠0:=fun n e h=>a2I (fun l n e hE hB hp h=>d0U hE hB 0 n e (Nat.zero_le _) hp h) h
 cases hr:dU (zQ tL) s with
 |ok t j=>
  rw [hr] at hrd;refine CS.bH Tryz.func27 rfl Tryz.ntmps27 rfl ?_
  simp;refine gD.mk jN hrd [(100001,4)] ?_ ?_ ?_ rfl rfl ?_ (rest:=[])
  ·simp [aQ,aX,aT,aS,bC,getKey]
  ·simp [aU,bE,rk]
  ·simp [aU,bE,rk,cS,dC,a8k,a8j,b4S,a7Y,pC,mD,a1u,dW,strs]
  ·simp [bD,aU,bE,rk,cS,dC,bQ,gU,gE,eJ,a1A,zR]
 |bad n e=>
  rw [hr] at hrd;have he:=hnz n e hr;refine CS.bH Tryz.func27 rfl Tryz.ntmps27 rfl ?_
  simp;refine gD.mkd jN hrd [(100001,4)] [(2,.cells [.d (.str []),.d .aN,.d (.int .i64 0),.d (.str []),.d (.int .i64 0),.d .aN,.d .aN,.d .aN,.d .aN,.d (.int .i64 0),.d (.bool false),.d .aN,.d .aN,.d .aN,.d .aN,.d (.int .i64 0),.d (.str []),.d .aN,.d .aN,.d (.int .i64 0),.d (.str []),.d (.int .i64 0),.d .aN,.d .aN,.d .aN])] ?_ ?_ ?_ rfl rfl ?_ ?_ (rest:=[])
  ·simp [aQ,aX,aT,aS,bC,getKey]
  ·simp [aU,bE,rk]
  ·simp [aU,bE,rk,cS,dC,a8k,a8j,b4S,a7Y,pC,mD,a1u,dW,strs]
  ·intro k o hk;simp only [getKey] at hk;split at hk
   ·rename_i h2;subst h2;exact ⟨by simpa [getKey] using hk,by simp [rk]⟩
   ·cases hk
  ·simp [a1A,zR,he,a8k,a8j,b4S,a7Y,pC,mD,a1u,dW,strs]
theorem uG:VM.Enters Tryz.prog 21:=VM.Enters.mk Tryz.func21 rfl
abbrev d7N:kS:=⟨[],[],[],[],[],[]⟩
theorem c0j {α:Type}(x:List Tok→aR α)(s:List UInt8):dU (fun l=>(fun i=>a4M (x l i):aR (Option α))) s=a4M (dU x s):=by
 unfold dU;split
 ·rfl
 ·split
  ·rfl
  ·rename_i l hl;simp only;cases x l 0 with
   |bad n e=>rfl
   |ok a j=>simp only [a4M];cases a0d l j<;>rfl
theorem vW (hG:G 1=some eB)(hS:G 0=some uS)(s:List UInt8)(hs:s.length≤900000000):CS Tryz.prog G 21 [.str s] (.cT [.agg (a3L (a1A d7N (dU moQ s))),.int .i64 (c3y (dU moQ s)),.int .i64 (zR (dU moQ s))]) none:=by
 have hrd:=a0b hG hS (C:=moC) none a4I (fun l=>(fun i=>a4M (moQ l i):aR (Option kS))) s hs (fun l hV hN hp=>b1c hV hN 0 hp) (fun l a j hE hB hx=>by
  cases hm:moQ l 0 with
  |bad n e=>simp [hm,a4M] at hx
  |ok m k=>simp only [hm,a4M] at hx;cases hx;have pU:aA l 0 (moQ l):=aA.many (fun m=>(aA.decl hE hB m).le (by omega) |>.bl fun _=>((aA.exp hE _ _).le (by omega)).bl fun _=>aA.aO _) _;exact (pU 0 _ _ (List.length_pos_iff.2 hE.1) hm).2)
 rw [c0j] at hrd;have hnz:∀n e,dU moQ s= .bad n e→e≠0:=fun n e h=>a2I (fun l n e hE hB hp h=>aB.mod (low:=0) hE hB (b1b l) 0 n e (Nat.zero_le _) hp h) h
 cases hr:dU moQ s with
 |ok t j=>
  rw [hr] at hrd;refine CS.bH Tryz.func21 rfl Tryz.ntmps21 rfl ?_
  simp;refine gD.mk jN hrd [(100001,5)] ?_ ?_ ?_ rfl rfl ?_ (rest:=[])
  ·simp [aQ,aX,aT,aS,bC,getKey,moC,a3L]
  ·simp [aU,bE,rk]
  ·simp [aU,bE,rk,cS,dC,moC]
  ·simp [bD,aU,bE,rk,cS,dC,bQ,gU,gE,eJ,a1A,zR,c3y,moC,a3L]
 |bad n e=>
  rw [hr] at hrd;have he:=hnz n e hr;refine CS.bH Tryz.func21 rfl Tryz.ntmps21 rfl ?_
  simp;refine gD.mkd jN hrd [(100001,5)] [(2,.cells [.d .aN,.d .aN,.d .aN,.d .aN,.d .aN,.d .aN])] ?_ ?_ ?_ rfl rfl ?_ ?_ (rest:=[])
  ·simp [aQ,aX,aT,aS,bC,getKey,moC]
  ·simp [aU,bE,rk]
  ·simp [aU,bE,rk,cS,dC,moC]
  ·intro k o hk;simp only [getKey] at hk;split at hk
   ·rename_i h2;subst h2;exact ⟨by simpa [getKey] using hk,by simp [rk]⟩
   ·cases hk
  ·simp [a1A,zR,c3y,he,a3L]
end
end Go.Proofs.YtjpodcmhcenjjaaGreatDoor
section
namespace Go.VM
open Go Go.RowKit
section
variable {P:Program} {G:GT} {st:St} {base:cZ} {R:Nat→Nat→Prop} {μ:Nat→Nat} {a:Act} {w w':World}
theorem b7W {c:Array Value}{T:TypeId}{fr:Nat×Nat}{ad:Addr}{v:Value}{w1:World}(h1:w.heap[ad.block]? =some (.cells c T fr))(h2:w'.heap[ad.block]? =some (.cells c T fr))(h:(load ad).run P w= .ok v w1):(load ad).run P w'= .ok v w':=by
 rw [run_load] at h ⊢;have e:w'.cell? ad=w.cell? ad:=by unfold World.cell?;rw [h1,h2]
 rw [e];cases hc:w.cell? ad with
 |some u=>rw [hc] at h;cases h;rfl
 |none=>
  rw [hc] at h;have:∃x,w.farLoad P ad (Mode.plain==Mode.atomic)= .error x:=by unfold World.farLoad;rw [h1];exact ⟨_,rfl⟩
  obtain ⟨x,hx⟩:=this;rw [hx] at h;cases h
theorem a3Y {c:Array Value}{T:TypeId}{fr:Nat×Nat}{b off:Nat}(h1:w.heap[b]? =some (.cells c T fr))(h2:w'.heap[b]? =some (.cells c T fr)):∀(n i:Nat) (acc vs:Array Value) (w1:World),(loadCellsFrom ⟨b,off,none⟩ i n acc).run P w= .ok vs w1→(loadCellsFrom ⟨b,off,none⟩ i n acc).run P w'= .ok vs w'
 |0,i,acc,vs,w1,h=>by
  simp only [loadCellsFrom,Sem.run_pure] at h ⊢;cases h
  rfl
 |n+1,i,acc,vs,w1,h=>by
  simp only [loadCellsFrom,Sem.run_bind] at h ⊢;have hb:(Addr.add ⟨b,off,none⟩ i).block=b:=by rw [jX]
  cases hl:(load (Addr.add ⟨b,off,none⟩ i)).run P w with
  |halt x w2=>rw [hl] at h;cases h
  |ok v w2=>
   have hw2:w2=w:=by
    rw [run_load] at hl;split at hl
    ·cases hl;rfl
    ·split at hl
     ·cases hl;rfl
     ·cases hl
   rw [hw2] at hl;rw [hl] at h;rw [b7W (by rw [hb];exact h1) (by rw [hb];exact h2) hl];simp only [Result.andThen_ok] at h ⊢;exact a3Y h1 h2 n (i+1) _ vs w1 h
theorem b7X {c:Array Value}{T:TypeId}{fr:Nat×Nat}{b off:Nat}{t:TypeId}{v:Value}{w1:World}(h1:w.heap[b]? =some (.cells c T fr))(h2:w'.heap[b]? =some (.cells c T fr))(h:(loadVar t ⟨b,off,none⟩).run P w= .ok v w1):(loadVar t ⟨b,off,none⟩).run P w'= .ok v w':=by
 unfold loadVar at h ⊢;cases hu:P.underlying t with
 |none=>
  have:∀w:World,∃x,(isAgg t).run P w= .halt x w:=fun w=>by unfold isAgg;simp [underlying,hu]
  obtain ⟨x,hx⟩:=this w;rw [Sem.run_bind,hx] at h;cases h
 |some d=>
  simp only [Sem.run_bind,pF hu,Result.andThen_ok] at h ⊢;cases hd:mI d with
  |false=>simp only [hd,Bool.false_eq_true,if_false] at h ⊢;exact b7W h1 h2 h
  |true=>
   simp only [hd,if_true,Sem.run_bind] at h ⊢;cases hi:P.info? t with
   |none=>
    have:∃x,(sizeOf t).run P w= .halt x w:=by simp [sizeOf,typeInfo,hi]
    obtain ⟨x,hx⟩:=this;rw [hx] at h;cases h
   |some i=>
    have hs:∀w,(sizeOf t).run P w= .ok (P.cellsOf t) w:=mT (by rw [hi];rfl);simp only [hs,Result.andThen_ok] at h ⊢;cases hl:(loadCells ⟨b,off,none⟩ (P.cellsOf t)).run P w with
    |halt x w2=>rw [hl] at h;cases h
    |ok vs w2=>
     rw [hl] at h;rw [show (loadCells ⟨b,off,none⟩ (P.cellsOf t)).run P w'= .ok vs w' from a3Y h1 h2 _ _ _ _ _ hl];simp only [Result.andThen_ok,Sem.run_pure] at h ⊢;cases h
     rfl
def a3x (w w':World):Prop:=∀b,b<w.heap.size→w'.heap[b]? =w.heap[b]?
def c1r:Op→Bool
 | .load _ _=>true
 | .indexAddr _ _ _=>true
 |o=>a3b o
theorem c6B {o:Oper}{all:Array Oper}{K:St→Prop}(hg:o.guard=none)(hk:c1r o.op=true)(h:kO P G true all o K st)(hr:Rel P G base R μ st a w):∃v,∀w',a3x w w'→(execOp a.eval o).run P w'= .ok (.value v) w':=by
 by_cases hst:a3b o.op=true
 ·obtain ⟨v,hv⟩:=a9S hg hst h hr;exact ⟨v,fun w' _=>hv w'⟩
 unfold kO at h;rw [show eA o all st.tmps=some true from by unfold eA;rw [hg]] at h;cases hop:o.op with
 |load t x=>
  simp only [gP,dD,hop,jO] at h;split at h;rotate_left
  ·exact h.elim
  rename_i out ho;obtain ⟨v,w1,_,_,hrun,_⟩:=b5G hop ho base R μ a w hr;have key:∀ {b off:Nat} {c:Array Value} {T:TypeId} {fr:Nat×Nat},a.eval x= .pointer (some ⟨b,off,none⟩)→w.heap[b]? =some (.cells c T fr)→∃v,∀w',a3x w w'→(execOp a.eval o).run P w'= .ok (.value v) w':=fun {b off c T fr} hx hb=>by
   have hlt:b<w.heap.size:=(d8M.1 hb).1;have e:∀w,(execOp a.eval o).run P w=((loadVar t ⟨b,off,none⟩).run P w).andThen fun v w=> .ok (.value v) w:=fun w=>by simp [execOp,hop,hx,Instr.loadAt,Instr.sureAddr]
   cases hl:(loadVar t ⟨b,off,none⟩).run P w with
   |halt y w2=>rw [e,hl] at hrun;rcases hrun with hrun|⟨hrun,_⟩<;>cases hrun
   |ok u w2=>
    refine ⟨u,fun w' hw'=>?_⟩;rw [e,b7X hb ((hw' b hlt).trans hb) hl]
    rfl
  unfold a7d at ho;split at ho
  ·rename_i k off hx;split at ho
   ·rename_i cs hkk;obtain ⟨_,_,vs,T,hh,_⟩:=hr.gT k _ hkk;exact key (hr.dQ hx) hh
   ·cases ho
  ·rename_i cs hx;obtain ⟨b,off,he,hrunv⟩:=(hr.kN hx).a1J;simp only [d8C] at ho;obtain ⟨y,hy,_⟩:=ho;cases cs with
   |nil=>
    unfold takeD at hy;split at hy
    ·rename_i d hd;split at hy
     ·rename_i hagg;split at hy
      ·rename_i hle;have h0:P.cellsOf t=0:=by simpa using hle
       have hv0:∀w',(loadVar t ⟨b,off,none⟩).run P w'= .ok (.agg #[]) w':=fun w'=>by
        unfold loadVar;simp only [Sem.run_bind,pF hd,Result.andThen_ok,hagg,if_true,run_sizeOf hd,h0]
        rfl
       exact ⟨.agg #[],fun w' _=>by simp [execOp,hop,he,Instr.loadAt,Instr.sureAddr,hv0]⟩
      ·cases hy
     ·cases hy
    ·cases hy
   |cons d r=>
    obtain ⟨_,_,u,hu,_⟩:=hrunv 0 d rfl;unfold World.cell? at hu;split at hu
    ·rename_i c T fr hb;exact key he hb
    ·cases hu
  ·cases ho
 |indexAddr t x i=>
  simp only [gP,dD,hop,jO] at h;split at h;rotate_left
  ·exact h.elim
  rename_i out ho;unfold pX at ho;split at ho
  ·rename_i e es n hu hx hi;simp only [d8R] at ho;obtain ⟨j,hj,cs,hcs,ho⟩:=ho;split at ho<;>simp at ho;rename_i hlen;obtain ⟨k,hk,hjl⟩:=a6l hr hi hj;obtain ⟨ao,cap,hv,hcap,hne⟩:=(hr.jF hx).vN;obtain ⟨b,off,size,rfl,hs0,hs1,hrun⟩:=hne (by rintro rfl;simp at hcs);have hsz:size=P.cellsOf e:=by rw [← hlen,hs1 cs (d8I hcs)]
   refine ⟨.pointer (some ⟨b,off+j*size,none⟩),fun w' _=>?_⟩;have hso:=mT (eD (P:=P) (t:=e) (by omega)) w';simp [execOp,hop,hv,hk,Instr.indexAt,run_underlying hu,asIntOf,hjl,hso,jX,hsz]
  ·rename_i len e k off n hu hx hi;split at ho
   ·cases ho
   ·rename_i hne;simp only [d8C] at ho;obtain ⟨j,hj,_⟩:=ho;obtain ⟨q,hq,hjl⟩:=a6l hr hi hj;exact ⟨.pointer (some ⟨μ k,off+j*P.cellsOf e,none⟩),fun w' _=>by simp [execOp,hop,hr.dQ hx,hq,Instr.indexAt,run_underlying hu,asIntOf,Instr.sureAddr,hjl,mT (eD hne) w',jX]⟩
  ·rename_i len e cs n hu hx hi;split at ho
   ·cases ho
   ·rename_i hne;simp only [d8C] at ho;obtain ⟨j,hj,_⟩:=ho;obtain ⟨q,hq,hjl⟩:=a6l hr hi hj;obtain ⟨b,off,he,hrun⟩:=(hr.kN hx).a1J;exact ⟨.pointer (some ⟨b,off+j*P.cellsOf e,none⟩),fun w' _=>by simp [execOp,hop,he,hq,Instr.indexAt,run_underlying hu,asIntOf,Instr.sureAddr,hjl,mT (eD hne) w',jX]⟩
  ·cases ho
 |_=>simp [c1r,hop] at hk<;>simp [hop,hk] at hst
theorem a3x.refl (w:World):a3x w w:=fun _ _=>rfl
theorem c3z {o:Oper}{all:Array Oper}{K:St→Prop}(hg:o.guard=none)(hk:c1r o.op=true)(h:kO P G true all o K st)(hr:Rel P G base R μ st a w):
  ∃v s R' μ',(∀w',a3x w w'→(execOp a.eval o).run P w'= .ok (.value v) w')∧K s∧Rel P G base R' μ' s (a.put o.dst v) w∧Step base R w R' w:=by
 obtain ⟨v,hv⟩:=c6B hg hk h hr;have h1:=pQ (Q:=fun _ _ _=>False) (KK:=fun a' w'=>∃s R' μ',K s∧Rel P G base R' μ' s a' w'∧Step base R w R' w') h hr (fun s v w' R' μ' q1 q2 q3=>⟨s,R',μ',q1,q2,q3⟩);rw [if_pos (by unfold Region.wanted;rw [hg])] at h1;rcases h1 with h1|⟨_,_,_,h2⟩
 ·unfold Oper.wp at h1;rw [hv w (a3x.refl w)] at h1;obtain ⟨s,R',μ',q1,q2,q3⟩:=h1;exact ⟨v,s,R',μ',hv,q1,q2,q3⟩
 ·exact h2.elim
def c1s (ops:Array Oper):List Nat→Array Bool→Bool
 |[],_=>true
 |i::r,listed=>(match ops[i]? with
  |some o=>c1r o.op&&(o.guard==none)&&o.dst.isSome
  |none=>false)&&Region.noSelect ops&&Region.free .any ops listed i&&(Region.ready .any ops listed).contains i&&c1s ops r (listed.setIfInBounds i true)
theorem c1t {ops:Array Oper}{K:St→Prop}{QQ:Exit→Act→World→Prop}(hQ:∀c a a' w,a.defers=a'.defers→a.tmps.size=a'.tmps.size→QQ (.panic c) a w→QQ (.panic c) a' w):∀(l:List Nat) (listed:Array Bool) (fuel:Nat) (st:St),c1s ops l listed=true→rF P G true ops (sel ops l) st K→
  ∀(base:cZ) (R:Nat→Nat→Prop) (μ:Nat→Nat) (a:Act) (w:World),Rel P G base R μ st a w→(∀s a' R' μ',K s→a'.tmps.size=a.tmps.size→Rel P G base R' μ' s a' w→Step base R w R' w→wpAnyH P .any ops QQ (a3x w) fuel (cD l listed) a' w)→wpAnyH P .any ops QQ (a3x w) (l.length+fuel) listed a w
 |[],listed,fuel,st,_,h,base,R,μ,a,w,hr,hk=>by simpa [cD] using hk st a R μ h rfl hr (.refl _ _ _)
 |i::l,listed,fuel,st,hB,h,base,R,μ,a,w,hr,hk=>by
  simp only [c1s,d8D] at hB;obtain ⟨⟨⟨⟨ho,hsel⟩,hf⟩,hrd⟩,hB'⟩:=hB;split at ho;rotate_left
  ·cases ho
  rename_i o hoi;simp only [d8D,beq_iff_eq] at ho;obtain ⟨⟨hsk,hg⟩,hd⟩:=ho;simp only [sel,hoi,rF] at h;obtain ⟨v,s,R',μ',hv,hK,hr',hs'⟩:=c3z hg hsk h hr;rw [show (i::l).length+fuel=(l.length+fuel)+1 by simp only [List.length_cons];omega];refine wpAnyH_take (v:=v) hoi hsel hf hrd (fun c a w h=>hQ c _ _ w ?_ ?_ h) (.inl ⟨by unfold Region.wanted;rw [hg],hv⟩) (a3x.refl w) ?_
  ·cases o.dst<;>rfl
  ·cases o.dst<;>simp [Act.put]
  ·exact c1t hQ l _ fuel s hB' hK base R' μ' _ w hr' fun s2 a2 R2 μ2 q1 q0 q2 q3=>hk s2 a2 R2 μ2 q1 (q0.trans (size_put _ _ _)) q2 (hs'.trans q3)
theorem b5o {o:Oper}{e:TypeId}{ev:Operand→Value}{v:Value}{w1:World}(ho:o.op= .alloc e)(h:(execOp ev o).run P w= .ok (.value v) w1):v= .pointer (some ⟨w.heap.size,0,none⟩)∧∀b,b<w.heap.size→w1.heap[b]? =w.heap[b]? :=by
 cases hz:(P.info? e).bind (·.zero) with
 |none=>
  exfalso;cases hi:P.info? e with
  |none=>simp [execOp,ho,Instr.alloc,zeroValue,typeInfo,hi] at h
  |some i=>rw [hi] at hz;simp at hz;simp [execOp,ho,Instr.alloc,zeroValue,typeInfo,hi,hz] at h
 |some z=>
  obtain ⟨i,hi,hz⟩:=d8R.1 hz;have hr:(execOp ev o).run P w= .ok (.value (.pointer (some ⟨w.heap.size,0,none⟩))) (w.alloc (.cells z.cells e)):=by simp [execOp,ho,Instr.alloc,zeroValue,typeInfo,hi,hz,newVar,newRow]
  rw [hr] at h;cases h;refine ⟨rfl,fun b hb=>?_⟩
  show (w.heap.push _)[b]? =w.heap[b]?
  rw [Array.getElem?_push,if_neg (Nat.ne_of_lt hb)]
theorem b5p {o:Oper}{t:TypeId}{ad x:Operand}{out:Out}(ho:o.op= .store t ad x)(h:pJ P G t ad x st=some out)(hr:Rel P G base R μ st a w):∃w1 b off,a.eval ad= .pointer (some ⟨b,off,none⟩)∧(execOp a.eval o).run P w= .ok .skip w1∧∀j,j≠b→w1.heap[j]? =w.heap[j]? :=by
 unfold pJ at h;split at h
 ·rename_i k off ys ha hx;split at h
  ·rename_i cs hk;split at h
   ·rename_i hc;obtain ⟨hlen,hne,hle⟩:=hc;obtain ⟨hbk,hnR,cur,T,hh,hsz,hcur,hnil⟩:=hr.gT k _ hk;have hv:=hr.eval x;obtain ⟨hvs,hvc⟩:=zW hv hx;have hone:∀u∈(a.eval x).cells.toList,u.oneCell'=true:=fun u hu=>by
     obtain ⟨i,hi⟩:=d8U hu;have hil:i<ys.length:=by rw [← hvs];simpa using (d8E.1 hi).1
     obtain ⟨_,_,h2⟩:=hvc i ys[i] (by simp [hil]);have:(a.eval x).cells.getD i undef=u:=by
      have:(a.eval x).cells[i]? =some u:=by simpa using hi
      simp [d8F,this]
     rw [this] at h2;exact h2
    exact ⟨_,μ k,off,hr.dQ ha,qU ho (hr.dQ ha) hh (by rw [hvs,hlen]) hne hone (by rw [hvs,hsz];omega),fun j hj=>setRow_other w (μ k) j _ hj⟩
   ·cases h
  ·cases h
 ·cases h
def a6b (ops:Array Oper)(m:Nat):OT→List Tmp→Bool
 | .stop,_=>true
 | .none,_=>true
 | .op i next more,D=>(match ops[i]? with
  |some o=>(o.guard==none)&&(match o.op,o.dst with
   | .alloc _,some k=> !D.contains k&&decide (k<m)&&a6b ops m next (k::D)
   | .store _ (.tmp k) _,none=>D.contains k&&a6b ops m next D
   |_,_=>false)
  |none=>false)&&a6b ops m more D
def d6Q (w0:World)(a:Act)(D:List Tmp):Prop:=∀k∈D,∃b,a.eval (.tmp k)= .pointer (some ⟨b,0,none⟩)∧w0.heap.size≤b
theorem b7Y {ops:Array Oper}{Q:Exit→St→Prop}{i n m:Nat}{listed:Array Bool}{D:List Tmp}:∀(T:OT),zD ops T (n+1) listed=true→a6b ops m T D=true→a5R i T=true→VT P G ops Q T st→∃next more,okT ops next (listed.setIfInBounds i true)=true∧zD ops next n (listed.setIfInBounds i true)=true∧a6b ops m (.op i next more) D=true∧∃o,ops[i]? =some o∧a2B P G ops o st (VT P G ops Q next) Q
 | .stop,_,_,h,_=>by simp [a5R] at h
 | .none,_,_,h,_=>by simp [a5R] at h
 | .op j next more,ht,hf,ha,hv=>by
  simp only [zD,d8D] at ht;simp only [a5R,d8P,beq_iff_eq] at ha;simp only [VT] at hv;rcases ha with rfl|ha
  ·refine ⟨next,more,ht.1.1,ht.1.2,hf,?_⟩;have:=hv.1;split at this
   ·rename_i o ho;exact ⟨o,ho,this⟩
   ·exact this.elim
  ·simp only [a6b,d8D] at hf;exact b7Y more ht.2 hf.2 ha hv.2
theorem b1d {ops:Array Oper}{Q:Exit→St→Prop}{m:Nat}(w0:World):∀(n:Nat) (T:OT) (D:List Tmp) (listed:Array Bool) (st:St),okT ops T listed=true→zD ops T n listed=true→a6b ops m T D=true→VT P G ops Q T st→∀(base:cZ) (R:Nat→Nat→Prop) (μ:Nat→Nat) (a:Act) (w:World),Rel P G base R μ st a w→a3x w0 w→w0.heap.size≤w.heap.size→d6Q w0 a D→m≤a.tmps.size→
  ∀QQ:Exit→Act→World→Prop,(∀e s a' w' R' μ',Q e s→Rel P G base R' μ' s a' w'→Step base R w R' w'→QQ e a' w')→wpAnyH P .any ops QQ (a3x w0) n listed a w
 |0,T,D,listed,st,ho,ht,hf,hv,base,R,μ,a,w,hr,hH,hsz,hF,hD,QQ,hk=>by
  cases T with
  |stop=>exact ⟨by simpa [okT] using ho,hk _ st a w R μ hv hr (.refl _ _ _)⟩
  |none=>simp only [okT,d8D,Bool.not_eq_true',List.isEmpty_eq_false_iff,d8G] at ho;obtain ⟨h1,h2⟩:=ho;obtain ⟨x,hx⟩:=List.exists_mem_of_ne_nil _ h1;have:=h2 x hx;simp [a5R] at this
  |op i next more=>simp [zD] at ht
 |n+1,T,D,listed,st,ho,ht,hf,hv,base,R,μ,a,w,hr,hH,hsz,hF,hD,QQ,hk=>by
  cases T with
  |stop=>
   have hrd:Region.ready .any ops listed=[]:=by simpa [okT] using ho
   refine ⟨fun _=>hk _ st a w R μ hv hr (.refl _ _ _),fun i hi=>?_⟩;rw [hrd] at hi;cases hi
  |none=>simp only [okT,d8D,Bool.not_eq_true',List.isEmpty_eq_false_iff,d8G] at ho;obtain ⟨h1,h2⟩:=ho;obtain ⟨x,hx⟩:=List.exists_mem_of_ne_nil _ h1;have:=h2 x hx;simp [a5R] at this
  |op i0 next0 more0=>
   simp only [okT,d8D,Bool.not_eq_true',List.isEmpty_eq_false_iff,d8G] at ho;refine ⟨fun h=>(ho.1 h).elim,fun i hi=>?_⟩;obtain ⟨next,more,q1,q2,q0,o,q3,q4⟩:=b7Y _ ht hf (ho.2 i hi) hv;simp only [a6b,q3,d8D,beq_iff_eq] at q0;obtain ⟨⟨hg,q0⟩,_⟩:=q0;have hw:Region.wanted o (yielded ops a.tmps)=true:=by unfold Region.wanted;rw [hg]
   have hgD:eA o ops st.tmps=some true:=by unfold eA;rw [hg]
   unfold wpOp;rw [q3];simp only;rw [if_pos hw];left;have hone:∀out,gP G o st=none→dD G o st=none→jO P G o st=some out→o.wp P a w (fun a' w'=>∃s R' μ',VT P G ops Q next s∧Rel P G base R' μ' s a' w'∧Step base R w R' w') fun _ _ _=>False:=fun out c1 c2 c3=>by
    have h1:kO P G false ops o (VT P G ops Q next) st:=by unfold a2B at q4;unfold kO;rw [hgD,c1,c2,c3] at q4;rw [hgD,c1,c2,c3];exact q4
    have h2:=pQ (Q:=fun _ _ _=>False) (KK:=fun a' w'=>∃s R' μ',VT P G ops Q next s∧Rel P G base R' μ' s a' w'∧Step base R w R' w') h1 hr (fun s v w' R' μ' p1 p2 p3=>⟨s,R',μ',p1,p2,p3⟩);rw [if_pos hw] at h2;rcases h2 with h2|⟨_,_,_,h2⟩
    ·exact h2
    ·exact h2.elim
   split at q0
   ·
    rename_i e k hop hdst;simp only [d8D,Bool.not_eq_true'] at q0;have c1:gP G o st=none:=by simp only [gP,hop]
    have c2:dD G o st=none:=by simp only [dD,hop]
    have hout:∃out,jO P G o st=some out:=by
     unfold a2B at q4;rw [hgD,c1,c2] at q4;simp only at q4;split at q4
     ·rename_i out ho2;exact ⟨out,ho2⟩
     ·exact q4.elim
    obtain ⟨out,hout⟩:=hout;have hx:=hone out c1 c2 hout;unfold Oper.wp at hx ⊢;have hrun:∃v w1,(execOp a.eval o).run P w= .ok (.value v) w1:=by
     cases hz:(P.info? e).bind (·.zero) with
     |none=>
      exfalso;cases hi:P.info? e with
      |none=>simp [execOp,hop,Instr.alloc,zeroValue,typeInfo,hi,Oper.upon] at hx
      |some i=>rw [hi] at hz;simp at hz;simp [execOp,hop,Instr.alloc,zeroValue,typeInfo,hi,hz,Oper.upon] at hx
     |some z=>exact ⟨_,_,b4j hop hz⟩
    obtain ⟨v,w1,hrun⟩:=hrun;obtain ⟨e1,e2⟩:=b5o hop hrun;rw [hrun] at hx ⊢;obtain ⟨s,R',μ',p1,p2,p3⟩:=hx;have hH1:a3x w0 w1:=fun b hb=>(e2 b (by omega)).trans (hH b hb)
    have hsz1:w.heap.size≤w1.heap.size:=p3.below.size;refine ⟨hH1,b1d w0 n next (k::D) _ s q1 q2 q0.2 p1 base R' μ' _ w1 p2 hH1 (by omega) (fun k' hk'=>?_) (by rw [hdst,size_put];exact hD) QQ fun e s a' w2 R2 μ2 k1 k2 k3=>hk e s a' w2 R2 μ2 k1 k2 (p3.trans k3)⟩;obtain ⟨⟨q5,q6⟩,_⟩:=q0;simp only [decide_eq_true_eq] at q6;rw [hdst];by_cases hkk:k'=k
    ·subst hkk;refine ⟨w.heap.size,?_,hsz⟩;have hlt:k'<a.tmps.size:=Nat.lt_of_lt_of_le q6 hD;rw [dR _ _ hlt,e1]
    ·have hk2:k'∈D:=by
      rcases List.mem_cons.1 hk' with h|h
      ·exact absurd h hkk
      ·exact h
     obtain ⟨b,g1,g2⟩:=hF k' hk2;exact ⟨b,by rw [bU _ _ hkk];exact g1,g2⟩
   ·
    rename_i t k x hop hdst;simp only [d8D] at q0;have c1:gP G o st=none:=by simp only [gP,hop]
    have c2:dD G o st=none:=by simp only [dD,hop]
    have hout:∃out,jO P G o st=some out:=by
     unfold a2B at q4;rw [hgD,c1,c2] at q4;simp only at q4;split at q4
     ·rename_i out ho2;exact ⟨out,ho2⟩
     ·exact q4.elim
    obtain ⟨out,hout⟩:=hout;have hx:=hone out c1 c2 hout;have hst:pJ P G t (.tmp k) x st=some out:=by unfold jO at hout;rw [hop] at hout;exact hout
    obtain ⟨w1,b,off,r1,r2,r3⟩:=b5p hop hst hr;obtain ⟨b',g1,g2⟩:=hF k (by simpa using q0.1);rw [g1] at r1;cases r1;unfold Oper.wp at hx ⊢;rw [r2] at hx ⊢;obtain ⟨s,R',μ',p1,p2,p3⟩:=hx;have hH1:a3x w0 w1:=fun j hj=>(r3 j (by omega)).trans (hH j hj)
    have hsz1:w.heap.size≤w1.heap.size:=p3.below.size;refine ⟨hH1,b1d w0 n next D _ s q1 q2 q0.2 p1 base R' μ' _ w1 p2 hH1 (by omega) (fun k' hk'=>?_) (by rw [hdst];exact hD) QQ fun e s a' w2 R2 μ2 k1 k2 k3=>hk e s a' w2 R2 μ2 k1 k2 (p3.trans k3)⟩;rw [hdst];exact hF k' hk'
   ·cases q0
theorem d0V {id:Nat}{ops:Array Oper}{Q:Exit→St→Prop}(L:List Nat)(T:OT)(m:Nat)(hm:P.follows .mixedOrders=true)(hB:(c1s ops L (Array.replicate ops.size false)&&decide (L.length≤ops.size)&&okT ops T (cD L (Array.replicate ops.size false))&&zD ops T (ops.size-L.length) (cD L (Array.replicate ops.size false))&&a6b ops m T [])=true)(hl:m≤st.tmps.length)(h:VK P G [.ops true ops (sel ops L)] .normal st fun _ s=>VT P G ops (vG Q) T s):SW P G (.region id ops true) st Q:=by
 simp only [d8D,decide_eq_true_eq] at hB;obtain ⟨⟨⟨⟨h1,h2⟩,h3⟩,h4⟩,h5⟩:=hB;obtain ⟨k,hk⟩:=Nat.exists_eq_add_of_le h2;have e:ops.size-L.length=k:=by omega
 rw [e] at h4;refine SW.mono (fun e s=>a9U) ?_
 intro base R μ a w hr;obtain ⟨hr',hs'⟩:=hr.drew;simp only [VK] at h;refine wp_region_held (S:=a3x w.drew) hm ?_
 have key:wpAnyH P .any ops (fun e a' w'=>∃st' R' μ',vG Q e st'∧Rel P G base R' μ' st' a' w'∧Step base R w R' w') (a3x w.drew) (L.length+k) (Array.replicate ops.size false) a w.drew:=by
  refine c1t (fun c a a' w' e1 e2 hq=>?_) L _ k st h1 h base R μ a w.drew hr' fun s a' R' μ' q1 q0 q2 q3=>?_
  ·obtain ⟨s,R',μ',q1,q2,q3⟩:=hq;have hd:a'.defers=[]:=by rw [← e1];exact q2.defers
   rw [a2k] at q1;exact ⟨_,R',μ',by rw [a2k];exact q1,q2.a9V a' hd,q3⟩
  ·exact b1d w.drew k T [] _ s h3 h4 h5 q1 base R' μ' a' w.drew q2 (a3x.refl _) (d8T _) (fun k hk=>by cases hk) (by rw [q0,hr.size];exact hl) _ fun e s a' w' R2 μ2 k1 k2 k3=>⟨s,R2,μ2,k1,k2,(hs'.trans q3).trans k3⟩
 rw [← hk] at key;exact key
end
end Go.VM
end
namespace Go.Proofs.YtjpodcmhcenjjaaGreatDoor
section
open Go Go.VM
variable {G:GT}
mutual
theorem a6U:∀p:Pr,a3u p p=true
 |⟨op,nm,n,l⟩=>by simp [a3u,b1e l]
theorem b1e:∀l:List Pr,sL l l=true
 |[]=>by simp [sL]
 |a::r=>by simp [sL,a6U a,b1e r]
end
inductive WB (B:Nat):Ty→Prop
 |mk (op:Int) (nm:Nm) (l:List Ty) (ns:List Nm) (p:Pr) (ps:List Pr):l.length≤B→ns.length≤B→dM p≤B→ps.length≤B→(∀q∈ps,dM q≤B)→(∀k∈l,WB B k)→WB B ⟨op,nm,l,ns,p,ps⟩
inductive WE (B:Nat):bW→Prop
 |mk (e:bW):e.kids.length≤B→e.params.length≤B→e.alts.length≤B→e.types.length≤B→(∀k∈e.kids,WE B k)→(∀p∈e.params,WB B p.2)→(∀a∈e.alts,a.2.1.length≤B)→(∀a∈e.alts,WE B a.2.2)→(∀t∈e.types,WB B t)→WE B e
theorem zE:VM.Enters Tryz.prog 37:=VM.Enters.mk Tryz.func37 rfl
theorem xY (l:List Nm)(hl:l.length≤900000000):CS Tryz.prog G 37 [.sl (strs l),.sl (strs l)] (.d (.bool true)) none:=by
 refine CS.bH Tryz.func37 rfl Tryz.ntmps37 rfl ?_
 simp;refine SW.kJ (ι:={ i:Nat // i≤l.length }) (fun i=>[(5,.d (.int .i64 i.1))]) (fun _=>[]) (fun _=>[]) (fun i=>l.length-i.1) ⟨0,by simp⟩ (by simp) ?_
 rintro ⟨i,hi⟩;by_cases hlt:i<l.length
 ·have hg:=b6w hlt;have hw:=bP (show i<9223372036854775807 by omega);simp [hlt,hg];refine ⟨mK.mk (by kernel_rfl),?_⟩;exact bR.mk ⟨i+1,hlt⟩ (by simp [hw]) (by simp;omega)
 ·have hie:i=l.length:=by omega
  subst hie;simp
theorem zF:VM.Enters Tryz.prog 36:=VM.Enters.mk Tryz.func36 rfl
theorem a0n:VM.Enters Tryz.prog 25:=VM.Enters.mk Tryz.func25 rfl
theorem a0o (l:List Ty)(hl:l.length≤900000000)(ih:∀k∈l,CS Tryz.prog G 25 [.agg (tyD k),.agg (tyD k)] (.d (.bool true)) none):CS Tryz.prog G 36 [.sl (l.map tyC),.sl (l.map tyC)] (.d (.bool true)) none:=by
 refine CS.bH Tryz.func36 rfl Tryz.ntmps36 rfl ?_
 simp;refine SW.kJ (ι:={ i:Nat // i≤l.length }) (fun i=>[(5,.d (.int .i64 i.1))]) (fun _=>[]) (fun _=>[]) (fun i=>l.length-i.1) ⟨0,by simp⟩ (by simp) ?_
 rintro ⟨i,hi⟩;by_cases hlt:i<l.length
 ·have hg:=c9Z hlt;have hw:=bP (show i<9223372036854775807 by omega);simp [hlt,hg];refine ⟨mK.mk (by kernel_rfl),?_⟩;refine aI.mk a0n (ih l[i] (List.getElem_mem hlt)) ?_
  simp;exact bR.mk ⟨i+1,hlt⟩ (by simp [hw]) (by simp;omega)
 ·have hie:i=l.length:=by omega
  subst hie;simp
theorem zG:∀t:Ty,WB 900000000 t→CS Tryz.prog G 25 [.agg (tyD t),.agg (tyD t)] (.d (.bool true)) none:=by
 refine Ty.ind fun t ih=>?_
 obtain ⟨op,nm,l,ns,p,ps⟩:=t;simp only at ih;intro hw;cases hw with
 |mk _ _ _ _ _ _ w1 w2 w3 w4 w5 w6=>
 have hts:=a0o (G:=G) l w1 fun k hk=>ih k hk (w6 k hk)
 have hns:=xY (G:=G) ns w2;have hsp:=b0b (G:=G) p p w3;rw [a6U] at hsp;refine CS.bH Tryz.func25 rfl Tryz.ntmps25 rfl ?_
 simp;refine aI.mk zE hns ?_
 simp;refine aI.mk a2r hsp ?_
 simp;refine SW.kJ (ι:={ i:Nat // i≤ps.length }) (fun i=>[(5,.d (.int .i64 i.1))]) (fun _=>[(2,.cells [.d (.int .i64 op),.d (.str nm),.d (.sl (l.map tyC)),.d (.sl (strs ns)),.d (.int .i64 p.op),.d (.str p.name),.d (.int .i64 p.n),.d (.sl (p.kids.map rG)),.d (.sl (ps.map rG))]),(3,.cells [.d (.int .i64 op),.d (.str nm),.d (.sl (l.map tyC)),.d (.sl (strs ns)),.d (.int .i64 p.op),.d (.str p.name),.d (.int .i64 p.n),.d (.sl (p.kids.map rG)),.d (.sl (ps.map rG))])]) (fun _=>[]) (fun i=>ps.length-i.1) ⟨0,by simp⟩ (by simp) ?_
 rintro ⟨i,hi⟩;by_cases hlt:i<ps.length
 ·have hg:=wF hlt;have hw:=bP (show i<9223372036854775807 by omega);have hsi:=b0b (G:=G) ps[i] ps[i] (w5 _ (List.getElem_mem hlt));rw [a6U] at hsi;simp [hlt,hg];refine ⟨mK.mk (by kernel_rfl),?_⟩;refine aI.mk a2r hsi ?_
  simp;exact bR.mk ⟨i+1,hlt⟩ (by simp [hw]) (by simp;omega)
 ·have hie:i=ps.length:=by omega
  subst hie;simp;refine aI.mk zF hts ?_
  simp
theorem a4N:VM.Enters Tryz.prog 35:=VM.Enters.mk Tryz.func35 rfl
theorem a3y (l:List (Nm×Ty))(hl:l.length≤900000000)(ht:∀p∈l,WB 900000000 p.2):CS Tryz.prog G 35 [.sl (l.map a2g),.sl (l.map a2g)] (.d (.bool true)) none:=by
 refine CS.bH Tryz.func35 rfl Tryz.ntmps35 rfl ?_
 simp;refine SW.kJ (ι:={ i:Nat // i≤l.length }) (fun i=>[(5,.d (.int .i64 i.1))]) (fun _=>[]) (fun _=>[]) (fun i=>l.length-i.1) ⟨0,by simp⟩ (by simp) ?_
 rintro ⟨i,hi⟩;by_cases hlt:i<l.length
 ·have hg:=a0W l[i];have hw:=bP (show i<9223372036854775807 by omega);have hsi:=zG (G:=G) l[i].2 (ht _ (List.getElem_mem hlt));simp [hlt,hg];refine ⟨mK.mk (by kernel_rfl),?_⟩;refine aI.mk a0n hsi ?_
  simp;exact bR.mk ⟨i+1,hlt⟩ (by simp [hw]) (by simp;omega)
 ·have hie:i=l.length:=by omega
  subst hie;simp
theorem qZ:VM.Enters Tryz.prog 15:=VM.Enters.mk Tryz.func15 rfl
abbrev d6R (a b x y:Nat):OT:= .op a (.op b (.op x (.op y .stop .none) (.op y (.op x .stop .none) .none)) (.op x (.op b (.op y .stop .none) .none) .none)) (.op b (.op a (.op x (.op y .stop .none) (.op y (.op x .stop .none) .none)) (.op y (.op a (.op x .stop .none) .none) .none)) .none)
theorem uT (e:bW)(h:WE 900000000 e):CS Tryz.prog G 15 [.agg (tK e),.agg (tK e)] (.d (.bool true)) none:=by
 induction h with
 |mk e h1 h2 h3 h4 h5 h6 h7 h8 h9 ih1 ih2=>
  obtain ⟨op,nm,n,ks,ps,al,ts⟩:=e;simp only at h1 h2 h3 h4 h5 h6 h7 h8 h9 ih1 ih2;have hpa:=a3y (G:=G) ps h2 h6;have hty:=a0o (G:=G) ts h4 fun t ht=>zG t (h9 t ht)
  refine CS.b4h Tryz.func15 rfl Tryz.ntmps15 rfl (SW.xk ?_);simp;refine mB.mk a4N hpa ?_
  simp;refine mB.mk zF hty ?_
  simp;refine SW.vY (ι:={ i:Nat // i≤ks.length }) (fun i=>[(5,.d (.int .i64 i.1))]) (fun _=>[(2,.cells [.d (.int .i64 op),.d (.str nm),.d (.int .i64 n),.d (.sl (ks.map a0f)),.d (.sl (ps.map a2g)),.d (.sl (al.map a8a)),.d (.sl (ts.map tyC))]),(3,.cells [.d (.int .i64 op),.d (.str nm),.d (.int .i64 n),.d (.sl (ks.map a0f)),.d (.sl (ps.map a2g)),.d (.sl (al.map a8a)),.d (.sl (ts.map tyC))])]) (fun _=>[]) (fun i=>ks.length-i.1) ⟨0,by simp⟩ (by simp) ?_
  rintro ⟨i,hi⟩;by_cases hlt:i<ks.length
  ·have hg:=dW ks[i];have hw:=bP (show i<9223372036854775807 by omega);simp [hlt];refine SW.vk ?_
   simp [hlt,hg];refine ⟨mK.mk (by kernel_rfl),?_⟩;refine aI.mk qZ (ih1 _ (List.getElem_mem hlt)) ?_
   simp;exact bR.mk ⟨i+1,hlt⟩ (by simp [hw]) (by simp;omega)
  ·have hie:i=ks.length:=by omega
   subst hie;simp;refine SW.vY (ι:={ i:Nat // i≤al.length }) (fun i=>[(6,.d (.int .i64 i.1))]) (fun _=>[(2,.cells [.d (.int .i64 op),.d (.str nm),.d (.int .i64 n),.d (.sl (ks.map a0f)),.d (.sl (ps.map a2g)),.d (.sl (al.map a8a)),.d (.sl (ts.map tyC))]),(3,.cells [.d (.int .i64 op),.d (.str nm),.d (.int .i64 n),.d (.sl (ks.map a0f)),.d (.sl (ps.map a2g)),.d (.sl (al.map a8a)),.d (.sl (ts.map tyC))])]) (fun _=>[]) (fun i=>al.length-i.1) ⟨0,by simp⟩ (by simp) ?_
   rintro ⟨i,hi⟩;by_cases hlt:i<al.length
   ·have hg:=a5O al[i];have hw:=bP (show i<9223372036854775807 by omega);have hns:=xY (G:=G) al[i].2.1 (h7 _ (List.getElem_mem hlt));simp [hlt];refine d0V [0,1,2,3,4,5,6,7,8,9] (d6R 10 11 12 13) 117 (by kernel_rfl) (by kernel_rfl) (by simp) ?_
    simp [hlt,hg,d6R];refine mB.mk zE hns ?_
    simp;refine mB.mk qZ (ih2 _ (List.getElem_mem hlt)) ?_
    simp;exact bR.mk ⟨i+1,hlt⟩ (by simp [hw]) (by simp;omega)
   ·have hie:i=al.length:=by omega
    subst hie;simp
end
section
open Go Go.VM
def G0:GT:=fun g=>if g=1 then some eB else if g=0 then some uS else none
theorem sM:G0 1=some eB:=rfl
theorem tI:G0 0=some uS:=rfl
abbrev num (n:Int):bW:=⟨1,[],n,[],[],[],[]⟩
abbrev var (c:UInt8):bW:=⟨3,[c],0,[],[],[],[]⟩
theorem ex1:dU exM [49,32,45,32,50,32,45,32,51]= .ok (bJ 11 [bJ 11 [num 1,num 2],num 3]) 5:=by kernel_rfl
theorem ex2:dU exM [40,45,51,41]= .ok (num (-3)) 4:=by kernel_rfl
theorem ex3:dU exM [45,32,51]= .ok (bJ 15 [num 3]) 2:=by kernel_rfl
theorem ex4:dU exM [102,32,40,40,45,51,41,41]= .ok ({ bJ 5 [num (-3)] with name:=[102] }) 7:=by kernel_rfl
theorem ex5:dU exM [40,97,32,60,32,98,41,32,61,61,32,99]= .ok (bJ 16 [bJ 17 [var 97,var 98],var 99]) 7:=by kernel_rfl
theorem ex6:dU exM [97,32,60,32,98,32,60,32,99]= .bad 1 14:=by kernel_rfl
abbrev exT:Ty:=⟨6,[],[psT 1 [],⟨1,[],[],[],⟨12,[],0,[⟨3,[120],0,[]⟩,⟨3,[118],0,[]⟩]⟩,[]⟩,⟨4,[76,105,115,116],[psT 1 []],[],mD,[⟨12,[],0,[⟨1,[],0,[]⟩,⟨3,[118],0,[]⟩]⟩]⟩],[[120],[121]],mD,[]⟩
theorem ex8:dU tyM [40,73,110,116,44,32,73,110,116,41]= .bad 1 14:=by kernel_rfl
theorem ex9:dU moQ [100,101,102,32,102,32,40,120,41,32,61,32,120,32,43,10,59]= .bad 2 14:=by kernel_rfl
theorem d7O:dU moQ [100,101,102,32,102,32,40,120,41,32,61,32,63]= .bad 1 14:=by kernel_rfl
def d6S:mH kS→Bool
 | .ok m _=>match m.a9D,m.a9E,m.defs with
  |[d],[me],[df]=>decide (d.cons.length=2)&&decide (me.cases.length=2)&&decide (df.sig.b4e.length=1)&&decide (df.body.op=8)
  |_,_,_=>false
 | .bad _ _=>false
def d6T:mH kR→Bool
 | .ok d _=>decide (d.mode=1)&&d.typed
 | .bad _ _=>false
abbrev txM:List UInt8:=[100,97,116,97,32,76,105,115,116,32,61,32,78,105,108,32,124,32,67,111,110,115,32,40,120,32,58,32,73,110,116,44,32,114,101,115,116,32,58,32,76,105,115,116,41,59,32,109,101,97,115,117,114,101,32,108,101,110,32,58,32,76,105,115,116,32,45,62,32,73,110,116,32,123,32,78,105,108,32,61,32,48,59,32,67,111,110,115,32,40,120,44,32,114,101,115,116,41,32,61,32,49,32,43,32,108,101,110,40,114,101,115,116,41,32,125,32,105,110,118,97,114,105,97,110,116,32,48,32,60,61,32,118,59,32,100,101,102,32,100,111,119,110,32,40,110,41,32,58,32,40,110,32,58,32,123,118,32,58,32,73,110,116,32,124,32,48,32,60,61,32,118,125,41,32,45,62,32,73,110,116,32,109,101,116,114,105,99,32,110,32,61,32,105,102,32,110,32,61,61,32,48,32,116,104,101,110,32,48,32,101,108,115,101,32,100,111,119,110,32,40,110,32,45,32,49,41,59]
abbrev txD:List UInt8:=[97,115,115,117,109,101,32,114,101,97,100,32,40,120,41,32,58,32,40,120,32,58,32,73,110,116,41,32,45,62,32,123,118,32,58,32,73,110,116,32,124,32,120,32,60,61,32,118,125]
abbrev txT:List UInt8:=[40,120,32,58,32,73,110,116,44,32,121,32,58,32,123,118,32,58,32,73,110,116,32,124,32,120,32,60,32,118,125,41,32,45,62,32,76,105,115,116,32,73,110,116,32,60,118,46,32,48,32,60,32,118,62]
theorem ex7:dU tyM txT= .ok exT 27:=by kernel_rfl
theorem d7R:d6S (dU moQ txM)=true:=by kernel_rfl
theorem d7S:d6T (dU (zQ tL) txD)=true:=by kernel_rfl
theorem d6U:∃m j d me df,dU moQ txM= .ok m j∧m.a9D=[d]∧m.a9E=[me]∧m.defs=[df]∧d.cons.length=2∧me.cases.length=2∧df.sig.b4e.length=1∧df.body.op=8:=by
 have h:=d7R;unfold d6S at h;split at h
 ·rename_i m j hm;split at h
  ·rename_i d me df h1 h2 h3;simp only [d8D,decide_eq_true_eq] at h;exact ⟨m,j,d,me,df,hm,h1,h2,h3,h.1.1.1,h.1.1.2,h.1.2,h.2⟩
  ·cases h
 ·cases h
theorem d6V:∃d j,dU (zQ tL) txD= .ok d j∧d.mode=1∧d.typed=true:=by
 have h:=d7S;unfold d6T at h;split at h
 ·rename_i d j hd;simp only [d8D,decide_eq_true_eq] at h;exact ⟨d,j,hd,h.1,h.2⟩
 ·cases h
end
section
open Go Go.VM
theorem gG:VM.Enters Tryz.prog 13:=VM.Enters.mk Tryz.func13 rfl
theorem gX:CS Tryz.prog G0 13 [] (.d (.bool true)) none:=by
 have h1:=eF (G:=G0) sM tI [49,32,45,32,50,32,45,32,51] (by decide);have h2:=eF (G:=G0) sM tI [40,45,51,41] (by decide);have h3:=eF (G:=G0) sM tI [45,32,51] (by decide);have h4:=eF (G:=G0) sM tI [102,32,40,40,45,51,41,41] (by decide);have h5:=a3X (G:=G0) sM tI txT (by decide);have h6:=a3X (G:=G0) sM tI [40,73,110,116,44,32,73,110,116,41] (by decide);have h7:=vW (G:=G0) sM tI [100,101,102,32,102,32,40,120,41,32,61,32,120,32,43,10,59] (by decide);have h8:=vW (G:=G0) sM tI [100,101,102,32,102,32,40,120,41,32,61,32,63] (by decide);have h9:=eF (G:=G0) sM tI [97,32,60,32,98,32,60,32,99] (by decide);have h10:=eF (G:=G0) sM tI [40,97,32,60,32,98,41,32,61,61,32,99] (by decide);have h11:=vW (G:=G0) sM tI txM (by decide);have h12:=b5n (G:=G0) sM tI txD (by decide);obtain ⟨m,jm,d,me,df,e11,m1,m2,m3,m4,m5,m6,m7⟩:=d6U;obtain ⟨dd,jd,e12,d1,d2⟩:=d6V;rw [ex1] at h1;rw [ex2] at h2;rw [ex3] at h3;rw [ex4] at h4;rw [ex7] at h5;rw [ex8] at h6;rw [ex9] at h7;rw [d7O] at h8;rw [ex6] at h9;rw [ex5] at h10;rw [e11] at h11;rw [e12] at h12;obtain ⟨md,mc,mi,mm,mq,mf⟩:=m;simp only at m1 m2 m3;subst m1 m2 m3;simp [a1A,zR,c3y,bJ,dW] at h1 h2 h3 h4 h9 h10;simp [a1A,zR,c3y,psT,cY,gF,pC,mD,strs] at h5 h6;simp [a1A,zR,c3y,a3L] at h7 h8 h11;simp [a1A,zR,d1,d2] at h12;have k1:=dW ⟨11,[],0,[num 1,num 2],[],[],[]⟩;have k2:=dW (num (-3));have k3:=fun t=>cY t
 refine CS.bH Tryz.func13 rfl Tryz.ntmps13 rfl ?_
 simp;refine aI.mk dP h1 ?_
 simp;refine aI.mk dP h2 ?_
 simp;refine aI.mk dP h3 ?_
 simp;refine aI.mk dP h4 ?_
 simp;refine aI.mk a2J h5 ?_
 simp;refine aI.mk a2J h6 ?_
 simp;refine aI.mk uG h7 ?_
 simp;refine aI.mk uG h8 ?_
 simp;refine aI.mk dP h9 ?_
 simp;refine aI.mk dP h10 ?_
 simp (maxSteps:=1000000) [k1,k2];refine aI.mk uG h11 ?_
 simp;refine aI.mk b2f h12 ?_
 simp (maxSteps:=1000000) [a9I,b6P,b4g,d0b,dW,m4,m5,m6,m7,d1,d2]
end
section
def c6C (t:Tok):Prop:=t.kind=0∨(t.kind=4∧(t.text=[41]∨t.text=[59]))
structure zS (l l':List Tok) (N:Nat):Prop where
 same:∀i,i<N→∃t t',l[i]? =some t∧l'[i]? =some t'∧t'.kind=t.kind∧t'.text=t.text∧t'.n=t.n
 stp:∃t,l[N]? =some t∧c6C t
 a6c:∃t,l'[N]? =some t∧c6C t
def c6D (kw:List UInt8→Bool)(t:Tok):Prop:=t.kind=0∨(t.kind=4∧t.text≠[63]∧t.text≠[40]∧t.text≠[45]∧t.text≠[33])∨(t.kind=1∧kw t.text=true∧t.text≠[118]∧t.text≠[116,97,103]∧t.text≠[118,97,108]∧t.text≠[116,114,117,101]∧t.text≠[102,97,108,115,101])
def NoP (kw:List UInt8→Bool)(l:List Tok)(i:Nat):Prop:=∃t,l[i]? =some t∧c6D kw t
theorem b3v {kw:List UInt8→Bool}{t:Tok}(h:c6C t):c6D kw t:=by
 rcases h with h|⟨h,h1⟩
 ·exact .inl h
 ·refine .inr (.inl ⟨h,?_⟩);rcases h1 with h1|h1<;>rw [h1]<;>simp
section
variable {kw:List UInt8→Bool} {l l':List Tok} {N:Nat}
theorem zS.len (h:zS l l' N):N<l.length:=by obtain ⟨t,h1,_⟩:=h.stp;exact (d8E.1 h1).1
theorem zS.b2g (h:zS l l' N):N<l'.length:=by obtain ⟨t,h1,_⟩:=h.a6c;exact (d8E.1 h1).1
theorem b5q {l:List Tok}{n:Nat}{s:List UInt8}(h:∃t,l[n]? =some t∧c6C t)(h1:s≠[41])(h2:s≠[59]):hU l n s=false:=by
 obtain ⟨t,ht,hk⟩:=h;unfold hU;rw [ht];simp only [Bool.and_eq_false_iff,decide_eq_false_iff_not];rcases hk with hk|⟨hk,h3⟩
 ·left;omega
 ·right;intro e;rcases h3 with h3|h3
  ·exact h1 (e.symm.trans h3)
  ·exact h2 (e.symm.trans h3)
theorem b5r {l:List Tok}{n:Nat}{k:Int}(h:∃t,l[n]? =some t∧c6C t)(h0:k≠0)(h4:k≠4):kdB l n k=false:=by obtain ⟨t,ht,hk⟩:=h;unfold kdB;rw [ht];simp only [decide_eq_false_iff_not];rcases hk with hk|⟨hk,h3⟩<;>omega
theorem zS.sg (h:zS l l' N){i:Nat}(hi:i≤N){s:List UInt8}(hs:(s≠[41]∧s≠[59])∨i<N):hU l' i s=hU l i s:=by
 by_cases hlt:i<N
 ·obtain ⟨t,t',h1,h2,h3,h4,h5⟩:=h.same i hlt;unfold hU;rw [h1,h2];simp only [h3,h4]
 ·have:i=N:=by omega
  subst this;have hs:=hs.resolve_right (by omega);rw [b5q h.stp hs.1 hs.2,b5q h.a6c hs.1 hs.2]
theorem zS.kd (h:zS l l' N){i:Nat}(hi:i≤N){k:Int}(h0:(k≠0∧k≠4)∨i<N):kdB l' i k=kdB l i k:=by
 by_cases hlt:i<N
 ·obtain ⟨t,t',h1,h2,h3,h4,h5⟩:=h.same i hlt;unfold kdB;rw [h1,h2];simp only [h3]
 ·have:i=N:=by omega
  subst this;have h0:=h0.resolve_right (by omega);rw [b5r h.stp h0.1 h0.2,b5r h.a6c h0.1 h0.2]
theorem zS.wt (h:zS l l' N){i:Nat}(hi:i≤N):wtB l' i=wtB l i:=by unfold wtB;rw [h.kd hi (.inl (by decide)),h.kd hi (.inl (by decide))]
theorem zS.tx (h:zS l l' N){i:Nat}(hi:i<N):txA l' i=txA l i:=by obtain ⟨t,t',h1,h2,h3,h4,h5⟩:=h.same i hi;unfold txA;rw [h1,h2];simp only [Option.map_some,Option.getD_some,h4]
theorem zS.nm (h:zS l l' N){i:Nat}(hi:i<N):nmA l' i=nmA l i:=by obtain ⟨t,t',h1,h2,h3,h4,h5⟩:=h.same i hi;unfold nmA;rw [h1,h2];simp only [Option.map_some,Option.getD_some,h5]
theorem zS.b1f (h:zS l l' N){i:Nat}(hi:i≤N){s:List UInt8}(h1:s≠[41])(h2:s≠[59])(hs:hU l i s=true):i<N:=by
 refine Nat.lt_of_not_le fun hle=>?_
 have:i=N:=by omega
 subst this;rw [b5q h.stp h1 h2] at hs;cases hs
theorem zS.c1u (h:zS l l' N){i:Nat}(hi:i≤N){k:Int}(h0:k≠0)(h4:k≠4)(hs:kdB l i k=true):i<N:=by
 refine Nat.lt_of_not_le fun hle=>?_
 have:i=N:=by omega
 subst this;rw [b5r h.stp h0 h4] at hs;cases hs
theorem zS.c1v (h:zS l l' N){i:Nat}(hi:i≤N)(hs:wtB l i=true):i<N:=by
 unfold wtB at hs;rw [d8P] at hs;rcases hs with hs|hs
 ·exact h.c1u hi (by decide) (by decide) hs
 ·exact h.c1u hi (by decide) (by decide) hs
theorem zS.noP (h:zS l l' N){i:Nat}(hi:i≤N)(hn:NoP kw l i):NoP kw l' i:=by
 by_cases hlt:i<N
 ·obtain ⟨t,t',h1,h2,h3,h4,h5⟩:=h.same i hlt;obtain ⟨t0,g1,g2⟩:=hn;rw [h1] at g1;cases g1;refine ⟨t',h2,?_⟩;unfold c6D at g2 ⊢;rw [h3,h4];exact g2
 ·have:i=N:=by omega
  subst this;obtain ⟨t,h1,h2⟩:=h.a6c;exact ⟨t,h1,b3v h2⟩
theorem NoP.d6W {rd:Nat→Nat→Option (Pr×Nat)}{i:Nat}(h:NoP kw l i):tF kw rd l i=none:=by
 obtain ⟨t,ht,hn⟩:=h;have sg0:∀s,(s=[63]∨s=[40])→hU l i s=false:=fun s hs=>by
  unfold hU;rw [ht];simp only [Bool.and_eq_false_iff,decide_eq_false_iff_not];rcases hn with hn|⟨hn,h1,h2,h3,h4⟩|⟨hn,_⟩
  ·left;omega
  ·right;rcases hs with rfl|rfl
   ·exact h1
   ·exact h2
  ·left;omega
 have hname:pD kw l i=none:=by
  unfold pD;rw [if_neg];unfold a8o wtB kdB txA;rw [ht];rcases hn with hn|⟨hn,_⟩|⟨hn,h1,h2,h3,h4,_⟩
  ·simp [hn]
  ·simp [hn]
  ·simp [hn,h1,h2,h3,h4]
 unfold tF;rw [ht];simp only;rw [if_neg (by rcases hn with hn|⟨hn,_⟩|⟨hn,_⟩<;>omega),if_neg,if_neg,if_neg (by rw [sg0 _ (.inl rfl)];decide),if_neg (by rw [sg0 _ (.inr rfl)];decide),hname]
 ·rintro ⟨h1,h2⟩;rcases hn with hn|⟨hn,_⟩|⟨hn,_,_,_,_,_,h3⟩
  ·omega
  ·omega
  ·exact h3 h2
 ·rintro ⟨h1,h2⟩;rcases hn with hn|⟨hn,_⟩|⟨hn,_,_,_,_,h3,_⟩
  ·omega
  ·omega
  ·exact h3 h2
theorem NoP.read {i:Nat}(h:NoP kw l i):∀k,1≤k→k≤10→RR kw l i k=none:=by
 have hil:i≤l.length:=by obtain ⟨t,ht,_⟩:=h;exact Nat.le_of_lt (d8E.1 ht).1
 have sg0:∀s,(s=[45]∨s=[33])→hU l i s=false:=fun s hs=>by
  obtain ⟨t,ht,hn⟩:=h;unfold hU;rw [ht];simp only [Bool.and_eq_false_iff,decide_eq_false_iff_not];rcases hn with hn|⟨hn,h1,h2,h3,h4⟩|⟨hn,_⟩
  ·left;omega
  ·right;rcases hs with rfl|rfl
   ·exact h3
   ·exact h4
  ·left;omega
 have h10:RR kw l i 10=none:=by rw [a1t (by omega) (by omega) hil];exact h.d6W
 have h9:RR kw l i 9=none:=by
  rw [a1t (by omega) (by omega) hil]
  show (if hU l i [45]=true then _ else RR kw l i 10)=none
  rw [if_neg (by rw [sg0 _ (.inl rfl)];decide),h10]
 have h8:RR kw l i 8=none:=by
  rw [a1t (by omega) (by omega) hil]
  show (RR kw l i (8+1)).map _=none
  rw [h9];rfl
 have h7:RR kw l i 7=none:=by
  rw [a1t (by omega) (by omega) hil]
  show (RR kw l i (7+1)).map _=none
  rw [h8];rfl
 have h6:RR kw l i 6=none:=by
  rw [a1t (by omega) (by omega) hil]
  show yC (RR kw l) l i=none
  unfold yC;rw [h7]
 have h5:RR kw l i 5=none:=by
  rw [a1t (by omega) (by omega) hil]
  show (if hU l i [33]=true then _ else RR kw l i 6)=none
  rw [if_neg (by rw [sg0 _ (.inr rfl)];decide),h6]
 have h4:RR kw l i 4=none:=by
  rw [a1t (by omega) (by omega) hil]
  show (RR kw l i (4+1)).map _=none
  rw [h5];rfl
 have h3:RR kw l i 3=none:=by
  rw [a1t (by omega) (by omega) hil]
  show (RR kw l i (3+1)).map _=none
  rw [h4];rfl
 have h2:RR kw l i 2=none:=by
  rw [a1t (by omega) (by omega) hil]
  show a6M (RR kw l) l i=none
  unfold a6M;rw [h3]
 have h1:RR kw l i 1=none:=by
  rw [a1t (by omega) (by omega) hil]
  show (RR kw l i (1+1)).map _=none
  rw [h2];rfl
 intro k k1 k10;obtain rfl|rfl|rfl|rfl|rfl|rfl|rfl|rfl|rfl|rfl:k=1∨k=2∨k=3∨k=4∨k=5∨k=6∨k=7∨k=8∨k=9∨k=10:=by omega
 all_goals assumption
def Ded (kw:List UInt8→Bool)(l:List Tok)(k n:Nat):Prop:=∃s,hU l n s=true∧(s=[40]∨(k≤lvS s∧ ¬NoP kw l (n+1)))
theorem Ded.mono {k k' n:Nat}(h:Ded kw l k n)(hk:k'≤k):Ded kw l k' n:=by
 obtain ⟨s,h1,h2⟩:=h;refine ⟨s,h1,?_⟩;rcases h2 with h2|⟨h2,h3⟩
 ·exact .inl h2
 ·exact .inr ⟨by omega,h3⟩
theorem d0W {n:Nat}{s t:List UInt8}(h1:hU l n s=true)(h2:hU l n t=true):s=t:=by
 unfold hU at h1 h2;cases h:l[n]? with
 |none=>rw [h] at h1;cases h1
 |some x=>rw [h] at h1 h2;simp only [d8D,decide_eq_true_eq] at h1 h2;rw [← h1.2, ← h2.2]
theorem Ded.no {k n:Nat}(h:Ded kw l k n){s:List UInt8}(h1:s≠[40])(h2:lvS s<k):hU l n s=false:=by
 obtain ⟨t,ht,h3⟩:=h;cases hs:hU l n s with
 |false=>rfl
 |true=>
  have:=d0W ht hs;subst this;rcases h3 with h3|⟨h3,_⟩
  ·exact absurd h3 h1
  ·omega
theorem c0k (k:Nat):∀p∈opL k,p.2≠[40]∧p.2≠[41]∧p.2≠[59]:=by unfold opL;split<;>simp
theorem b5s:∀p∈cmpL,p.1≠[40]∧p.1≠[41]∧p.1≠[59]:=by simp [cmpL]
theorem Ded.op {k n j:Nat}(h:Ded kw l k n)(hj:j<k):a0Y l n j=none:=by unfold a0Y;rw [Option.map_eq_none_iff,List.find?_eq_none];intro p hp hs;have h1:=c6c j p hp;rw [h.no (c0k j p hp).1 (by omega)] at hs;cases hs
theorem Ded.cmp {k n:Nat}(h:Ded kw l k n)(hk:6<k):tE l n=none:=by unfold tE;rw [Option.map_eq_none_iff,List.find?_eq_none];intro p hp hs;have h1:=c1m p hp;rw [h.no (b5s p hp).1 (by omega)] at hs;cases hs
theorem d2M {k n:Nat}{op:Int}(h:a0Y l n k=some op):∃s,hU l n s=true∧lvS s=k∧s≠[41]∧s≠[59]:=by unfold a0Y at h;rw [d8C] at h;obtain ⟨p,hp,_⟩:=h;have hs:hU l n p.2=true:=List.find?_some (p:=fun p:Int×List UInt8=>hU l n p.2) hp;have hm:=List.mem_of_find?_eq_some hp;exact ⟨p.2,hs,c6c k p hm,(c0k k p hm).2⟩
theorem c6E {n:Nat}{q:Int×Bool}(h:tE l n=some q):∃s,hU l n s=true∧lvS s=6∧s≠[41]∧s≠[59]:=by unfold tE at h;rw [d8C] at h;obtain ⟨p,hp,_⟩:=h;have hs:hU l n p.1=true:=List.find?_some (p:=fun p:List UInt8×Int×Bool=>hU l n p.1) hp;have hm:=List.mem_of_find?_eq_some hp;exact ⟨p.1,hs,c1m p hm,(b5s p hm).2⟩
theorem zS.op (h:zS l l' N){n:Nat}(hn:n≤N)(k:Nat):a0Y l' n k=a0Y l n k:=by unfold a0Y;rw [find_congr fun p hp=>h.sg hn (.inl (c0k k p hp).2)]
theorem zS.cmp (h:zS l l' N){n:Nat}(hn:n≤N):tE l' n=tE l n:=by unfold tE;rw [find_congr fun p hp=>h.sg hn (.inl (b5s p hp).2)]
theorem zS.d6X (h:zS l l' N){n k:Nat}(hn:n≤N){op:Int}(ho:a0Y l n k=some op):n<N:=by obtain ⟨s,hs,_,h1,h2⟩:=d2M ho;exact h.b1f hn h1 h2 hs
theorem zS.c0l (h:zS l l' N){n:Nat}(hn:n≤N){q:Int×Bool}(ho:tE l n=some q):n<N:=by obtain ⟨s,hs,_,h1,h2⟩:=c6E ho;exact h.b1f hn h1 h2 hs
theorem zS.parts (h:zS l l' N):∀(g g' i:Nat) (s:List UInt8),i≤N→l.length≤g+i→l'.length≤g'+i→(mG l g i s).2≤N∧mG l' g' i s=mG l g i s
 |0,g',i,s,hi,hg,_=>by have:=h.len;omega
 |g+1,g',i,s,hi,hg,hg'=>by
  have e1:=h.len;have e2:=h.b2g;obtain ⟨g',rfl⟩:∃x,g'=x+1:=⟨g'-1,by omega⟩;rw [mG,mG,h.sg hi (.inl ⟨by decide,by decide⟩)];split
  ·rename_i h1;have l1:=h.b1f hi (by decide) (by decide) h1;rw [h.wt (by omega:i+1≤N),h.kd (by omega:i+1≤N) (.inl (by decide))];split
   ·rename_i h2;have l2:=h.c1v (by omega:i+1≤N) h2;rw [h.tx l2];exact h.parts g g' (i+2) _ (by omega) (by omega) (by omega)
   ·split
    ·rename_i h3;have l3:=h.c1u (by omega:i+1≤N) (by decide) (by decide) h3;rw [h.wt (by omega:i+2≤N),h.tx l3];split
     ·rename_i h4;have l4:=h.c1v (by omega:i+2≤N) h4;rw [h.tx l4];exact h.parts g g' (i+3) _ (by omega) (by omega) (by omega)
     ·exact h.parts g g' (i+2) _ (by omega) (by omega) (by omega)
    ·exact ⟨hi,rfl⟩
  ·exact ⟨hi,rfl⟩
theorem zS.nok (h:zS l l' N){i:Nat}(hi:i≤N):a8o kw l' i=a8o kw l i:=by
 unfold a8o;rw [h.wt hi];cases hw:wtB l i with
 |false=>rfl
 |true=>rw [h.tx (h.c1v hi hw)]
theorem zS.name (h:zS l l' N){i:Nat}(hi:i≤N):pD kw l' i=pD kw l i∧∀s n,pD kw l i=some (s,n)→n≤N:=by
 unfold pD;rw [h.nok hi];by_cases hb:a8o kw l i=true
 ·rw [if_pos hb,if_pos hb];have hw:wtB l i=true:=by unfold a8o at hb;rw [d8D] at hb;exact hb.1
  have hlt:=h.c1v hi hw;have e1:=h.len;have e2:=h.b2g;obtain ⟨q1,q2⟩:=h.parts l.length l'.length (i+1) (txA l i) (by omega) (by omega) (by omega);refine ⟨by rw [h.tx hlt,q2],fun s n he=>?_⟩;rw [d8J] at he;rw [he] at q1;exact q1
 ·rw [if_neg hb,if_neg hb];exact ⟨rfl,fun s n he=>by cases he⟩
def Smr (kw:List UInt8→Bool)(l:List Tok)(N k:Nat)(x y:Option (Pr×Nat)):Prop:=∀p n,x=some (p,n)→n≤N→Ded kw l k n∨y=some (p,n)
theorem Smr.mono {k k':Nat}{x y:Option (Pr×Nat)}(h:Smr kw l N k x y)(hk:k'≤k):Smr kw l N k' x y:=fun p n e hn=>by
 rcases h p n e hn with h|h
 ·exact .inl (h.mono hk)
 ·exact .inr h
variable {rd rd':Nat→Nat→Option (Pr×Nat)}
variable (h:zS l l' N) (hA:Adv l rd) {i:Nat} (hS:∀i' k',1≤k'→k'≤10→i<i'→i'≤N→Smr kw l N k' (rd i' k') (rd' i' k')) (hT:∀i' k',1≤k'→k'≤10→i'≤N→NoP kw l i'→rd' i' k'=none)
include h hA hS hT
theorem b3w {k:Nat}(hk:1≤k∧k≤8):
  ∀(g g':Nat) (a:Pr) (n:Nat),i<n→n≤N→l.length≤g+n→l'.length≤g'+n→∀p m,dH rd l k g a n=(p,m)→m≤N→Ded kw l k m∨dH rd' l' k g' a n=(p,m)
 |0,g',a,n,hin,hn,hg,hg',p,m,hr,hm=>by have:=h.len;omega
 |g+1,g',a,n,hin,hn,hg,hg',p,m,hr,hm=>by
  have e1:=h.len;have e2:=h.b2g;obtain ⟨g',rfl⟩:∃x,g'=x+1:=⟨g'-1,by omega⟩;rw [dH] at hr ⊢;rw [h.op hn];cases ho:a0Y l n k with
  |none=>rw [ho] at hr;cases hr;exact .inr rfl
  |some op=>
   rw [ho] at hr;simp only at hr ⊢;have hlt:=h.d6X hn ho;have hs:=hS (n+1) (k+1) (by omega) (by omega) (by omega) (by omega);cases hx:rd (n+1) (k+1) with
   |none=>
    rw [hx] at hr;cases hr;by_cases hst:NoP kw l (n+1)
    ·rw [hT (n+1) (k+1) (by omega) (by omega) (by omega) hst];exact .inr rfl
    ·obtain ⟨s,q1,q2,_⟩:=d2M ho;exact .inl ⟨s,q1,.inr ⟨by omega,hst⟩⟩
   |some q=>
    obtain ⟨b,j⟩:=q;have hadv:=hA _ _ _ _ hx;rw [hx] at hr hs;simp only at hr;have hca:=wU hA k g (tw op a b) j hadv.2;rw [hr] at hca;simp only at hca;rcases hs b j rfl (by omega) with hd|hy
    ·rw [b0R (hd.op (by omega))] at hr;cases hr;exact .inl (hd.mono (by omega))
    ·rw [hy];simp only;exact b3w hk g g' _ j (by omega) (by omega) (by omega) (by omega) p m hr hm
omit hT in
theorem b7Z:
  ∀(g g' n:Nat) (acc ks:List Pr) (m:Nat),i≤n→n<N→l'.length≤g'+n→eP rd l g n acc=some (ks,m)→m≤N→eP rd' l' g' n acc=some (ks,m)
 |0,_,_,_,_,_,_,_,_,hr,_=>by cases hr
 |g+1,g',n,acc,ks,m,hin,hn,hg',hr,hm=>by
  have e2:=h.b2g;obtain ⟨g',rfl⟩:∃x,g'=x+1:=⟨g'-1,by omega⟩;rw [eP] at hr ⊢;have hs:=hS (n+1) 1 (by omega) (by omega) (by omega) (by omega);cases hx:rd (n+1) 1 with
  |none=>rw [hx] at hr;cases hr
  |some q=>
   obtain ⟨p,j⟩:=q;have hadv:=hA _ _ _ _ hx;rw [hx] at hr hs;simp only at hr;by_cases h1:hU l j [41]=true
   ·rw [if_pos h1] at hr;cases hr;rcases hs p j rfl (by omega) with hd|hy
    ·rw [hd.no (by decide) (by decide)] at h1;cases h1
    ·rw [hy];simp only;rw [if_pos (by rw [h.sg (by omega) (.inr (by omega))];exact h1)]
   ·rw [if_neg h1] at hr;by_cases h2:hU l j [44]=true
    ·rw [if_pos h2] at hr;have hadv2:=a0k hA _ _ _ _ _ hr;rcases hs p j rfl (by omega) with hd|hy
     ·rw [hd.no (by decide) (by decide)] at h2;cases h2
     ·rw [hy];simp only;have h1': ¬hU l' j [41]=true:=by rw [h.sg (by omega) (.inr (by omega))];exact h1
      rw [if_neg h1',if_pos (by rw [h.sg (by omega) (.inr (by omega))];exact h2)];exact b7Z g g' j _ ks m (by omega) (by omega) (by omega) hr hm
    ·rw [if_neg h2] at hr;cases hr
omit hT in
theorem b8a {n:Nat}(hin:i≤n){ks:List Pr}{m:Nat}(hr:oM rd l n=some (ks,m))(hm:m≤N):oM rd' l' n=some (ks,m):=by
 have e2:=h.b2g;unfold oM at hr ⊢;split at hr
 ·rename_i hs;have ha:=a0k hA _ _ _ _ _ hr;rw [if_pos (by rw [h.sg (by omega) (.inr (by omega))];exact hs)];exact b7Z h hA hS l.length l'.length n [] ks m hin (by omega) (by omega) hr hm
 ·cases hr
omit hA hS hT in
theorem d0X {n:Nat}(hn:n≤N)(hs:hU l n [40]=false):oM rd' l' n=none:=by unfold oM;rw [if_neg (by rw [h.sg hn (.inl ⟨by decide,by decide⟩),hs];simp)]
end
end
section
section
variable {kw:List UInt8→Bool} {l l':List Tok} {N:Nat} {rd rd':Nat→Nat→Option (Pr×Nat)}
theorem d4Z {l:List Tok}{i:Nat}{s:List UInt8}(h1:hU l i s=true)(h2:kdB l i 3=true):False:=by
 unfold hU at h1;unfold kdB at h2;cases h:l[i]? with
 |none=>rw [h] at h1;cases h1
 |some t=>rw [h] at h1 h2;simp only [d8D,decide_eq_true_eq] at h1 h2;omega
theorem c6F (h:zS l l' N)(hA:Adv l rd){i:Nat}(hi:i≤N)(hS:∀i' k',1≤k'→k'≤10→i<i'→i'≤N→Smr kw l N k' (rd i' k') (rd' i' k')):Smr kw l N 10 (tF kw rd l i) (tF kw rd' l' i):=by
 intro p n hr hn;by_cases hN:i=N
 ·subst hN;obtain ⟨t,h1,h2⟩:=h.stp;rw [NoP.d6W ⟨t,h1,b3v h2⟩] at hr;cases hr
 have hlt:i<N:=by omega
 have hlen:=h.len;obtain ⟨t,t',ht,ht',hk,hx,hnn⟩:=h.same i hlt;unfold tF at hr ⊢;rw [ht'];rw [ht] at hr;simp only at hr ⊢;rw [hk,hx,hnn];by_cases k3:t.kind=3
 ·rw [if_pos k3] at hr ⊢;exact .inr hr
 rw [if_neg k3] at hr ⊢;by_cases kt:t.kind=1∧t.text=[116,114,117,101]
 ·rw [if_pos kt] at hr ⊢;exact .inr hr
 rw [if_neg kt] at hr ⊢;by_cases kf:t.kind=1∧t.text=[102,97,108,115,101]
 ·rw [if_pos kf] at hr ⊢;exact .inr hr
 rw [if_neg kf] at hr ⊢;rw [h.sg hi (.inr hlt),h.sg hi (.inr hlt)];by_cases hq:hU l i [63]=true
 ·rw [if_pos hq] at hr ⊢;obtain ⟨q1,q2⟩:=h.name (kw:=kw) (i:=i+1) (by omega);rw [q1];cases hnm:pD kw l (i+1) with
  |none=>rw [hnm] at hr;cases hr
  |some z=>
   obtain ⟨s,m⟩:=z;have hadv:=oG hnm;rw [hnm] at hr;simp only at hr ⊢;cases hL:oM rd l m with
   |none=>rw [hL] at hr;cases hr
   |some z=>obtain ⟨ks,j⟩:=z;rw [hL] at hr;cases hr;rw [b8a h hA hS (by omega) hL hn];exact .inr rfl
 rw [if_neg hq] at hr ⊢;by_cases hp:hU l i [40]=true
 ·rw [if_pos hp] at hr ⊢;have es1:hU l' (i+1) [45]=hU l (i+1) [45]:=h.sg (by omega) (.inl ⟨by decide,by decide⟩);by_cases hneg:hU l (i+1) [45]=true∧kdB l (i+2) 3=true∧hU l (i+3) [41]=true
  ·obtain ⟨n1,n2,n3⟩:=hneg;rw [if_pos ⟨n1,n2,n3⟩] at hr;have l3:i+3<N:=by cases hr;omega
   have c2:kdB l' (i+2) 3=true:=by rw [h.kd (by omega) (.inl (by decide))];exact n2
   have c3:hU l' (i+3) [41]=true:=by rw [h.sg (by omega) (.inr l3)];exact n3
   rw [if_pos ⟨by rw [es1];exact n1,c2,c3⟩,h.nm (by omega)];exact .inr hr
  ·rw [if_neg hneg] at hr;have hs:=hS (i+1) 1 (by omega) (by omega) (by omega) (by omega);cases hx:rd (i+1) 1 with
   |none=>rw [hx] at hr;cases hr
   |some q=>
    obtain ⟨a,m⟩:=q;have hadv:=hA _ _ _ _ hx;rw [hx] at hr hs;simp only at hr;by_cases hc:hU l m [41]=true
    ·rw [if_pos hc] at hr;cases hr;have hneg': ¬(hU l' (i+1) [45]=true∧kdB l' (i+2) 3=true∧hU l' (i+3) [41]=true):=by
      rintro ⟨c1,c2,c3⟩;rw [es1] at c1;have l1:=h.b1f (by omega:i+1≤N) (by decide) (by decide) c1;rw [h.kd (by omega) (.inl (by decide))] at c2;have l2:=h.c1u (by omega:i+2≤N) (by decide) (by decide) c2;by_cases h3:i+3<N
      ·rw [h.sg (by omega) (.inr h3)] at c3;exact hneg ⟨c1,c2,c3⟩
      ·have:m=i+2:=by omega
       subst this;exact d4Z hc c2
     rw [if_neg hneg'];rcases hs _ _ rfl (by omega) with hd|hy
     ·rw [hd.no (by decide) (by decide)] at hc;cases hc
     ·rw [hy];simp only;rw [if_pos (by rw [h.sg (by omega) (.inr (by omega))];exact hc)];exact .inr rfl
    ·rw [if_neg hc] at hr;cases hr
 rw [if_neg hp] at hr ⊢;obtain ⟨q1,q2⟩:=h.name (kw:=kw) hi;rw [q1];cases hnm:pD kw l i with
 |none=>rw [hnm] at hr;cases hr
 |some z=>
  obtain ⟨s,m⟩:=z;have hadv:=oG hnm;have hmN:=q2 s m hnm;rw [hnm] at hr;simp only at hr ⊢;cases hL:oM rd l m with
  |some z=>obtain ⟨ks,j⟩:=z;rw [hL] at hr;cases hr;rw [b8a h hA hS (by omega) hL hn];exact .inr rfl
  |none=>
   rw [hL] at hr;by_cases hb:hU l m [40]=true
   ·cases hr;exact .inl ⟨[40],hb,.inl rfl⟩
   ·rw [d0X h hmN (by simpa using hb)];cases hr;exact .inr rfl
theorem d5a (h:zS l l' N)(hA:Adv l rd){i k:Nat}(hk:1≤k∧k≤10)(hi:i≤N)(hS:∀i' k',1≤k'→k'≤10→i<i'→i'≤N→Smr kw l N k' (rd i' k') (rd' i' k'))(hT:∀i' k',1≤k'→k'≤10→i'≤N→NoP kw l i'→rd' i' k'=none)(h0:∀k',k<k'→k'≤10→Smr kw l N k' (rd i k') (rd' i k')):
  Smr kw l N k (atG kw rd l i k) (atG kw rd' l' i k):=by
 have hlen:=h.len;have hlen':=h.b2g;have hch:∀k,(k=1∨k=3∨k=4∨k=7∨k=8)→Smr kw l N (k+1) (rd i (k+1)) (rd' i (k+1))→Smr kw l N k ((rd i (k+1)).map fun q=>dH rd l k l.length q.1 q.2) ((rd' i (k+1)).map fun q=>dH rd' l' k l'.length q.1 q.2):=by
  intro k hk hs p n hr hn;cases hx:rd i (k+1) with
  |none=>rw [hx] at hr;cases hr
  |some q=>
   obtain ⟨a,m⟩:=q;have hadv:=hA _ _ _ _ hx;rw [hx] at hr hs;rw [Option.map_some,d8J] at hr;simp only at hr;have hca:=wU hA k l.length a m hadv.2;rw [hr] at hca;simp only at hca;rcases hs a m rfl (by omega) with hd|hy
   ·rw [b0R (hd.op (by omega))] at hr;cases hr;exact .inl (hd.mono (by omega))
   ·rw [hy,Option.map_some];simp only;rcases b3w h hA hS hT (k:=k) (by omega) l.length l'.length a m (by omega) (by omega) (by omega) (by omega) p n hr hn with hd|q2
    ·exact .inl hd
    ·exact .inr (by rw [q2])
 obtain rfl|rfl|rfl|rfl|rfl|rfl|rfl|rfl|rfl|rfl:k=1∨k=2∨k=3∨k=4∨k=5∨k=6∨k=7∨k=8∨k=9∨k=10:=by omega
 ·exact hch 1 (by omega) (h0 2 (by omega) (by omega))
 ·have hs:=h0 3 (by omega) (by omega)
  show Smr kw l N 2 (a6M rd l i) (a6M rd' l' i)
  intro p n hr hn;unfold a6M at hr ⊢;cases hx:rd i 3 with
  |none=>rw [hx] at hr;cases hr
  |some q=>
   obtain ⟨a,m⟩:=q;have hadv:=hA _ _ _ _ hx;rw [hx] at hr hs;simp only at hr;by_cases hb:hU l m [61,62]=true
   ·rw [if_pos hb] at hr;have hmn:m≤n:=by
     split at hr
     ·rename_i b j hj;have:=hA _ _ _ _ hj;cases hr;omega
     ·cases hr;omega
    have hlt:=h.b1f (by omega:m≤N) (by decide) (by decide) hb;rcases hs a m rfl (by omega) with hd|hy
    ·rw [hd.no (by decide) (by decide)] at hb;cases hb
    ·rw [hy];simp only;rw [h.sg (by omega) (.inr hlt),if_pos hb];have hs2:=hS (m+1) 2 (by omega) (by omega) (by omega) (by omega);cases hx2:rd (m+1) 2 with
     |none=>
      rw [hx2] at hr;cases hr;by_cases hst:NoP kw l (n+1)
      ·rw [hT (n+1) 2 (by omega) (by omega) (by omega) hst];exact .inr rfl
      ·exact .inl ⟨_,hb,.inr ⟨by decide,hst⟩⟩
     |some z=>
      obtain ⟨b,j⟩:=z;rw [hx2] at hr hs2;cases hr;rcases hs2 _ _ rfl hn with hd|hy2
      ·exact .inl hd
      ·rw [hy2];exact .inr rfl
   ·rw [if_neg hb] at hr;cases hr;rcases hs _ _ rfl hn with hd|hy
    ·exact .inl (hd.mono (by omega))
    ·rw [hy];simp only;rw [h.sg hn (.inl ⟨by decide,by decide⟩),if_neg hb];exact .inr rfl
 ·exact hch 3 (by omega) (h0 4 (by omega) (by omega))
 ·exact hch 4 (by omega) (h0 5 (by omega) (by omega))
 ·show Smr kw l N 5 (if hU l i [33]=true then _ else rd i 6) (if hU l' i [33]=true then _ else rd' i 6)
  rw [h.sg hi (.inl ⟨by decide,by decide⟩)];by_cases hb:hU l i [33]=true
  ·have hlt:=h.b1f hi (by decide) (by decide) hb;rw [if_pos hb,if_pos hb];have hs:=hS (i+1) 5 (by omega) (by omega) (by omega) (by omega);intro p n hr hn;rw [d8C] at hr;obtain ⟨⟨a,m⟩,hx,he⟩:=hr;cases he;rcases hs a m hx hn with hd|hy
   ·exact .inl hd
   ·rw [hy];exact .inr rfl
  ·rw [if_neg hb,if_neg hb];exact (h0 6 (by omega) (by omega)).mono (by omega)
 ·have hs:=h0 7 (by omega) (by omega)
  show Smr kw l N 6 (yC rd l i) (yC rd' l' i)
  intro p n hr hn;unfold yC at hr ⊢;cases hx:rd i 7 with
  |none=>rw [hx] at hr;cases hr
  |some q=>
   obtain ⟨a,m⟩:=q;have hadv:=hA _ _ _ _ hx;rw [hx] at hr hs;simp only at hr;have hmn:m≤n:=by
    split at hr
    ·cases hr;omega
    ·split at hr
     ·cases hr;omega
     ·rename_i b j hj;have:=hA _ _ _ _ hj;cases hr;omega
   rcases hs a m rfl (by omega) with hd|hy
   ·rw [hd.cmp (by omega)] at hr;cases hr;exact .inl (hd.mono (by omega))
   ·rw [hy];simp only;rw [h.cmp (by omega)];cases hc:tE l m with
    |none=>rw [hc] at hr;cases hr;exact .inr rfl
    |some c=>
     obtain ⟨op,ex⟩:=c;have hlt:=h.c0l (by omega) hc;rw [hc] at hr;simp only at hr ⊢;have hs2:=hS (m+1) 7 (by omega) (by omega) (by omega) (by omega);cases hx2:rd (m+1) 7 with
     |none=>
      rw [hx2] at hr;cases hr;by_cases hst:NoP kw l (n+1)
      ·rw [hT (n+1) 7 (by omega) (by omega) (by omega) hst];exact .inr rfl
      ·obtain ⟨s,q1,q2,_⟩:=c6E hc;exact .inl ⟨s,q1,.inr ⟨by omega,hst⟩⟩
     |some z=>
      obtain ⟨b,j⟩:=z;rw [hx2] at hr hs2;cases hr;rcases hs2 _ _ rfl hn with hd|hy2
      ·exact .inl (hd.mono (by omega))
      ·rw [hy2];exact .inr rfl
 ·exact hch 7 (by omega) (h0 8 (by omega) (by omega))
 ·exact hch 8 (by omega) (h0 9 (by omega) (by omega))
 ·show Smr kw l N 9 (if hU l i [45]=true then _ else rd i 10) (if hU l' i [45]=true then _ else rd' i 10)
  rw [h.sg hi (.inl ⟨by decide,by decide⟩)];by_cases hb:hU l i [45]=true
  ·have hlt:=h.b1f hi (by decide) (by decide) hb;rw [if_pos hb,if_pos hb];have hs:=hS (i+1) 9 (by omega) (by omega) (by omega) (by omega);intro p n hr hn;rw [d8C] at hr;obtain ⟨⟨a,m⟩,hx,he⟩:=hr;cases he;rcases hs a m hx hn with hd|hy
   ·exact .inl hd
   ·rw [hy];exact .inr rfl
  ·rw [if_neg hb,if_neg hb];exact (h0 10 (by omega) (by omega)).mono (by omega)
 ·exact c6F h hA hi hS
theorem c0m (h:zS l l' N):∀(f i k:Nat),1≤k→k≤10→i≤N→mu l.length i k≤f→Smr kw l N k (RR kw l i k) (RR kw l' i k)
 |0,i,k,_,h10,hi,hf=>by have:=h.len;unfold mu at hf;omega
 |f+1,i,k,h1,h10,hi,hf=>by
  have e1:=h.len;have e2:=h.b2g;rw [a1t h1 h10 (by omega),a1t h1 h10 (by omega)];refine d5a h (c6b kw l) ⟨h1,h10⟩ hi (fun i' k' q1 q2 q3 q4=>c0m h f i' k' q1 q2 q4 ?_) (fun i' k' q1 q2 q3 q4=>(h.noP q3 q4).read k' q1 q2) (fun k' q1 q2=>c0m h f i k' (by omega) q2 hi ?_)
  ·have:=wM (L:=l.length) (k:=k) q3 (by omega) q1 h10;omega
  ·have:=a5U (L:=l.length) (i:=i) q1 q2;omega
theorem d5b (h:zS l l' N){p:Pr}{n:Nat}(hr:RR kw l 0 1=some (p,n))(hn:n≤N)(hd: ¬Ded kw l 1 n):RR kw l' 0 1=some (p,n):=by
 rcases c0m (kw:=kw) h _ 0 1 (by omega) (by omega) (by omega) (d8T _) p n hr hn with h1|h1
 ·exact absurd h1 hd
 ·exact h1
end
end
section
structure a2K (l l':List Tok) (N d:Nat) (u:Nm):Prop where
 len:N<l.length
 b2g:N+d<l'.length
 le:l.length≤l'.length
 kind:∀i,i<N→(aK l' (i+d)).kind=(aK l i).kind
 text:∀i,i<N→(aK l' (i+d)).text=(aK l i).text
 n:∀i,i<N→(aK l' (i+d)).n=(aK l i).n
 stp:(aK l N).kind=0∨((aK l N).kind=4∧(aK l N).text=u)
 a6c:(aK l' (N+d)).kind=4∧(aK l' (N+d)).text=u
 uu:u=[41]∨u=[59]
def aC {α:Type}(N d:Nat)(W:Nat→Prop)(x y:aR α):Prop:=∀i a j,i≤N→x i= .ok a j→j≤N→W j→y (i+d)= .ok a (j+d)
abbrev wT:Nat→Prop:=fun _=>True
def Fol (kw:Nm→Bool)(l:List Tok)(j:Nat):Prop:=c6D kw (aK l j)
def b8b (kw:Nm→Bool)(l:List Tok)(j:Nat):Prop:=(aK l j).kind=4→(aK l j).text≠[40]∧(lvS (aK l j).text=0∨c6D kw (aK l (j+1)))
def c3C (l:List Tok):Prop:=∀i,(aK l i).kind≠0→firstT gN (aK l i).text=((aK l i).kind,(aK l i).text,(aK l i).n,true)
section
variable {α β:Type} {kw:Nm→Bool} {andP:Pr→Pr→Pr} {rdP:List Tok→Nat→Nat→mH Pr} {l l':List Tok} {N d:Nat} {W W':Nat→Prop} {u:Nm}
theorem aC.mono {x y:aR α}(h:aC N d W x y)(hw:∀j,j≤N→W' j→W j):aC N d W' x y:=fun i a j hi hx hj hW=>h i a j hi hx hj (hw j hj hW)
theorem aC.aO (a:α):aC N d W (pure a:aR α) (pure a):=fun i b j hi hx hj _=>by
 rw [gI] at hx ⊢;cases hx
 rfl
theorem aC.ite {c:Prop}[Decidable c]{x y x' y':aR α}(h:aC N d W x x')(h':aC N d W y y'):aC N d W (if c then x else y) (if c then x' else y'):=by
 split
 ·exact h
 ·exact h'
theorem aC.failed:aC N d W (cH l:aR α) (cH l'):=fun i a j hi hx hj _=>by unfold cH at hx;cases hx
variable (hE:oK l) (hN:a2K l l' N d u)
include hE hN
omit hE in
theorem c0n {x:aR α}{m i j:Nat}{a:α}(h:aA l m x)(hi:i≤N)(hx:x i= .ok a j):i+m≤j∧j<l.length:=h i a j (by have:=hN.len;omega) hx
omit hE in
theorem aC.sF {x x':aR α}{f f':α→aR β}(hx:aC N d W' x x')(hf:∀a,aC N d W (f a) (f' a))(ax:aA l 0 x)(af:∀a,aA l 0 (f a))(hW:∀a k b j,k≤N→f a k= .ok b j→j≤N→W j→W' k):aC N d W (x >>=f) (x' >>=f'):=fun i b j hi h hj hw=>by
 rw [eC] at h;cases h1:x i with
 |bad n e=>rw [h1] at h;cases h
 |ok a k=>rw [h1] at h;have k1:=c0n hN ax hi h1;have k2:=(af a) k b j k1.2 h;rw [aY (hx i a k hi h1 (by omega) (hW a k b j (by omega) h hj hw))];exact hf a k b j (by omega) h hj hw
omit hE in
theorem aC.bT {x x':aR α}{f f':α→aR β}(hx:aC N d wT x x')(hf:∀a,aC N d W (f a) (f' a))(ax:aA l 0 x)(af:∀a,aA l 0 (f a)):aC N d W (x >>=f) (x' >>=f'):=aC.sF hN hx hf ax af fun _ _ _ _ _ _ _ _=>trivial
omit hE in
theorem b1g {i:Nat}(hi:i<N)(s:Nm):dN (aK l' (i+d)) s=dN (aK l i) s:=by unfold dN;rw [hN.kind i hi,hN.text i hi]
omit hE in
theorem a1c {i:Nat}(hi:i<N)(s:Nm):aJ l' (i+d) s=aJ l i s:=b1g hN hi s
omit hE in
theorem d0Y {i:Nat}(hi:i<N):jJ kw (aK l' (i+d))=jJ kw (aK l i):=by unfold jJ;rw [hN.kind i hi,hN.text i hi]
omit hE in
theorem d0Z {i:Nat}(hi:i<N):kT (aK l' (i+d))=kT (aK l i):=by unfold kT;rw [hN.kind i hi]
omit hE in
theorem d6Y {s:Nm}(h1:s≠[41])(h2:s≠[59]):u≠s:=by
 rcases hN.uu with rfl|rfl
 ·exact fun e=>h1 e.symm
 ·exact fun e=>h2 e.symm
omit hE in
theorem d6Z {s:Nm}(h1:s≠[41])(h2:s≠[59]):aJ l N s=false:=by
 unfold aJ dN;rcases hN.stp with h|⟨h,h3⟩
 ·simp [h]
 ·simp [h3,d6Y hN h1 h2]
omit hE in
theorem d7a {s:Nm}(h1:s≠[41])(h2:s≠[59]):aJ l' (N+d) s=false:=by unfold aJ dN;obtain ⟨h,h3⟩:=hN.a6c;simp [h3,d6Y hN h1 h2]
omit hE in
theorem d7b:jJ kw (aK l N)=false:=by unfold jJ;rcases hN.stp with h|⟨h,_⟩<;>simp [h]
omit hE in
theorem d7c:jJ kw (aK l' (N+d))=false:=by unfold jJ;simp [hN.a6c.1]
omit hE in
theorem d7d:kT (aK l N)=false:=by unfold kT;rcases hN.stp with h|⟨h,_⟩<;>simp [h]
omit hE in
theorem d7e:kT (aK l' (N+d))=false:=by unfold kT;simp [hN.a6c.1]
omit hE in
theorem hZ {s:Nm}(h1:s≠[41])(h2:s≠[59]){i:Nat}(hi:i≤N):aJ l' (i+d) s=aJ l i s:=by
 by_cases h:i=N
 ·subst h;rw [d6Z hN h1 h2,d7a hN h1 h2]
 ·exact a1c hN (by omega) s
omit hE in
theorem a6d {i:Nat}(hi:i≤N):jJ kw (aK l' (i+d))=jJ kw (aK l i):=by
 by_cases h:i=N
 ·subst h;rw [d7b hN,d7c hN]
 ·exact d0Y hN (by omega)
omit hE in
theorem a6e {i:Nat}(hi:i≤N):kT (aK l' (i+d))=kT (aK l i):=by
 by_cases h:i=N
 ·subst h;rw [d7d hN,d7e hN]
 ·exact d0Z hN (by omega)
omit hE in
theorem is_lt {i:Nat}{s:Nm}(h1:s≠[41])(h2:s≠[59])(hi:i≤N)(h:aJ l i s=true):i<N:=by
 refine Nat.lt_of_not_le fun hle=>?_
 have:i=N:=by omega
 subst this;rw [d6Z hN h1 h2] at h;cases h
omit hE in
theorem d2N {i:Nat}(hi:i≤N)(h:jJ kw (aK l i)=true):i<N:=by
 refine Nat.lt_of_not_le fun hle=>?_
 have:i=N:=by omega
 subst this;rw [d7b hN] at h;cases h
omit hE in
theorem d7f {i:Nat}(hi:i≤N)(h:kT (aK l i)=true):i<N:=by
 refine Nat.lt_of_not_le fun hle=>?_
 have:i=N:=by omega
 subst this;rw [d7d hN] at h;cases h
omit hN in
theorem c1w {s:List Nm}{i j:Nat}{a:Unit}(hi:i<l.length)(h:aL l s i= .ok a j):j=i+s.length:=by
 induction s generalizing i with
 |nil=>cases h;rfl
 |cons s r ih=>
  have h:(if aJ l i s=true then aL l r (i+1) else cH l i)= .ok a j:=h;split at h
  ·rename_i hs;have:=ih (aF hE hi hs) h;simp only [List.length_cons];omega
  ·unfold cH at h;cases h
omit hE hN in
theorem a1d {s:Nm}{r:List Nm}{i j:Nat}{a:Unit}(h:aL l (s::r) i= .ok a j):aJ l i s=true:=by
 have h:(if aJ l i s=true then aL l r (i+1) else cH l i)= .ok a j:=h;split at h
 ·assumption
 ·unfold cH at h;cases h
omit hE hN in
theorem a2L {s:Nm}{r:List Nm}{f:Unit→aR α}{k j:Nat}{b:α}(h:(aL l (s::r) >>=f) k= .ok b j):aJ l k s=true:=by
 rw [eC] at h;split at h
 ·rename_i u k2 he;exact a1d he
 ·cases h
theorem aC.exp:∀s,aC N d W (aL l s) (aL l' s)
 |[]=>aC.aO _
 |s::r=>fun i a j hi h hj hw=>by
  have hlen:=hN.len;have h1:=c1w hE (by omega) h;simp only [List.length_cons] at h1;have hs:=a1d h;have h:(if aJ l i s=true then aL l r (i+1) else cH l i)= .ok a j:=h;rw [if_pos hs] at h
  show (if aJ l' (i+d) s=true then aL l' r (i+d+1) else cH l' (i+d))=_
  rw [if_pos (by rw [a1c hN (by omega)];exact hs)];have:=aC.exp r (i+1) a j (by omega) h hj hw;rw [show i+1+d=i+d+1 by omega] at this;exact this
omit hE in
theorem aC.take {p:Tok→Bool}(hp:∀i,i≤N→p (aK l' (i+d))=p (aK l i)):aC N d W (mE l p) (mE l' p):=fun i a j hi h hj hw=>by
 unfold mE at h ⊢;split at h
 ·rename_i hs;cases h;rw [if_pos (by rw [hp i hi];exact hs),hN.text i (by omega)];rw [show i+1+d=i+d+1 by omega]
 ·unfold cH at h;cases h
omit hE in
theorem aC.word:aC N d W (bN kw l) (bN kw l'):=aC.take hN fun i hi=>a6d hN hi
omit hE in
theorem aC.title:aC N d W (eV l) (eV l'):=aC.take hN fun i hi=>a6e hN hi
omit hE in
theorem aC.skip {s:Nm}(h1:s≠[41])(h2:s≠[59]):aC N d W (cM l s) (cM l' s):=fun i a j hi h hj hw=>by
 unfold cM at h ⊢;rw [hZ hN h1 h2 hi];split at h
 ·rename_i hs;rw [if_pos hs];cases h;rw [show i+1+d=i+d+1 by omega]
 ·rename_i hs;rw [if_neg hs];cases h
  rfl
theorem aC.loop {c:Nm}{one one':α→aR α}(hq:∀j,j≤N→W j→aJ l' (j+d) c=aJ l j c)(hs:∀j,j<N→aJ l j c=true→W j)(h1:∀a,aC N d W (one a) (one' a))(a1:∀a,aA l 0 (one a)):∀(g g':Nat) (a:α),g≤g'→aC N d W (gR l c one g a) (gR l' c one' g' a)
 |0,g',a,hg=>fun i b j hi h hj _=>by unfold gR at h;cases h
 |g+1,g',a,hg=>fun i b j hi h hj hw=>by
  obtain ⟨g',rfl⟩:∃k,g'=k+1:=⟨g'-1,by omega⟩;unfold gR at h ⊢;split at h
  ·cases h
  ·rename_i b' j' ho;have k1:=c0n hN (a1 a) hi ho;split at h
   ·rename_i hc;have k2:=aA.loop hE a1 g b' (j'+1) b j (aF hE k1.2 hc) h;rw [h1 a i b' j' hi ho (by omega) (hs j' (by omega) hc)];simp only;rw [if_pos (by rw [a1c hN (by omega)];exact hc)];have:=aC.loop hq hs h1 a1 g g' b' (by omega) (j'+1) b j (by omega) h hj hw;rw [show j'+1+d=j'+d+1 by omega] at this;exact this
   ·rename_i hc;cases h;rw [h1 a i b j hi ho hj hw];simp only;rw [hq j hj hw,if_neg hc]
theorem aC.list {c:Nm}{one one':α→aR α}(c1:c≠[41])(c2:c≠[59])(hs:∀j,j<N→aJ l j c=true→W j)(h1:∀a,aC N d W (one a) (one' a))(a1:∀a,aA l 0 (one a))(a:α):aC N d W (eO l c one a) (eO l' c one' a):=
 aC.loop hE hN (fun j hj _=>hZ hN c1 c2 hj) hs h1 a1 _ _ a (by have:=hN.le;omega)
theorem aC.d7g {c:Nm}{one one':α→aR α}(h1:∀a,aC N d (fun j=>j<N) (one a) (one' a))(a1:∀a,aA l 0 (one a))(a:α):aC N d (fun j=>j<N) (eO l c one a) (eO l' c one' a):=
 aC.loop hE hN (fun j _ hj=>a1c hN hj c) (fun j hj _=>hj) h1 a1 _ _ a (by have:=hN.le;omega)
omit hE in
theorem aC.a7Z {c c':Nat→Bool}{one one':α→aR α}(hc:∀i,i≤N→c' (i+d)=c i)(h1:∀a,aC N d wT (one a) (one' a))(a1:∀a,aA l 0 (one a)):∀(g g':Nat) (a:α),g≤g'→aC N d W (dF c one g a) (dF c' one' g' a)
 |0,g',a,hg=>fun i b j hi h hj _=>by unfold dF at h;cases h
 |g+1,g',a,hg=>fun i b j hi h hj hw=>by
  obtain ⟨g',rfl⟩:∃k,g'=k+1:=⟨g'-1,by omega⟩;unfold dF at h ⊢;rw [hc i hi];split at h
  ·rename_i hs;rw [if_pos hs];split at h
   ·cases h
   ·rename_i b' j' ho;have k1:=c0n hN (a1 a) hi ho;have k2:=(aA.a7Z a1 g b') j' b j k1.2 h;rw [h1 a i b' j' hi ho (by omega) trivial];exact aC.a7Z hc h1 a1 g g' b' (by omega) j' b j (by omega) h hj hw
  ·rename_i hs;rw [if_neg hs];cases h
   rfl
omit hE in
theorem aC.many {c c':Nat→Bool}{one one':α→aR α}(hc:∀i,i≤N→c' (i+d)=c i)(h1:∀a,aC N d wT (one a) (one' a))(a1:∀a,aA l 0 (one a))(a:α):aC N d W (oW l c one a) (oW l' c' one' a):=
 aC.a7Z hN hc h1 a1 _ _ a (by have:=hN.le;omega)
omit hE hN in
theorem xZ (hwf:c3C l){s:Nm}{j:Nat}(h:aJ l j s=true)(h4:(firstT gN s).1=4)(hs:s≠[63]∧s≠[40]∧s≠[45]∧s≠[33]):Fol kw l j:=by unfold aJ dN at h;simp only [d8D,d8P,decide_eq_true_eq] at h;have h1:=hwf j (by omega);rw [h.2] at h1;rw [h1] at h4;refine .inr (.inl ⟨h4,?_⟩);rw [h.2];exact hs
omit hE hN in
theorem c1x {s:Nm}{j:Nat}(h:aJ l j s=true)(h1:s≠[40])(h2:lvS s=0):b8b kw l j:=by unfold aJ dN at h;simp only [d8D,decide_eq_true_eq] at h;intro _;rw [h.2];exact ⟨h1,.inl h2⟩
omit hE hN in
theorem d1a {j:Nat}(h:aJ l j [62]=true)(h1:Fol kw l (j+1)):b8b kw l j:=by unfold aJ dN at h;simp only [d8D,decide_eq_true_eq] at h;intro _;rw [h.2];exact ⟨by decide,.inr h1⟩
end
end
section
def a4O (t:Tok):Int:=if t.text=[40] then 1 else if t.text=[41] then -1 else 0
def yA (l:List Tok)(i:Nat):Int:=match l[i]? with
 |some t=>a4O t
 |none=>0
def a1B (l:List Tok):Nat→Nat→Int
 |_,0=>0
 |i,m+1=>yA l i+a1B l (i+1) m
def par (l:List Tok)(i j:Nat):Int:=a1B l i (j-i)
section
variable {l:List Tok}
theorem jZ (i:Nat):par l i i=0:=by
 unfold par;rw [Nat.sub_self]
 rfl
theorem gO {i j:Nat}(h:i<j):par l i j=yA l i+par l (i+1) j:=by
 unfold par;rw [show j-i=(j-(i+1))+1 by omega]
 rfl
theorem b8c:∀(m i n:Nat),a1B l i (m+n)=a1B l i m+a1B l (i+m) n
 |0,i,n=>by simp [a1B]
 |m+1,i,n=>by rw [show m+1+n=(m+n)+1 by omega,a1B,a1B,b8c m (i+1) n,show i+1+m=i+(m+1) by omega];omega
theorem rC {i j k:Nat}(h1:i≤j)(h2:j≤k):par l i k=par l i j+par l j k:=by unfold par;have:=b8c (l:=l) (j-i) i (k-j);rw [show j-i+(k-j)=k-i by omega,show i+(j-i)=j by omega] at this;exact this
theorem kX {i:Nat}:par l i (i+1)=yA l i:=by rw [gO (by omega),jZ];omega
def WfD (l:List Tok):Prop:=∀(i:Nat) (t:Tok),l[i]? =some t→t.kind≠4→a4O t=0
theorem sB {i:Nat}{s:List UInt8}(h:hU l i s=true):yA l i=a4O ⟨4,s,0,0⟩:=by
 unfold hU at h;unfold yA;cases ht:l[i]? with
 |none=>rw [ht] at h;cases h
 |some t=>rw [ht] at h;simp only [d8D,decide_eq_true_eq] at h;simp only [a4O,h.2]
theorem b5t (hW:WfD l){i:Nat}{k:Int}(hk:k≠4)(h:kdB l i k=true):yA l i=0:=by
 unfold kdB at h;unfold yA;cases ht:l[i]? with
 |none=>rfl
 |some t=>rw [ht] at h;simp only [decide_eq_true_eq] at h;exact hW i t ht (by omega)
theorem c0o (hW:WfD l){i:Nat}(h:wtB l i=true):yA l i=0:=by
 unfold wtB at h;rw [d8P] at h;rcases h with h|h
 ·exact b5t hW (by decide) h
 ·exact b5t hW (by decide) h
theorem a3l (hW:WfD l):∀(g i:Nat) (s:List UInt8),i≤l.length→par l i (mG l g i s).2=0
 |0,i,s,_=>jZ i
 |g+1,i,s,hi=>by
  rw [mG];split
  ·rename_i h1;have d1:yA l i=0:=sB h1;have l1:=oY h1;split
   ·rename_i h2;have d2:=c0o hW h2;have l2:=a6N h2;have h3:=a3l hW g (i+2) (s++[46]++txA l (i+1)) (by omega);have h4:=uE (l:=l) g (i+2) (s++[46]++txA l (i+1)) (by omega);rw [gO (by omega),gO (by omega),d1,d2,h3]
    rfl
   ·split
    ·rename_i h3;have d3:=b5t hW (by decide) h3;have l3:=b4Z h3;split
     ·rename_i h4;have d4:=c0o hW h4;have l4:=a6N h4;have h5:=a3l hW g (i+3) (s++[46]++txA l (i+1)++txA l (i+2)) (by omega);have h6:=uE (l:=l) g (i+3) (s++[46]++txA l (i+1)++txA l (i+2)) (by omega);rw [gO (by omega),gO (by omega),gO (by omega),d1,d3,d4,h5]
      rfl
     ·have h5:=a3l hW g (i+2) (s++[46]++txA l (i+1)) (by omega);have h6:=uE (l:=l) g (i+2) (s++[46]++txA l (i+1)) (by omega);rw [gO (by omega),gO (by omega),d1,d3,h5]
      rfl
    ·exact jZ i
  ·exact jZ i
variable {kw:List UInt8→Bool} {rd:Nat→Nat→Option (Pr×Nat)}
theorem b1h (hW:WfD l){i n:Nat}{s:List UInt8}(h:pD kw l i=some (s,n)):par l i n=0:=by
 have ha:=oG h;unfold pD at h;split at h
 ·rename_i hb;unfold a8o at hb;rw [d8D] at hb;have d1:=c0o hW hb.1;have l1:=a6N hb.1;have h2:=a3l hW l.length (i+1) (txA l i) (by omega);rw [d8J] at h;rw [h] at h2;simp only at h2;rw [gO ha.1,d1,h2]
  rfl
 ·cases h
def RdB (l:List Tok)(rd:Nat→Nat→Option (Pr×Nat)):Prop:=∀i k p n,rd i k=some (p,n)→par l i n=0
variable (hW:WfD l) (hA:Adv l rd) (hB:RdB l rd)
include hW hA hB
theorem d5c {n k:Nat}{op:Int}(ho:a0Y l n k=some op):yA l n=0:=by unfold a0Y at ho;rw [d8C] at ho;obtain ⟨p,hp,_⟩:=ho;have hs:hU l n p.2=true:=List.find?_some (p:=fun p:Int×List UInt8=>hU l n p.2) hp;rw [sB hs];have hm:=List.mem_of_find?_eq_some hp;unfold opL at hm;split at hm<;>simp at hm<;>(try rcases hm with rfl|rfl)<;>(try subst hm)<;>rfl
theorem d1b {n:Nat}{q:Int×Bool}(hc:tE l n=some q):yA l n=0:=by unfold tE at hc;rw [d8C] at hc;obtain ⟨p,hp,_⟩:=hc;have hs:hU l n p.1=true:=List.find?_some (p:=fun p:List UInt8×Int×Bool=>hU l n p.1) hp;rw [sB hs];have hm:=List.mem_of_find?_eq_some hp;simp [cmpL] at hm;rcases hm with rfl|rfl|rfl|rfl|rfl|rfl<;>rfl
theorem b3x (k:Nat):∀(g:Nat) (a:Pr) (n:Nat),n≤l.length→par l n (dH rd l k g a n).2=0
 |0,a,n,hn=>jZ n
 |g+1,a,n,hn=>by
  rw [dH];split
  ·exact jZ n
  ·rename_i op ho;split
   ·exact jZ n
   ·rename_i b m hr;have h1:=hA _ _ _ _ hr;have h2:=wU hA k g (tw op a b) m h1.2;rw [gO (by omega),d5c hW hA hB ho,rC (j:=m) (by omega) (by omega),hB _ _ _ _ hr,b3x k g (tw op a b) m h1.2]
    rfl
theorem b8d:∀(g i:Nat) (acc ks:List Pr) (m:Nat),eP rd l g i acc=some (ks,m)→par l (i+1) m= -1
 |0,_,_,_,_,hr=>by cases hr
 |g+1,i,acc,ks,m,hr=>by
  rw [eP] at hr;split at hr
  ·cases hr
  ·rename_i p n hp;have h1:=hA _ _ _ _ hp;split at hr
   ·rename_i hs;cases hr;rw [rC (j:=n) (by omega) (by omega),hB _ _ _ _ hp,kX,sB hs]
    rfl
   ·split at hr
    ·rename_i hs;have h2:=a0k hA g n _ ks m hr;have h3:=b8d g n _ ks m hr;rw [rC (j:=n) (by omega) (by omega),hB _ _ _ _ hp,gO h2.1,sB hs,h3]
     rfl
    ·cases hr
theorem b8e {i m:Nat}{ks:List Pr}(hr:oM rd l i=some (ks,m)):par l i m=0:=by
 unfold oM at hr;split at hr
 ·rename_i hs;have h2:=a0k hA _ _ _ _ _ hr;rw [gO h2.1,sB hs,b8d hW hA hB _ _ _ _ _ hr]
  rfl
 ·cases hr
theorem c6G {i n:Nat}{p:Pr}(hr:tF kw rd l i=some (p,n)):par l i n=0:=by
 unfold tF at hr;split at hr
 ·cases hr
 ·rename_i t ht;have d0:t.kind≠4→yA l i=0:=fun hk=>by unfold yA;rw [ht];exact hW i t ht hk
  split at hr
  ·cases hr;rw [kX];exact d0 (by omega)
  split at hr
  ·cases hr;rw [kX];exact d0 (by omega)
  split at hr
  ·cases hr;rw [kX];exact d0 (by omega)
  split at hr
  ·rename_i hq;split at hr
   ·cases hr
   ·rename_i s m hn;have h1:=oG hn;rw [d8C] at hr;obtain ⟨⟨ks,q⟩,hq2,he⟩:=hr;have h2:=a5T hA hq2;cases he;simp only at *;rw [gO (by omega),sB hq,rC (j:=m) (by omega) (by omega),b1h hW hn,b8e hW hA hB hq2]
    rfl
  split at hr
  ·rename_i hp;split at hr
   ·rename_i hc;cases hr;rw [gO (by omega),gO (by omega),gO (by omega),kX,sB hp,sB hc.1,b5t hW (by decide) hc.2.1,sB hc.2.2]
    rfl
   ·split at hr
    ·cases hr
    ·rename_i q m hq;have h1:=hA _ _ _ _ hq;split at hr
     ·rename_i hs;cases hr;rw [gO (by omega),rC (j:=m) (by omega) (by omega),kX,sB hp,hB _ _ _ _ hq,sB hs]
      rfl
     ·cases hr
  ·split at hr
   ·cases hr
   ·rename_i s m hn;have h1:=oG hn;split at hr
    ·rename_i ks q hq;have h2:=a5T hA hq;cases hr;rw [rC (j:=m) (by omega) (by omega),b1h hW hn,b8e hW hA hB hq]
     rfl
    ·cases hr;exact b1h hW hn
theorem d5d {i k n:Nat}{p:Pr}(hr:atG kw rd l i k=some (p,n)):par l i n=0:=by
 have ha:=c6a hA hr;unfold atG at hr;split at hr
 ·unfold a6M at hr;split at hr
  ·cases hr
  ·rename_i a m hm;have h1:=hA _ _ _ _ hm;split at hr
   ·rename_i hs;split at hr
    ·rename_i b q hb;have h2:=hA _ _ _ _ hb;cases hr;rw [rC (j:=m) (by omega) (by omega),hB _ _ _ _ hm,gO (by omega),sB hs,hB _ _ _ _ hb]
     rfl
    ·cases hr;exact hB _ _ _ _ hm
   ·cases hr;exact hB _ _ _ _ hm
 ·split at hr
  ·rename_i hs;rw [d8C] at hr;obtain ⟨⟨a,m⟩,hm,he⟩:=hr;cases he;simp only at *;rw [gO (by omega),sB hs,hB _ _ _ _ hm]
   rfl
  ·exact hB _ _ _ _ hr
 ·unfold yC at hr;split at hr
  ·cases hr
  ·rename_i a m hm;have h1:=hA _ _ _ _ hm;split at hr
   ·cases hr;exact hB _ _ _ _ hm
   ·rename_i op ex hc;split at hr
    ·cases hr;exact hB _ _ _ _ hm
    ·rename_i b q hb;have h2:=hA _ _ _ _ hb;cases hr;rw [rC (j:=m) (by omega) (by omega),hB _ _ _ _ hm,gO (by omega),d1b hW hA hB hc,hB _ _ _ _ hb]
     rfl
 ·split at hr
  ·rename_i hs;rw [d8C] at hr;obtain ⟨⟨a,m⟩,hm,he⟩:=hr;cases he;simp only at *;rw [gO (by omega),sB hs,hB _ _ _ _ hm]
   rfl
  ·exact hB _ _ _ _ hr
 ·exact c6G hW hA hB hr
 ·rw [d8C] at hr;obtain ⟨⟨a,m⟩,hm,he⟩:=hr;have h1:=hA _ _ _ _ hm;have h2:=wU (k:=k) hA l.length a m h1.2;have h3:=b3x hW hA hB k l.length a m h1.2;have h4:(dH rd l k l.length a m).2=n:=by rw [he]
  rw [h4] at h2 h3;rw [rC (j:=m) (by omega) (by omega),hB _ _ _ _ hm,h3]
  rfl
end
theorem c1z (kw:List UInt8→Bool){l:List Tok}(hW:WfD l):∀f,RdB l (mW kw l f)
 |0=>fun _ _ _ _ h=>by cases h
 |f+1=>fun _ _ _ _ h=>d5d hW (oZ kw l f) (c1z kw hW f) h
theorem b3y (l:List Tok)(k:Nat):∀(m i:Nat),a1B (l.drop k) i m=a1B l (k+i) m
 |0,i=>rfl
 |m+1,i=>by rw [a1B,a1B,b3y l k m (i+1)];unfold yA;rw [d8W,show k+(i+1)=k+i+1 by omega]
theorem b3z (l:List Tok)(e:Nat):∀(m i:Nat),i+m≤e→a1B (l.take e) i m=a1B l i m
 |0,i,_=>rfl
 |m+1,i,h=>by rw [a1B,a1B,b3z l e m (i+1) (by omega)];unfold yA;rw [List.getElem?_take,if_pos (by omega)]
theorem c6H (l:List Tok)(e k n:Nat)(h:k+n≤e):par ((l.take e).drop k) 0 n=par l k (k+n):=by unfold par;rw [b3y,Nat.sub_zero,Nat.add_zero,b3z l e n k h,show k+n-k=n by omega]
theorem WfD.part {l:List Tok}(h:WfD l)(e k:Nat):WfD ((l.take e).drop k):=fun i t ht=>by
 rw [d8W,List.getElem?_take] at ht;split at ht
 ·exact h _ t ht
 ·cases ht
end
section
def aD {α:Type}(l:List Tok)(c:Int)(x:aR α):Prop:=∀i a j,i<l.length→x i= .ok a j→i≤j∧j<l.length∧par l i j=c
def a6f (s:Nm):Int:=a4O ⟨4,s,0,0⟩
section
variable {α β:Type} {kw:Nm→Bool} {andP:Pr→Pr→Pr} {rdP:List Tok→Nat→Nat→mH Pr} {l:List Tok} {c c1 c2:Int}
theorem c6I {i:Nat}(hi:i<l.length):yA l i=a4O (aK l i):=by
 unfold yA aK;rw [if_pos hi,List.getD_eq_getElem?_getD,d8H hi]
 rfl
theorem d1c {t:Tok}{s:Nm}(h:dN t s=true):a4O t=a6f s:=by unfold dN at h;simp only [d8D,decide_eq_true_eq] at h;unfold a6f a4O;rw [h.2]
theorem uH {i:Nat}{s:Nm}(hi:i<l.length)(h:aJ l i s=true):yA l i=a6f s:=by rw [c6I hi,d1c h]
theorem a4P (hW:WfD l){i:Nat}(hi:i<l.length)(h:(aK l i).kind≠4):yA l i=0:=by
 rw [c6I hi];refine hW i _ ?_ h
 unfold aK;rw [if_pos hi,List.getD_eq_getElem?_getD,d8H hi]
 rfl
theorem aD.aO (a:α):aD l 0 (pure a:aR α):=fun i b j hi h=>by rw [gI] at h;cases h;exact ⟨d8T _,hi,jZ _⟩
theorem aD.failed:aD l c (cH l:aR α):=fun i a j hi h=>by unfold cH at h;cases h
theorem aD.ite {p:Prop}[Decidable p]{x y:aR α}(hx:aD l c x)(hy:aD l c y):aD l c (if p then x else y):=by
 split
 ·exact hx
 ·exact hy
theorem aD.sF {x:aR α}{f:α→aR β}(hx:aD l c1 x)(hf:∀a,aD l c2 (f a))(hc:c=c1+c2):aD l c (x >>=f):=fun i b j hi h=>by
 rw [eC] at h;cases h1:x i with
 |bad n e=>rw [h1] at h;cases h
 |ok a k=>rw [h1] at h;obtain ⟨q1,q2,q3⟩:=hx i a k hi h1;obtain ⟨r1,r2,r3⟩:=hf a k b j q2 h;exact ⟨by omega,r2,by rw [rC q1 r1,q3,r3,hc]⟩
theorem aD.b0 {x:aR α}{f:α→aR β}(hx:aD l 0 x)(hf:∀a,aD l c (f a)):aD l c (x >>=f):=hx.sF hf (by omega)
theorem aD.nxt {x:aR α}{i j:Nat}{a:α}(hx:aD l c x)(hi:i<l.length)(hi1:i+1<l.length)(h:x (i+1)= .ok a j)(d:yA l i=c1)(hc:c2=c1+c):i≤j∧j<l.length∧par l i j=c2:=by obtain ⟨q1,q2,q3⟩:=hx (i+1) a j hi1 h;exact ⟨by omega,q2,by rw [gO (by omega),d,q3,hc]⟩
variable (hE:oK l) (hW:WfD l)
include hE
theorem aD.exp:∀(s:List Nm) (c:Int),c=(s.map a6f).sum→aD l c (aL l s)
 |[],c,hc=>by subst hc;exact aD.aO ()
 |s::r,c,hc=>fun i a j hi h=>by
  have h:(if aJ l i s=true then aL l r (i+1) else cH l i)= .ok a j:=h;split at h
  ·rename_i hs;exact (aD.exp r _ rfl).nxt hi (aF hE hi hs) h (uH hi hs) (by rw [hc];simp)
  ·unfold cH at h;cases h
theorem aD.skip {s:Nm}(hs:a6f s=0):aD l 0 (cM l s):=fun i a j hi h=>by
 unfold cM at h;split at h
 ·rename_i h1;have hn:=aF hE hi h1;cases h;exact ⟨by omega,hn,by rw [kX,uH hi h1,hs]⟩
 ·cases h;exact ⟨d8T _,hi,jZ _⟩
theorem aD.loop {s:Nm}{one:α→aR α}(hs:a6f s=0)(h1:∀a,aD l 0 (one a)):∀(g:Nat) (a:α),aD l 0 (gR l s one g a)
 |0,a=>fun i b j hi h=>by unfold gR at h;cases h
 |g+1,a=>fun i b j hi h=>by
  unfold gR at h;split at h
  ·cases h
  ·rename_i a' j' ho;obtain ⟨q1,q2,q3⟩:=h1 a i a' j' hi ho;split at h
   ·rename_i hc;obtain ⟨r1,r2,r3⟩:=(aD.loop hs h1 g a').nxt (c2:=0) q2 (aF hE q2 hc) h (uH q2 hc) (by rw [hs];rfl);exact ⟨by omega,r2,by rw [rC q1 r1,q3,r3];rfl⟩
   ·cases h;exact ⟨q1,q2,q3⟩
theorem aD.list {s:Nm}{one:α→aR α}(hs:a6f s=0)(h1:∀a,aD l 0 (one a))(a:α):aD l 0 (eO l s one a):=aD.loop hE hs h1 _ a
omit hE in
theorem aD.a7Z {p:Nat→Bool}{one:α→aR α}(h1:∀a,aD l 0 (one a)):∀(g:Nat) (a:α),aD l 0 (dF p one g a)
 |0,a=>fun i b j hi h=>by unfold dF at h;cases h
 |g+1,a=>fun i b j hi h=>by
  unfold dF at h;split at h
  ·split at h
   ·cases h
   ·rename_i a' j' ho;obtain ⟨q1,q2,q3⟩:=h1 a i a' j' hi ho;obtain ⟨r1,r2,r3⟩:=aD.a7Z h1 g a' j' b j q2 h;exact ⟨by omega,r2,by rw [rC q1 r1,q3,r3];rfl⟩
  ·cases h;exact ⟨d8T _,hi,jZ _⟩
omit hE in
theorem aD.many {p:Nat→Bool}{one:α→aR α}(h1:∀a,aD l 0 (one a))(a:α):aD l 0 (oW l p one a):=aD.a7Z h1 _ a
include hW
theorem aD.take {ok:Tok→Bool}(hk:∀t,ok t=true→t.kind≠0∧t.kind≠4):aD l 0 (mE l ok):=fun i a j hi h=>by
 unfold mE at h;split at h
 ·rename_i hs;have h1:=hk _ hs;have:=kF hE hi h1.1;cases h;exact ⟨by omega,this,by rw [kX,a4P hW hi h1.2]⟩
 ·unfold cH at h;cases h
theorem aD.word:aD l 0 (bN kw l):=aD.take hE hW fun t h=>by unfold jJ at h;simp only [d8D,decide_eq_true_eq] at h;omega
theorem aD.title:aD l 0 (eV l):=aD.take hE hW fun t h=>by unfold kT at h;simp only [decide_eq_true_eq] at h;omega
theorem aD.words:aD l 0 (cV kw l):=by unfold cV;exact aD.sF (aD.exp hE _ 1 rfl) (fun _=>aD.sF (aD.list hE rfl (fun a=>aD.b0 (aD.word hE hW) fun _=>aD.aO _) _) (fun _=>aD.sF (aD.exp hE _ (-1) rfl) (fun _=>aD.aO _) (c:= -1) rfl) (c:= -1) rfl) rfl
theorem aD.base:aD l 0 (jK kw l):=fun i a j hi h=>by
 have nx:∀ {s:Nm},a6f s=0→aJ l i s=true→i≤i+1∧i+1<l.length∧par l i (i+1)=0:=fun hs h1=>⟨by omega,aF hE hi h1,by rw [kX,uH hi h1,hs]⟩
 unfold jK at h;split at h
 ·rename_i h1;cases h;exact nx rfl h1
 split at h
 ·rename_i h1;cases h;exact nx rfl h1
 split at h
 ·rename_i h1;cases h;exact nx rfl h1
 split at h
 ·rename_i h1;have hn:=a0e hE hi h1;cases h;refine ⟨by omega,hn,?_⟩;rw [kX,a4P hW hi];unfold jJ at h1;simp only [d8D,decide_eq_true_eq] at h1;omega
 ·cases h;exact ⟨d8T _,hi,jZ _⟩
section
variable {ty:aR Ty} (hty:aD l 0 ty) (hP:aD l 0 (cQ rdP l))
include hty hP
theorem aD.a5r:aD l 0 (oB andP rdP l ty):=by unfold oB;exact aD.b0 (aD.exp hE _ 0 rfl) fun _=>aD.b0 hty fun t=>aD.ite aD.failed (aD.b0 (aD.exp hE _ 0 rfl) fun _=>aD.b0 hP fun _=>aD.b0 (aD.exp hE _ 0 rfl) fun _=>aD.aO _)
omit hP hW in
theorem aD.paren:aD l 0 (do aL l [[40]];let t ← ty;aL l [[41]];pure t:aR Ty):=aD.sF (aD.exp hE _ 1 rfl) (fun _=>aD.sF hty (fun _=>aD.sF (aD.exp hE _ (-1) rfl) (fun _=>aD.aO _) (c:= -1) rfl) (c:= -1) rfl) rfl
theorem d5e {i:Nat}(hi:i<l.length)(h:kT (aK l i)=true):i≤i+1∧i+1<l.length∧par l i (i+1)=0:=by have hn:=wS hE hi h;refine ⟨by omega,hn,?_⟩;rw [kX,a4P hW hi];unfold kT at h;simp only [decide_eq_true_eq] at h;omega
theorem aD.rX:aD l 0 (dZ kw andP rdP l ty):=by
 unfold dZ;refine aD.b0 (aD.base hE hW) fun b=>?_
 cases b with
 |some t=>exact aD.aO _
 |none=>
  intro i a j hi h;simp only at h;split at h
  ·rename_i h1;cases h;exact d5e hE hW hty hP hi h1
  ·split at h
   ·exact aD.a5r hE hW hty hP i a j hi h
   ·exact aD.paren hE hty i a j hi h
theorem aD.a7E:aD l 0 (mL kw andP rdP l ty):=by
 unfold mL;refine aD.b0 (aD.title hE hW) fun _=>aD.b0 (aD.many (fun a=>aD.b0 (aD.rX hE hW hty hP) fun _=>aD.aO _) _) fun _=>aD.b0 (aD.skip hE rfl) fun b=>aD.ite ?_ (aD.aO _)
 exact aD.b0 (aD.list hE rfl (fun a=>aD.b0 (aD.exp hE _ 0 rfl) fun _=>aD.b0 hP fun _=>aD.aO _) _) fun _=>aD.b0 (aD.exp hE _ 0 rfl) fun _=>aD.aO _
theorem aD.b4f:aD l 0 (qE kw l ty):=by
 unfold qE;refine aD.sF (aD.exp hE _ 1 rfl) (fun _=>aD.sF (c1:=0) (c2:= -1) (c:= -1) (fun i a j hi h=>?_) (fun q=>?_) rfl) rfl
 ·split at h
  ·exact aD.list hE rfl (fun a=>aD.b0 (aD.word hE hW) fun _=>aD.b0 (aD.exp hE _ 0 rfl) fun _=>aD.b0 hty fun _=>aD.aO _) _ i a j hi h
  ·exact aD.list hE rfl (fun a=>aD.b0 hty fun _=>aD.aO _) _ i a j hi h
 ·obtain ⟨ns,ts⟩:=q;refine aD.sF (c2:=0) (aD.exp hE _ (-1) rfl) (fun _=>fun i a j hi h=>?_) rfl;simp only at h;split at h
  ·cases h;exact ⟨d8T _,hi,jZ _⟩
  ·exact (aD.b0 (aD.exp hE _ 0 rfl) fun _=>aD.b0 hty fun _=>aD.aO _:aD l 0 _) i a j hi h
theorem aD.b6M:aD l 0 (rI kw andP rdP l ty):=by
 unfold rI;refine aD.b0 (aD.base hE hW) fun b=>?_
 cases b with
 |some t=>exact aD.aO _
 |none=>
  intro i a j hi h;simp only at h;split at h
  ·exact aD.a7E hE hW hty hP i a j hi h
  ·split at h
   ·exact aD.a5r hE hW hty hP i a j hi h
   ·exact aD.b4f hE hW hty hP i a j hi h
end
section
variable (hP:aD l 0 (cQ rdP l))
include hP
theorem aD.a3s:∀n,aD l 0 (rJ kw andP rdP l n)
 |0=>fun i a j hi h=>by unfold rJ at h;cases h
 |n+1=>aD.b6M hE hW (aD.a3s n) hP
theorem aD.uQ:aD l 0 (cB kw andP rdP l):=aD.a3s hE hW hP _
theorem aD.types:aD l 0 (mM kw andP rdP l):=by unfold mM;exact aD.b0 (aD.skip hE rfl) fun b=>aD.ite (aD.b0 (aD.list hE rfl (fun a=>aD.b0 (aD.uQ hE hW hP) fun _=>aD.aO _) _) fun _=>aD.b0 (aD.exp hE _ 0 rfl) fun _=>aD.aO _) (aD.aO _)
section
variable {ex:Nat→aR bW} (hx:∀k,aD l 0 (ex k))
include hx
theorem aD.eP:aD l 0 (eN l ex):=by unfold eN;exact aD.sF (aD.exp hE _ 1 rfl) (fun _=>aD.sF (aD.list hE rfl (fun a=>aD.b0 (hx 0) fun _=>aD.aO _) _) (fun _=>aD.sF (aD.exp hE _ (-1) rfl) (fun _=>aD.aO _) (c:= -1) rfl) (c:= -1) rfl) rfl
theorem aD.a6y (op:Int):aD l 0 (rV l ex op):=by unfold rV;exact aD.sF (aD.exp hE _ 1 rfl) (fun _=>aD.sF (hx 0) (fun _=>aD.sF (aD.exp hE _ (-1) rfl) (fun _=>aD.aO _) (c:= -1) rfl) (c:= -1) rfl) rfl
theorem aD.b9n:aD l 0 (sY kw andP rdP l ex):=by unfold sY;exact aD.b0 (aD.word hE hW) fun _=>aD.b0 (aD.skip hE rfl) fun b=>aD.b0 (aD.ite (aD.b0 (aD.uQ hE hW hP) fun _=>aD.aO _) (aD.aO _)) fun _=>aD.b0 (aD.exp hE _ 0 rfl) fun _=>aD.b0 (hx 0) fun _=>aD.b0 (aD.exp hE _ 0 rfl) fun _=>aD.b0 (hx 0) fun _=>aD.aO _
theorem aD.a4r:aD l 0 (mN kw l ex):=by
 unfold mN;refine aD.b0 (hx 0) fun _=>aD.b0 (aD.exp hE _ 0 rfl) fun _=>aD.b0 (aD.list hE rfl (fun a=>?_) _) fun _=>aD.b0 (aD.exp hE _ 0 rfl) fun _=>aD.aO _
 refine aD.b0 (aD.title hE hW) fun _=>aD.b0 (fun i b j hi h=>?_) fun _=>aD.b0 (aD.exp hE _ 0 rfl) fun _=>aD.b0 (hx 0) fun _=>aD.aO _
 split at h
 ·exact aD.words hE hW i b j hi h
 ·cases h;exact ⟨d8T _,hi,jZ _⟩
theorem aD.b9o:aD l 0 (sZ kw andP rdP l ex):=by unfold sZ;refine aD.sF (aD.exp hE _ 1 rfl) (fun _=>aD.sF (aD.list hE rfl (fun a=>?_) _) (fun _=>aD.sF (aD.exp hE _ (-1) rfl) (fun _=>aD.b0 (hx 0) fun _=>aD.aO _) (c:= -1) rfl) (c:= -1) rfl) rfl;exact aD.b0 (aD.word hE hW) fun _=>aD.b0 (aD.skip hE rfl) fun b=>aD.b0 (aD.ite (aD.uQ hE hW hP) (aD.aO _)) fun _=>aD.aO _
theorem aD.wH:aD l 0 (dI kw andP rdP l ex):=by
 unfold dI;refine aD.sF (c2:= -1) (aD.exp hE _ 1 rfl) (fun _=>fun i a j hi h=>?_) rfl;simp only at h;split at h
 ·rename_i hc;simp only [d8D,decide_eq_true_eq] at hc;have n1:=aF hE hi hc.1.1;have n2:=kF hE n1 (by omega);have n3:=kF hE n2 (rW hE hc.2);cases h;refine ⟨by omega,n3,?_⟩;rw [gO (by omega),gO (by omega),kX,uH hi hc.1.1,a4P hW n1 (by omega),uH n2 hc.2]
  rfl
 ·refine (aD.sF (hx 0) (fun e=>aD.sF (aD.skip hE rfl) (fun b=>aD.sF (aD.ite (aD.b0 (aD.uQ hE hW hP) fun _=>aD.aO _) (aD.aO _)) (fun _=>aD.sF (aD.exp hE _ (-1) rfl) (fun _=>aD.aO _) (c:= -1) rfl) (c:= -1) rfl) (c:= -1) rfl) rfl:aD l (-1) _) i a j hi h
theorem aD.a9H:aD l 0 (mV kw andP rdP l ex):=fun i a j hi h=>by
 have nx:∀ {s:Nm},a6f s=0→aJ l i s=true→i≤i+1∧i+1<l.length∧par l i (i+1)=0:=fun hs h1=>⟨by omega,aF hE hi h1,by rw [kX,uH hi h1,hs]⟩
 have nx2:∀ {s:Nm} {x:aR bW},a6f s=0→aJ l i s=true→aD l 0 x→x (i+1)= .ok a j→i≤j∧j<l.length∧par l i j=0:=fun hs h1 hx h=>hx.nxt hi (aF hE hi h1) h (uH hi h1) (by rw [hs];rfl)
 unfold mV at h;split at h
 ·rename_i h1;have hn:=kF hE hi (by omega);cases h;exact ⟨by omega,hn,by rw [kX,a4P hW hi (by omega)]⟩
 split at h
 ·rename_i h1;cases h;exact nx rfl h1
 split at h
 ·rename_i h1;cases h;exact nx rfl h1
 split at h
 ·rename_i h1;exact nx2 rfl h1 (aD.a6y hE hW hP hx 22) h
 split at h
 ·rename_i h1;exact nx2 rfl h1 (aD.a6y hE hW hP hx 23) h
 split at h
 ·rename_i h1;exact nx2 rfl h1 (aD.sF (aD.exp hE _ 1 rfl) (fun _=>aD.sF (hx 0) (fun _=>aD.sF (aD.exp hE _ 0 rfl) (fun _=>aD.sF (hx 0) (fun _=>aD.sF (aD.exp hE _ (-1) rfl) (fun _=>aD.aO _) (c:= -1) rfl) (c:= -1) rfl) (c:= -1) rfl) (c:= -1) rfl) rfl) h
 split at h
 ·rename_i h1;have hn:=a0e hE hi h1;have d1:yA l i=0:=a4P hW hi (by unfold jJ at h1;simp only [d8D,decide_eq_true_eq] at h1;omega);split at h
  ·cases h;exact ⟨by omega,hn,by rw [kX,d1]⟩
  ·exact (aD.b0 (aD.types hE hW hP) fun _=>aD.b0 (aD.eP hE hW hP hx) fun _=>aD.aO _:aD l 0 _).nxt hi hn h d1 rfl
 split at h
 ·rename_i h1;have hn:=wS hE hi h1;have d1:yA l i=0:=a4P hW hi (by unfold kT at h1;simp only [decide_eq_true_eq] at h1;omega);refine (aD.b0 (aD.types hE hW hP) fun _=>aD.b0 (fun i b j hi h=>?_) fun _=>aD.aO _:aD l 0 _).nxt hi hn h d1 rfl;split at h
  ·exact aD.eP hE hW hP hx i b j hi h
  ·cases h;exact ⟨d8T _,hi,jZ _⟩
 ·exact aD.wH hE hW hP hx i a j hi h
theorem aD.unG:aD l 0 (mA kw andP rdP l ex):=fun i a j hi h=>by
 unfold mA at h;split at h
 ·rename_i h1;exact (aD.b0 (hx 7) fun _=>aD.aO _:aD l 0 _).nxt hi (aF hE hi h1) h (uH hi h1) rfl
 ·exact aD.a9H hE hW hP hx i a j hi h
omit hW hP hx in
theorem aD.chain {ops:List (Nm×Int)}{one:aR bW}(ho:∀p∈ops,a6f p.1=0)(h0:aD l 0 one):∀(g:Nat) (e:bW),aD l 0 (cN l ops one g e)
 |0,e=>fun i a j hi h=>by unfold cN at h;cases h
 |g+1,e=>fun i a j hi h=>by
  unfold cN at h;split at h
  ·cases h;exact ⟨d8T _,hi,jZ _⟩
  ·rename_i p hp;have hs:aJ l i p.1=true:=by simpa using List.find?_some hp
   split at h
   ·cases h
   ·rename_i x k hk;obtain ⟨q1,q2,q3⟩:=h0.nxt hi (aF hE hi hs) hk (uH hi hs) (c2:=0) (by rw [ho p (List.mem_of_find?_eq_some hp)];rfl);obtain ⟨r1,r2,r3⟩:=aD.chain ho h0 g _ k a j q2 h;exact ⟨by omega,r2,by rw [rC q1 r1,q3,r3];rfl⟩
omit hW hP hx in
theorem aD.lvl {ops:List (Nm×Int)}{one:aR bW}(ho:∀p∈ops,a6f p.1=0)(h0:aD l 0 one):aD l 0 (pR l ops one):=by unfold pR;exact aD.b0 h0 fun e=>aD.chain hE ho h0 _ e
theorem aD.a1w:aD l 0 (bX kw andP rdP l ex):=aD.lvl hE (by decide) (aD.lvl hE (by decide) (aD.unG hE hW hP hx))
theorem aD.yC:aD l 0 (kU kw andP rdP l ex):=by
 unfold kU;have hs:aD l 0 (bX kw andP rdP l ex):=aD.a1w hE hW hP hx;refine aD.b0 hs fun e=>fun i a j hi h=>?_
 have one:∀(f:bW→bW) (w:Nm),a6f w=0→aJ l i w=true→(bX kw andP rdP l ex >>=fun x=>pure (f x)) (i+1)= .ok a j→i≤j∧j<l.length∧par l i j=0:=fun f w w0 hw h=>(aD.b0 hs fun _=>aD.aO _:aD l 0 _).nxt hi (aF hE hi hw) h (uH hi hw) (by rw [w0];rfl)
 split at h
 ·rename_i hw;exact one _ _ rfl hw h
 split at h
 ·rename_i hw;exact one _ _ rfl hw h
 split at h
 ·rename_i hw;exact one _ _ rfl hw h
 split at h
 ·rename_i hw;exact one _ _ rfl hw h
 split at h
 ·rename_i hw;exact one _ _ rfl hw h
 split at h
 ·rename_i hw;exact one _ _ rfl hw h
 cases h;exact ⟨d8T _,hi,jZ _⟩
theorem aD.a0L:aD l 0 (mP kw andP rdP l ex):=fun i a j hi h=>by
 unfold mP at h;split at h
 ·rename_i h1;exact (aD.b0 (hx 3) fun _=>aD.aO _:aD l 0 _).nxt hi (aF hE hi h1) h (uH hi h1) rfl
 ·exact aD.yC hE hW hP hx i a j hi h
theorem aD.orG:aD l 0 (xO kw andP rdP l ex):=aD.lvl hE (by decide) (aD.lvl hE (by decide) (aD.a0L hE hW hP hx))
theorem aD.exG:aD l 0 (sH kw andP rdP l ex):=fun i a j hi h=>by
 have nx2:∀ {s:Nm} {x:aR bW},a6f s=0→aJ l i s=true→aD l 0 x→x (i+1)= .ok a j→i≤j∧j<l.length∧par l i j=0:=fun hs h1 hx h=>hx.nxt hi (aF hE hi h1) h (uH hi h1) (by rw [hs];rfl)
 unfold sH at h;split at h
 ·rename_i h1;exact nx2 rfl h1 (aD.b9n hE hW hP hx) h
 split at h
 ·rename_i h1;exact nx2 rfl h1 (aD.b0 (hx 0) fun _=>aD.b0 (aD.exp hE _ 0 rfl) fun _=>aD.b0 (hx 0) fun _=>aD.b0 (aD.exp hE _ 0 rfl) fun _=>aD.b0 (hx 0) fun _=>aD.aO _) h
 split at h
 ·rename_i h1;exact nx2 rfl h1 (aD.a4r hE hW hP hx) h
 split at h
 ·rename_i h1;exact nx2 rfl h1 (aD.b9o hE hW hP hx) h
 split at h
 ·rename_i h1;exact nx2 rfl h1 (aD.b0 (aD.word hE hW) fun _=>aD.b0 (aD.eP hE hW hP hx) fun _=>aD.b0 (aD.exp hE _ 0 rfl) fun _=>aD.b0 (hx 0) fun _=>aD.aO _) h
 ·exact aD.orG hE hW hP hx i a j hi h
end
theorem aD.exF:∀n k,aD l 0 (jG kw andP rdP l n k)
 |0,k=>fun i a j hi h=>by unfold jG at h;cases h
 |n+1,k=>by
  have hx:=aD.exF n;unfold jG;split
  ·exact aD.unG hE hW hP hx
  ·split
   ·exact aD.a0L hE hW hP hx
   ·exact aD.exG hE hW hP hx
end
end
end
end Go.Proofs.YtjpodcmhcenjjaaGreatDoor
