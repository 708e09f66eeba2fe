/- Lemmas that the law of this claim needs (PsX PsY ZR ZS ZT ZW PrO PsZ PtA PrP PtB VmRP VmRQ PtC PtD PtE PtF VmRF PtG PtH PrM PrN PtI PrQ PtJ VmRH PvA PvD PvE PqA PqB PuA PuD PuG PvF). No condition. -/
import Derived.Test.YtjpodcmhcenjjaaGreatDoorOpd
import Derived.Defers
import Derived.Recover
import Derived.Tactics2
import Derived.Laws.Pointers
import Derived.OrdersHeld
set_option linter.unusedVariables false
set_option linter.unusedSimpArgs false
set_option linter.unusedSectionVars false
set_option maxRecDepth 100000
set_option maxHeartbeats 64000000
namespace Go.Proofs.YtjpodcmhcenjjaaGreatDoor
section
open Go Go.VM
variable {G:GT}
theorem a3U:VM.Enters Tryz.prog 42:=VM.Enters.mk Tryz.func42 rfl
section
variable {rdP:List Tok→Nat→Nat→kY Pr} {l:List Tok} (hV:kQ G rdP l) (hN:∀i, -9223372036854775807≤(aJ l i).n∧(aJ l i).n≤9223372036854775807)
include hV hN
def uM (m:kL):List (Nat×aY):=[(100001,.cells [.d (.sl (m.a8H.map a8O)),.d (.sl (m.a4C.map b5K)),.d (.sl (m.insts.map b9D)),.d (.sl (m.a8I.map b5L)),.d (.sl (m.b5H.map b9E)),.d (.sl (m.defs.map b3g))])]
abbrev d3r:List (TypeId×List VM.Loc):=[(78,[.c 100001 0]),(111,[.c 100001 1]),(114,[.c 100001 2]),(82,[.c 100001 3]),(118,[.c 100001 4]),(70,[.c 100001 5])]
abbrev d5k (d:a8D):List D:=[.str d.name,.sl (strs d.vars),.sl (d.a4A.map kU),.sl (d.cons.map b1M)]
abbrev d5l (d:a4B):List D:=[.str d.name,.str d.var,.sl (d.methods.map a1z)]
omit hN in
theorem a7x (i:Nat)(hi:i<l.length):pF G 79 [] l i (a0h aX bE rdP l i) (fun d=> .d (.agg (d5k d))):=a9M hV i hi
omit hN in
theorem b3Y (i:Nat)(hi:i<l.length):pF G 80 [] l i (vP aX bE rdP l i) (fun d=> .d (.agg (d5l d))):=b6z hV i hi
structure c4I (m:kL) (i:Nat):Prop where
 a:m.a8H.length≤i
 b:m.a4C.length≤i
 c:m.insts.length≤i
 d:m.a8I.length≤i
 e:m.b5H.length≤i
 f:m.defs.length≤i
theorem b8G (m:kL)(i:Nat)(hi:i<l.length)(hm:c4I m i):kF G 42 [.ptr 100000 0,.ptr 100001 0] (uM m) d3r l i (tE aX bE rdP l m i) (fun _=> .cM []) uM:=by
 have hl:=hV.len;obtain ⟨j0,rfl⟩:∃j0,j0=i:=⟨_,rfl⟩;have p0:j0≤j0∧j0<l.length:=⟨d7m _,hi⟩;obtain ⟨m1,m2,m3,m4,m5,m6⟩:=hm;obtain ⟨da,cl,ins,me,qu,de⟩:=m;simp only at m1 m2 m3 m4 m5 m6;have eq1:∀d:a8D,a8O d=[.str d.name,.sl (strs d.vars),.sl (d.a4A.map kU),.sl (d.cons.map b1M)]:=fun d=>rfl
 have eq2:∀d:a4B,b5K d=[.str d.name,.str d.var,.sl (d.methods.map a1z)]:=fun d=>rfl
 have eq3:=c4D;have eq4:=c4F;have eq5:=c4G;have eq6:=a5d;refine kF.cV Tryz.func42 rfl Tryz.ntmps42 rfl (by simp) ?_
 intro Q Q0;unfold tE at Q0;simp [uM];cases s1:aI l j0 [100,97,116,97] with
 |true=>
  have Q1:=Q0.ifp s1;refine bG (ds:=[.str [100,97,116,97]]) (d:= .d (.bool true)) aD (aU l j0 [100,97,116,97] p0.2 (by omega) s1) (by simp) (by simp) ?_
  have p1:j0+1≤j0+1∧j0+1<l.length:=⟨d7m _,aF hV.fin p0.2 s1⟩;obtain ⟨j1,hj1⟩:∃j,j0+1=j:=⟨_,rfl⟩;rw [hj1] at Q1 p1 ⊢;simp;refine jY [0,1,2,3,5] 6 [] (.op 4 (.call [7,8,9,10,11] .none) (.call [4,7,8,9,10,11] .none)) (gK (a0h aX bE rdP l j1)) (by kernel_rfl) (by kernel_rfl) ?_
  simp;refine ⟨?_,?_⟩
  all_goals
   refine sO a7t ((a7x hV j1 p1.2)) (by simp) (by simp) (fun x j2 x2=>?_) (fun n e hx=>by first|exact Q1.fail hx _|(simp;exact Q1.fail hx _)|(simp;exact fun s=>Q1.fail hx s));have Q2:=Q1.step x2;have p2:=(aA.data hV.fin hV.pJ.pred) j1 x j2 p1.2 x2;refine dA.mk ?_
   simp;refine eL (by first|omega|exact ⟨fun x _=>by rw [eq1];rfl,by omega⟩|exact ⟨fun x _=>rfl,by omega⟩) ?_
   simp;exact Q2.ok _ j2 .normal _ rfl (.inl rfl) (by simp [uM,eq1])
 |false=>
 have Q0:=Q0.xF (by rw [s1];decide);refine bG (ds:=[.str [100,97,116,97]]) (d:= .d (.bool false)) aD (aV l j0 [100,97,116,97] p0.2 (by omega) s1) (by simp) (by simp) ?_
 simp;cases s2:aI l j0 [99,108,97,115,115] with
 |true=>
  have Q1:=Q0.ifp s2;refine bG (ds:=[.str [99,108,97,115,115]]) (d:= .d (.bool true)) aD (aU l j0 [99,108,97,115,115] p0.2 (by omega) s2) (by simp) (by simp) ?_
  have p1:j0+1≤j0+1∧j0+1<l.length:=⟨d7m _,aF hV.fin p0.2 s2⟩;obtain ⟨j1,hj1⟩:∃j,j0+1=j:=⟨_,rfl⟩;rw [hj1] at Q1 p1 ⊢;simp;refine jY [0,1,2,3,5] 6 [] (.op 4 (.call [7,8,9,10,11] .none) (.call [4,7,8,9,10,11] .none)) (gK (vP aX bE rdP l j1)) (by kernel_rfl) (by kernel_rfl) ?_
  simp;refine ⟨?_,?_⟩
  all_goals
   refine sO b3X ((b3Y hV j1 p1.2)) (by simp) (by simp) (fun x j2 x2=>?_) (fun n e hx=>by first|exact Q1.fail hx _|(simp;exact Q1.fail hx _)|(simp;exact fun s=>Q1.fail hx s));have Q2:=Q1.step x2;have p2:=(aA.cls hV.fin hV.pJ.pred) j1 x j2 p1.2 x2;refine dA.mk ?_
   simp;refine eL (by first|omega|exact ⟨fun x _=>by rw [eq2];rfl,by omega⟩|exact ⟨fun x _=>rfl,by omega⟩) ?_
   simp;exact Q2.ok _ j2 .normal _ rfl (.inl rfl) (by simp [uM,eq2])
 |false=>
 have Q0:=Q0.xF (by rw [s2];decide);refine bG (ds:=[.str [99,108,97,115,115]]) (d:= .d (.bool false)) aD (aV l j0 [99,108,97,115,115] p0.2 (by omega) s2) (by simp) (by simp) ?_
 simp;cases s3:aI l j0 [105,110,115,116] with
 |true=>
  have Q1:=Q0.ifp s3;refine bG (ds:=[.str [105,110,115,116]]) (d:= .d (.bool true)) aD (aU l j0 [105,110,115,116] p0.2 (by omega) s3) (by simp) (by simp) ?_
  have p1:j0+1≤j0+1∧j0+1<l.length:=⟨d7m _,aF hV.fin p0.2 s3⟩;obtain ⟨j1,hj1⟩:∃j,j0+1=j:=⟨_,rfl⟩;rw [hj1] at Q1 p1 ⊢;simp;refine jY [0,1,2,3,5] 6 [] (.op 4 (.call [7,8,9,10,11] .none) (.call [4,7,8,9,10,11] .none)) (gK (a1v aX bE rdP l j1)) (by kernel_rfl) (by kernel_rfl) ?_
  simp;refine ⟨?_,?_⟩
  all_goals
   refine sO a7w ((a9Q hV hN j1 p1.2)) (by simp) (by simp) (fun x j2 x2=>?_) (fun n e hx=>by first|exact Q1.fail hx _|(simp;exact Q1.fail hx _)|(simp;exact fun s=>Q1.fail hx s));have Q2:=Q1.step x2;have p2:=(aA.inst hV.fin hV.pJ) j1 x j2 p1.2 x2;refine dA.mk ?_
   simp;refine eL (by first|omega|exact ⟨fun x _=>by rw [eq3];rfl,by omega⟩|exact ⟨fun x _=>rfl,by omega⟩) ?_
   simp;exact Q2.ok _ j2 .normal _ rfl (.inl rfl) (by simp [uM,eq3])
 |false=>
 have Q0:=Q0.xF (by rw [s3];decide);refine bG (ds:=[.str [105,110,115,116]]) (d:= .d (.bool false)) aD (aV l j0 [105,110,115,116] p0.2 (by omega) s3) (by simp) (by simp) ?_
 simp;cases s4:aI l j0 [109,101,97,115,117,114,101] with
 |true=>
  have Q1:=Q0.ifp s4;refine bG (ds:=[.str [109,101,97,115,117,114,101]]) (d:= .d (.bool true)) aD (aU l j0 [109,101,97,115,117,114,101] p0.2 (by omega) s4) (by simp) (by simp) ?_
  have p1:j0+1≤j0+1∧j0+1<l.length:=⟨d7m _,aF hV.fin p0.2 s4⟩;obtain ⟨j1,hj1⟩:∃j,j0+1=j:=⟨_,rfl⟩;rw [hj1] at Q1 p1 ⊢;simp;refine jY [0,1,2,3,5] 6 [] (.op 4 (.call [7,8,9,10,11] .none) (.call [4,7,8,9,10,11] .none)) (gK (a1w aX rdP l j1)) (by kernel_rfl) (by kernel_rfl) ?_
  simp;refine ⟨?_,?_⟩
  all_goals
   refine sO a9R ((b1d hV j1 p1.2)) (by simp) (by simp) (fun x j2 x2=>?_) (fun n e hx=>by first|exact Q1.fail hx _|(simp;exact Q1.fail hx _)|(simp;exact fun s=>Q1.fail hx s));have Q2:=Q1.step x2;have p2:=(aA.c3J hV.fin hV.pJ.pred) j1 x j2 p1.2 x2;refine dA.mk ?_
   simp;refine eL (by first|omega|exact ⟨fun x _=>by rw [eq4];rfl,by omega⟩|exact ⟨fun x _=>rfl,by omega⟩) ?_
   simp;exact Q2.ok _ j2 .normal _ rfl (.inl rfl) (by simp [uM,eq4])
 |false=>
 have Q0:=Q0.xF (by rw [s4];decide);refine bG (ds:=[.str [109,101,97,115,117,114,101]]) (d:= .d (.bool false)) aD (aV l j0 [109,101,97,115,117,114,101] p0.2 (by omega) s4) (by simp) (by simp) ?_
 simp;cases s5:aI l j0 [113,117,97,108] with
 |true=>
  have Q1:=Q0.ifp s5;refine bG (ds:=[.str [113,117,97,108]]) (d:= .d (.bool true)) aD (aU l j0 [113,117,97,108] p0.2 (by omega) s5) (by simp) (by simp) ?_
  have p1:j0+1≤j0+1∧j0+1<l.length:=⟨d7m _,aF hV.fin p0.2 s5⟩;obtain ⟨j1,hj1⟩:∃j,j0+1=j:=⟨_,rfl⟩;rw [hj1] at Q1 p1 ⊢;simp;refine jY [0,1,2,3,5] 6 [] (.op 4 (.call [7,8,9,10,11] .none) (.call [4,7,8,9,10,11] .none)) (gK (a1x aX rdP l j1)) (by kernel_rfl) (by kernel_rfl) ?_
  simp;refine ⟨?_,?_⟩
  all_goals
   refine sO b6A ((b8F hV j1 p1.2)) (by simp) (by simp) (fun x j2 x2=>?_) (fun n e hx=>by first|exact Q1.fail hx _|(simp;exact Q1.fail hx _)|(simp;exact fun s=>Q1.fail hx s));have Q2:=Q1.step x2;have p2:=(aA.c3K hV.fin hV.pJ.pred) j1 x j2 p1.2 x2;refine dA.mk ?_
   simp;refine eL (by first|omega|exact ⟨fun x _=>by rw [eq5];rfl,by omega⟩|exact ⟨fun x _=>rfl,by omega⟩) ?_
   simp;exact Q2.ok _ j2 .normal _ rfl (.inl rfl) (by simp [uM,eq5])
 |false=>
 have Q0:=Q0.xF (by rw [s5];decide);refine bG (ds:=[.str [113,117,97,108]]) (d:= .d (.bool false)) aD (aV l j0 [113,117,97,108] p0.2 (by omega) s5) (by simp) (by simp) ?_
 simp;refine cF a0u ((a2y hV hN j0 p0.2)) (by simp) (by simp) (fun d j1 x1=>?_) (fun n e hx=>by first|exact Q0.fail hx _|(simp;exact Q0.fail hx _)|(simp;exact fun s=>Q0.fail hx s));have Q1:=Q0.step x1;have p1:=a2z hV j0 d j1 p0.2 x1;cases d with
 |none=>
  simp;refine cF (ds:=[]) rU (tI (α:=kL) l j1 p1.2 (by omega) fun _=> .cM []) (by simp) (by simp) (fun a j hx=>by unfold cQ at hx;cases hx) (fun n e hx=>?_)
  first|exact Q1.bad n e _ hx|(simp;exact Q1.bad n e _ hx)
 |some d=>
  simp;refine SW.vk ?_
  simp;refine ⟨mA.mk (by kernel_rfl),?_⟩;refine eL (by first|omega|exact ⟨fun x _=>by rw [eq6];rfl,by omega⟩) ?_
  simp;exact Q1.ok _ j1 .normal _ rfl (.inl rfl) (by simp [uM,eq6,a7u,b3S])
end
end
section
open Go Go.VM
variable {G:GT}
theorem a5Y:VM.Enters Tryz.prog 33:=VM.Enters.mk Tryz.func33 rfl
theorem a5Z:VM.Enters Tryz.prog 38:=VM.Enters.mk Tryz.func38 rfl
theorem a3V:VM.Enters Tryz.prog 40:=VM.Enters.mk Tryz.func40 rfl
theorem a7y:VM.Enters Tryz.prog 57:=VM.Enters.mk Tryz.func57 rfl
section
variable {rdP:List Tok→Nat→Nat→kY Pr} {l:List Tok} (hV:kQ G rdP l) (hN:∀i, -9223372036854775807≤(aJ l i).n∧(aJ l i).n≤9223372036854775807)
include hV
def exX (e:bY):List (Nat×aY):=[(100001,.cells ((rM e).map .d))]
def tyX (t:Ty):List (Nat×aY):=[(100001,.cells ((tyD t).map .d))]
def deX (d:kK):List (Nat×aY):=[(100001,.cells ((a7u d).map .d))]
theorem b6B (t0:Ty)(i:Nat)(hi:i<l.length):kF G 38 [.ptr 100000 0,.ptr 100001 0] (tyX t0) [] l i (cK aX bE rdP l i) (fun _=> .cM []) tyX:=by
 have hl:=hV.len;refine kF.cV Tryz.func38 rfl Tryz.ntmps38 rfl (by simp) ?_
 intro Q Q0;simp [tyX];refine cF (ds:=[]) cN (kN hV i hi) (by simp) (by simp) (fun t j h=>?_) (fun n e h=>Q0.bad n e _ h);simp;exact Q0.ok t j _ _ h (.inl rfl) (by simp [tyX])
include hN
theorem b6C (e0:bY)(i:Nat)(hi:i<l.length):kF G 33 [.ptr 100000 0,.ptr 100001 0] (exX e0) [] l i (a1u aX bE rdP l i) (fun _=> .cM []) exX:=by
 have hl:=hV.len;refine kF.cV Tryz.func33 rfl Tryz.ntmps33 rfl (by simp) ?_
 intro Q Q0;simp [exX];refine cF (ds:=[]) bZ (yF hV hN i hi) (by simp) (by simp) (fun t j h=>?_) (fun n e h=>Q0.bad n e _ h);simp;exact Q0.ok t j _ _ h (.inl rfl) (by simp [exX])
abbrev yS (rdP:List Tok→Nat→Nat→kY Pr)(l:List Tok):aS kK:=do
 let d ← wV aX bE rdP l
 match d with
 |none=>cQ l
 |some d=>do
  let _ ← cR l [59]
  pure d
theorem b8H (d0:kK)(i:Nat)(hi:i<l.length):kF G 57 [.ptr 100000 0,.ptr 100001 0] (deX d0) [] l i (yS rdP l i) (fun _=> .cM []) deX:=by
 have hl:=hV.len;obtain ⟨j0,rfl⟩:∃j0,j0=i:=⟨_,rfl⟩;have p0:j0≤j0∧j0<l.length:=⟨d7m _,hi⟩;refine kF.cV Tryz.func57 rfl Tryz.ntmps57 rfl (by simp) ?_
 intro Q Q0;simp [deX];refine cF a0u ((a2y hV hN j0 p0.2)) (by simp) (by simp) (fun d j1 x1=>?_) (fun n e hx=>by first|exact Q0.fail hx _|(simp;exact Q0.fail hx _)|(simp;exact fun s=>Q0.fail hx s));have Q1:=Q0.step x1;have p1:=a2z hV j0 d j1 p0.2 x1;cases d with
 |none=>
  simp;refine cF (ds:=[]) rU (tI (α:=kK) l j1 p1.2 (by omega) fun _=> .cM []) (by simp) (by simp) (fun a j hx=>by unfold cQ at hx;cases hx) (fun n e hx=>?_)
  first|exact Q1.bad n e _ hx|(simp;exact Q1.bad n e _ hx)
 |some d=>
  simp;cases hs:aI l j1 [59] with
  |true=>
   have Q2:=Q1.step (hM hs);refine bG (ds:=[.str [59]]) (d:= .d (.bool true)) aD (aU l j1 [59] p1.2 (by omega) hs) (by simp) (by simp) ?_
   have p2:j1+1≤j1+1∧j1+1<l.length:=⟨d7m _,aF hV.fin p1.2 hs⟩;simp;exact Q2.ok _ (j1+1) _ _ rfl (.inl rfl) (by simp [deX,a7u,b3S])
  |false=>
   have Q2:=Q1.step (hU hs);refine bG (ds:=[.str [59]]) (d:= .d (.bool false)) aD (aV l j1 [59] p1.2 (by omega) hs) (by simp) (by simp) ?_
   simp;exact Q2.ok _ j1 _ _ rfl (.inl rfl) (by simp [deX,a7u,b3S])
abbrev moM (rdP:List Tok→Nat→Nat→kY Pr)(l:List Tok)(m:kL):aS kL:=do
 let m ← tE aX bE rdP l m
 aL l [[59]]
 pure m
omit hN in
theorem a9V (m:kL):aA l 1 (tE aX bE rdP l m):=aA.decl hV.fin hV.pJ m
omit hN in
theorem b6D (m:kL)(i:Nat)(m2:kL)(j:Nat)(hi:i<l.length)(hm:c4I m i)(h:tE aX bE rdP l m i= .ok m2 j):c4I m2 j:=by
 have ha:=a9V hV m i m2 j hi h;obtain ⟨m1,m2,m3,m4,m5,m6⟩:=hm;unfold tE at h;split at h
 ·obtain ⟨x,k,_,h⟩:=bW h;cases h;constructor<;>simp<;>omega
 split at h
 ·obtain ⟨x,k,_,h⟩:=bW h;cases h;constructor<;>simp<;>omega
 split at h
 ·obtain ⟨x,k,_,h⟩:=bW h;cases h;constructor<;>simp<;>omega
 split at h
 ·obtain ⟨x,k,_,h⟩:=bW h;cases h;constructor<;>simp<;>omega
 split at h
 ·obtain ⟨x,k,_,h⟩:=bW h;cases h;constructor<;>simp<;>omega
 ·obtain ⟨x,k,_,h⟩:=bW h;cases x with
  |none=>unfold cQ at h;cases h
  |some d=>cases h;constructor<;>simp<;>omega
theorem b1e (i:Nat)(hi:i<l.length):kF G 40 [.ptr 100000 0,.ptr 100001 0] (uM ⟨[],[],[],[],[],[]⟩) d3r l i (a8L aX bE rdP l i) (fun _=> .cM []) uM:=by
 have hl:=hV.len;obtain ⟨j0,rfl⟩:∃j0,j0=i:=⟨_,rfl⟩;have p0:j0≤j0∧j0<l.length:=⟨d7m _,hi⟩;refine kF.cV Tryz.func40 rfl Tryz.ntmps40 rfl (by simp) ?_
 intro Q Q0;simp [uM];refine SW.vG (ι:={ x:kL×Nat×Nat // j0≤x.2.1∧x.2.1<l.length∧l.length<x.2.2+x.2.1∧c4I x.1 x.2.1∧dK (fun i=> !decide ((aJ l i).kind=0)) (moM rdP l) x.2.2 x.1 x.2.1=a8L aX bE rdP l j0 }) (fun _=>[]) (fun x=>rH l x.1.2.1++uM x.1.1) (fun _=>d3r) (fun x=>l.length-x.1.2.1) ⟨(⟨[],[],[],[],[],[]⟩,j0,l.length+2),d7m _,p0.2,by simp only;omega,⟨Nat.zero_le _,Nat.zero_le _,Nat.zero_le _,Nat.zero_le _,Nat.zero_le _,Nat.zero_le _⟩,rfl⟩ (by simp [uM]) ?_
 rintro ⟨⟨m,j1,g⟩,hb,hj1,hg,hm,hp⟩;simp only at hb hj1 hg hm hp;obtain ⟨g,rfl⟩:∃k,g=k+1:=⟨g-1,by omega⟩;have p1:j0≤j1∧j1<l.length:=⟨hb,hj1⟩;have ht:=cI (G:=G) l j1 j1 0 (by omega) (by omega) (by intro e;subst e;simp at hi) (by omega);simp [uM];refine bG (i:=j1) (ds:=[.int .i64 0]) bP ht (by simp) (by simp) ?_
 by_cases hk:(aJ l j1).kind=0
 ·have hc:(fun i=> !decide ((aJ l i).kind=0)) j1=false:=by simp [hk]
  rw [tK hV hc] at hp;simp [cJ,hk];exact Q0.ok m j1 _ _ hp.symm (.inl rfl) (by simp [uM])
 ·have hc:(fun i=> !decide ((aJ l i).kind=0)) j1=true:=by simp [hk]
  simp [cJ,hk];refine gW.mk (vR a3U (b8G hV hN m j1 hj1 hm) [(100000,100000),(100001,100001)] (fun a j hx=>?_) ?_ ?_ ?_ rfl rfl (fun m2 j2 x2=>?_) (fun n e hx=>by simp;exact Q0.bad _ _ _ (hp.symm.trans (oP hV hc (gT hx)))))
  ·simp [uM,aN,aW,aR,aQ,bA,getKey]
  ·simp [uM,aN,aW,aR,aQ,bA,getKey]
  ·simp [aT,bC,rk]
  ·simp [uM,aT,bC,rk,cL,cW]
  ·have p2:=a9V hV m j1 m2 j2 hj1 x2;have hm2:=b6D hV m j1 m2 j2 hj1 hm x2;simp [bB,uM,aT,bC,rk,cL,cW,bN,gM,eX,eA];refine cF (ds:=[.sl (strs [[59]])]) aE (aG l [[59]] j2 p2.2 (by omega) hV.fin (by simp)) (by simp [strs]) (by simp) (fun u j3 x3=>?_) (fun n e hx=>by simp;exact Q0.bad _ _ _ (hp.symm.trans (oP hV hc ((bF x2).trans (gT hx)))));have p3:=aA.exp hV.fin _ _ j2 u j3 p2.2 x3;have hm3:c4I m2 j3:=⟨by have:=hm2.a;omega,by have:=hm2.b;omega,by have:=hm2.c;omega,by have:=hm2.d;omega,by have:=hm2.e;omega,by have:=hm2.f;omega⟩;have h1:moM rdP l m j1= .ok m2 j3:=(bF x2).trans ((bF x3).trans rfl);rw [tJ hV hc h1] at hp;simp;exact bQ.mk ⟨(m2,j3,g),by simp only;omega,p3.2,by simp only;omega,hm3,hp⟩ (by simp [uM]) (by simp;omega)
end
end
end Go.Proofs.YtjpodcmhcenjjaaGreatDoor
section
section
namespace Go.Proofs.YtjpodcmhcenjjaaGreatDoor
def jC (l:List Tok)(i:Nat)(s:List UInt8):Bool:=match l[i]? with
 |some t=>decide (t.kind=4)&&decide (t.text=s)
 |none=>false
def kdB (l:List Tok)(i:Nat)(k:Int):Bool:=match l[i]? with
 |some t=>decide (t.kind=k)
 |none=>false
def wtB (l:List Tok)(i:Nat):Bool:=kdB l i 1||kdB l i 2
def txA (l:List Tok)(i:Nat):List UInt8:=((l[i]?).map (·.text)).getD []
def nmA (l:List Tok)(i:Nat):Int:=((l[i]?).map (·.n)).getD 0
def tw (op:Int)(a b:Pr):Pr:=⟨op,[],0,[a,b]⟩
def mQ (l:List Tok):Nat→Nat→List UInt8→List UInt8×Nat
 |0,i,s=>(s,i)
 |f+1,i,s=>
  if jC l i [46]=true then
   if wtB l (i+1)=true then mQ l f (i+2) (s++[46]++txA l (i+1))
   else if kdB l (i+1) 3=true then
    if wtB l (i+2)=true then mQ l f (i+3) (s++[46]++txA l (i+1)++txA l (i+2)) else mQ l f (i+2) (s++[46]++txA l (i+1))
   else (s,i)
  else (s,i)
def opL:Nat→List (Int×List UInt8)
 |1=>[(18,[60,61,62])]
 |3=>[(16,[124,124])]
 |4=>[(15,[38,38])]
 |7=>[(6,[43]),(7,[45])]
 |8=>[(8,[42])]
 |_=>[]
def a1W (l:List Tok)(n k:Nat):Option Int:=((opL k).find? fun p=>jC l n p.2).map (·.1)
def cmpL:List (List UInt8×Int×Bool):=[([61],10,false),([33,61],11,false),([60],12,false),([62],12,true),([60,61],13,false),([62,61],13,true)]
def uN (l:List Tok)(n:Nat):Option (Int×Bool):=(cmpL.find? fun p=>jC l n p.1).map (·.2)
section
variable (kw:List UInt8→Bool) (rd:Nat→Nat→Option (Pr×Nat)) (l:List Tok)
def a9W (i:Nat):Bool:=wtB l i&&(!kw (txA l i)||decide (txA l i=[118])||decide (txA l i=[116,97,103])||decide (txA l i=[118,97,108]))
def pY (i:Nat):Option (List UInt8×Nat):=if a9W kw l i=true then some (mQ l l.length (i+1) (txA l i)) else none
def dO (k:Nat):Nat→Pr→Nat→Pr×Nat
 |0,a,n=>(a,n)
 |g+1,a,n=>match a1W l n k with
  |none=>(a,n)
  |some op=>match rd (n+1) (k+1) with
   |none=>(a,n)
   |some (b,m)=>dO k g (tw op a b) m
def gJ:Nat→Nat→List Pr→Option (List Pr×Nat)
 |0,_,_=>none
 |g+1,i,acc=>match rd (i+1) 1 with
  |none=>none
  |some (p,n)=>if jC l n [41]=true then some (acc++[p],n+1) else if jC l n [44]=true then gJ g n (acc++[p]) else none
def pH (i:Nat):Option (List Pr×Nat):=if jC l i [40]=true then gJ rd l l.length i [] else none
def uO (i:Nat):Option (Pr×Nat):=match l[i]? with
 |none=>none
 |some t=>
  if t.kind=3 then some (⟨1,[],t.n,[]⟩,i+1)
  else if t.kind=1∧t.text=[116,114,117,101] then some (⟨2,[],1,[]⟩,i+1)
  else if t.kind=1∧t.text=[102,97,108,115,101] then some (⟨2,[],0,[]⟩,i+1)
  else if jC l i [63]=true then (match pY kw l (i+1) with
   |none=>none
   |some (s,n)=>(pH rd l n).map fun q=>(⟨5,s,0,q.1⟩,q.2))
  else if jC l i [40]=true then
   if jC l (i+1) [45]=true∧kdB l (i+2) 3=true∧jC l (i+3) [41]=true then some (⟨1,[],IntKind.i64.wrap (-nmA l (i+2)),[]⟩,i+4)
   else (match rd (i+1) 1 with
    |none=>none
    |some (p,n)=>if jC l n [41]=true then some (p,n+1) else none)
  else (match pY kw l i with
   |none=>none
   |some (s,n)=>(match pH rd l n with
    |some (ks,m)=>some (⟨4,s,0,ks⟩,m)
    |none=>some (⟨3,s,0,[]⟩,n)))
def a0i (i:Nat):Option (Pr×Nat):=match rd i 7 with
 |none=>none
 |some (a,n)=>(match uN l n with
  |none=>some (a,n)
  |some (op,ex)=>(match rd (n+1) 7 with
   |none=>some (a,n)
   |some (b,m)=>some (if ex=true then tw op b a else tw op a b,m)))
def a7A (i:Nat):Option (Pr×Nat):=match rd i 3 with
 |none=>none
 |some (a,n)=>if jC l n [61,62]=true then (match rd (n+1) 2 with
  |some (b,m)=>some (tw 17 a b,m)
  |none=>some (a,n)) else some (a,n)
def atG (i k:Nat):Option (Pr×Nat):=
 match k with
 |2=>a7A rd l i
 |5=>if jC l i [33]=true then (rd (i+1) 5).map fun q=>(⟨14,[],0,[q.1]⟩,q.2) else rd i 6
 |6=>a0i rd l i
 |9=>if jC l i [45]=true then (rd (i+1) 9).map fun q=>(⟨9,[],0,[q.1]⟩,q.2) else rd i 10
 |10=>uO kw rd l i
 |k=>(rd i (k+1)).map fun q=>dO rd l k l.length q.1 q.2
end
def mR (kw:List UInt8→Bool)(l:List Tok):Nat→Nat→Nat→Option (Pr×Nat)
 |0,_,_=>none
 |f+1,i,k=>atG kw (mR kw l f) l i k
theorem oX {l:List Tok}{i:Nat}{s:List UInt8}(h:jC l i s=true):i<l.length:=by
 unfold jC at h;split at h
 ·rename_i t ht;exact (d6X.1 ht).1
 ·cases h
theorem b8I {l:List Tok}{i:Nat}{k:Int}(h:kdB l i k=true):i<l.length:=by
 unfold kdB at h;split at h
 ·rename_i t ht;exact (d6X.1 ht).1
 ·cases h
theorem b8J {l:List Tok}{i:Nat}(h:wtB l i=true):i<l.length:=by unfold wtB at h;rw [d7i] at h;rcases h with h|h<;>exact b8I h
theorem a2A {l:List Tok}:∀(f i:Nat) (s:List UInt8),i≤l.length→i≤(mQ l f i s).2∧(mQ l f i s).2≤l.length
 |0,i,s,h=>⟨d7m _,h⟩
 |f+1,i,s,h=>by
  rw [mQ];split
  ·rename_i h1;have:=oX h1;split
   ·rename_i h2;have:=b8J h2;have:=a2A (l:=l) f (i+2) (s++[46]++txA l (i+1)) (by omega);omega
   ·split
    ·rename_i h3;have:=b8I h3;split
     ·rename_i h4;have:=b8J h4;have:=a2A (l:=l) f (i+3) (s++[46]++txA l (i+1)++txA l (i+2)) (by omega);omega
     ·have:=a2A (l:=l) f (i+2) (s++[46]++txA l (i+1)) (by omega);omega
    ·exact ⟨d7m _,h⟩
  ·exact ⟨d7m _,h⟩
theorem qZ {kw:List UInt8→Bool}{l:List Tok}{i n:Nat}{s:List UInt8}(h:pY kw l i=some (s,n)):i<n∧n≤l.length:=by
 unfold pY at h;split at h
 ·rename_i hb;unfold a9W at hb;rw [d6W] at hb;have h1:=b8J hb.1;have h2:=a2A (l:=l) l.length (i+1) (txA l i) (by omega);rw [d7c] at h;rw [h] at h2;simp only at h2;omega
 ·cases h
def Adv (l:List Tok)(rd:Nat→Nat→Option (Pr×Nat)):Prop:=∀i k p n,rd i k=some (p,n)→i<n∧n≤l.length
section
variable {kw:List UInt8→Bool} {rd rd':Nat→Nat→Option (Pr×Nat)} {l:List Tok}
theorem a2B (h:Adv l rd)(k:Nat):∀(g:Nat) (a:Pr) (n:Nat),n≤l.length→n≤(dO rd l k g a n).2∧(dO rd l k g a n).2≤l.length
 |0,a,n,hn=>⟨d7m _,hn⟩
 |g+1,a,n,hn=>by
  rw [dO];split
  ·exact ⟨d7m _,hn⟩
  ·split
   ·exact ⟨d7m _,hn⟩
   ·rename_i op _ _ b m hr;have h1:=h _ _ _ _ hr;have h2:=a2B h k g (tw op a b) m h1.2;omega
theorem a5g (h:Adv l rd):∀(g i:Nat) (acc ks:List Pr) (m:Nat),gJ rd l g i acc=some (ks,m)→i<m∧m≤l.length
 |0,_,_,_,_,hr=>by cases hr
 |g+1,i,acc,ks,m,hr=>by
  rw [gJ] at hr;split at hr
  ·cases hr
  ·rename_i p n hp;have h1:=h _ _ _ _ hp;split at hr
   ·rename_i hs;have:=oX hs;cases hr;omega
   ·split at hr
    ·have:=a5g h g n _ ks m hr;omega
    ·cases hr
theorem b6E (h:Adv l rd){i m:Nat}{ks:List Pr}(hr:pH rd l i=some (ks,m)):i<m∧m≤l.length:=by
 unfold pH at hr;split at hr
 ·exact a5g h _ _ _ _ _ hr
 ·cases hr
theorem c4J (h:Adv l rd){i n:Nat}{p:Pr}(hr:uO kw rd l i=some (p,n)):i<n∧n≤l.length:=by
 unfold uO at hr;split at hr
 ·cases hr
 ·rename_i t ht;have hil:=(d6X.1 ht).1;split at hr
  ·cases hr;omega
  split at hr
  ·cases hr;omega
  split at hr
  ·cases hr;omega
  split at hr
  ·split at hr
   ·cases hr
   ·rename_i s m hn;have h1:=qZ hn;rw [d6V] at hr;obtain ⟨⟨ks,q⟩,hq,he⟩:=hr;have h2:=b6E h hq;cases he;simp only at *;omega
  split at hr
  ·split at hr
   ·rename_i hc;have:=oX hc.2.2;cases hr;omega
   ·split at hr
    ·cases hr
    ·rename_i q m hq;have h1:=h _ _ _ _ hq;split at hr
     ·rename_i hs;have:=oX hs;cases hr;omega
     ·cases hr
  ·split at hr
   ·cases hr
   ·rename_i s m hn;have h1:=qZ hn;split at hr
    ·rename_i ks q hq;have h2:=b6E h hq;cases hr;omega
    ·cases hr;omega
theorem d3s (h:Adv l rd){i k n:Nat}{p:Pr}(hr:atG kw rd l i k=some (p,n)):i<n∧n≤l.length:=by
 unfold atG at hr;split at hr
 ·unfold a7A at hr;split at hr
  ·cases hr
  ·rename_i a m ha;have h1:=h _ _ _ _ ha;split at hr
   ·split at hr
    ·rename_i b q hb;have h2:=h _ _ _ _ hb;cases hr;omega
    ·cases hr;exact h1
   ·cases hr;exact h1
 ·split at hr
  ·rw [d6V] at hr;obtain ⟨⟨a,m⟩,ha,he⟩:=hr;have h1:=h _ _ _ _ ha;cases he;simp only;omega
  ·exact h _ _ _ _ hr
 ·unfold a0i at hr;split at hr
  ·cases hr
  ·rename_i a m ha;have h1:=h _ _ _ _ ha;split at hr
   ·cases hr;exact h1
   ·split at hr
    ·cases hr;exact h1
    ·rename_i b q hb;have h2:=h _ _ _ _ hb;cases hr;omega
 ·split at hr
  ·rw [d6V] at hr;obtain ⟨⟨a,m⟩,ha,he⟩:=hr;have h1:=h _ _ _ _ ha;cases he;simp only;omega
  ·exact h _ _ _ _ hr
 ·exact c4J h hr
 ·rw [d6V] at hr;obtain ⟨⟨a,m⟩,ha,he⟩:=hr;have h1:=h _ _ _ _ ha;have h2:=a2B (k:=k) h l.length a m h1.2;have h3:(dO rd l k l.length a m).2=n:=by rw [he]
  omega
end
theorem pI (kw:List UInt8→Bool)(l:List Tok):∀f,Adv l (mR kw l f)
 |0=>fun _ _ _ _ h=>by cases h
 |f+1=>fun _ _ _ _ h=>d3s (pI kw l f) h
end Go.Proofs.YtjpodcmhcenjjaaGreatDoor
end
section
namespace Go.Proofs.YtjpodcmhcenjjaaGreatDoor
theorem b2n {l:List Tok}{n k:Nat}{op:Int}(h:a1W l n k=some op):n<l.length∧1≤k∧k≤8:=by unfold a1W at h;rw [d6V] at h;obtain ⟨p,hp,_⟩:=h;have hs:jC l n p.2=true:=List.find?_some (p:=fun p:Int×List UInt8=>jC l n p.2) hp;refine ⟨oX hs,?_⟩;have hm:=List.mem_of_find?_eq_some hp;unfold opL at hm;split at hm<;>first|omega|cases hm
theorem b8L {l:List Tok}{n:Nat}{q:Int×Bool}(h:uN l n=some q):n<l.length:=by unfold uN at h;rw [d6V] at h;obtain ⟨p,hp,_⟩:=h;have hs:jC l n p.1=true:=List.find?_some (p:=fun p:List UInt8×Int×Bool=>jC l n p.1) hp;exact oX hs
section
variable {kw:List UInt8→Bool} {rd rd':Nat→Nat→Option (Pr×Nat)} {l:List Tok}
theorem a7h (hA:Adv l rd){i k:Nat}(h:∀i' k',1≤k'→k'≤10→i<i'→i'≤l.length→rd i' k'=rd' i' k'):∀(g:Nat) (a:Pr) (n:Nat),i≤n→dO rd l k g a n=dO rd' l k g a n
 |0,_,_,_=>rfl
 |g+1,a,n,hn=>by
  rw [dO,dO];cases ho:a1W l n k with
  |none=>rfl
  |some op=>
   obtain ⟨h1,h2,h3⟩:=b2n ho;rw [← h (n+1) (k+1) (by omega) (by omega) (by omega) (by omega)];cases hr:rd (n+1) (k+1) with
   |none=>rfl
   |some q=>obtain ⟨b,m⟩:=q;have:=hA _ _ _ _ hr;exact a7h hA h g _ m (by omega)
theorem a9X (hA:Adv l rd){i:Nat}(h:∀i' k',1≤k'→k'≤10→i<i'→i'≤l.length→rd i' k'=rd' i' k'):∀(g n:Nat) (acc:List Pr),i≤n→n<l.length→gJ rd l g n acc=gJ rd' l g n acc
 |0,_,_,_,_=>rfl
 |g+1,n,acc,hn,hl=>by
  rw [gJ,gJ, ← h (n+1) 1 (by omega) (by omega) (by omega) (by omega)];cases hr:rd (n+1) 1 with
  |none=>rfl
  |some q=>
   obtain ⟨p,m⟩:=q;have:=hA _ _ _ _ hr;simp only;split
   ·rfl
   ·split
    ·rename_i hs;exact a9X hA h g m _ (by omega) (oX hs)
    ·rfl
theorem a9Y (hA:Adv l rd){i n:Nat}(h:∀i' k',1≤k'→k'≤10→i<i'→i'≤l.length→rd i' k'=rd' i' k')(hn:i≤n):pH rd l n=pH rd' l n:=by
 unfold pH;split
 ·rename_i hs;exact a9X hA h _ _ _ hn (oX hs)
 ·rfl
theorem b8M (hA:Adv l rd){i:Nat}(h:∀i' k',1≤k'→k'≤10→i<i'→i'≤l.length→rd i' k'=rd' i' k'):uO kw rd l i=uO kw rd' l i:=by
 unfold uO;cases ht:l[i]? with
 |none=>rfl
 |some t=>
  simp only;split
  ·rfl
  split
  ·rfl
  split
  ·rfl
  split
  ·cases hn:pY kw l (i+1) with
   |none=>rfl
   |some q=>have:=qZ (s:=q.1) (n:=q.2) hn;simp only;rw [a9Y hA h (by omega)]
  split
  ·rename_i hs;have:=oX hs;split
   ·rfl
   ·rw [h (i+1) 1 (by omega) (by omega) (by omega) (by omega)]
  ·cases hn:pY kw l i with
   |none=>rfl
   |some q=>have:=qZ (s:=q.1) (n:=q.2) hn;simp only;rw [a9Y hA h (by omega)]
theorem b6F (hA:Adv l rd){i k:Nat}(hk:1≤k∧k≤10)(h:∀i' k',1≤k'→k'≤10→i<i'→i'≤l.length→rd i' k'=rd' i' k')(h0:∀k',k<k'→k'≤10→rd i k'=rd' i k'):atG kw rd l i k=atG kw rd' l i k:=by
 unfold atG;split
 ·unfold a7A;rw [← h0 3 (by omega) (by omega)];cases hr:rd i 3 with
  |none=>rfl
  |some q=>
   obtain ⟨a,n⟩:=q;have:=hA _ _ _ _ hr;simp only;split
   ·rename_i hs;have:=oX hs;rw [h (n+1) 2 (by omega) (by omega) (by omega) (by omega)]
   ·rfl
 ·split
  ·rename_i hs;have:=oX hs;rw [h (i+1) 5 (by omega) (by omega) (by omega) (by omega)]
  ·exact h0 6 (by omega) (by omega)
 ·unfold a0i;rw [← h0 7 (by omega) (by omega)];cases hr:rd i 7 with
  |none=>rfl
  |some q=>
   obtain ⟨a,n⟩:=q;have:=hA _ _ _ _ hr;simp only;cases hc:uN l n with
   |none=>rfl
   |some c=>have:=b8L hc;simp only;rw [h (n+1) 7 (by omega) (by omega) (by omega) (by omega)]
 ·split
  ·rename_i hs;have:=oX hs;rw [h (i+1) 9 (by omega) (by omega) (by omega) (by omega)]
  ·exact h0 10 (by omega) (by omega)
 ·exact b8M hA h
 ·rename_i hx2 hx5 hx6 hx9 hx10;have hne:k≠10:=fun e=>hx10 e
  rw [← h0 (k+1) (by omega) (by omega)];cases hr:rd i (k+1) with
  |none=>rfl
  |some q=>obtain ⟨a,n⟩:=q;have:=hA _ _ _ _ hr;simp only [Option.map_some];rw [a7h hA h l.length a n (by omega)]
end
def mu (L i k:Nat):Nat:=(L+1-i)*12+(11-k)
theorem vV {L i i' k k':Nat}(hi:i<i')(hl:i'≤L)(hk:1≤k')(hk2:k≤10):mu L i' k'<mu L i k:=by unfold mu;omega
theorem a5h {L i k k':Nat}(h:k<k')(hk:k'≤10):mu L i k'<mu L i k:=by unfold mu;omega
theorem a5i (kw:List UInt8→Bool)(l:List Tok):∀(f f' i k:Nat),1≤k→k≤10→i≤l.length→mu l.length i k≤f→mu l.length i k≤f'→mR kw l f i k=mR kw l f' i k
 |0,_,i,k,_,h2,hi,h,_=>by unfold mu at h;omega
 |_+1,0,i,k,_,h2,hi,_,h=>by unfold mu at h;omega
 |f+1,f'+1,i,k,h1,h2,hi,h,h'=>by
  rw [mR,mR];exact b6F (pI kw l f) ⟨h1,h2⟩ (fun i' k' q1 q2 q3 q4=>by
   have:=vV (k:=k) q3 q4 q1 h2;exact a5i kw l f f' i' k' q1 q2 q4 (by omega) (by omega)) (fun k' q1 q2=>by
   have:=a5h (L:=l.length) (i:=i) q1 q2;exact a5i kw l f f' i k' (by omega) q2 hi (by omega) (by omega))
end Go.Proofs.YtjpodcmhcenjjaaGreatDoor
end
section
namespace Go.Proofs.YtjpodcmhcenjjaaGreatDoor
structure Out (α:Type) where
 sg:List UInt8→List α
 nm:List UInt8→List α
 nu:Nat→List α
 bo:Bool→List α
 sp:List α
def tL (ln:Int)(s:List UInt8):Tok:=⟨4,s,0,ln⟩
end Go.Proofs.YtjpodcmhcenjjaaGreatDoor
end
section
namespace Go.Proofs.YtjpodcmhcenjjaaGreatDoor
def RR (kw:List UInt8→Bool)(l:List Tok)(i k:Nat):Option (Pr×Nat):=mR kw l (mu l.length i k) i k
theorem d3t (kw:List UInt8→Bool)(l:List Tok):Adv l (RR kw l):=fun i k p n h=>pI kw l _ i k p n h
theorem a0P {kw:List UInt8→Bool}{l:List Tok}{i k:Nat}(h1:1≤k)(h2:k≤10)(hi:i≤l.length):RR kw l i k=atG kw (RR kw l) l i k:=by
 obtain ⟨f,hf⟩:∃f,mu l.length i k=f+1:=⟨mu l.length i k-1,by unfold mu;omega⟩;have h:RR kw l i k=atG kw (mR kw l f) l i k:=by unfold RR;rw [hf,mR]
 rw [h];refine b6F (pI kw l f) ⟨h1,h2⟩ (fun i' k' q1 q2 q3 q4=>?_) (fun k' q1 q2=>?_)
 ·have:=vV (k:=k) q3 q4 q1 h2;exact a5i kw l f _ i' k' q1 q2 q4 (by omega) (d7m _)
 ·have:=a5h (L:=l.length) (i:=i) q1 q2;exact a5i kw l f _ i k' (by omega) q2 hi (by omega) (d7m _)
def lvS (s:List UInt8):Nat:=if s=[60,61,62] then 1 else if s=[61,62] then 2 else if s=[124,124] then 3 else if s=[38,38] then 4
 else if s=[61]∨s=[33,61]∨s=[60]∨s=[62]∨s=[60,61]∨s=[62,61] then 6 else if s=[43]∨s=[45] then 7 else if s=[42] then 8 else 0
section
variable {l rest:List Tok} {n k:Nat}
theorem c4K (j:Nat):∀p∈opL j,lvS p.2=j:=by unfold opL;split<;>simp [lvS]
theorem b9X:∀p∈cmpL,lvS p.1=6:=by simp [cmpL,lvS]
end
section
variable {kw:List UInt8→Bool} {l:List Tok} {i:Nat}
theorem a9Z {rd:Nat→Nat→Option (Pr×Nat)}{k n:Nat}(h:a1W l n k=none)(g:Nat)(a:Pr):dO rd l k g a n=(a,n):=by
 cases g with
 |zero=>rfl
 |succ g=>rw [dO,h]
end
end Go.Proofs.YtjpodcmhcenjjaaGreatDoor
end
section
namespace Go.Proofs.YtjpodcmhcenjjaaGreatDoor
def d3u (k:List Tok):Except Int (List Tok)→Except Int (List Tok)
 | .ok l=> .ok (k++l)
 | .error e=> .error e
section
variable {num:List UInt8→Int×Bool} {ln:Int}
def Lx (num:List UInt8→Int×Bool)(ln:Int)(t:List UInt8)(k:List Tok)(r:List UInt8):Prop:=gS num (t++r) 0 ln false=d3u k (gS num r 0 ln false)
theorem Lx.tok {c:UInt8}{s r:List UInt8}{k n:Int}(hf:firstT num (c::s++r)=(k,c::s,n,true)):Lx num ln (c::s) [⟨k,c::s,n,ln⟩] r:=by
 unfold Lx;have h0:(firstT num (c::(s++r))).2.2.2=true:=by rw [List.cons_append] at hf;rw [hf]
 obtain ⟨h1,h2,h3,h4⟩:=b7W h0;rw [List.cons_append] at hf ⊢;rw [gS,if_neg h1,if_neg (by simp [h2,h3]),if_neg h4,if_pos h0,hf];simp only [List.length_cons,Nat.add_sub_cancel];rw [a5L (s++r) s.length ln false (by simp),List.drop_left];cases gS num r 0 ln false<;>rfl
theorem Lx.sg {c:UInt8}{s r:List UInt8}(h1:smU c=false)(h2:caU c=false)(h3:dgU c=false)(hs:pD (c::s++r)=c::s):Lx num ln (c::s) [tL ln (c::s)] r:=by
 refine Lx.tok ?_
 rw [List.cons_append] at hs ⊢;unfold firstT;simp only [h1,h2,h3,hs];simp
variable {dig:Nat→List UInt8}
theorem c9m {r:List UInt8}:Lx num ln [40] [tL ln [40]] r:=Lx.sg (by decide) (by decide) (by decide) rfl
theorem c4L {r:List UInt8}:Lx num ln [41] [tL ln [41]] r:=Lx.sg (by decide) (by decide) (by decide) rfl
end
end Go.Proofs.YtjpodcmhcenjjaaGreatDoor
end
end
section
section
namespace Go.Proofs.YtjpodcmhcenjjaaGreatDoor
open Go Go.VM
variable {G:GT}
theorem rg1:List.range 1=[0]:=rfl
theorem rg2:List.range 2=[0,1]:=rfl
theorem rg3:List.range 3=[0,1,2]:=rfl
abbrev rdD (l:List Tok):D:= .agg [.sl (l.map cJ)]
theorem b8N {l:List Tok}{i:Nat}(h:i<l.length)(s:List UInt8):jC l i s=(decide (l[i].kind=4)&&decide (l[i].text=s)):=by simp [jC,h]
theorem c4N {l:List Tok}{i:Nat}(h: ¬i<l.length)(s:List UInt8):jC l i s=false:=by unfold jC;rw [List.getElem?_eq_none (by omega)]
theorem b4a {l:List Tok}{i:Nat}(h:i<l.length)(k:Int):kdB l i k=decide (l[i].kind=k):=by simp [kdB,h]
theorem c4O {l:List Tok}{i:Nat}(h: ¬i<l.length)(k:Int):kdB l i k=false:=by unfold kdB;rw [List.getElem?_eq_none (by omega)]
theorem b8O {l:List Tok}{i:Nat}(h:i<l.length):txA l i=l[i].text:=by simp [txA,h]
theorem d3v {l:List Tok}{i:Nat}(h:i<l.length):nmA l i=l[i].n:=by simp [nmA,h]
theorem bM:VM.Enters Tryz.prog 209:=VM.Enters.mk Tryz.func209 rfl
theorem mS (l:List Tok)(i:Nat)(s:List UInt8)(hl:l.length≤900000000):CS Tryz.prog G 209 [rdD l,.int .i64 i,.str s] (.d (.bool (jC l i s))) none:=by
 refine CS.bI Tryz.func209 rfl Tryz.ntmps209 rfl ?_
 by_cases hlt:i<l.length
 ·rw [b8N hlt];obtain ⟨t,ht⟩:∃t,l[i]=t:=⟨_,rfl⟩;rw [ht];simp [hlt,ht,cJ];by_cases h1:t.kind=4
  ·by_cases h2:t.text=s<;>simp [h1,h2,hlt,ht,cJ]
  ·simp [h1,hlt,ht,cJ]
 ·rw [c4N hlt];simp [hlt]
theorem qN:VM.Enters Tryz.prog 210:=VM.Enters.mk Tryz.func210 rfl
theorem rD (op:Int)(a b:Pr):CS Tryz.prog G 210 [.int .i64 op,.agg (prD a),.agg (prD b)] (.d (.agg (prD (tw op a b)))) none:=by
 refine CS.bI Tryz.func210 rfl Tryz.ntmps210 rfl ?_
 simp [tw,rg2,eY]
def a2L (k:Nat):List (List D):=(opL k).map fun p=>[.int .i64 p.1]
theorem sK:VM.Enters Tryz.prog 234:=VM.Enters.mk Tryz.func234 rfl
theorem a0U (k:Nat):CS Tryz.prog G 234 [.int .i64 k] (.d (.sl (a2L k))) none:=by
 refine CS.bI Tryz.func234 rfl Tryz.ntmps234 rfl ?_
 match k with
 |0=>simp [a2L,opL,rg1,rg2]
 |1=>simp [a2L,opL,rg1,rg2]
 |2=>simp [a2L,opL,rg1,rg2]
 |3=>simp [a2L,opL,rg1,rg2]
 |4=>simp [a2L,opL,rg1,rg2]
 |5=>simp [a2L,opL,rg1,rg2]
 |6=>simp [a2L,opL,rg1,rg2]
 |7=>simp [a2L,opL,rg1,rg2]
 |8=>simp [a2L,opL,rg1,rg2]
 |k+9=>
  have h1: ¬(k:Int)+9=1:=by omega
  have h3: ¬(k:Int)+9=3:=by omega
  have h4: ¬(k:Int)+9=4:=by omega
  have h7: ¬(k:Int)+9=7:=by omega
  have h8: ¬(k:Int)+9=8:=by omega
  simp [a2L,opL,h1,h3,h4,h7,h8]
def frm (op:Int):Option (Int×Int×Int×List UInt8):=
 if op=18 then some (1,1,2,[60,61,62]) else if op=17 then some (2,3,2,[61,62]) else if op=16 then some (3,3,4,[124,124]) else if op=15 then some (4,4,5,[38,38])
 else if op=10 then some (6,7,7,[61]) else if op=11 then some (6,7,7,[33,61]) else if op=12 then some (6,7,7,[60]) else if op=13 then some (6,7,7,[60,61])
 else if op=6 then some (7,7,8,[43]) else if op=7 then some (7,7,8,[45]) else if op=8 then some (8,8,9,[42]) else none
def a5j:Option (Int×Int×Int×List UInt8)→DV
 |some (a,b,c,s)=> .cM [.agg [.int .i64 a,.int .i64 b,.int .i64 c,.str s],.bool true]
 |none=> .cM [.agg [.int .i64 0,.int .i64 0,.int .i64 0,.str []],.bool false]
theorem a3W:VM.Enters Tryz.prog 236:=VM.Enters.mk Tryz.func236 rfl
theorem a5k (op:Int):CS Tryz.prog G 236 [.int .i64 op] (a5j (frm op)) none:=by
 refine CS.bI Tryz.func236 rfl Tryz.ntmps236 rfl ?_
 simp;by_cases h18:op=18
 ·simp [h18,frm,a5j]
 by_cases h17:op=17
 ·simp [h17,frm,a5j]
 by_cases h16:op=16
 ·simp [h16,frm,a5j]
 by_cases h15:op=15
 ·simp [h15,frm,a5j]
 by_cases h10:op=10
 ·simp [h10,frm,a5j]
 by_cases h11:op=11
 ·simp [h11,frm,a5j]
 by_cases h12:op=12
 ·simp [h12,frm,a5j]
 by_cases h13:op=13
 ·simp [h13,frm,a5j]
 by_cases h6:op=6
 ·simp [h6,frm,a5j]
 by_cases h7:op=7
 ·simp [h7,frm,a5j]
 by_cases h8:op=8
 ·simp [h8,frm,a5j]
 simp [h18,h17,h16,h15,h10,h11,h12,h13,h6,h7,h8,frm,a5j]
end Go.Proofs.YtjpodcmhcenjjaaGreatDoor
end
section
namespace Go.Proofs.YtjpodcmhcenjjaaGreatDoor
open Go Go.VM
variable {G:GT}
theorem c9n (k:Nat):∀p∈opL k,∃a b c,frm p.1=some (a,b,c,p.2):=by unfold opL;split<;>simp [frm]
abbrev c4P (l:List Tok)(n:Nat):List (Nat×aY):=[(100000,.cells [.d (.sl (l.map cJ))]),(100001,.cells [.d (.int .i64 n)])]
theorem b8P:VM.Enters Tryz.prog 235:=VM.Enters.mk Tryz.func235 rfl
theorem c1V (l:List Tok)(n:Nat)(hl:l.length≤900000000){op a b c:Int}{s:List UInt8}(h:frm op=some (a,b,c,s)):CH Tryz.prog G 235 ⟨[.d (.int .i64 op),.ptr 100000 0,.ptr 100001 0],c4P l n,[]⟩ ⟨[.d (.bool (jC l n s))],c4P l n,[]⟩:=by
 have h1:=a5k (G:=G) op;rw [h,a5j] at h1;have h2:=mS (G:=G) l n s hl;refine CH.bI Tryz.func235 rfl Tryz.ntmps235 rfl (by simp) ?_
 simp;refine aH.mk a3W h1 ?_
 simp;refine aH.mk bM h2 ?_
 simp
def ixO (l:List Tok)(n:Nat):List (Int×List UInt8)→Nat→Int
 |[],_=> -1
 |p::r,i=>if jC l n p.2=true then (i:Int) else ixO l n r (i+1)
theorem c4Q {l:List Tok}{n:Nat}{o:List (Int×List UInt8)}{i:Nat}(h:i<o.length):ixO l n (o.drop i) i=if jC l n o[i].2=true then (i:Int) else ixO l n (o.drop (i+1)) (i+1):=by rw [d7j h,ixO]
theorem c4R:VM.Enters Tryz.prog 233:=VM.Enters.mk Tryz.func233 rfl
theorem c9o (l:List Tok)(n:Nat)(o:List (Int×List UInt8))(ho:∀p∈o,∃a b c,frm p.1=some (a,b,c,p.2))(hl:l.length≤900000000)(hol:o.length≤10):
  CH Tryz.prog G 233 ⟨[.d (.sl (o.map fun p=>[.int .i64 p.1])),.yV 235 [.ptr 100000 0,.ptr 100001 0]],c4P l n,[]⟩ ⟨[.d (.int .i64 (ixO l n o 0))],c4P l n,[]⟩:=by
 obtain ⟨r,hr⟩:∃r,ixO l n o 0=r:=⟨_,rfl⟩;rw [hr];refine CH.bI Tryz.func233 rfl Tryz.ntmps233 rfl (by simp) ?_
 simp;refine SW.kJ (ι:={ i:Nat // i≤o.length∧ixO l n (o.drop i) i=r }) (fun i=>[(8,.d (.int .i64 i.1))]) (fun _=>c4P l n) (fun _=>[]) (fun i=>o.length-i.1) ⟨0,by simpa using hr⟩ (by simp) ?_
 rintro ⟨i,hi,hR⟩
 try simp only at hi hR
 by_cases hlt:i<o.length
 ·have hw:=bO (show i<9223372036854775807 by omega);obtain ⟨q,hq⟩:∃q,o[i]=q:=⟨_,rfl⟩;obtain ⟨a,b,c,hf⟩:=ho o[i] (List.getElem_mem hlt);rw [c4Q hlt] at hR;rw [hq] at hf hR;have hc:=c1V (G:=G) l n hl hf;simp [hlt,hq];refine eW.ro b8P hc [(100000,100000),(100001,100001)] (by simp) (by simp) (by simp) (by simp) (by simp) ?_
  cases hs:jC l n q.2
  ·rw [if_neg (by simp [hs])] at hR;simp;exact bQ.mk ⟨i+1,hlt,hR⟩ (by simp [hw]) (by simp;omega)
  ·rw [if_pos hs] at hR;simp [hR]
 ·have:i=o.length:=by omega
  subst this;rw [List.drop_length,ixO] at hR;simp [← hR]
end Go.Proofs.YtjpodcmhcenjjaaGreatDoor
end
section
namespace Go.Proofs.YtjpodcmhcenjjaaGreatDoor
open Go Go.VM
variable {G:GT}
theorem c4S:VM.Enters Tryz.prog 265:=VM.Enters.mk Tryz.func265 rfl
theorem c9p (xs:List (List UInt8))(sep:List UInt8)(hl:xs.length≤140737488355328)(hj:(Lib.join xs sep).length≤140737488355328):CS Tryz.prog G 265 [.sl (xs.map fun s=>[.str s]),.str sep] (.d (.str (Lib.join xs sep))) none:=
 c8z Tryz.strings_Join_none Tryz.strings_Join hl hj
theorem b2o:∀xs:List (List UInt8),Lib.join xs []=xs.flatten
 |[]=>rfl
 |x::r=>by rw [Lib.join_cons,Lib.joinTail];simp
theorem jT:VM.Enters Tryz.prog 248:=VM.Enters.mk Tryz.func248 rfl
theorem xD (xs:List (List UInt8))(hl:xs.length≤1000000)(hj:xs.flatten.length≤900000000):CS Tryz.prog G 248 [.sl (xs.map fun s=>[.str s])] (.d (.str xs.flatten)) none:=by
 have h:=c9p (G:=G) xs [] (by omega) (by rw [b2o];omega);rw [b2o] at h;refine CS.bI Tryz.func248 rfl Tryz.ntmps248 rfl ?_
 simp;refine aH.mk c4S h ?_
 simp
theorem c9q (a b:List UInt8)(h:(a++b).length≤900000000):CS Tryz.prog G 248 [.sl [[.str a],[.str b]]] (.d (.str (a++b))) none:=by have:=xD (G:=G) [a,b] (by simp) (by simpa using h);simpa using this
theorem c9r (a b c:List UInt8)(h:(a++(b++c)).length≤900000000):CS Tryz.prog G 248 [.sl [[.str a],[.str b],[.str c]]] (.d (.str (a++(b++c)))) none:=by have:=xD (G:=G) [a,b,c] (by simp) (by simpa using h);simpa using this
def txS:List Tok→Nat
 |[]=>0
 |t::r=>t.text.length+1+txS r
theorem b4b:∀a b:List Tok,txS (a++b)=txS a+txS b
 |[],b=>by simp [txS]
 |t::a,b=>by rw [List.cons_append,txS,txS,b4b a b];omega
theorem a5l {l:List Tok}{i:Nat}(h:i<l.length):txS (l.take (i+1))=txS (l.take i)+(l[i].text.length+1):=by rw [d7l h,b4b];simp [txS]
theorem d3w (l:List Tok)(i:Nat):txS (l.take i)≤txS l:=by have:=b4b (l.take i) (l.drop i);rw [List.take_append_drop] at this;omega
def a1X (l:List Tok):Prop:=l.length≤50000∧txS l≤900000
theorem b8Q {l:List Tok}{j:Nat}{s:List UInt8}(hs:s.length≤txS (l.take j))(h1:j+1<l.length):(s++([46]++(l[j+1]).text)).length≤txS (l.take (j+2)):=by have q1:=a5l (l:=l) (i:=j) (by omega);have q2:txS (l.take (j+2))=txS (l.take (j+1))+((l[j+1]).text.length+1):=a5l h1;simp only [List.length_append,List.length_cons,List.length_nil];omega
theorem b6H {l:List Tok}{j:Nat}{s:List UInt8}(hs:s.length≤txS (l.take (j+2)))(h1:j+2<l.length):(s++(l[j+2]).text).length≤txS (l.take (j+3)):=by have q2:txS (l.take (j+3))=txS (l.take (j+2))+((l[j+2]).text.length+1):=a5l h1;simp only [List.length_append];omega
theorem a1X.le {l:List Tok}(h:a1X l){i n:Nat}(hn:n≤txS (l.take i)):n≤900000000:=by have h1:=d3w l i;have h2:=h.2;omega
theorem b8R {l:List Tok}{i:Nat}(h:i<l.length):wtB l i=(decide (l[i].kind=1)||decide (l[i].kind=2)):=by simp [wtB,b4a h]
theorem b8S {l:List Tok}{i:Nat}(h: ¬i<l.length):wtB l i=false:=by simp [wtB,c4O h]
theorem b8T {l:List Tok}{f i:Nat}{s:List UInt8}(h:jC l i [46]=false):mQ l f i s=(s,i):=by
 cases f with
 |zero=>rfl
 |succ f=>rw [mQ,if_neg (by simp [h])]
def a6a:Option (List UInt8×Nat)→DV
 |some (s,n)=> .cM [.str s,.int .i64 n]
 |none=> .cM [.str [],.int .i64 (-1)]
theorem vW (o):pA (a6a o)=true:=by
 cases o with
 |none=>rfl
 |some q=>obtain ⟨a,b⟩:=q;rfl
theorem b0a {P:Program}{x y:Code}{st:St}{Q:Exit→St→Prop}(st':St)(h1:SW P G x st fun e s=>match e with
  | .normal=>vM s st'
  |e=>Q e s)(h2:SW P G y st' Q):SW P G (.seq x y) st Q:=SW.oW fun base R μ a w hr=>
 wp_mono (h1 base R μ a w hr) fun e a1 w1 ⟨s,R1,μ1,q1,q2,q3⟩=>by
  cases e with
  |normal=>exact ⟨s,R1,μ1,fun base R μ a w hr=>h2 base R μ a w (hr.yK q1),q2,q3⟩
  |_=>exact ⟨s,R1,μ1,q1,q2,q3⟩
theorem a2C:VM.Enters Tryz.prog 230:=VM.Enters.mk Tryz.func230 rfl
theorem b6I (hG:G 1=some dV)(l:List Tok)(i:Nat)(hl:a1X l)(hi:i≤l.length):CS Tryz.prog G 230 [rdD l,.int .i64 i] (a6a (pY aX l i)) none:=by
 have hll:=hl.1;obtain ⟨o,ho⟩:∃o,pY aX l i=o:=⟨_,rfl⟩;rw [ho];refine CS.b3h Tryz.func230 rfl Tryz.ntmps230 rfl ?_
 refine SW.oW (SW.vk ?_);simp;by_cases hlt:i<l.length;rotate_left
 ·have hge:l.length≤i:=Nat.le_of_not_lt hlt;have:o=none:=by rw [← ho];simp [pY,a9W,b8S hlt]
  subst this;refine SW.oW (SW.vk ?_);simp [hge,a6a]
 have hge: ¬l.length≤i:=by omega
 unfold pY a9W at ho;rw [b8R hlt,b8O hlt] at ho;obtain ⟨t,ht⟩:∃t,l[i]=t:=⟨_,rfl⟩;rw [ht] at ho;by_cases hw:t.kind=1∨t.kind=2;rotate_left
 ·have k1: ¬t.kind=1:=fun h=>hw (.inl h)
  have k2: ¬t.kind=2:=fun h=>hw (.inr h)
  have:o=none:=by rw [← ho];simp [k1,k2]
  subst this;refine SW.oW (SW.vk ?_);simp [hge,hlt,ht,cJ];simp [k1,k2,hlt,ht,cJ,a6a]
 have hwd:(decide (t.kind=1)||decide (t.kind=2))=true:=by simpa using hw
 rw [hwd,Bool.true_and] at ho;refine b0a ⟨[.d (rdD l),.d (.int .i64 i),.ptr 2 0,.undef,.d (.str []),.d (.int .i64 0)]++List.replicate 125 .undef,[(2,.cells [.d (.sl (l.map cJ))])],[]⟩ (SW.vk ?_) ?_
 ·simp [hge,hlt,ht,cJ];by_cases k1:t.kind=1
  ·simp [k1,hlt,ht,cJ,List.replicate]
  ·have k2:=hw.resolve_left k1;simp [k1,k2,hlt,ht,cJ,List.replicate]
 refine SW.oW (SW.vk ?_);simp [hlt,ht,cJ,List.replicate];cases hok:(!aX t.text||decide (t.text=[118])||decide (t.text=[116,97,103])||decide (t.text=[118,97,108]))
 ·have:o=none:=by rw [← ho];simp [hok]
  subst this;simp at hok;obtain ⟨⟨⟨q1,q2⟩,q3⟩,q4⟩:=hok;refine SW.oW (SW.vk ?_);simp;refine aH.mk tQ (vN hG t.text) ?_
  simp [q1,q2,q3,q4,a6a]
 rw [if_pos hok] at ho;refine b0a ⟨[.d (rdD l),.d (.int .i64 i),.ptr 2 0,.undef,.d (.str []),.d (.int .i64 0),.d (.str t.text)]++List.replicate 124 .undef,[(2,.cells [.d (.sl (l.map cJ))])],[]⟩ (SW.vk ?_) ?_
 ·simp;refine aH.mk tQ (vN hG t.text) ?_
  by_cases q1:aX t.text=true
  ·by_cases q2:t.text=[118]
   ·rw [q2] at q1;simp [q1,q2,List.replicate]
   ·by_cases q3:t.text=[116,97,103]
    ·rw [q3] at q1;simp [q1,q3,List.replicate]
    ·have q4:t.text=[118,97,108]:=by simpa [q1,q2,q3] using hok
     rw [q4] at q1;simp [q1,q4,List.replicate]
  ·simp [q1,List.replicate]
 obtain ⟨rs,rn,hrr⟩:∃rs rn,mQ l l.length (i+1) t.text=(rs,rn):=⟨_,_,rfl⟩;rw [hrr] at ho;subst ho;have hw1:=bO (show i<9223372036854775807 by omega);refine SW.vk ?_
 simp [hw1,List.replicate];refine SW.kJ (ι:={ p:Nat×List UInt8 // p.1≤l.length∧p.2.length≤txS (l.take p.1)∧∃f,l.length≤f+p.1∧mQ l f p.1 p.2=(rs,rn) }) (fun p=>[(1,.d (.int .i64 p.1.1)),(6,.d (.str p.1.2))]) (fun _=>[(2,.cells [.d (.sl (l.map cJ))])]) (fun _=>[]) (fun p=>l.length-p.1.1) ⟨(i+1,t.text),hlt,by have:=a5l hlt;rw [ht] at this;simp only;omega,l.length,by omega,hrr⟩ (by simp) ?_
 rintro ⟨⟨j,s⟩,hj,hs,f,hf,hp⟩;simp only at hj hs hf hp;have hsg:=mS (G:=G) l j [46] (by omega);have hj1:=bO (show j<9223372036854775807 by omega);have hj2:IntKind.i64.wrap ((j:Int)+2)=((j+2:Nat):Int):=by rw [wrap64 (by omega)];simp
 have hj3:IntKind.i64.wrap ((j:Int)+2+1)=((j+3:Nat):Int):=by rw [wrap64 (by omega)];omega
 simp;refine aH.mk bM hsg ?_
 cases hd:jC l j [46] with
 |false=>rw [b8T hd] at hp;cases hp;simp [a6a]
 |true=>
  have hjl:=oX hd;obtain ⟨f,rfl⟩:∃g,f=g+1:=⟨f-1,by omega⟩;rw [mQ,if_pos hd] at hp;simp [hj1];by_cases hlt1:j+1<l.length;rotate_left
  ·rw [if_neg (by rw [b8S hlt1];simp),if_neg (by rw [c4O hlt1];simp)] at hp;cases hp;simp [hlt1,a6a]
  obtain ⟨u,hu⟩:∃u,l[j+1]=u:=⟨_,rfl⟩;have hgr:=b8Q hs hlt1;rw [hu] at hgr;rw [b8R hlt1,b4a hlt1,b8O hlt1,hu] at hp;have hjoin:=c9r (G:=G) s [46] u.text (hl.le hgr);simp [hj1,hlt1,hu,cJ];by_cases k1:u.kind=1
  ·simp [k1] at hp;simp [k1,hj1,hlt1,hu,cJ,rg3];refine aH.mk jT hjoin ?_
   simp [hj2,k1];exact bQ.mk ⟨(j+2,s++([46]++u.text)),hlt1,hgr,f,by omega,by simpa using hp⟩ (by simp [hj2]) (by simp;omega)
  by_cases k2:u.kind=2
  ·simp [k2] at hp;simp [k1,k2,hj1,hlt1,hu,cJ,rg3];refine aH.mk jT hjoin ?_
   simp [hj2,k2];exact bQ.mk ⟨(j+2,s++([46]++u.text)),hlt1,hgr,f,by omega,by simpa using hp⟩ (by simp [hj2]) (by simp;omega)
  by_cases k3:u.kind=3;rotate_left
  ·simp [k1,k2,k3] at hp;obtain ⟨rfl,rfl⟩:=hp;simp [k1,k2,k3,a6a]
  simp [k3] at hp;simp [k1,k2,k3,hj1,hlt1,hu,cJ,rg3];refine aH.mk jT hjoin ?_
  simp [hj2,k3];by_cases hlt2:j+2<l.length;rotate_left
  ·rw [if_neg (by rw [b8S hlt2];simp)] at hp;have hlt2': ¬(j:Int)+2<(l.length:Int):=by omega
   simp [hlt2'];exact bQ.mk ⟨(j+2,s++([46]++u.text)),hlt1,hgr,f,by omega,by simpa using hp⟩ (by simp [hj2]) (by simp;omega)
  have hlt2':(j:Int)+2<(l.length:Int):=by omega
  have hnn:(0:Int)≤(j:Int)+2:=by omega
  have htn:((j:Int)+2).toNat=j+2:=by omega
  obtain ⟨v,hv⟩:∃v,l[j+2]=v:=⟨_,rfl⟩;have hgr3:=b6H hgr hlt2;rw [hv] at hgr3;rw [b8R hlt2,b8O hlt2,hv] at hp;have hjoin2:=c9q (G:=G) (s++([46]++u.text)) v.text (hl.le hgr3);simp at hjoin2;simp [hlt2',hlt2,hnn,htn,hv,cJ];by_cases m1:v.kind=1
  ·simp [m1] at hp;simp [m1,hlt2,hlt2',hnn,htn,hv,cJ,rg2];refine aH.mk jT hjoin2 ?_
   simp [hj3];exact bQ.mk ⟨(j+3,s++([46]++u.text)++v.text),hlt2,hgr3,f,by omega,by simpa using hp⟩ (by simp [hj3]) (by simp;omega)
  by_cases m2:v.kind=2
  ·simp [m2] at hp;simp [m1,m2,hlt2,hlt2',hnn,htn,hv,cJ,rg2];refine aH.mk jT hjoin2 ?_
   simp [hj3];exact bQ.mk ⟨(j+3,s++([46]++u.text)++v.text),hlt2,hgr3,f,by omega,by simpa using hp⟩ (by simp [hj3]) (by simp;omega)
  simp [m1,m2] at hp;simp [m1,m2,hlt2,hlt2',hnn,htn,hv,cJ];exact bQ.mk ⟨(j+2,s++([46]++u.text)),hlt1,hgr,f,by omega,by simpa using hp⟩ (by simp [hj2]) (by simp;omega)
end Go.Proofs.YtjpodcmhcenjjaaGreatDoor
end
section
namespace Go.Proofs.YtjpodcmhcenjjaaGreatDoor
open Go Go.VM
variable {G:GT}
def dX:Option (Pr×Nat)→Pr→DV
 |some (p,n),_=> .cM [.agg (prD p),.int .i64 n]
 |none,j=> .cM [.agg (prD j),.int .i64 (-1)]
def b1f:Option (List Pr×Nat)→DV
 |some (ks,n)=> .cM [.sl (ks.map qR),.int .i64 n]
 |none=> .cM [.sl [],.int .i64 (-1)]
theorem bU (o)(j):pA (dX o j)=true:=by
 cases o with
 |none=>rfl
 |some q=>obtain ⟨a,b⟩:=q;rfl
theorem a0v (o):pA (b1f o)=true:=by
 cases o with
 |none=>rfl
 |some q=>obtain ⟨a,b⟩:=q;rfl
theorem c4T (l:List Pr):∀x:List D,x∈l.map qR→x.length=4:=fun x hx=>by
 obtain ⟨p,_,rfl⟩:=List.mem_map.1 hx;rw [eY]
 rfl
section
variable {l:List Tok} {f:Nat}
def AtC (G:GT)(l:List Tok)(f:Nat):Prop:=∀i k,1≤k→k≤9→k≠6→i≤l.length→mu l.length i k≤f→∃j,CS Tryz.prog G 198 [rdD l,.int .i64 i,.int .i64 k] (dX (mR aX l f i k) j) none
def CmC (G:GT)(l:List Tok)(f:Nat):Prop:=∀i,i≤l.length→mu l.length i 6≤f→∃j,CS Tryz.prog G 211 [rdD l,.int .i64 i] (dX (mR aX l f i 6) j) none
def PrC (G:GT)(l:List Tok)(f:Nat):Prop:=∀i,i≤l.length→mu l.length i 10≤f→∃j,CS Tryz.prog G 212 [rdD l,.int .i64 i] (dX (mR aX l f i 10) j) none
theorem sL:VM.Enters Tryz.prog 198:=VM.Enters.mk Tryz.func198 rfl
theorem a6b:VM.Enters Tryz.prog 231:=VM.Enters.mk Tryz.func231 rfl
theorem d3x {L n:Nat}(h:n<L):mu L (n+1) 1=(L-n)*12+10:=by unfold mu;omega
theorem b6J (hl:a1X l)(hA:AtC G l f)(n:Nat)(hf:(l.length-n)*12+10≤f):CS Tryz.prog G 231 [rdD l,.int .i64 n] (b1f (pH (mR aX l f) l n)) none:=by
 have hll:=hl.1;obtain ⟨o,ho⟩:∃o,pH (mR aX l f) l n=o:=⟨_,rfl⟩;rw [ho];unfold pH at ho;have hsg:=mS (G:=G) l n [40] (by omega);refine CS.bI Tryz.func231 rfl Tryz.ntmps231 rfl ?_
 simp;refine aH.mk bM hsg ?_
 cases hd:jC l n [40] with
 |false=>rw [if_neg (by simp [hd])] at ho;subst ho;simp [b1f]
 |true=>
  have hnl:=oX hd;rw [if_pos hd] at ho;simp;refine SW.kJ (ι:={ p:Nat×List Pr // p.1<l.length∧(l.length-p.1)*12+10≤f∧p.2.length≤p.1∧∃g,l.length≤g+p.1∧gJ (mR aX l f) l g p.1 p.2=o }) (fun p=>[(1,.d (.int .i64 p.1.1)),(6,.d (.sl (p.1.2.map qR)))]) (fun _=>[(2,.cells [.d (.sl (l.map cJ))])]) (fun _=>[(43,[.t 6])]) (fun p=>l.length-p.1.1) ⟨(n,[]),hnl,hf,by simp,l.length,by omega,ho⟩ (by simp) ?_
  rintro ⟨⟨i,acc⟩,hi,hf,hal,g,hg,hR⟩;simp only at hi hf hal hg hR;have hi1:=bO (show i<9223372036854775807 by omega);obtain ⟨g,rfl⟩:∃h,g=h+1:=⟨g-1,by omega⟩;rw [gJ] at hR;obtain ⟨jk,hat⟩:=hA (i+1) 1 (by omega) (by omega) (by omega) hi (by rw [d3x hi];exact hf);simp [hi1];refine aH.mk (hkl:=bU _ _) sL hat ?_
  cases hr:mR aX l f (i+1) 1 with
  |none=>rw [hr] at hR;simp only at hR;subst hR;simp [dX,b1f]
  |some q=>
   obtain ⟨p,m⟩:=q;have hadv:=pI aX l f _ _ _ _ hr;rw [hr] at hR;simp only at hR;have hm1:=bO (show m<9223372036854775807 by omega);have hs1:=mS (G:=G) l m [41] (by omega);have hs2:=mS (G:=G) l m [44] (by omega);have hfour:=c4T acc;have hap:acc.map qR++[prD p]=(acc++[p]).map qR:=by simp [eY]
   simp [dX];have hsz:(acc.length+1)*57≤140737488355328:=by omega
   simp [hsz];refine aH.mk bM hs1 ?_
   cases hd1:jC l m [41] with
   |true=>rw [if_pos hd1] at hR;subst hR;simp [hm1,b1f,eY]
   |false=>
    rw [if_neg (by simp [hd1])] at hR;simp;refine aH.mk bM hs2 ?_
    cases hd2:jC l m [44] with
    |false=>rw [if_neg (by simp [hd2])] at hR;subst hR;simp [b1f]
    |true=>
     rw [if_pos hd2] at hR;have hml:=oX hd2;have hmu:(l.length-m)*12+10≤f:=by omega
     have hac:(acc++[p]).length≤m:=by simp;omega
     simp;exact bQ.mk ⟨(m,acc++[p]),hml,hmu,hac,g,by omega,hR⟩ (by simp [eY]) (by simp;omega)
theorem zJ:VM.Enters Tryz.prog 213:=VM.Enters.mk Tryz.func213 rfl
theorem c9s {l:List Tok}{n k:Nat}:(match a1W l n k with
  |none=>ixO l n (opL k) 0= -1
  |some op=>∃(q:Nat) (h:q<(opL k).length),ixO l n (opL k) 0=q∧(opL k)[q].1=op):=by
 have gen:∀(o:List (Int×List UInt8)) (i:Nat),(match (o.find? fun p=>jC l n p.2).map (·.1) with
   |none=>ixO l n o i= -1
   |some op=>∃(q:Nat) (h:q<o.length),ixO l n o i=((q+i:Nat):Int)∧o[q].1=op):=by
  intro o
  induction o with
  |nil=>intro i;rfl
  |cons p r ih=>
   intro i;rw [List.find?_cons,ixO];cases hs:jC l n p.2 with
   |true=>exact ⟨0,by simp,by simp,rfl⟩
   |false=>
    have:=ih (i+1);simp only [Bool.false_eq_true,if_false];cases ho:(r.find? fun p=>jC l n p.2).map (·.1) with
    |none=>rw [ho] at this;exact this
    |some op=>rw [ho] at this;obtain ⟨q,hq,h1,h2⟩:=this;exact ⟨q+1,by simpa using hq,by rw [h1];congr 1;omega,by simpa using h2⟩
 have:=gen (opL k) 0;unfold a1W;cases ho:((opL k).find? fun p=>jC l n p.2).map (·.1) with
 |none=>rw [ho] at this;exact this
 |some op=>rw [ho] at this;simpa using this
theorem c9t (k:Nat):(opL k).length≤2:=by unfold opL;split<;>simp
def b4c (p:Pr)(z:Int):St:=⟨List.replicate 6 .undef++[.ptr 6 0,.d (.int .i64 0),.ptr 8 0,.ptr 9 0]++List.replicate 41 .undef,[(6,.cells [.d (.int .i64 0),.d (.str []),.d (.int .i64 0),.d .aM]),(8,.cells ((prD p).map .d)),(9,.cells [.d (.int .i64 z)])],[]⟩
theorem a1Y (hl:a1X l)(hA:AtC G l f)(i k:Nat)(hk:1≤k∧k≤8∧k≠5)(hi:i≤l.length)(hf:mu l.length i k≤f+1):
  ∃j,CS Tryz.prog G 213 [rdD l,.int .i64 i,.int .i64 k] (dX ((mR aX l f i (k+1)).map fun q=>dO (mR aX l f) l k l.length q.1 q.2) j) none:=by
 have hll:=hl.1;obtain ⟨ja,hat⟩:=hA i (k+1) (by omega) (by omega) (by omega) hi (by unfold mu at hf ⊢;omega);refine ⟨ja,?_⟩;obtain ⟨o,ho⟩:∃o,((mR aX l f i (k+1)).map fun q=>dO (mR aX l f) l k l.length q.1 q.2)=o:=⟨_,rfl⟩;rw [ho];have hops:=a0U (G:=G) k;have hk1:=bO (show k<9223372036854775807 by omega);refine CS.b3h Tryz.func213 rfl Tryz.ntmps213 rfl ?_
 refine SW.oW (SW.vk ?_);simp;refine SW.oW (SW.vk ?_);simp [hk1];refine aH.mk (hkl:=bU _ _) sL hat ?_
 cases hr:mR aX l f i (k+1) with
 |none=>
  rw [hr] at ho;subst ho;simp [dX];refine b0a (b4c ja (-1)) (SW.vk ?_) ?_
  rotate_left
  ·skip
   refine SW.oW (b5N (by kernel_rfl) (by kernel_rfl) rfl rfl rfl rfl ⟨?_,?_⟩)
   ·simp [b4c,List.replicate];refine SW.vk ?_
    simp
   ·simp [b4c,List.replicate];refine SW.vk ?_
    simp
  simp;refine SW.kJ (ι:={ x:Unit // True }) (fun _=>[]) (fun _=>[(3,.cells [.d (.sl (l.map cJ))]),(6,.cells [.d (.int .i64 0),.d (.str []),.d (.int .i64 0),.d .aM]),(8,.cells ((prD ja).map .d)),(9,.cells [.d (.int .i64 (-1))])]) (fun _=>[]) (fun _=>0) ⟨(),trivial⟩ (by simp) ?_
  rintro ⟨_,_⟩;simp [b4c,List.replicate]
 |some q=>
  obtain ⟨a,n⟩:=q;have hadv:=pI aX l f _ _ _ _ hr;rw [hr] at ho;simp only [Option.map_some] at ho;obtain ⟨⟨rp,rn⟩,hres⟩:∃r,dO (mR aX l f) l k l.length a n=r:=⟨_,rfl⟩;rw [hres] at ho;subst ho;simp [dX];refine b0a (b4c rp rn) (SW.vk ?_) ?_
  rotate_left
  ·skip
   refine SW.oW (b5N (by kernel_rfl) (by kernel_rfl) rfl rfl rfl rfl ⟨?_,?_⟩)
   ·simp [b4c,List.replicate];refine SW.vk ?_
    simp
   ·simp [b4c,List.replicate];refine SW.vk ?_
    simp
  simp;refine SW.kJ (ι:={ p:Pr×Nat // p.2≤l.length∧i<p.2∧∃g,l.length≤g+p.2∧dO (mR aX l f) l k g p.1 p.2=(rp,rn) }) (fun _=>[]) (fun p=>[(3,.cells [.d (.sl (l.map cJ))]),(6,.cells [.d (.int .i64 0),.d (.str []),.d (.int .i64 0),.d .aM]),(8,.cells ((prD p.1.1).map .d)),(9,.cells [.d (.int .i64 p.1.2)])]) (fun _=>[]) (fun p=>l.length-p.1.2) ⟨(a,n),hadv.2,hadv.1,l.length,by omega,hres⟩ (by simp) ?_
  rintro ⟨⟨a,n⟩,hn,hin,g,hg,hR⟩;simp only at hn hin hg hR;have hcx:=c9o (G:=G) l n (opL k) (c9n k) (by omega) (by have:=c9t k;omega);have hix:=c9s (l:=l) (n:=n) (k:=k);have hn1:=bO (show n<9223372036854775807 by omega)
  change CH _ _ _ ⟨[.d (.sl (a2L k)),_],_,_⟩ _ at hcx
  simp;refine aH.mk sK hops ?_
  simp;refine eW.ro c4R hcx [(100000,3),(100001,9)] (by simp) (by simp) (by simp) (by simp) (by simp) ?_
  cases hop:a1W l n k with
  |none=>
   rw [hop] at hix;simp only at hix;have:(a,n)=(rp,rn):=by
    rw [← hR];cases g with
    |zero=>rfl
    |succ g=>rw [dO,hop]
   cases this;simp [hix,b4c,List.replicate]
  |some op=>
   rw [hop] at hix;obtain ⟨q,hq,hx,hqo⟩:=hix;obtain ⟨hnl,_,_⟩:=b2n hop;obtain ⟨g,rfl⟩:∃h,g=h+1:=⟨g-1,by omega⟩;rw [dO,hop] at hR;obtain ⟨jb,hat2⟩:=hA (n+1) (k+1) (by omega) (by omega) (by omega) hnl (by have:=vV (L:=l.length) (i:=i) (i':=n+1) (k:=k) (k':=k+1) (by omega) hnl (by omega) (by omega);omega)
   have hql:q<(a2L k).length:=by simpa [a2L] using hq
   have hqe:(a2L k)[q]=[.int .i64 op]:=by simp [a2L,hqo]
   simp [hx,hn1,hk1];refine aH.mk (hkl:=bU _ _) sL hat2 ?_
   cases hr2:mR aX l f (n+1) (k+1) with
   |none=>rw [hr2] at hR;cases hR;simp [dX,b4c,List.replicate]
   |some z=>
    obtain ⟨b,m⟩:=z;have hadv2:=pI aX l f _ _ _ _ hr2;rw [hr2] at hR;simp only at hR;have htw:=rD (G:=G) op a b;simp [dX];refine ⟨mA.mk (by kernel_rfl),?_⟩;refine aH.mk sK hops ?_
    simp [hql,hqe];refine aH.mk qN htw ?_
    simp;exact bQ.mk ⟨(tw op a b,m),hadv2.2,by simp only;omega,g,by simp only;omega,hR⟩ (by simp) (by simp;omega)
end
end Go.Proofs.YtjpodcmhcenjjaaGreatDoor
end
end
section
section
namespace Go.Proofs.YtjpodcmhcenjjaaGreatDoor
open Go Go.VM
variable {G:GT}
section
variable {l:List Tok} {f:Nat}
theorem b4d:VM.Enters Tryz.prog 211:=VM.Enters.mk Tryz.func211 rfl
def b0b (s:List UInt8):Option (Int×Bool):=(cmpL.find? fun p=>decide (s=p.1)).map (·.2)
theorem c4U {n:Nat}(h:n<l.length):uN l n=if l[n].kind=4 then b0b l[n].text else none:=by
 unfold uN b0b;by_cases hk:l[n].kind=4
 ·simp [b8N h,hk]
 ·simp [b8N h,hk]
theorem c4V {n:Nat}(h: ¬n<l.length):uN l n=none:=by unfold uN;simp [c4N h]
def b6K (l:List Tok)(a:Pr)(n:Nat)(op:Int)(ex:Bool):St:=⟨[.undef,.undef,.ptr 2 0,.undef,.ptr 4 0,.d (.int .i64 0),.ptr 6 0,.d (.int .i64 n),.d (.int .i64 op),.d (.bool ex)]++List.replicate 79 .undef,[(2,.cells [.d (.sl (l.map cJ))]),(4,.cells [.d (.int .i64 0),.d (.str []),.d (.int .i64 0),.d .aM]),(6,.cells ((prD a).map .d))],[]⟩
theorem b6L (hl:a1X l)(hA:AtC G l f)(i:Nat)(hi:i≤l.length)(hf:mu l.length i 6≤f+1):
  ∃j,CS Tryz.prog G 211 [rdD l,.int .i64 i] (dX (a0i (mR aX l f) l i) j) none:=by
 have hll:=hl.1;obtain ⟨ja,hat⟩:=hA i 7 (by omega) (by omega) (by omega) hi (by unfold mu at hf ⊢;omega);refine ⟨ja,?_⟩;obtain ⟨o,ho⟩:∃o,a0i (mR aX l f) l i=o:=⟨_,rfl⟩;rw [ho];unfold a0i at ho;refine CS.b3h Tryz.func211 rfl Tryz.ntmps211 rfl ?_
 refine SW.oW (SW.vk ?_);simp;refine SW.oW (SW.vk ?_);simp;refine aH.mk (hkl:=bU _ _) sL hat ?_
 cases hr:mR aX l f i 7 with
 |none=>
  rw [hr] at ho;subst ho;simp [dX];refine SW.vk ?_
  simp
 |some q=>
  obtain ⟨a,n⟩:=q;have hadv:=pI aX l f _ _ _ _ hr;rw [hr] at ho;simp only at ho;simp [dX];by_cases hlt:n<l.length;rotate_left
  ·rw [c4V hlt] at ho;subst ho;have hge:l.length≤n:=Nat.le_of_not_lt hlt;refine SW.vk ?_
   simp [hge,dX]
  have hge: ¬l.length≤n:=by omega
  rw [c4U hlt] at ho;obtain ⟨t,ht⟩:∃t,l[n]=t:=⟨_,rfl⟩;rw [ht] at ho;by_cases hk:t.kind=4;rotate_left
  ·rw [if_neg hk] at ho;subst ho;refine SW.vk ?_
   simp [hge,hlt,ht,cJ];simp [hk,dX]
  rw [if_pos hk] at ho;refine SW.oW (SW.vk ?_);simp [hge,hlt,ht,cJ];simp [hk];refine SW.oW (SW.vk ?_);simp;cases hc:b0b t.text with
  |none=>rw [hc] at ho;simp only at ho;subst ho;simp [b0b,cmpL] at hc;obtain ⟨e1,e2,e3,e4,e5,e6⟩:=hc;refine SW.oW (SW.vk ?_);simp [hlt,ht,cJ,e1,e2,e3,e4,e5,e6,dX]
  |some c=>
   obtain ⟨op,ex⟩:=c;rw [hc] at ho;simp only at ho;refine b0a (b6K l a n op ex) (SW.vk ?_) ?_
   ·simp [hlt,ht,cJ];by_cases e1:t.text=[61]
    ·obtain ⟨rfl,rfl⟩:10=op∧false=ex:=by simpa [b0b,cmpL,e1] using hc
     simp [e1,b6K,List.replicate]
    by_cases e2:t.text=[33,61]
    ·obtain ⟨rfl,rfl⟩:11=op∧false=ex:=by simpa [b0b,cmpL,e2] using hc
     simp [e2,b6K,List.replicate]
    by_cases e3:t.text=[60]
    ·obtain ⟨rfl,rfl⟩:12=op∧false=ex:=by simpa [b0b,cmpL,e3] using hc
     simp [e3,hlt,ht,cJ];refine ⟨mA.mk (by kernel_rfl),?_⟩;simp [e3,hlt,ht,cJ,b6K,List.replicate]
    by_cases e4:t.text=[62]
    ·obtain ⟨rfl,rfl⟩:12=op∧true=ex:=by simpa [b0b,cmpL,e4] using hc
     simp [e4,hlt,ht,cJ];refine ⟨mA.mk (by kernel_rfl),?_⟩;simp [e4,hlt,ht,cJ,b6K,List.replicate]
    by_cases e5:t.text=[60,61]
    ·obtain ⟨rfl,rfl⟩:13=op∧false=ex:=by simpa [b0b,cmpL,e5] using hc
     simp [e5,hlt,ht,cJ];refine ⟨mA.mk (by kernel_rfl),?_⟩;simp [e5,hlt,ht,cJ,b6K,List.replicate]
    by_cases e6:t.text=[62,61]
    ·obtain ⟨rfl,rfl⟩:13=op∧true=ex:=by simpa [b0b,cmpL,e6] using hc
     simp [e6,hlt,ht,cJ];refine ⟨mA.mk (by kernel_rfl),?_⟩;simp [e6,hlt,ht,cJ,b6K,List.replicate]
    simp [b0b,cmpL,e1,e2,e3,e4,e5,e6] at hc
   have hn1:=bO (show n<9223372036854775807 by omega);obtain ⟨jb,hat2⟩:=hA (n+1) 7 (by omega) (by omega) (by omega) hlt (by have:=vV (L:=l.length) (i:=i) (i':=n+1) (k:=6) (k':=7) (by omega) hlt (by omega) (by omega);omega)
   refine SW.vk ?_
   simp [b6K,List.replicate,hn1];refine aH.mk (hkl:=bU _ _) sL hat2 ?_
   cases hr2:mR aX l f (n+1) 7 with
   |none=>rw [hr2] at ho;simp only at ho;subst ho;simp [dX]
   |some z=>
    obtain ⟨b,m⟩:=z;rw [hr2] at ho;simp only at ho;subst ho;cases ex with
    |false=>
     simp [dX];refine aH.mk qN (rD op a b) ?_
     simp
    |true=>
     simp [dX];refine aH.mk qN (rD op b a) ?_
     simp
end
end Go.Proofs.YtjpodcmhcenjjaaGreatDoor
end
section
namespace Go.Proofs.YtjpodcmhcenjjaaGreatDoor
open Go Go.VM
variable {G:GT}
section
variable {l:List Tok} {f:Nat}
theorem d1l {L i k f:Nat}(h:mu L i k≤f+1)(hk:k+1≤10):mu L i (k+1)≤f:=by have:=a5h (L:=L) (i:=i) (show k<k+1 by omega) hk;omega
theorem b6M:VM.Enters Tryz.prog 212:=VM.Enters.mk Tryz.func212 rfl
theorem d5n (hl:a1X l)(hA:AtC G l f)(hC:CmC G l f)(hP:PrC G l f):AtC G l (f+1):=by
 have hll:=hl.1;intro i k h1 h9 h6 hi hf;obtain rfl|rfl|rfl|rfl|rfl|rfl|rfl|rfl:k=1∨k=2∨k=3∨k=4∨k=5∨k=7∨k=8∨k=9:=by omega
 ·skip
  obtain ⟨j,hc⟩:=a1Y hl hA i 1 (by omega) hi hf;refine ⟨j,?_⟩;have he:mR aX l (f+1) i 1=(mR aX l f i (1+1)).map fun q=>dO (mR aX l f) l 1 l.length q.1 q.2:=rfl
  rw [he];refine CS.bI Tryz.func198 rfl Tryz.ntmps198 rfl ?_
  simp;refine aH.mk (hkl:=bU _ _) zJ hc ?_
  cases (mR aX l f i (1+1)).map fun q=>dO (mR aX l f) l 1 l.length q.1 q.2 with
  |none=>simp [dX]
  |some q=>obtain ⟨p,n⟩:=q;simp [dX]
 ·obtain ⟨ja,hat⟩:=hA i 3 (by omega) (by omega) (by omega) hi (by unfold mu at hf ⊢;omega);refine ⟨ja,?_⟩;obtain ⟨o,ho⟩:∃o,a7A (mR aX l f) l i=o:=⟨_,rfl⟩;have he:mR aX l (f+1) i 2=o:=ho;rw [he];unfold a7A at ho;refine CS.bI Tryz.func198 rfl Tryz.ntmps198 rfl ?_
  simp;refine aH.mk (hkl:=bU _ _) sL hat ?_
  cases hr:mR aX l f i 3 with
  |none=>rw [hr] at ho;subst ho;simp [dX]
  |some q=>
   obtain ⟨a,n⟩:=q;have hadv:=pI aX l f _ _ _ _ hr;rw [hr] at ho;simp only at ho;have hsg:=mS (G:=G) l n [61,62] (by omega);simp [dX];refine aH.mk bM hsg ?_
   cases hd:jC l n [61,62] with
   |false=>rw [if_neg (by simp [hd])] at ho;subst ho;simp [dX]
   |true=>
    rw [if_pos hd] at ho;have hnl:=oX hd;have hn1:=bO (show n<9223372036854775807 by omega);obtain ⟨jb,hat2⟩:=hA (n+1) 2 (by omega) (by omega) (by omega) hnl (by have:=vV (L:=l.length) (i:=i) (i':=n+1) (k:=2) (k':=2) (by omega) hnl (by omega) (by omega);omega)
    simp [hn1];refine aH.mk (hkl:=bU _ _) sL hat2 ?_
    cases hr2:mR aX l f (n+1) 2 with
    |none=>rw [hr2] at ho;subst ho;simp [dX]
    |some z=>
     obtain ⟨b,m⟩:=z;rw [hr2] at ho;subst ho;simp [dX];refine aH.mk qN (rD 17 a b) ?_
     simp
 ·skip
  obtain ⟨j,hc⟩:=a1Y hl hA i 3 (by omega) hi hf;refine ⟨j,?_⟩;have he:mR aX l (f+1) i 3=(mR aX l f i (3+1)).map fun q=>dO (mR aX l f) l 3 l.length q.1 q.2:=rfl
  rw [he];refine CS.bI Tryz.func198 rfl Tryz.ntmps198 rfl ?_
  simp;refine aH.mk (hkl:=bU _ _) zJ hc ?_
  cases (mR aX l f i (3+1)).map fun q=>dO (mR aX l f) l 3 l.length q.1 q.2 with
  |none=>simp [dX]
  |some q=>obtain ⟨p,n⟩:=q;simp [dX]
 ·skip
  obtain ⟨j,hc⟩:=a1Y hl hA i 4 (by omega) hi hf;refine ⟨j,?_⟩;have he:mR aX l (f+1) i 4=(mR aX l f i (4+1)).map fun q=>dO (mR aX l f) l 4 l.length q.1 q.2:=rfl
  rw [he];refine CS.bI Tryz.func198 rfl Tryz.ntmps198 rfl ?_
  simp;refine aH.mk (hkl:=bU _ _) zJ hc ?_
  cases (mR aX l f i (4+1)).map fun q=>dO (mR aX l f) l 4 l.length q.1 q.2 with
  |none=>simp [dX]
  |some q=>obtain ⟨p,n⟩:=q;simp [dX]
 ·skip
  have hsg:=mS (G:=G) l i [33] (by omega);cases hd:jC l i [33] with
  |true=>
   have hil:=oX hd;have hi1:=bO (show i<9223372036854775807 by omega);obtain ⟨ja,hat⟩:=hA (i+1) 5 (by omega) (by omega) (by omega) hil (by have:=vV (L:=l.length) (i:=i) (i':=i+1) (k:=5) (k':=5) (by omega) hil (by omega) (by omega);omega)
   refine ⟨⟨0,[],0,[]⟩,?_⟩;have he:mR aX l (f+1) i 5=(mR aX l f (i+1) 5).map fun q=>((⟨14,[],0,[q.1]⟩:Pr),q.2):=by
    show (if jC l i [33]=true then _ else _)=_
    rw [if_pos hd]
   rw [he];rw [hd] at hsg;refine CS.bI Tryz.func198 rfl Tryz.ntmps198 rfl ?_
   simp;refine aH.mk bM hsg ?_
   simp [hi1];refine aH.mk (hkl:=bU _ _) sL hat ?_
   cases mR aX l f (i+1) 5 with
   |none=>simp [dX]
   |some q=>obtain ⟨p,n⟩:=q;simp [dX,rg1,eY]
  |false=>
   obtain ⟨j,hc⟩:=hC i hi (d1l hf (by omega));refine ⟨j,?_⟩;have he:mR aX l (f+1) i 5=mR aX l f i (5+1):=by
    show (if jC l i [33]=true then _ else _)=_
    rw [if_neg (by simp [hd])]
   rw [he];rw [hd] at hsg;refine CS.bI Tryz.func198 rfl Tryz.ntmps198 rfl ?_
   simp;refine aH.mk bM hsg ?_
   simp;refine aH.mk (hkl:=bU _ _) b4d hc ?_
   cases mR aX l f i (5+1) with
   |none=>simp [dX]
   |some q=>obtain ⟨p,n⟩:=q;simp [dX]
 ·skip
  obtain ⟨j,hc⟩:=a1Y hl hA i 7 (by omega) hi hf;refine ⟨j,?_⟩;have he:mR aX l (f+1) i 7=(mR aX l f i (7+1)).map fun q=>dO (mR aX l f) l 7 l.length q.1 q.2:=rfl
  rw [he];refine CS.bI Tryz.func198 rfl Tryz.ntmps198 rfl ?_
  simp;refine aH.mk (hkl:=bU _ _) zJ hc ?_
  cases (mR aX l f i (7+1)).map fun q=>dO (mR aX l f) l 7 l.length q.1 q.2 with
  |none=>simp [dX]
  |some q=>obtain ⟨p,n⟩:=q;simp [dX]
 ·skip
  obtain ⟨j,hc⟩:=a1Y hl hA i 8 (by omega) hi hf;refine ⟨j,?_⟩;have he:mR aX l (f+1) i 8=(mR aX l f i (8+1)).map fun q=>dO (mR aX l f) l 8 l.length q.1 q.2:=rfl
  rw [he];refine CS.bI Tryz.func198 rfl Tryz.ntmps198 rfl ?_
  simp;refine aH.mk (hkl:=bU _ _) zJ hc ?_
  cases (mR aX l f i (8+1)).map fun q=>dO (mR aX l f) l 8 l.length q.1 q.2 with
  |none=>simp [dX]
  |some q=>obtain ⟨p,n⟩:=q;simp [dX]
 ·skip
  have hsg:=mS (G:=G) l i [45] (by omega);cases hd:jC l i [45] with
  |true=>
   have hil:=oX hd;have hi1:=bO (show i<9223372036854775807 by omega);obtain ⟨ja,hat⟩:=hA (i+1) 9 (by omega) (by omega) (by omega) hil (by have:=vV (L:=l.length) (i:=i) (i':=i+1) (k:=9) (k':=9) (by omega) hil (by omega) (by omega);omega)
   refine ⟨⟨0,[],0,[]⟩,?_⟩;have he:mR aX l (f+1) i 9=(mR aX l f (i+1) 9).map fun q=>((⟨9,[],0,[q.1]⟩:Pr),q.2):=by
    show (if jC l i [45]=true then _ else _)=_
    rw [if_pos hd]
   rw [he];rw [hd] at hsg;refine CS.bI Tryz.func198 rfl Tryz.ntmps198 rfl ?_
   simp;refine aH.mk bM hsg ?_
   simp [hi1];refine aH.mk (hkl:=bU _ _) sL hat ?_
   cases mR aX l f (i+1) 9 with
   |none=>simp [dX]
   |some q=>obtain ⟨p,n⟩:=q;simp [dX,rg1,eY]
  |false=>
   obtain ⟨j,hc⟩:=hP i hi (d1l hf (by omega));refine ⟨j,?_⟩;have he:mR aX l (f+1) i 9=mR aX l f i (9+1):=by
    show (if jC l i [45]=true then _ else _)=_
    rw [if_neg (by simp [hd])]
   rw [he];rw [hd] at hsg;refine CS.bI Tryz.func198 rfl Tryz.ntmps198 rfl ?_
   simp;refine aH.mk bM hsg ?_
   simp;refine aH.mk (hkl:=bU _ _) b6M hc ?_
   cases mR aX l f i (9+1) with
   |none=>simp [dX]
   |some q=>obtain ⟨p,n⟩:=q;simp [dX]
end
end Go.Proofs.YtjpodcmhcenjjaaGreatDoor
end
section
namespace Go.Proofs.YtjpodcmhcenjjaaGreatDoor
open Go Go.VM
variable {G:GT}
section
variable {l:List Tok} {f:Nat}
def b4e (rd:Nat→Nat→Option (Pr×Nat))(l:List Tok)(i:Nat):Option (Pr×Nat):=match pY aX l i with
 |none=>none
 |some (s,n)=>(match pH rd l n with
  |some (ks,m)=>some (⟨4,s,0,ks⟩,m)
  |none=>some (⟨3,s,0,[]⟩,n))
theorem b2p {L i n f:Nat}(hf:mu L i 10≤f+1)(hn:i<n)(hl:n≤L):(L-n)*12+10≤f:=by unfold mu at hf;omega
theorem c1X:VM.Enters Tryz.prog 232:=VM.Enters.mk Tryz.func232 rfl
theorem c1Y (hG:G 1=some dV)(hl:a1X l)(hA:AtC G l f)(i:Nat)(hi:i≤l.length)(hf:mu l.length i 10≤f+1):
  CS Tryz.prog G 232 [rdD l,.int .i64 i] (dX (b4e (mR aX l f) l i) ⟨0,[],0,[]⟩) none:=by
 have hll:=hl.1;have hnm:=b6I (G:=G) hG l i hl hi;obtain ⟨o,ho⟩:∃o,b4e (mR aX l f) l i=o:=⟨_,rfl⟩;rw [ho];unfold b4e at ho;refine CS.bI Tryz.func232 rfl Tryz.ntmps232 rfl ?_
 simp;refine aH.mk (hkl:=vW _) a2C hnm ?_
 cases hn:pY aX l i with
 |none=>rw [hn] at ho;subst ho;simp [a6a,dX]
 |some q=>
  obtain ⟨s,n⟩:=q;have hadv:=qZ hn;rw [hn] at ho;simp only at ho;have hli:=b6J (G:=G) hl hA n (b2p hf hadv.1 hadv.2);simp [a6a];refine aH.mk (hkl:=a0v _) a6b hli ?_
  cases hL:pH (mR aX l f) l n with
  |none=>rw [hL] at ho;subst ho;simp [b1f,dX]
  |some z=>obtain ⟨ks,m⟩:=z;rw [hL] at ho;subst ho;simp [b1f,dX]
theorem b8U (hG:G 1=some dV)(hl:a1X l)(hA:AtC G l f):PrC G l (f+1):=by
 have hll:=hl.1;intro i hi hf;obtain ⟨o,ho⟩:∃o,uO aX (mR aX l f) l i=o:=⟨_,rfl⟩;have he:mR aX l (f+1) i 10=o:=ho;rw [he];unfold uO at ho;by_cases hlt:i<l.length;rotate_left
 ·rw [List.getElem?_eq_none (by omega)] at ho;subst ho;have hge:l.length≤i:=Nat.le_of_not_lt hlt;refine ⟨⟨0,[],0,[]⟩,?_⟩;refine CS.bI Tryz.func212 rfl Tryz.ntmps212 rfl ?_
  simp [hge,dX]
 have hge: ¬l.length≤i:=by omega
 rw [d7a hlt] at ho;obtain ⟨t,ht⟩:∃t,l[i]=t:=⟨_,rfl⟩;rw [ht] at ho;simp only at ho;have hi1:=bO (show i<9223372036854775807 by omega);have hi2:IntKind.i64.wrap ((i:Int)+2)=((i+2:Nat):Int):=by rw [wrap64 (by omega)];simp
 have hi3:IntKind.i64.wrap ((i:Int)+3)=((i+3:Nat):Int):=by rw [wrap64 (by omega)];simp
 have hi4:IntKind.i64.wrap ((i:Int)+4)=((i+4:Nat):Int):=by rw [wrap64 (by omega)];simp
 by_cases k3:t.kind=3
 ·rw [if_pos k3] at ho;subst ho;refine ⟨⟨0,[],0,[]⟩,?_⟩;refine CS.bI Tryz.func212 rfl Tryz.ntmps212 rfl ?_
  simp [hge,hlt,ht,cJ];simp [k3,hi1,dX]
 rw [if_neg k3] at ho;by_cases kt:t.kind=1∧t.text=[116,114,117,101]
 ·rw [if_pos kt] at ho;subst ho;refine ⟨⟨0,[],0,[]⟩,?_⟩;refine CS.bI Tryz.func212 rfl Tryz.ntmps212 rfl ?_
  simp [hge,hlt,ht,cJ];simp [kt.1,kt.2,hi1,dX]
 rw [if_neg kt] at ho;by_cases kf:t.kind=1∧t.text=[102,97,108,115,101]
 ·rw [if_pos kf] at ho;subst ho;refine ⟨⟨0,[],0,[]⟩,?_⟩;refine CS.bI Tryz.func212 rfl Tryz.ntmps212 rfl ?_
  simp [hge,hlt,ht,cJ];simp [kf.1,kf.2,hi1,dX]
 rw [if_neg kf] at ho;have hk:t.kind=1→ ¬t.text=[116,114,117,101]∧ ¬t.text=[102,97,108,115,101]:=fun h=>⟨fun e=>kt ⟨h,e⟩,fun e=>kf ⟨h,e⟩⟩
 have hsq:=mS (G:=G) l i [63] (by omega);have hsp:=mS (G:=G) l i [40] (by omega);cases hq:jC l i [63] with
 |true=>
  rw [if_pos hq] at ho;rw [hq] at hsq;have hnm:=b6I (G:=G) hG l (i+1) hl hlt;cases hn:pY aX l (i+1) with
  |none=>
   rw [hn] at ho hnm;subst ho;refine ⟨⟨0,[],0,[]⟩,?_⟩;refine CS.bI Tryz.func212 rfl Tryz.ntmps212 rfl ?_
   simp [hge,hlt,ht,cJ];simp [k3];rcases Classical.em (t.kind=1) with k1|k1
   case' inl=>simp [k1,(hk k1).1,(hk k1).2]
   case' inr=>simp [k1]
   all_goals
    refine aH.mk bM hsq ?_
    simp [hi1];refine aH.mk (hkl:=vW _) a2C hnm ?_
    simp [a6a,dX]
  |some q=>
   obtain ⟨s,n⟩:=q;have hadv:=qZ hn;rw [hn] at ho hnm;simp only at ho;have hli:=b6J (G:=G) hl hA n (b2p hf (by omega) hadv.2);cases hL:pH (mR aX l f) l n with
   |none=>
    rw [hL] at ho hli;subst ho;refine ⟨⟨5,s,0,[]⟩,?_⟩;refine CS.bI Tryz.func212 rfl Tryz.ntmps212 rfl ?_
    simp [hge,hlt,ht,cJ];simp [k3];rcases Classical.em (t.kind=1) with k1|k1
    case' inl=>simp [k1,(hk k1).1,(hk k1).2]
    case' inr=>simp [k1]
    all_goals
     refine aH.mk bM hsq ?_
     simp [hi1];refine aH.mk (hkl:=vW _) a2C hnm ?_
     simp [a6a];refine aH.mk (hkl:=a0v _) a6b hli ?_
     simp [b1f,dX]
   |some z=>
    obtain ⟨ks,m⟩:=z;rw [hL] at ho hli;subst ho;refine ⟨⟨0,[],0,[]⟩,?_⟩;refine CS.bI Tryz.func212 rfl Tryz.ntmps212 rfl ?_
    simp [hge,hlt,ht,cJ];simp [k3];rcases Classical.em (t.kind=1) with k1|k1
    case' inl=>simp [k1,(hk k1).1,(hk k1).2]
    case' inr=>simp [k1]
    all_goals
     refine aH.mk bM hsq ?_
     simp [hi1];refine aH.mk (hkl:=vW _) a2C hnm ?_
     simp [a6a];refine aH.mk (hkl:=a0v _) a6b hli ?_
     simp [b1f,dX]
 |false=>
 rw [if_neg (by simp [hq])] at ho;rw [hq] at hsq;cases hp:jC l i [40] with
 |false=>
  rw [if_neg (by simp [hp])] at ho;rw [hp] at hsp;have hnd:=c1Y hG hl hA i hi hf;have hx:b4e (mR aX l f) l i=o:=ho;rw [hx] at hnd;refine ⟨⟨0,[],0,[]⟩,?_⟩;refine CS.bI Tryz.func212 rfl Tryz.ntmps212 rfl ?_
  simp [hge,hlt,ht,cJ];simp [k3];rcases Classical.em (t.kind=1) with k1|k1
  case' inl=>simp [k1,(hk k1).1,(hk k1).2]
  case' inr=>simp [k1]
  all_goals
   refine aH.mk bM hsq ?_
   simp;refine aH.mk bM hsp ?_
   simp;refine aH.mk (hkl:=bU _ _) c1X hnd ?_
   cases o with
   |none=>simp [dX]
   |some q=>obtain ⟨p,n⟩:=q;simp [dX]
 |true=>
 rw [if_pos hp] at ho;rw [hp] at hsp;have hsm:=mS (G:=G) l (i+1) [45] (by omega);have hsc:=mS (G:=G) l (i+3) [41] (by omega);by_cases hneg:jC l (i+1) [45]=true∧kdB l (i+2) 3=true∧jC l (i+3) [41]=true
 ·rw [if_pos hneg] at ho;subst ho;obtain ⟨n1,n2,n3⟩:=hneg;have h2:=b8I n2;rw [b4a h2] at n2;rw [d3v h2];obtain ⟨u,hu⟩:∃u,l[i+2]=u:=⟨_,rfl⟩;rw [hu] at n2 ⊢;have ku:u.kind=3:=of_decide_eq_true n2;rw [n1] at hsm;rw [n3] at hsc;have h2':(i:Int)+2<(l.length:Int):=by omega
  have hnn:(0:Int)≤(i:Int)+2:=by omega
  have htn:((i:Int)+2).toNat=i+2:=by omega
  refine ⟨⟨0,[],0,[]⟩,?_⟩;refine CS.bI Tryz.func212 rfl Tryz.ntmps212 rfl ?_
  simp [hge,hlt,ht,cJ];simp [k3];rcases Classical.em (t.kind=1) with k1|k1
  case' inl=>simp [k1,(hk k1).1,(hk k1).2]
  case' inr=>simp [k1]
  all_goals
   refine aH.mk bM hsq ?_
   simp;refine aH.mk bM hsp ?_
   simp [hi1];refine aH.mk bM hsm ?_
   simp [hi2,h2,h2',hnn,htn,hu,ku,cJ,hi3];refine aH.mk bM hsc ?_
   simp [hi2,h2,h2',hnn,htn,hu,ku,cJ,hi4,dX]
 ·rw [if_neg hneg] at ho;obtain ⟨jp,hat⟩:=hA (i+1) 1 (by omega) (by omega) (by omega) hlt (by have:=vV (L:=l.length) (i:=i) (i':=i+1) (k:=10) (k':=1) (by omega) hlt (by omega) (by omega);omega)
  refine ⟨⟨0,[],0,[]⟩,?_⟩;have tail:∀n:Nat,CS Tryz.prog G 209 [rdD l,.int .i64 n,.str [41]] (.d (.bool (jC l n [41]))) none:=fun n=>mS (G:=G) l n [41] (by omega)
  cases n1:jC l (i+1) [45] with
  |false=>
   rw [n1] at hsm;refine CS.bI Tryz.func212 rfl Tryz.ntmps212 rfl ?_
   simp [hge,hlt,ht,cJ];simp [k3];rcases Classical.em (t.kind=1) with k1|k1
   case' inl=>simp [k1,(hk k1).1,(hk k1).2]
   case' inr=>simp [k1]
   all_goals
    refine aH.mk bM hsq ?_
    simp;refine aH.mk bM hsp ?_
    simp [hi1];refine aH.mk bM hsm ?_
    simp [hi1];refine aH.mk (hkl:=bU _ _) sL hat ?_
    cases hr:mR aX l f (i+1) 1 with
    |none=>rw [hr] at ho;subst ho;simp [dX]
    |some q=>
     obtain ⟨p,n⟩:=q;have hadv:=pI aX l f _ _ _ _ hr;have hcs:=tail n;rw [hr] at ho;simp only at ho;simp [dX];refine aH.mk bM hcs ?_
     cases hc:jC l n [41] with
     |false=>rw [if_neg (by simp [hc])] at ho;subst ho;simp [dX]
     |true=>rw [if_pos hc] at ho;subst ho;have hn1:=bO (show n<9223372036854775807 by omega);simp [hn1,dX]
  |true=>
  rw [n1] at hsm;have hnn:(0:Int)≤(i:Int)+2:=by omega
  have htn:((i:Int)+2).toNat=i+2:=by omega
  by_cases h2:i+2<l.length;rotate_left
  ·have h2': ¬(i:Int)+2<(l.length:Int):=by omega
   refine CS.bI Tryz.func212 rfl Tryz.ntmps212 rfl ?_
   simp [hge,hlt,ht,cJ];simp [k3];rcases Classical.em (t.kind=1) with k1|k1
   case' inl=>simp [k1,(hk k1).1,(hk k1).2]
   case' inr=>simp [k1]
   all_goals
    refine aH.mk bM hsq ?_
    simp;refine aH.mk bM hsp ?_
    simp [hi1];refine aH.mk bM hsm ?_
    simp [hi1,hi2,h2'];refine aH.mk (hkl:=bU _ _) sL hat ?_
    cases hr:mR aX l f (i+1) 1 with
    |none=>rw [hr] at ho;subst ho;simp [dX]
    |some q=>
     obtain ⟨p,n⟩:=q;have hadv:=pI aX l f _ _ _ _ hr;have hcs:=tail n;rw [hr] at ho;simp only at ho;simp [dX];refine aH.mk bM hcs ?_
     cases hc:jC l n [41] with
     |false=>rw [if_neg (by simp [hc])] at ho;subst ho;simp [dX]
     |true=>rw [if_pos hc] at ho;subst ho;have hn1:=bO (show n<9223372036854775807 by omega);simp [hn1,dX]
  have h2':(i:Int)+2<(l.length:Int):=by omega
  obtain ⟨u,hu⟩:∃u,l[i+2]=u:=⟨_,rfl⟩;by_cases ku:u.kind=3;rotate_left
  ·skip
   refine CS.bI Tryz.func212 rfl Tryz.ntmps212 rfl ?_
   simp [hge,hlt,ht,cJ];simp [k3];rcases Classical.em (t.kind=1) with k1|k1
   case' inl=>simp [k1,(hk k1).1,(hk k1).2]
   case' inr=>simp [k1]
   all_goals
    refine aH.mk bM hsq ?_
    simp;refine aH.mk bM hsp ?_
    simp [hi1];refine aH.mk bM hsm ?_
    simp [hi1,hi2,h2,h2',hnn,htn,hu,ku,cJ];refine aH.mk (hkl:=bU _ _) sL hat ?_
    cases hr:mR aX l f (i+1) 1 with
    |none=>rw [hr] at ho;subst ho;simp [dX]
    |some q=>
     obtain ⟨p,n⟩:=q;have hadv:=pI aX l f _ _ _ _ hr;have hcs:=tail n;rw [hr] at ho;simp only at ho;simp [dX];refine aH.mk bM hcs ?_
     cases hc:jC l n [41] with
     |false=>rw [if_neg (by simp [hc])] at ho;subst ho;simp [dX]
     |true=>rw [if_pos hc] at ho;subst ho;have hn1:=bO (show n<9223372036854775807 by omega);simp [hn1,dX]
  have n3:jC l (i+3) [41]=false:=by
   cases n3:jC l (i+3) [41] with
   |false=>rfl
   |true=>exact absurd ⟨n1,by rw [b4a h2,hu];simp [ku],n3⟩ hneg
  rw [n3] at hsc;refine CS.bI Tryz.func212 rfl Tryz.ntmps212 rfl ?_
  simp [hge,hlt,ht,cJ];simp [k3];rcases Classical.em (t.kind=1) with k1|k1
  case' inl=>simp [k1,(hk k1).1,(hk k1).2]
  case' inr=>simp [k1]
  all_goals
   refine aH.mk bM hsq ?_
   simp;refine aH.mk bM hsp ?_
   simp [hi1];refine aH.mk bM hsm ?_
   simp [hi2,h2,h2',hnn,htn,hu,ku,cJ,hi3];refine aH.mk bM hsc ?_
   simp [hi1];refine aH.mk (hkl:=bU _ _) sL hat ?_
   cases hr:mR aX l f (i+1) 1 with
   |none=>rw [hr] at ho;subst ho;simp [dX]
   |some q=>
    obtain ⟨p,n⟩:=q;have hadv:=pI aX l f _ _ _ _ hr;have hcs:=tail n;rw [hr] at ho;simp only at ho;simp [dX];refine aH.mk bM hcs ?_
    cases hc:jC l n [41] with
    |false=>rw [if_neg (by simp [hc])] at ho;subst ho;simp [dX]
    |true=>rw [if_pos hc] at ho;subst ho;have hn1:=bO (show n<9223372036854775807 by omega);simp [hn1,dX]
end
end Go.Proofs.YtjpodcmhcenjjaaGreatDoor
end
end
section
section
namespace Go.Proofs.YtjpodcmhcenjjaaGreatDoor
def Nod (rd:Nat→Nat→Option (Pr×Nat)):Prop:=∀i k p n,rd i k=some (p,n)→dF p+i≤n
theorem b8V (op:Int)(a b:Pr):dF (tw op a b)=dF a+dF b+1:=by simp [tw,dF,eE];omega
theorem b9Y (op:Int)(a:Pr):dF ⟨op,[],0,[a]⟩=dF a+1:=by simp [dF,eE];omega
theorem a1Z (op:Int)(s:List UInt8)(n:Int):dF ⟨op,s,n,[]⟩=1:=by simp [dF,eE]
theorem b9Z (op:Int)(s:List UInt8)(ks:List Pr):dF ⟨op,s,0,ks⟩=eE ks+1:=by simp [dF];omega
section
variable {kw:List UInt8→Bool} {rd:Nat→Nat→Option (Pr×Nat)} {l:List Tok}
theorem b2q (h:Nod rd)(k:Nat):∀(g:Nat) (a:Pr) (n i:Nat),dF a+i≤n→dF (dO rd l k g a n).1+i≤(dO rd l k g a n).2
 |0,a,n,i,hn=>hn
 |g+1,a,n,i,hn=>by
  rw [dO];split
  ·exact hn
  ·split
   ·exact hn
   ·rename_i op _ _ b m hr;have h1:=h _ _ _ _ hr;exact b2q h k g (tw op a b) m i (by rw [b8V];omega)
theorem b6N (h:Nod rd):∀(g i:Nat) (acc ks:List Pr) (m b:Nat),eE acc+b≤i→gJ rd l g i acc=some (ks,m)→eE ks+b+1≤m
 |0,_,_,_,_,_,_,hr=>by cases hr
 |g+1,i,acc,ks,m,b,hb,hr=>by
  rw [gJ] at hr;split at hr
  ·cases hr
  ·rename_i p n hp;have h1:=h _ _ _ _ hp;have h2:eE (acc++[p])=eE acc+dF p:=by rw [a5M];simp [eE]
   split at hr
   ·cases hr;omega
   ·split at hr
    ·exact b6N h g n _ ks m b (by omega) hr
    ·cases hr
theorem b6O (h:Nod rd){i m:Nat}{ks:List Pr}(hr:pH rd l i=some (ks,m)):eE ks+i+1≤m:=by
 unfold pH at hr;split at hr
 ·exact b6N h _ _ _ _ _ _ (by simp [eE]) hr
 ·cases hr
theorem c4W (h:Nod rd){i n:Nat}{p:Pr}(hr:uO kw rd l i=some (p,n)):dF p+i≤n:=by
 unfold uO at hr;split at hr
 ·cases hr
 ·split at hr
  ·cases hr;rw [a1Z];omega
  split at hr
  ·cases hr;rw [a1Z];omega
  split at hr
  ·cases hr;rw [a1Z];omega
  split at hr
  ·split at hr
   ·cases hr
   ·rename_i s m hn;have h1:=qZ hn;rw [d6V] at hr;obtain ⟨⟨ks,q⟩,hq,he⟩:=hr;have h2:=b6O h hq;cases he;rw [b9Z];simp only at *;omega
  split at hr
  ·split at hr
   ·cases hr;rw [a1Z];omega
   ·split at hr
    ·cases hr
    ·rename_i q m hq;have h1:=h _ _ _ _ hq;split at hr
     ·cases hr;omega
     ·cases hr
  ·split at hr
   ·cases hr
   ·rename_i s m hn;have h1:=qZ hn;split at hr
    ·rename_i ks q hq;have h2:=b6O h hq;cases hr;rw [b9Z];omega
    ·cases hr;rw [a1Z];omega
theorem d3y (h:Nod rd){i k n:Nat}{p:Pr}(hr:atG kw rd l i k=some (p,n)):dF p+i≤n:=by
 unfold atG at hr;split at hr
 ·unfold a7A at hr;split at hr
  ·cases hr
  ·rename_i a m ha;have h1:=h _ _ _ _ ha;split at hr
   ·split at hr
    ·rename_i b q hb;have h2:=h _ _ _ _ hb;cases hr;rw [b8V];omega
    ·cases hr;exact h1
   ·cases hr;exact h1
 ·split at hr
  ·rw [d6V] at hr;obtain ⟨⟨a,m⟩,ha,he⟩:=hr;have h1:=h _ _ _ _ ha;cases he;rw [b9Y];simp only;omega
  ·exact h _ _ _ _ hr
 ·unfold a0i at hr;split at hr
  ·cases hr
  ·rename_i a m ha;have h1:=h _ _ _ _ ha;split at hr
   ·cases hr;exact h1
   ·split at hr
    ·cases hr;exact h1
    ·rename_i b q hb;have h2:=h _ _ _ _ hb;cases hr;split<;>rw [b8V]<;>omega
 ·split at hr
  ·rw [d6V] at hr;obtain ⟨⟨a,m⟩,ha,he⟩:=hr;have h1:=h _ _ _ _ ha;cases he;rw [b9Y];simp only;omega
  ·exact h _ _ _ _ hr
 ·exact c4W h hr
 ·rw [d6V] at hr;obtain ⟨⟨a,m⟩,ha,he⟩:=hr;have h1:=h _ _ _ _ ha;have h2:=b2q (l:=l) h k l.length a m i h1;simp only at he;rw [he] at h2;exact h2
end
theorem b4f (kw:List UInt8→Bool)(l:List Tok):∀f,Nod (mR kw l f)
 |0=>fun _ _ _ _ h=>by cases h
 |f+1=>fun _ _ _ _ h=>d3y (b4f kw l f) h
end Go.Proofs.YtjpodcmhcenjjaaGreatDoor
end
section
namespace Go.Proofs.YtjpodcmhcenjjaaGreatDoor
theorem c4X (s:List UInt8):(pD s).length≤s.length:=by
 unfold pD;cases h:eN.find? fun t=>t.isPrefixOf s with
 |none=>simp
 |some t=>have h1:t.isPrefixOf s=true:=List.find?_some (p:=fun t:List UInt8=>t.isPrefixOf s) h;exact (List.isPrefixOf_iff_prefix.1 h1).length_le
theorem c1Z (num:List UInt8→Int×Bool)(c:UInt8)(r:List UInt8):(firstT num (c::r)).2.1.length≤r.length+1:=by
 have h1:∀p:UInt8→Bool,((c::r).takeWhile p).length≤r.length+1:=fun p=>(List.takeWhile_sublist p).length_le
 have h2:(pD (c::r)).length≤r.length+1:=c4X (c::r)
 show (if smU c then _ else _:Int×List UInt8×Int×Bool).2.1.length≤_
 split
 ·exact h1 _
 split
 ·exact h1 _
 split
 ·exact h1 _
 split
 ·simp
 ·exact h2
theorem tM (num:List UInt8→Int×Bool):∀(s:List UInt8) (k:Nat) (ln:Int) (cm:Bool) (l:List Tok),gS num s k ln cm= .ok l→1≤l.length∧l.length≤s.length+1∧txS l≤2*(s.length-k)+1
 |[],k,ln,cm,l,h=>by cases k<;>(simp [gS] at h;subst h;simp [txS])
 |c::r,k+1,ln,cm,l,h=>by rw [gS] at h;obtain ⟨h1,h2,h3⟩:=tM num r k ln cm l h;simp only [List.length_cons];omega
 |c::r,0,ln,cm,l,h=>by
  rw [gS] at h;simp only [List.length_cons];split at h
  ·obtain ⟨h1,h2,h3⟩:=tM num r 0 (ln+1) false l h;omega
  split at h
  ·obtain ⟨h1,h2,h3⟩:=tM num r 0 ln cm l h;omega
  split at h
  ·obtain ⟨h1,h2,h3⟩:=tM num r 0 ln true l h;omega
  split at h
  ·generalize hT:(firstT num (c::r)).2.1=T at h;split at h
   ·rename_i l' hl';obtain ⟨h1,h2,h3⟩:=tM num r (T.length-1) ln false l' hl';cases h;have hTl:T.length≤r.length+1:=by rw [← hT];exact c1Z num c r
    simp only [List.length_cons,txS];omega
   ·cases h
  ·cases h
end Go.Proofs.YtjpodcmhcenjjaaGreatDoor
end
section
namespace Go.Proofs.YtjpodcmhcenjjaaGreatDoor
open Go Go.VM
variable {G:GT}
theorem b0c (hG:G 1=some dV){l:List Tok}(hl:a1X l):∀f,AtC G l f∧CmC G l f∧PrC G l f
 |0=>⟨fun i k _ h9 _ hi h=>by unfold mu at h;omega,fun i hi h=>by unfold mu at h;omega,fun i hi h=>by unfold mu at h;omega⟩
 |f+1=>by obtain ⟨hA,hC,hP⟩:=b0c hG hl f;exact ⟨d5n hl hA hC hP,fun i hi h=>b6L hl hA i hi h,b8U hG hl hA⟩
def a7i (l:List Tok):Option (Pr×Nat):=mR aX l (mu l.length 0 1) 0 1
theorem d3z (hG:G 1=some dV){l:List Tok}(hl:a1X l):∃j,CS Tryz.prog G 198 [rdD l,.int .i64 0,.int .i64 1] (dX (a7i l) j) none:=
 (b0c hG hl _).1 0 1 (by omega) (by omega) (by omega) (by omega) (d7m _)
theorem a6c {l:List Tok}{p:Pr}{n:Nat}(h:a7i l=some (p,n)):0<n∧n≤l.length:=pI aX l _ _ _ _ _ h
def b6P (l:List Tok):DV:=match a7i l with
 |none=> .cM [.agg (prD ⟨0,[],0,[]⟩),.int .i64 0,.int .i64 14]
 |some (p,n)=>if a5R p=0 then .cM [.agg (prD p),.int .i64 n,.int .i64 0] else .cM [.agg (prD ⟨0,[],0,[]⟩),.int .i64 0,.int .i64 (a5R p)]
theorem a5m:VM.Enters Tryz.prog 186:=VM.Enters.mk Tryz.func186 rfl
theorem a6d (hG:G 1=some dV)(l:List Tok)(hl:a1X l)(hn:∀p n,a7i l=some (p,n)→dF p≤1000000):CS Tryz.prog G 186 [.sl (l.map cJ)] (b6P l) none:=by
 obtain ⟨j,hat⟩:=d3z hG hl;obtain ⟨o,ho⟩:∃o,a7i l=o:=⟨_,rfl⟩;rw [ho] at hat hn;unfold b6P;rw [ho];refine CS.bI Tryz.func186 rfl Tryz.ntmps186 rfl ?_
 simp;refine aH.mk (hkl:=bU _ _) sL hat ?_
 cases o with
 |none=>simp [dX]
 |some q=>
  obtain ⟨p,n⟩:=q;have hck:=b0S hG p (hn p n rfl);simp [dX];refine aH.mk a9o hck ?_
  by_cases h0:a5R p=0
  ·simp [h0]
  ·simp [h0]
end Go.Proofs.YtjpodcmhcenjjaaGreatDoor
end
section
namespace Go.Proofs.YtjpodcmhcenjjaaGreatDoor
open Go Go.VM
variable {G:GT}
theorem c4Y {s:List UInt8}{l:List Tok}(h:gS kV s 0 1 false= .ok l)(hs:s.length≤40000):a1X l∧1≤l.length:=by obtain ⟨h1,h2,h3⟩:=tM kV s 0 1 false l h;exact ⟨⟨by omega,by omega⟩,h1⟩
theorem c2a {l:List Tok}{p:Pr}{n:Nat}(h:a7i l=some (p,n)):dF p≤l.length:=by have h1:=b4f aX l _ _ _ _ _ h;have h2:=a6c h;omega
end Go.Proofs.YtjpodcmhcenjjaaGreatDoor
end
end
namespace Go.Proofs.YtjpodcmhcenjjaaGreatDoor
section
def uP (l:List Tok)(i e:Nat):kY Pr:=match a7i ((l.take e).drop (min i e)) with
 |none=> .bad (aJ l i).line 14
 |some (p,n)=>if a5R p=0 then .ok p (i+n) else .bad (aJ l i).line (a5R p)
end
section
open Go Go.VM
variable {G:GT}
theorem b0d (a b:List Tok):txS (a++b)=txS a+txS b:=by
 induction a with
 |nil=>simp [txS]
 |cons t r ih=>simp only [List.cons_append,txS,ih];omega
theorem c4Z {l:List Tok}(h:a1X l)(e k:Nat):a1X ((l.take e).drop k):=by have h1:=b0d (l.take e) (l.drop e);rw [List.take_append_drop] at h1;have h2:=b0d ((l.take e).take k) ((l.take e).drop k);rw [List.take_append_drop] at h2;refine ⟨?_,by have:=h.2;omega⟩;have:=h.1;simp;omega
theorem b1g (l:List Tok):pA (b6P l)=true:=by
 unfold b6P;split
 ·rfl
 ·split<;>rfl
theorem b4g (hG:G 1=some dV){l:List Tok}(hok:a1X l)(i e:Nat)(hi:i<l.length)(he:e≤l.length):pF G 155 [.int .i64 e] l i (uP l i e) d3h:=by
 have hl:=hok.1;obtain ⟨k,hk⟩:∃k,min i e=k:=⟨_,rfl⟩;have hke:k≤e:=by omega
 have hmin:min (i:Int) (e:Int)=(k:Int):=by omega
 obtain ⟨L,hL⟩:∃L,(l.take e).drop k=L:=⟨_,rfl⟩;have hokL:a1X L:=by rw [← hL];exact c4Z hok e k
 have hrd:=a6d (G:=G) hG L hokL (fun p n h=>Nat.le_trans (c2a h) (by have:=hokL.1;omega));have hLm:((l.map cJ).take e).drop k=L.map cJ:=by rw [← hL,List.map_drop,List.map_take]
 rw [← hLm] at hrd;have hsel:(if e<i then (e:Int) else (i:Int))=(k:Int):=by split<;>omega
 have ht:=cI (G:=G) l i i 0 (by omega) (by omega) (by intro e;subst e;simp at hi) (by omega);refine kF.a2W Tryz.func155 rfl Tryz.ntmps155 rfl (by simp) ?_
 intro Q Q0;unfold uP at Q0;rw [hk,hL] at Q0;refine SW.oW (SW.xk ?_);simp;refine SW.oW (SW.vk ?_);simp [hmin,hke,he,hsel,a1R];refine ⟨mA.mk (by kernel_rfl),?_⟩;refine aH.mk (hkl:=b1g L) a5m hrd ?_
 unfold b6P;cases hR:a7i L with
 |none=>
  rw [hR] at Q0;simp;refine SW.oW (SW.oW (SW.xk ?_));simp;refine SW.a3c rfl ?_
  refine SW.lw (LW.app 5 ?_);simp;refine b3y (i:=i) (ds:=[.int .i64 0]) bP ht (by simp) (by simp) (by simp) ?_
  have hb:=fun s=>Q0.bad (aJ l i).line 14 s rfl
  simp [cJ];refine LW.b8e (td:=_) (n:=(aJ l i).line) (e:=14) rfl rfl (by simp) (by simp) ?_
  exact hb _
 |some q=>
  obtain ⟨p,n⟩:=q;have hn:=a6c hR;have hLl:L.length≤e-k:=by rw [← hL];simp;omega
  rw [hR] at Q0;simp only at Q0 ⊢;by_cases hc:a5R p=0
  ·have Q0:=Q0.ifp hc;have hw:IntKind.i64.wrap ((i:Int)+(n:Int))=((i+n:Nat):Int):=by rw [wrap64 (by omega)];omega
   rw [if_pos hc];simp;refine SW.xk ?_
   simp [hw];exact Q0.ok p (i+n) _ _ rfl (.inr rfl) (by simp)
  ·have Q0:=Q0.xF hc;rw [if_neg hc];simp;refine SW.oW (SW.oW (SW.xk ?_));simp [hc];refine SW.a3c rfl ?_
   refine SW.lw (LW.app 5 ?_);simp;refine b3y (i:=i) (ds:=[.int .i64 0]) bP ht (by simp) (by simp) (by simp) ?_
   have hb:=fun s=>Q0.bad (aJ l i).line (a5R p) s rfl
   simp [cJ];refine LW.b8e (td:=_) (n:=(aJ l i).line) (e:=a5R p) rfl rfl (by simp) (by simp) ?_
   exact hb _
end
section
def a5n (l:List Tok):Prop:=∀t,l[l.length-1]? =some t→t.kind=0
theorem a6e {l:List Tok}(hE:a5n l){i:Nat}{t:Tok}(h:l[i]? =some t)(hk:t.kind≠0):i+1<l.length:=by
 have hi:=(d6X.1 h).1;rcases Nat.lt_or_ge (i+1) l.length with h1|h1
 ·exact h1
 ·have:l.length-1=i:=by omega
  exact (hk (hE t (by rw [this];exact h))).elim
theorem a7P {l:List Tok}(hE:a5n l){i:Nat}{s:List UInt8}(h:jC l i s=true):i+1<l.length:=by
 unfold jC at h;split at h
 ·rename_i t ht;simp only [d6W,decide_eq_true_eq] at h;exact a6e hE ht (by omega)
 ·cases h
theorem c0a {l:List Tok}(hE:a5n l){i:Nat}{k:Int}(h:kdB l i k=true)(hk:k≠0:=by omega):i+1<l.length:=by
 unfold kdB at h;split at h
 ·rename_i t ht;simp only [decide_eq_true_eq] at h;exact a6e hE ht (by omega)
 ·cases h
theorem b4h {l:List Tok}(hE:a5n l){i:Nat}(h:wtB l i=true):i+1<l.length:=by unfold wtB at h;rw [d7i] at h;rcases h with h|h<;>exact c0a hE h
theorem a0w {l:List Tok}(hE:a5n l):∀(f i:Nat) (s:List UInt8),i<l.length→i≤(mQ l f i s).2∧(mQ l f i s).2<l.length
 |0,i,s,h=>⟨d7m _,h⟩
 |f+1,i,s,h=>by
  rw [mQ];split
  ·rename_i h1;have:=a7P hE h1;split
   ·rename_i h2;have:=b4h hE h2;have:=a0w hE (l:=l) f (i+2) (s++[46]++txA l (i+1)) (by omega);omega
   ·split
    ·rename_i h3;have:=c0a hE h3;split
     ·rename_i h4;have:=b4h hE h4;have:=a0w hE (l:=l) f (i+3) (s++[46]++txA l (i+1)++txA l (i+2)) (by omega);omega
     ·have:=a0w hE (l:=l) f (i+2) (s++[46]++txA l (i+1)) (by omega);omega
    ·exact ⟨d7m _,h⟩
  ·exact ⟨d7m _,h⟩
theorem b2r {kw:List UInt8→Bool}{l:List Tok}(hE:a5n l){i n:Nat}{s:List UInt8}(h:pY kw l i=some (s,n)):i<n∧n<l.length:=by
 unfold pY at h;split at h
 ·rename_i hb;unfold a9W at hb;rw [d6W] at hb;have h1:=b4h hE hb.1;have h2:=a0w hE (l:=l) l.length (i+1) (txA l i) (by omega);rw [d7c] at h;rw [h] at h2;simp only at h2;omega
 ·cases h
def c2b (l:List Tok)(rd:Nat→Nat→Option (Pr×Nat)):Prop:=∀i k p n,rd i k=some (p,n)→i<n∧n<l.length
section
variable {kw:List UInt8→Bool} {rd rd':Nat→Nat→Option (Pr×Nat)} {l:List Tok}
theorem b0e (hE:a5n l)(h:c2b l rd)(k:Nat):∀(g:Nat) (a:Pr) (n:Nat),n<l.length→n≤(dO rd l k g a n).2∧(dO rd l k g a n).2<l.length
 |0,a,n,hn=>⟨d7m _,hn⟩
 |g+1,a,n,hn=>by
  rw [dO];split
  ·exact ⟨d7m _,hn⟩
  ·split
   ·exact ⟨d7m _,hn⟩
   ·rename_i op _ _ b m hr;have h1:=h _ _ _ _ hr;have h2:=b0e hE h k g (tw op a b) m h1.2;omega
theorem b2s (hE:a5n l)(h:c2b l rd):∀(g i:Nat) (acc ks:List Pr) (m:Nat),gJ rd l g i acc=some (ks,m)→i<m∧m<l.length
 |0,_,_,_,_,hr=>by cases hr
 |g+1,i,acc,ks,m,hr=>by
  rw [gJ] at hr;split at hr
  ·cases hr
  ·rename_i p n hp;have h1:=h _ _ _ _ hp;split at hr
   ·rename_i hs;have:=a7P hE hs;cases hr;omega
   ·split at hr
    ·have:=b2s hE h g n _ ks m hr;omega
    ·cases hr
theorem b2t (hE:a5n l)(h:c2b l rd){i m:Nat}{ks:List Pr}(hr:pH rd l i=some (ks,m)):i<m∧m<l.length:=by
 unfold pH at hr;split at hr
 ·exact b2s hE h _ _ _ _ _ hr
 ·cases hr
theorem c2c (hE:a5n l)(h:c2b l rd){i n:Nat}{p:Pr}(hr:uO kw rd l i=some (p,n)):i<n∧n<l.length:=by
 unfold uO at hr;split at hr
 ·cases hr
 ·rename_i t ht;have hil:=(d6X.1 ht).1;have hnx:∀x:Int,x≠0→t.kind=x→i+1<l.length:=fun x hx hk=>a6e hE ht (by omega)
  split at hr
  ·rename_i hk;have:=hnx 3 (by omega) hk;cases hr;omega
  split at hr
  ·rename_i hk;have:=hnx 1 (by omega) hk.1;cases hr;omega
  split at hr
  ·rename_i hk;have:=hnx 1 (by omega) hk.1;cases hr;omega
  split at hr
  ·split at hr
   ·cases hr
   ·rename_i s m hn;have h1:=b2r hE hn;rw [d6V] at hr;obtain ⟨⟨ks,q⟩,hq,he⟩:=hr;have h2:=b2t hE h hq;cases he;simp only at *;omega
  split at hr
  ·split at hr
   ·rename_i hc;have:=a7P hE hc.2.2;cases hr;omega
   ·split at hr
    ·cases hr
    ·rename_i q m hq;have h1:=h _ _ _ _ hq;split at hr
     ·rename_i hs;have:=a7P hE hs;cases hr;omega
     ·cases hr
  ·split at hr
   ·cases hr
   ·rename_i s m hn;have h1:=b2r hE hn;split at hr
    ·rename_i ks q hq;have h2:=b2t hE h hq;cases hr;omega
    ·cases hr;omega
theorem c9u (hE:a5n l)(h:c2b l rd){i k n:Nat}{p:Pr}(hr:atG kw rd l i k=some (p,n)):i<n∧n<l.length:=by
 unfold atG at hr;split at hr
 ·unfold a7A at hr;split at hr
  ·cases hr
  ·rename_i a m ha;have h1:=h _ _ _ _ ha;split at hr
   ·split at hr
    ·rename_i b q hb;have h2:=h _ _ _ _ hb;cases hr;omega
    ·cases hr;exact h1
   ·cases hr;exact h1
 ·split at hr
  ·rw [d6V] at hr;obtain ⟨⟨a,m⟩,ha,he⟩:=hr;have h1:=h _ _ _ _ ha;cases he;simp only;omega
  ·exact h _ _ _ _ hr
 ·unfold a0i at hr;split at hr
  ·cases hr
  ·rename_i a m ha;have h1:=h _ _ _ _ ha;split at hr
   ·cases hr;exact h1
   ·split at hr
    ·cases hr;exact h1
    ·rename_i b q hb;have h2:=h _ _ _ _ hb;cases hr;omega
 ·split at hr
  ·rw [d6V] at hr;obtain ⟨⟨a,m⟩,ha,he⟩:=hr;have h1:=h _ _ _ _ ha;cases he;simp only;omega
  ·exact h _ _ _ _ hr
 ·exact c2c hE h hr
 ·rw [d6V] at hr;obtain ⟨⟨a,m⟩,ha,he⟩:=hr;have h1:=h _ _ _ _ ha;have h2:=b0e (k:=k) hE h l.length a m h1.2;have h3:(dO rd l k l.length a m).2=n:=by rw [he]
  omega
end
theorem b6Q (kw:List UInt8→Bool)(l:List Tok)(hE:a5n l):∀f,c2b l (mR kw l f)
 |0=>fun _ _ _ _ h=>by cases h
 |f+1=>fun _ _ _ _ h=>c9u hE (b6Q kw l hE f) h
end
section
theorem b4i {l:List Tok}(hE:a5n l)(e i:Nat)(p:Pr)(j:Nat)(hi:i<l.length)(h:uP l i e= .ok p j):i≤j∧j<l.length:=by
 unfold uP at h;split at h
 ·cases h
 ·rename_i q n hr;split at h
  ·cases h;refine ⟨by omega,?_⟩;have h1:=a6c hr;rw [List.length_drop,List.length_take] at h1;rcases Nat.lt_or_ge e l.length with he|he
   ·omega
   ·have hmin:min i e=i:=by omega
    rw [hmin,List.take_of_length_le he] at hr;have hS:a5n (l.drop i):=fun t ht=>by rw [List.length_drop,d7p] at ht;exact hE t (by rw [show l.length-1=i+(l.length-i-1) by omega];exact ht)
    have h2:=(b6Q aX (l.drop i) hS _ _ _ _ _ hr).2;rw [List.length_drop] at h2;omega
  ·cases h
def dM {α:Type}(x:List Tok→aS α)(s:List UInt8):kY α:=if 40000<s.length then .bad 0 7 else match gS kV s 0 1 false with
 | .error n=> .bad n 14
 | .ok l=>match x l 0 with
  | .bad n e=> .bad n e
  | .ok a j=>match zE l j with
   | .bad n e=> .bad n e
   | .ok _ _=> .ok a j
theorem a2D {α:Type}{x:List Tok→aS α}{s:List UInt8}{a:α}{j:Nat}(h:dM x s= .ok a j): ¬40000<s.length∧∃l,gS kV s 0 1 false= .ok l∧x l 0= .ok a j∧(aJ l j).kind=0:=by
 unfold dM at h;split at h
 ·cases h
 ·rename_i hl;split at h
  ·cases h
  ·rename_i l hlx;split at h
   ·cases h
   ·rename_i b k hx;split at h
    ·cases h
    ·rename_i u m he;cases h;refine ⟨hl,l,hlx,hx,?_⟩;unfold zE at he;split at he
     ·assumption
     ·unfold cQ at he;cases he
theorem b6R {α:Type}{x:List Tok→aS α}{s:List UInt8}{a:α}{j:Nat}{l:List Tok}(hs: ¬40000<s.length)(hl:gS kV s 0 1 false= .ok l)(hx:x l 0= .ok a j)(he:(aJ l j).kind=0):dM x s= .ok a j:=by unfold dM;rw [if_neg hs,hl];simp only [hx];unfold zE;rw [if_pos he]
end
section
open Go Go.VM
variable {G:GT}
theorem c9v {p:Pr}(h:a5R p=0):p.op≠0:=by
 unfold a5R b3F at h;split at h
 ·cases h
 split at h
 ·cases h
 intro h0;have hn:b2e p=1:=by unfold b2e;rw [if_pos (by omega)]
 obtain ⟨op,nm,n,ks⟩:=p;simp [a0q,a0r,hn] at h
theorem b4j {num:List UInt8→Int×Bool}{l:List Tok}{ln:Int}(h:OkT num l ln):l≠[]∧∀t,l[l.length-1]? =some t→t.kind=0:=by
 induction h with
 |fin ln l hl=>exact ⟨by simp,fun t ht=>by simp at ht;subst ht;rfl⟩
 |cons t r ln h1 h2 h3 ih=>refine ⟨by simp,fun u hu=>ih.2 u ?_⟩;have:0<r.length:=List.length_pos_iff.2 ih.1;rw [List.length_cons,Nat.add_sub_cancel] at hu;rw [show r.length=(r.length-1)+1 by omega] at hu;simpa using hu
theorem c9w {l:List Tok}{ln:Int}(h:OkT kV l ln):∀t∈l,0≤t.n∧t.n≤1000000000000:=by
 induction h with
 |fin ln l hl=>intro t ht;simp at ht;subst ht;simp
 |cons t r ln h1 h2 h3 ih=>
  intro u hu;rcases List.mem_cons.1 hu with rfl|hu
  ·have hn:(firstT kV u.text).2.2.1=u.n:=by rw [h2]
   rw [← hn];have hb:∀s,0≤(kV s).1∧(kV s).1≤1000000000000:=fun s=>by
    unfold kV;split
    ·simp only;omega
    ·simp only;omega
   unfold firstT;split
   ·simp
   ·split
    ·simp
    ·split
     ·simp
     ·split
      ·exact hb _
      ·split<;>simp
  ·exact ih u hu
theorem c5a {l:List Tok}(h:l≠[])(i:Nat):aJ l i∈l:=by
 unfold aJ;split
 ·rename_i hi;rw [List.getD_eq_getElem?_getD,d7a hi];exact List.getElem_mem hi
 ·rw [List.getLastD_eq_getLast?,List.getLast?_eq_some_getLast h];exact List.getLast_mem h
theorem a6f (hG:G 1=some dV){s:List UInt8}{l:List Tok}(h:gS kV s 0 1 false= .ok l)(hs:s.length≤40000):kQ G uP l:=by
 have hok:=(c4Y h hs).1;have hO:=rC s 0 1 false l h;have hE:=b4j hO;refine ⟨hG,hok.1,⟨hE.1,?_⟩,fun i e hi he=>b4g hG hok i e hi he,fun e i p j hi hx=>b4i hE.2 e i p j hi hx,fun i e p j hi hx=>?_⟩
 ·have hpos:0<l.length:=List.length_pos_iff.2 hE.1;have hlt:l.length-1<l.length:=by omega
  refine hE.2 _ ?_
  unfold aJ;rw [if_pos hlt,List.getD_eq_getElem?_getD,d7a hlt]
  rfl
 ·unfold uP at hx;split at hx
  ·cases hx
  ·rename_i q n hr;split at hx
   ·rename_i hc;cases hx;have:=b4f aX _ _ _ _ _ _ hr;exact ⟨by omega,c9v hc⟩
   ·cases hx
theorem c2d {s:List UInt8}{l:List Tok}(h:gS kV s 0 1 false= .ok l):∀i, -9223372036854775807≤(aJ l i).n∧(aJ l i).n≤9223372036854775807:=fun i=>by have hO:=rC s 0 1 false l h;have:=c9w hO _ (c5a (b4j hO).1 i);omega
end
end Go.Proofs.YtjpodcmhcenjjaaGreatDoor
section
namespace Go.VM
open Go Go.RowKit
section
variable {P:Program} {G:GT} {st:St} {base:cS} {R:Nat→Nat→Prop} {μ:Nat→Nat} {a:Act} {w:World}
theorem b0f {s0:St}(K:List (Nat×Nat)){d6U:List DV}{ls:List (Option Loc)}{rest:List (TypeId×List Loc)}{args:Array Value}(hfit:aN K s0 .undef s0.H=true)(hargs:WkT d6U (aT K s0.tmps))(hH:WkH st.H (cL K s0.H))(jR:rQ st st.own (s0.own.map (mJ K ls))=some rest)(kn:uU st.tmps.length ls s0.own=true)(hr:Rel P G base R μ st a w)(hl:args.size=d6U.length)(hv:∀(i:Nat) (d:DV),d6U[i]? =some d→TV R μ w (args.getD i undef) d)(hloc:∀(i:Nat) (l:Loc),ls[i]? =some (some l)→∀u,cB a w μ l=some u→u=args.getD i undef):
  ∃base':cS,(∀b,base' b→base b)∧Rel P G base' R (fun k=>μ (rk K k)) s0 { tmps:=args,defers:=[] } w∧∀k o,getKey k st.H=some o→(∀p∈s0.H,k≠rk K p.1)→ ¬base' (μ k):=by
 simp only [aN,d6W,decide_eq_true_eq,d6Z] at hfit;obtain ⟨⟨⟨⟨⟨⟨⟨⟨kf,ks⟩,kp⟩,kt⟩,kh⟩,kl⟩,kr⟩,kd⟩,k1⟩:=hfit;obtain ⟨vs,hvs⟩:=hr.own;obtain ⟨vsT,vsR,t1,t2,t3,t4,t5,t6,t7⟩:=a1t hr _ _ _ vs ⟨hvs.len,hvs.one,hvs.apart⟩ jR;have inK:∀k o,getKey k s0.H=some o→(K.any fun p=>p.1==k)=true∧aR K o=true∧(getKey k s0.H).isSome=true:=fun k o hk=>by
  have:=kh _ (gN hk)
  try simp only [d6W] at this
  exact ⟨this.1.1,this.1.2,this.2⟩
 have inst:∀k o,getKey k s0.H=some o→∃o',getKey (rk K k) st.H=some o'∧WkO o' (cW K o):=fun k o hk=>by
  have hm:=gN hk;have:∀ {l:List (Nat×aY)},WkH st.H (cL K l)→(k,o)∈l→∃o',getKey (rk K k) st.H=some o'∧WkO o' (cW K o):=by
   intro l
   induction l with
   |nil=>intro _ h;cases h
   |cons p l ih=>
    intro hw hp;obtain ⟨h1,h2⟩:=hw;rcases List.mem_cons.1 hp with rfl|hp
    ·exact h1
    ·exact ih h2 hp
  exact this hH hm
 have big:∀k,(K.any fun p=>p.1==k)=true→100000≤k:=fun k hk=>by obtain ⟨p,h1,h2,_⟩:=wL hk;rw [← h2];exact kp p h1
 have rinj:∀k k',(K.any fun p=>p.1==k)=true→(K.any fun p=>p.1==k')=true→rk K k=rk K k'→k=k':=fun k k' h h' he=>by
  obtain ⟨p,p1,p2,p3⟩:=wL h;obtain ⟨q,q1,q2,q3⟩:=wL h';have hpq:p.2=q.2:=by rw [← p3, ← q3,he]
  have:p=q:=kR.a6I.a2k ks p1 q1 hpq;rw [← p2, ← q2,this]
 have one:∀k,(getKey k s0.H).isSome=true→∃o,getKey k s0.H=some o:=fun k hk=>by
  obtain ⟨o,ho⟩:=Option.isSome_iff_exists.1 hk;have:=k1 _ (gN ho)
  try simp only [d6W] at this
  exact Option.isSome_iff_exists.1 this.2
 let base':cS:=⟨fun b=>w.heap.size≤b∨(∃k o,getKey k s0.H=some o∧b=μ (rk K k))∨(∃v∈vsT,bD v=some b),fun k=>μ (rk K k)⟩
 have sub:∀b,base' b→base b:=fun b hb=>by
  rcases hb with hb|⟨k,o,hk,rfl⟩|⟨v,hv,hs⟩
  ·exact hr.base b hb
  ·obtain ⟨o',ho',_⟩:=inst k o hk;exact (hr.gL _ o' ho').1
  ·obtain ⟨i,hi⟩:=d7n hv;have hil:i<(s0.own.map (mJ K ls)).length:=by rw [← t1];exact (d6X.1 hi).1
   exact (t2 i _ v (d7a hil) hi).own.xJ hs
 have hrel0:Rel P G base' R (fun k=>μ (rk K k)) s0 { tmps:=args,defers:=[] } w:=by
  obtain ⟨g1,g2⟩:=wN hargs;rw [oJ] at g1 g2;refine ⟨rfl,by show args.size=s0.tmps.length;rw [List.length_map] at g1;omega,fun i v d hiv hid=>?_,fun k o hk=>?_,fun k k' o o' hk hk' he=>?_,fun c hc k off hl'=>?_,⟨vsT,by simpa using t1,fun i c v hc hv'=>?_,t3⟩,hr.rX.up sub,hr.mY,fun b hb=> .inl hb,fun k hk=>rfl⟩
  ·obtain ⟨d0,hd0,hcase⟩:=g2 i (bC K d) (by rw [d7g,hid];rfl);have hva:=hv i d0 hd0;have hav:args.getD i undef=v:=by simp only at hiv;simp [d6Y,hiv]
   rw [hav] at hva;have hren:TV R μ w v (bC K d):=by
    rcases hcase with hc|hc|⟨hc1,hc2⟩
    ·rw [hc];exact .undef _
    ·rw [hc];exact hva
    ·rw [hc2];rw [hc1] at hva;obtain ⟨ao,rfl⟩:=hva.a4f.jE;exact .d _ _ (.emp _ _)
   exact hren.ren (μ:=μ) (fun _ _=>rfl) (kt d (d7b hid))
  ·obtain ⟨q1,q2,_⟩:=inK k o hk;obtain ⟨o',ho',hw⟩:=inst k o hk;obtain ⟨p1,p2,p3⟩:=hr.gL _ o' ho';exact ⟨.inr (.inl ⟨k,o,hk,rfl⟩),p2,(a7K hw p3).ren (fun _ _=>rfl) q2⟩
  ·obtain ⟨o1,h1,_⟩:=inst k o hk;obtain ⟨o2,h2,_⟩:=inst k' o' hk';exact rinj k k' (inK k o hk).1 (inK k' o' hk').1 (hr.inj _ _ o1 o2 h1 h2 he)
  ·have:=d6Z.1 (d6Z.1 kl c hc) _ hl';exact Option.isSome_iff_exists.1 this
  ·have ho:=t2 i (mJ K ls c) v (by rw [d7g,hc];rfl) hv';refine ⟨fun l hl' u hu=>?_,?_,fun k o hk=>?_⟩
   ·have hn:=d6Z.1 (d6Z.1 kn c (d7b hc)) l hl';cases l with
    |t j=>
     simp only at hn;split at hn
     ·rename_i t hj;simp only [decide_eq_true_eq] at hn;have ht:t<a.tmps.size:=by rw [hr.size];exact hn
      have hlv:cB a w μ (.t t)=some a.tmps[t]:=by simp [cB,ht]
      have h1:=hloc j _ hj _ hlv;have h2:=ho.dR (.t t) (List.mem_filterMap.2 ⟨.t j,hl',by simp [a8y,hj]⟩) _ hlv;simp only [cB] at hu;have h3:args.getD j undef=u:=by simp [d6Y,hu]
      rw [← h3, ← h1,h2]
     ·cases hn
    |c k off=>exact ho.dR (.c (rk K k) off) (List.mem_filterMap.2 ⟨.c k off,hl',rfl⟩) u hu
   ·rcases ho.own with h|⟨g,n,cap,cur,h0,h1,h2,h3,h4⟩
    ·exact .inl h
    ·by_cases hc0:cap=0
     ·subst hc0;have:n=0:=by omega
      subst this;exact .inl ⟨_,h0⟩
     ·exact .inr ⟨g,n,cap,cur,h0,.inr (.inr ⟨v,d7b hv',by rw [h0];simp [bD,hc0]⟩),h2,h3,h4⟩
   ·obtain ⟨o',ho',_⟩:=inst k o hk;exact ho.keys _ o' ho'
 refine ⟨base',sub,hrel0,fun k o ho hk hb=>?_⟩;rcases hb with hb|⟨k0,o0,h0,he'⟩|⟨u,hu,hsp⟩
 ·have:=(hr.gL k o ho).2.2.lt;omega
 ·obtain ⟨o',ho',_⟩:=inst k0 o0 h0;have:=hr.inj k (rk K k0) o o' ho ho' he';exact hk (k0,o0) (gN h0) this
 ·obtain ⟨i,hi⟩:=d7n hu;have hil:i<(s0.own.map (mJ K ls)).length:=by rw [← t1];exact (d6X.1 hi).1
  exact (t2 i _ u (d7a hil) hi).keys k o ho hsp
def CHd (P:Program)(G:GT)(f:FuncId)(s0:St)(r:DV):Prop:=
 ∀(base:cS) (R:Nat→Nat→Prop) (μ:Nat→Nat) (args:Array Value) (w:World),Rel P G base R μ s0 { tmps:=args,defers:=[] } w→
  Calls P f args w fun e w'=>∃v R',e= .returned v∧(∀μ',TV R' μ' w' v r)∧Step base R w R' w'∧∀b o,R' b o→b<w'.heap.size
theorem kR.d3A {f:FuncId}{s0:St}{r:DV}(hch:CHd P G f s0 r)(K:List (Nat×Nat)){d6U:List DV}{ls:List (Option Loc)}{dst:Option Tmp}{rest:List (TypeId×List Loc)}(H':List (Nat×aY))(hfit:aN K s0 .undef s0.H=true)(hargs:WkT d6U (aT K s0.tmps))(hH:WkH st.H (cL K s0.H))(jR:rQ st st.own (s0.own.map (mJ K ls))=some rest)(kn:uU st.tmps.length ls s0.own=true)(hK:∀k o,getKey k H'=some o→getKey k st.H=some o∧∀p∈s0.H,k≠rk K p.1):
  kR P G f d6U ls st dst ⟨pS dst r st.tmps,H',[]⟩:=by
 intro base R μ a w args hr hl hv hloc;obtain ⟨base',sub,hrel0,hout⟩:=b0f K hfit hargs hH jR kn hr hl hv hloc;refine (hch base' R _ args w hrel0).mono fun e w' ⟨v,R',he,hres,hs,hb⟩=>⟨v,R',μ,he,?_,⟨hs.below.mono sub,hs.mono,fun b o h1 h2=>sub b (hs.new b o h1 h2),hs.cells⟩⟩
 have hsb:Step base R w R' w':=⟨hs.below.mono sub,hs.mono,fun b o h1 h2=>sub b (hs.new b o h1 h2),hs.cells⟩;have kept:∀b, ¬base' b→w'.heap[b]? =w.heap[b]? ∧∀off,R' b off→R b off:=fun b hb=>⟨hs.below.block b hb,fun off h=>by
  by_cases hx:R b off
  ·exact hx
  ·exact absurd (hs.new b off h hx) hb⟩
 refine ⟨by cases dst<;>exact hr.defers,?_,fun i u d hu hd=>?_,fun k o hk=>?_,fun k k' o o' hk hk' he'=>?_,(fun c hc=>by cases hc),⟨[],rfl,fun i c v h _=>by simp at h,.nil⟩,hr.rX.bJ hsb,hb,fun b hb=>hr.base b (Nat.le_trans hs.below.size hb),hr.pass⟩
 ·cases dst with
  |none=>exact hr.size
  |some t=>simp [pS,Act.put,hr.size]
 ·cases dst with
  |none=>exact (hr.tmps i u d hu hd).bJ hsb
  |some t=>
   simp only [pS,Act.put] at hu hd;by_cases hti:t=i
   ·subst hti;have h1:t<st.tmps.length:=by
     by_cases hlt:t<st.tmps.length
     ·exact hlt
     ·have hno:(st.tmps.set t r)[t]? =none:=List.getElem?_eq_none (by rw [List.length_set];exact Nat.le_of_not_lt hlt)
      rw [hno] at hd;cases hd
    have h2:t<a.tmps.size:=by rw [hr.size];exact h1
    simp [h1] at hd;simp [h2] at hu;subst hu hd;exact hres μ
   ·rw [Array.getElem?_setIfInBounds_ne hti] at hu;rw [List.getElem?_set_ne hti] at hd;exact (hr.tmps i u d hu hd).bJ hsb
 ·obtain ⟨hk2,hk1⟩:=hK k o hk;obtain ⟨p1,p2,p3⟩:=hr.gL k o hk2;obtain ⟨e1,e2⟩:=kept _ (hout k o hk2 hk1);exact ⟨p1,fun off h=>p2 off (e2 off h),p3.bJ hsb e1⟩
 ·exact hr.inj k k' o o' (hK k o hk).1 (hK k' o' hk').1 he'
theorem a4L.b2I {f:FuncId}{s0:St}{v:Value}(hch:CPn P G f s0 v)(K:List (Nat×Nat)){d6U:List DV}{ls:List (Option Loc)}{rest:List (TypeId×List Loc)}(H':List (Nat×aY))(hfit:aN K s0 .undef s0.H=true)(hargs:WkT d6U (aT K s0.tmps))(hH:WkH st.H (cL K s0.H))(jR:rQ st st.own (s0.own.map (mJ K ls))=some rest)(kn:uU st.tmps.length ls s0.own=true)(hK:∀k o,getKey k H'=some o→getKey k st.H=some o∧∀p∈s0.H,k≠rk K p.1){args:Array Value}(hr:Rel P G base R μ st a w)(hl:args.size=d6U.length)(hv:∀(i:Nat) (d:DV),d6U[i]? =some d→TV R μ w (args.getD i undef) d)(hloc:∀(i:Nat) (l:Loc),ls[i]? =some (some l)→∀u,cB a w μ l=some u→u=args.getD i undef):
  Calls P f args w fun e w'=>∃R',e= .panicked (vQ v)∧Rel P G base R' μ ⟨st.tmps,H',[]⟩ a w'∧Step base R w R' w':=by
 obtain ⟨base',sub,hrel0,hout⟩:=b0f K hfit hargs hH jR kn hr hl hv hloc;refine (hch base' R _ args w hrel0).mono fun e w' ⟨R',he,hs,hb⟩=>⟨R',he,?_,⟨hs.below.mono sub,hs.mono,fun b o h1 h2=>sub b (hs.new b o h1 h2),hs.cells⟩⟩
 have hsb:Step base R w R' w':=⟨hs.below.mono sub,hs.mono,fun b o h1 h2=>sub b (hs.new b o h1 h2),hs.cells⟩;have kept:∀b, ¬base' b→w'.heap[b]? =w.heap[b]? ∧∀off,R' b off→R b off:=fun b hb=>⟨hs.below.block b hb,fun off h=>by
  by_cases hx:R b off
  ·exact hx
  ·exact absurd (hs.new b off h hx) hb⟩
 refine ⟨hr.defers,hr.size,fun i u d hu hd=>(hr.tmps i u d hu hd).bJ hsb,fun k o hk=>?_,fun k k' o o' hk hk' he'=>?_,(fun c hc=>by cases hc),⟨[],rfl,fun i c v h _=>by simp at h,.nil⟩,hr.rX.bJ hsb,hb,fun b hb=>hr.base b (Nat.le_trans hs.below.size hb),hr.pass⟩
 ·obtain ⟨hk2,hk1⟩:=hK k o hk;obtain ⟨p1,p2,p3⟩:=hr.gL k o hk2;obtain ⟨e1,e2⟩:=kept _ (hout k o hk2 hk1);exact ⟨p1,fun off h=>p2 off (e2 off h),p3.bJ hsb e1⟩
 ·exact hr.inj k k' o o' (hK k o hk).1 (hK k' o' hk').1 he'
end
end Go.VM
end
section
namespace Go.VM
open Go Go.RowKit
section
variable {P:Program} {G:GT} {st:St} {base:cS} {R:Nat→Nat→Prop} {μ:Nat→Nat} {a:Act} {w:World}
theorem put_defers (a:Act)(ds:List Deferred)(dst:Option Tmp)(v:Value):({ a with defers:=ds }:Act).put dst v={ a.put dst v with defers:=ds }:=by cases dst<;>rfl
theorem d5o {o:Oper}{ds:List Deferred}{K K':Act→World→Prop}{Q Q':Exit→Act→World→Prop}(ha:a.defers=[])(h:o.wp P a w K Q)(hK0:∀a' w',K a' w'→a'.defers=[])(hK:∀a' w',K a' w'→K' { a' with defers:=ds } w')(hQ:∀e a' w',Q e a' w'→Q' e { a' with defers:=ds } w'):o.wp P { a with defers:=ds } w K' Q':=by
 unfold Oper.wp at h ⊢;have he:execOp ({ a with defers:=ds }:Act).eval o=execOp a.eval o:=rfl;rw [he];generalize (execOp a.eval o).run P w=r at h ⊢;unfold Oper.upon at h ⊢;split at h
 ·rw [put_defers];exact hK _ _ h
 ·rw [put_defers];exact hK _ _ h
 ·rename_i d w';have:=hK0 _ _ h;rw [put_defers] at this;simp at this
 ·refine h.mono fun e w' hx=>?_
  cases e with
  |returned v=>simp only at hx ⊢;rw [put_defers];exact hK _ _ hx
  |panicked chain=>exact hQ _ _ _ hx
  |outgrown=>obtain ⟨a0,w0,h0⟩:=hx;exact ⟨_,_,hQ _ _ _ h0⟩
 ·refine h.mono fun v w' hx=>?_
  rw [put_defers];exact hK _ _ hx
 ·exact hQ _ _ _ h
 ·exact h.elim
def c2e (P:Program)(G:GT)(all:Array Oper)(Q:Exit→St→Prop):List Oper→St→Prop
 |[],st=>Q .normal st
 |o::rest,st=>a1U P G all o st (c2e P G all Q rest) Q
theorem b4k {all:Array Oper}{Q:Exit→St→Prop}(ds:List Deferred):∀(l:List Oper) (st:St),c2e P G all Q l st→∀(base:cS) (R:Nat→Nat→Prop) (μ:Nat→Nat) (a:Act) (w:World),Rel P G base R μ st a w→
  ∀QQ:Exit→Act→World→Prop,(∀e s a' w' R' μ',Q e s→Rel P G base R' μ' s a' w'→Step base R w R' w'→QQ e { a' with defers:=ds } w')→wpList P all QQ l { a with defers:=ds } w
 |[],st,h,base,R,μ,a,w,hr,QQ,hk=>hk _ st a w R μ h hr (.refl _ _ _)
 |o::rest,st,h,base,R,μ,a,w,hr,QQ,hk=>by
  have h1:=b6x (KK:=fun a' w'=>a'.defers=[]∧wpList P all QQ rest { a' with defers:=ds } w') (QQ:=fun e a' w'=>QQ e { a' with defers:=ds } w') (show a1U P G all o st (c2e P G all Q rest) Q from h) hr (fun s v w' R' μ' p1 p2 p3=>⟨p2.defers,b4k ds rest s p1 base R' μ' _ w' p2 QQ fun e s a' w2 R2 μ2 q1 q2 q3=>hk e s a' w2 R2 μ2 q1 q2 (p3.trans q3)⟩) fun c s w' R' μ' p1 p2 p3=>hk _ s a w' R' μ' p1 p2 p3
  unfold wpList;by_cases hw:Region.wanted o (yielded all a.tmps)=true
  ·rw [if_pos hw] at h1;rw [if_pos (show Region.wanted o (yielded all ({ a with defers:=ds }:Act).tmps)=true from hw)];rcases h1 with h1|⟨h1,a0,w0,h2⟩
   ·exact .inl (d5o hr.defers h1 (fun _ _ h=>h.1) (fun _ _ h=>h.2) fun _ _ _ h=>h)
   ·exact .inr ⟨h1,_,_,h2⟩
  ·rw [if_neg hw] at h1;rw [if_neg (show ¬Region.wanted o (yielded all ({ a with defers:=ds }:Act).tmps)=true from hw),put_defers];exact h1.2
def DW (P:Program)(G:GT)(ds:List Deferred)(c:Code)(st:St)(Q:Exit→St→Prop):Prop:=
 ∀(base:cS) (R:Nat→Nat→Prop) (μ:Nat→Nat) (a:Act) (w:World),Rel P G base R μ st a w→c.wp P (fun e a' w'=>∃a0 s R' μ',a'={ a0 with defers:=ds }∧Q e s∧Rel P G base R' μ' s a0 w'∧Step base R w R' w') { a with defers:=ds } w
theorem DW.region {ds:List Deferred}{id:Nat}{ops:Array Oper}{Q:Exit→St→Prop}(h:c2e P G ops Q ops.toList st):DW P G ds (.region id ops false) st Q:=fun base R μ a w hr=>wp_region_list (b4k ds ops.toList st h base R μ a w hr _ fun e s a' w' R' μ' q1 q2 q3=>⟨a',s,R',μ',rfl,q1,q2,q3⟩)
theorem DW.seq {ds:List Deferred}{x y:Code}{Q:Exit→St→Prop}(h:DW P G ds x st fun e s=>match e with
  | .normal=>DW P G ds y s Q
  |e=>Q e s):DW P G ds (.seq x y) st Q:=fun base R μ a w hr=>
 wp_seq (wp_mono (h base R μ a w hr) fun e a1 w1 ⟨a0,s,R1,μ1,q0,q1,q2,q3⟩=>by
  cases e with
  |normal=>subst q0;exact wp_mono (q1 base R1 μ1 a0 w1 q2) fun e2 a2 w2 ⟨a3,s2,R2,μ2,p0,p1,p2,p3⟩=>⟨a3,s2,R2,μ2,p0,p1,p2,q3.trans p3⟩
  |_=>exact ⟨a0,s,R1,μ1,q0,q1,q2,q3⟩)
theorem DW.ret {ds:List Deferred}{Q:Exit→St→Prop}(h:Q .ret st):DW P G ds .ret st Q:=fun base R μ a w hr=>wp_ret ⟨a,st,R,μ,rfl,h,hr,.refl _ _ _⟩
attribute [simp] c2e
end
end Go.VM
end
namespace Go.Proofs.YtjpodcmhcenjjaaGreatDoor
section
open Go Go.VM
theorem c5b (p q:Addr)(w:World):
  CallsD Tryz.prog 65 #[.pointer (some p),.pointer (some q)] .returning w fun e u' w'=>e= .returned (.tuple #[])∧u'= .returning∧w'=w:=by
 refine callsD_of_wpS Tryz.func65 rfl fun c₀ cs hu=>?_
 apply wpS_seq;apply wpS_region;simp [wpOpsS,go_sem,recoverD,hu,Tryz.ntmps65,Exit.thenS];apply wpS_seq;apply wpS_region;simp [wpOpsS,go_sem,recoverD,hu,Tryz.ntmps65,Exit.thenS];refine wpS_cond (t:=false) (by simp [Act.eval,Array.replicate]) ?_
 simp only [Bool.false_eq_true,if_false];refine wpS_of_wp (wp_skip ?_);cases c₀
 simp_all [bodyPostS,results]
theorem d3B {P:Program}{T xT:TypeId}(hu:(P.underlying T).map (fun td=>match td with| .interface _=>false|_=>true)=some true)(v:Value)(w:World):(Instr.typeAssert (.iface T v) xT T true).run P w= .ok (.tuple #[v,.bool true]) w:=by obtain ⟨td,h1,h2⟩:=d6V.1 hu;unfold Instr.typeAssert;rw [Sem.run_bind,run_underlying h1];simp only [Result.andThen_ok];cases td<;>first|(simp at h2;done)|(simp only [if_true,go_sem];done)|(simp [go_sem,Result.andThen];done)
variable {G:GT}
theorem b6S {P:Program}{id:Nat}{ops:Array Oper}{D:Code}{QQ:Exit→Act→World→Prop}{a:Act}{w:World}{base:cS}{R:Nat→Nat→Prop}(Qf:Exit→St→Prop)(hk:∀e s a' w' R' μ',Qf e s→Rel P G base R' μ' s a' w'→Step base R w R' w'→QQ e a' w')(h:∀QL:Exit→Act→World→Prop,(∀s a' w' R' μ',SW P G D s Qf→Rel P G base R' μ' s a' w'→Step base R w R' w'→QL .normal a' w')→wpList P ops QL ops.toList a w):(Code.seq (.region id ops false) D).wp P QQ a w:=
 wp_seq (wp_region_list (h _ fun s a' w' R' μ' hD hr hs=>wp_mono (hD base R' μ' a' w' hr) fun e a2 w2 ⟨s2,R2,μ2,q1,q2,q3⟩=>hk e s2 a2 w2 R2 μ2 q1 q2 (hs.trans q3)))
theorem LW.next {P:Program}{all:Array Oper}{l:List Oper}{st:St}{D:Code}{Qf:Exit→St→Prop}{base:cS}{R:Nat→Nat→Prop}{μ:Nat→Nat}{a:Act}{w:World}{QL:Exit→Act→World→Prop}(hQL:∀s a' w' R' μ',SW P G D s Qf→Rel P G base R' μ' s a' w'→Step base R w R' w'→QL .normal a' w')(hr:Rel P G base R μ st a w)(h:LW P G all l st fun e s=>e= .normal∧SW P G D s Qf):wpList P all QL l a w:=by unfold LW at h;exact h base R μ a w hr QL fun e s a' w' R' μ' hq hr' hs=>by obtain ⟨rfl,hq⟩:=hq;exact hQL s a' w' R' μ' hq hr' hs
def d5p:OT:=(.op 0 (.op 1 (.op 2 (.op 3 (.op 4 (.op 5 .stop .none) .none) (.op 4 (.op 3 (.op 5 .stop .none) .none) .none)) (.op 4 (.op 2 (.op 3 (.op 5 .stop .none) .none) .none) .none)) (.op 2 (.op 1 (.op 3 (.op 4 (.op 5 .stop .none) .none) (.op 4 (.op 3 (.op 5 .stop .none) .none) .none)) (.op 3 (.op 1 (.op 4 (.op 5 .stop .none) .none) .none) .none)) .none)) (.op 2 (.op 0 (.op 1 (.op 3 (.op 4 (.op 5 .stop .none) .none) (.op 4 (.op 3 (.op 5 .stop .none) .none) .none)) (.op 3 (.op 1 (.op 4 (.op 5 .stop .none) .none) .none) .none)) (.op 3 (.op 0 (.op 1 (.op 4 (.op 5 .stop .none) .none) .none) .none) .none)) .none))
abbrev c5c (x y:Int):List (Nat×aY):=[(100000,.cells [.d (.int .i64 x)]),(100001,.cells [.d (.int .i64 y)])]
theorem c9x {base:cS}{R:Nat→Nat→Prop}{μ:Nat→Nat}{args:Array Value}{w:World}{x y:Int}(n e:Int)(hr:Rel Tryz.prog G base R μ ⟨[.ptr 100000 0,.ptr 100001 0],c5c x y,[]⟩ { tmps:=args,defers:=[] } w):
  CallsD Tryz.prog 65 args (.panicking (vQ (mB n e))) w fun e' u' w'=>e'= .returned (.tuple #[])∧u'= .panicking [{ v:=mB n e,recovered:=true }]∧∃R' μ' a',Rel Tryz.prog G base R' μ' ⟨List.replicate 20 .undef,c5c n e,[]⟩ a' w'∧Step base R w R' w':=by
 have hsz:args.size=2:=hr.size;obtain ⟨v0,v1,rfl⟩:∃v0 v1,args= #[v0,v1]:=by
  obtain ⟨l⟩:=args
  match l,hsz with
  |[a,b],_=>exact ⟨a,b,rfl⟩
 refine callsD_of_wpS Tryz.func65 rfl fun c₀ cs hu=>?_
 apply wpS_seq;apply wpS_region;simp [wpOpsS,go_sem,recoverD,hu,Tryz.ntmps65,Exit.thenS];apply wpS_seq;apply wpS_region;simp [wpOpsS,go_sem,recoverD,hu,Tryz.ntmps65,Exit.thenS];refine wpS_cond (t:=true) (by simp [Act.eval,Array.replicate]) ?_
 simp only [if_true];refine wpS_of_wp ?_
 have hr1:Rel Tryz.prog G base R μ ⟨.ptr 100000 0:: .ptr 100001 0::List.replicate 18 .undef,c5c x y,[]⟩ { tmps:= #[v0,v1,mB n e,undef,undef,mB n e,mB n e,.bool true,undef,undef,undef,undef,undef,undef,undef,undef,undef,undef,undef,undef],defers:=[] } w:=by
  refine ⟨rfl,rfl,fun i v d hv hd=>?_,hr.gL,hr.inj,hr.dR,⟨[],rfl,fun i c v h _=>by simp at h,.nil⟩,hr.rX,hr.mY,hr.base,hr.pass⟩
  match i,hv,hd with
  |0,hv,hd=>exact hr.tmps 0 v d (by simpa using hv) (by simpa using hd)
  |1,hv,hd=>exact hr.tmps 1 v d (by simpa using hv) (by simpa using hd)
  |i+2,hv,hd=>
   simp only [List.getElem?_cons_succ,List.getElem?_replicate] at hd;split at hd
   ·simp at hd;subst hd;exact .undef _
   ·cases hd
 have hta:=fun (v:Value) (w:World)=>d3B (P:=Tryz.prog) (T:=127) (xT:=20) (by kernel_rfl) v w
 show Code.wp Tryz.prog _ _ { tmps:= #[v0,v1,mB n e,undef,undef,mB n e,mB n e,.bool true,undef,undef,undef,undef,undef,undef,undef,undef,undef,undef,undef,undef],defers:=[] } w
 generalize ha1:({ tmps:= #[v0,v1,mB n e,undef,undef,mB n e,mB n e,.bool true,undef,undef,undef,undef,undef,undef,undef,undef,undef,undef,undef,undef],defers:=[] }:Act)=a1 at hr1 ⊢;have h2:a1.eval (.tmp 2)=mB n e:=by rw [← ha1];rfl
 have hz:a1.tmps.size=20:=by rw [← ha1];rfl
 refine b6S (G:=G) (base:=base) (R:=R) (fun e' s=>e'= .normal∧vM s ⟨List.replicate 20 .undef,c5c n e,[]⟩) (fun e2 s2 a2 w2 R2 μ2 hq q2 q3=>?_) fun QL hQL=>?_
 ·obtain ⟨he,hw⟩:=hq;subst he;exact ⟨q2.defers,_,rfl,.tuple #[],by simp [results],rfl,rfl,R2,⟨μ2,a2,q2.yK hw⟩,q3⟩
 have hr2:=hr1.put (dst:=some 9) (v:=mB n e) (dv:= .undef) (act:= .no) (.undef _) trivial;refine oI (w':=w) (v:=mB n e) rfl (.inl (by show (pure (Next.value (a1.eval (.tmp 2))):Sem Next).run _ w=_;rw [h2];rfl)) rfl ?_
 have h9:(a1.put (some 9) (mB n e)).eval (.tmp 9)=mB n e:=dL _ _ (by omega);have hr3:=hr2.put (dst:=some 10) (v:= .tuple #[.agg #[.int .i64 n,.int .i64 e],.bool true]) (dv:= .cM [.agg [.int .i64 n,.int .i64 e],.bool true]) (act:= .no) (.cM _ _ rfl (fun i d hd=>by
  match i,hd with
  |0,hd=>
   simp at hd;subst hd;refine .agg _ _ rfl (fun i d hd=>?_) (fun i d hd=>?_)
   ·match i,hd with
    |0,hd=>simp at hd;subst hd;rfl
    |1,hd=>simp at hd;subst hd;rfl
   ·match i,hd with
    |0,hd=>simp at hd;subst hd;exact .int _ _
    |1,hd=>simp at hd;subst hd;exact .int _ _
  |1,hd=>simp at hd;subst hd;exact .bool _)) trivial
 refine oI (w':=w) (v:= .tuple #[.agg #[.int .i64 n,.int .i64 e],.bool true]) rfl (.inl ?_) rfl ?_
 ·show (Instr.typeAssert ((a1.put (some 9) (mB n e)).eval (.tmp 9)) _ _ true >>=fun s=>pure (Next.value s):Sem Next).run _ w=_
  rw [h9,Sem.run_bind,hta]
  rfl
 refine LW.next hQL hr3 (LW.vk ?_);simp;refine SW.oW (SW.xk ?_);simp;refine b2l d5p (by kernel_rfl) (by kernel_rfl) ?_
 simp [d5p]
end
section
open Go Go.VM
variable {G:GT}
theorem jH:VM.Enters Tryz.prog 32:=VM.Enters.mk Tryz.func32 rfl
theorem Rel.frame {P:Program}{base:cS}{R:Nat→Nat→Prop}{μ:Nat→Nat}{args:Array Value}{w:World}{fn:Func}{n:Nat}{s0:St}(hn:fn.ntmps=n)(hT:(s0.own.all fun c=>c.2.all fun l=>match l with| .t i=>decide (i<s0.tmps.length)|_=>true)=true)(hr:Rel P G base R μ s0 { tmps:=args,defers:=[] } w):
  Rel P G base R μ ⟨s0.tmps++List.replicate (n-s0.tmps.length) (.cM []),s0.H,s0.own⟩ { tmps:=args++Array.replicate (fn.ntmps-args.size) undef,defers:=[] } w:=by
 have hsz:args.size=s0.tmps.length:=hr.size;refine ⟨rfl,by simp [hsz,hn],fun i v d hiv hid=>?_,hr.gL,hr.inj,hr.dR,?_,hr.rX,hr.mY,hr.base,hr.pass⟩
 ·simp only at hid;by_cases hi:i<s0.tmps.length
  ·rw [d7h hi] at hid;rw [Array.getElem?_append_left (by omega)] at hiv;exact hr.tmps i v d hiv hid
  ·rw [d7e (by omega),List.getElem?_replicate] at hid;split at hid<;>simp at hid;subst hid;rw [Array.getElem?_append_right (by omega),Array.getElem?_replicate] at hiv;split at hiv<;>simp at hiv;subst hiv;exact .cM #[] [] rfl (by simp)
 ·obtain ⟨vs,hl,h1,hap⟩:=hr.own;refine ⟨vs,hl,fun i c v hc hv=>?_,hap⟩;have ho:=h1 i c v hc hv;refine ⟨fun l hl u hu=>?_,ho.own,ho.keys⟩;cases l with
  |t j=>have hj:=d6Z.1 (d6Z.1 hT c (d7b hc)) _ hl;simp only [decide_eq_true_eq] at hj;simp only [cB] at hu;rw [Array.getElem?_append_left (by omega)] at hu;exact ho.dR _ hl u hu
  |c k off=>exact ho.dR _ hl u hu
theorem SW.wps {P:Program}{x y:Code}{st:St}{T:Exit→St→Prop}{QQ:Exit→Act→World→Prop}{base:cS}{R:Nat→Nat→Prop}{μ:Nat→Nat}{a:Act}{w:World}(h:SW P G x st T)(hr:Rel P G base R μ st a w)(hn:∀s R' μ' a' w',T .normal s→Rel P G base R' μ' s a' w'→Step base R w R' w'→y.wp P QQ a' w')(hq:∀e s R' μ' a' w',e≠ .normal→T e s→Rel P G base R' μ' s a' w'→Step base R w R' w'→QQ e a' w'):(Code.seq x y).wp P QQ a w:=
 wp_seq (wp_mono (h base R μ a w hr) fun e a' w' ⟨s,R',μ',q1,q2,q3⟩=>by
  cases e with
  |normal=>exact hn s R' μ' a' w' q1 q2 q3
  |_=>exact hq _ s R' μ' a' w' (by simp) q1 q2 q3)
theorem SW.c9y {P:Program}{r0 r1 rc rest:Code}{st:St}{T:Exit→St→Prop}{QQ:Exit→Act→World→Prop}{base:cS}{R:Nat→Nat→Prop}{μ:Nat→Nat}{a:Act}{w:World}(h:SW P G r0 st fun e s=>e= .normal∧SW P G r1 s fun e s=>e= .normal∧SW P G rc s T)(hr:Rel P G base R μ st a w)(hn:∀s R' μ' a' w',T .normal s→Rel P G base R' μ' s a' w'→Step base R w R' w'→rest.wp P QQ a' w')(hq:∀e s R' μ' a' w',e≠ .normal→T e s→Rel P G base R' μ' s a' w'→Step base R w R' w'→QQ e a' w'):(Code.seq r0 (.seq r1 (.seq rc rest))).wp P QQ a w:=
 SW.wps h hr (fun s R1 μ1 a1 w1 q1 q2 q3=>SW.wps q1.2 q2 (fun s R2 μ2 a2 w2 p1 p2 p3=>SW.wps p1.2 p2 (fun s R3 μ3 a3 w3 k1 k2 k3=>hn s R3 μ3 a3 w3 k1 k2 ((q3.trans p3).trans k3)) fun e s R3 μ3 a3 w3 k0 k1 k2 k3=>hq e s R3 μ3 a3 w3 k0 k1 k2 ((q3.trans p3).trans k3)) fun e s R2 μ2 a2 w2 p0 p1 p2 p3=>(p0 p1.1).elim) fun e s R1 μ1 a1 w1 q0 q1 q2 q3=>(q0 q1.1).elim
theorem TV.c0b {R:Nat→Nat→Prop}{μ μ':Nat→Nat}{w:World}{v:Value}{ds:List D}(h:TV R μ w v (.cM ds)):TV R μ' w v (.cM ds):=by
 cases h with
 |cM vs ds h1 h2=>exact .cM _ _ h1 h2
theorem b0g (cs:List DV)(F:FuncId)(s:List UInt8)(n e:Int)(he:e≠0)(hlx:CS Tryz.prog G 64 [.str s] (.cM [.aM,.int .i64 n,.int .i64 e]) none):
  CHd Tryz.prog G 32 ⟨[.d (.str s),.yV F [.ptr 100001 0]],[(100001,.cells cs)],[]⟩ (.cM [.int .i64 n,.int .i64 e]):=by
 intro base R μ args w hr;refine calls_of_wp_defers Tryz.func32 rfl ?_
 have hr0:=Rel.frame Tryz.ntmps32 rfl hr;refine SW.c9y (T:=fun e' s'=>e'= .ret∧xS Tryz.prog s' [.cell 4 3,.cell 5 31]=some (.cM [.int .i64 n,.int .i64 e])) ?h hr0 (fun s' R' μ' a' w' q1 q2 q3=>by cases q1.1) (fun e' s' R' μ' a' w' q0 q1 q2 q3=>?_)
 case h=>
  refine SW.xk ?_
  simp;refine SW.xk ?_
  simp;refine kP.mk sI hlx ?_
  simp;refine SW.xk ?_
  simp [he]
 ·obtain ⟨rfl,hres⟩:=q1;obtain ⟨v,hv1,hv2⟩:=wR (fn:=Tryz.f32) q2 hres
  show Leaves _ _ _ _ a'.defers _ _
  rw [q2.defers];exact ⟨v,hv1,v,R',rfl,fun μ'=>TV.c0b hv2,q3,q2.mY⟩
abbrev b0h (s:List UInt8)(F:FuncId)(l:List Tok)(H:List (Nat×aY)):St:=⟨[.d (.str s),.yV F [.ptr 100001 0],.undef,.undef,.ptr 4 0,.ptr 5 0,.d (.sl (l.map cJ))]++List.replicate 21 .undef,(4,.cells [.d (.int .i64 0)])::(5,.cells [.d (.int .i64 0)])::H,[]⟩
abbrev c2f (p q:Value):Deferred:={ target:= .fn (.func 65) #[p,q],args:= #[] }
theorem a3Y {base:cS}{R:Nat→Nat→Prop}{μ:Nat→Nat}{s:List UInt8}{F:FuncId}{l:List Tok}{H:List (Nat×aY)}{a:Act}{w:World}{QQ:Exit→Act→World→Prop}{id:Nat}{all:Array Oper}{y0 y1:TypeId}{p0 p1:String}{f0 f1:Array Edge}{rest:Code}(hall:all= #[⟨some 19,.makeFunc (.func 65) #[] #[.tmp 4,.tmp 5],y0,p0,f0,none⟩,⟨none,.defer { callee:= .value (.tmp 19),args:= #[],argTypes:= #[] },y1,p1,f1,none⟩])(hr:Rel Tryz.prog G base R μ (b0h s F l H) a w)(h:∀a1,Rel Tryz.prog G base R μ (b0h s F l H) a1 w→rest.wp Tryz.prog QQ { a1 with defers:=[c2f (.pointer (some ⟨μ 4,0,none⟩)) (.pointer (some ⟨μ 5,0,none⟩))] } w):(Code.seq (.region id all false) rest).wp Tryz.prog QQ a w:=by
 subst hall;have h4:a.eval (.tmp 4)= .pointer (some ⟨μ 4,0,none⟩):=hr.dJ rfl;have h5:a.eval (.tmp 5)= .pointer (some ⟨μ 5,0,none⟩):=hr.dJ rfl;have hz:a.tmps.size=28:=hr.size;refine wp_seq (wp_region_list ?_);generalize hfv:(Value.func (.func 65) #[] #[.pointer (some ⟨μ 4,0,none⟩),.pointer (some ⟨μ 5,0,none⟩)])=fv;have hr2:=hr.put (dst:=some 19) (v:=fv) (dv:= .undef) (act:= .no) (.undef _) trivial;refine oI (w':=w) (v:=fv) rfl (.inl ?_) rfl ?_
 ·rw [← hfv, ← h4, ← h5]
  show (Instr.makeFunc (.func 65) (#[].map a.eval) (#[.tmp 4,.tmp 5].map a.eval) >>=fun x=>pure (Next.value x):Sem Next).run _ w=_
  simp [Instr.makeFunc,go_sem]
 have h19:(a.put (some 19) fv).eval (.tmp 19)=fv:=dL _ _ (by omega);have hw:∀(o:Oper) y,o.guard=none→Region.wanted o y=true:=fun o y hg=>by unfold Region.wanted;rw [hg]
 unfold wpList;rw [if_pos (hw _ _ rfl)];left;unfold Oper.wp;have e2:(execOp (a.put (some 19) fv).eval ⟨none,.defer { callee:= .value (.tmp 19),args:= #[],argTypes:= #[] },y1,p1,f1,none⟩).run Tryz.prog w= .ok (.defer (c2f (.pointer (some ⟨μ 4,0,none⟩)) (.pointer (some ⟨μ 5,0,none⟩)))) w:=by
  show ((Deferred.ofValue ((a.put (some 19) fv).eval (.tmp 19)) (#[].map (a.put (some 19) fv).eval) >>=fun d=>pure (Next.defer d)):Sem Next).run _ w=_
  rw [h19, ← hfv,Sem.run_bind];simp [Deferred.ofValue,go_sem]
 rw [e2];have hd:(a.put (some 19) fv).defers=[]:=hr2.defers;rw [Oper.upon_defer];unfold wpList;have hfin:finish (b0h s F l H) (some 19) .undef .no=b0h s F l H:=by simp [finish,jK,cH,pS,List.replicate]
 rw [hfin] at hr2;have:=h (a.put (some 19) fv) hr2;rw [← hd] at this;exact this
end
section
open Go Go.VM
variable {G:GT}
theorem DW.go {P:Program}{ds:List Deferred}{c:Code}{st:St}{Q:Exit→St→Prop}(h:DW P G ds c st Q){base:cS}{R:Nat→Nat→Prop}{μ:Nat→Nat}{a:Act}{w:World}(hr:Rel P G base R μ st a w):c.wp P (fun e a' w'=>∃a0 s R' μ',a'={ a0 with defers:=ds }∧Q e s∧Rel P G base R' μ' s a0 w'∧Step base R w R' w') { a with defers:=ds } w:=h base R μ a w hr
@[simp] theorem c6M (k:Nat)(ds:List D):ds.map (jK k∘DV.d)=ds.map DV.d:=rfl
@[simp] theorem c6N (k k':Nat)(ds:List D):ds.map ((jK k∘jK k')∘DV.d)=ds.map DV.d:=rfl
@[simp] theorem c5d:∀ds:List D,WkT (ds.map DV.d) (ds.map DV.d)
 |[]=>by simp
 |d::r=>by have:=c5d r;simp [this]
@[simp] theorem c2g (K:List (Nat×Nat)):∀ds:List D,aQ K (ds.map DV.d)=true
 |[]=>by simp [aQ]
 |d::r=>by have:=c2g K r;simp [aQ,aW,this]
@[simp] theorem c2h:∀ds:List D,c3T (ds.map DV.d) (ds.map DV.d)
 |[]=>by simp
 |d::r=>by have:=c2h r;simp [this]
theorem zK:VM.Enters Tryz.prog 65:=VM.Enters.mk Tryz.func65 rfl
theorem vX {P:Program}{f:FuncId}(he:VM.Enters P f)(args cap:Array Value)(w:World):(invoke (.fn (.func f) cap) args).run P w= .ok (.enter f (args++cap)) w:=by
 obtain ⟨fn,hf1,hf2,hf3⟩:=he;have hf2': ¬fn.body=none:=fun he=>by simp [he] at hf2
 have hf3': ¬fn.name= "runtime.NumGoroutine" :=by simpa using hf3
 simp [invoke,callFunc,hf1,hf2',hf3']
theorem c9z {α:Type}{rdP:List Tok→Nat→Nat→kY Pr}{l:List Tok}(hV:kQ G rdP l)(C:α→List D)(a0 a:α)(j:Nat){F:FuncId}(he:VM.Enters Tryz.prog F){s:List UInt8}(hlx:CS Tryz.prog G 64 [.str s] (.cM [.sl (l.map cJ),.int .i64 0,.int .i64 0]) none)(hc:kF G F [.ptr 100000 0,.ptr 100001 0] [(100001,.cells ((C a0).map .d))] [] l 0 (.ok a j) (fun _=> .cM []) (fun a=>[(100001,.cells ((C a).map .d))]))(hj:j<l.length)(hend:zE l j= .ok () j):
  CH Tryz.prog G 32 ⟨[.d (.str s),.yV F [.ptr 100001 0]],[(100001,.cells ((C a0).map .d))],[]⟩ ⟨[.cM [.int .i64 0,.int .i64 0]],[(100001,.cells ((C a).map .d))],[]⟩:=by
 intro base R μ args w hr;refine calls_of_wp_defers Tryz.func32 rfl ?_
 have hr0:=Rel.frame Tryz.ntmps32 rfl hr;refine SW.c9y (T:=fun e' s'=>e'= .normal∧vM s' (b0h s F l [(100001,.cells ((C a0).map .d))])) ?h hr0 (fun s' R' μ' a' w' q1 q2 q3=>?_) (fun e' s' R' μ' a' w' q0 q1 q2 q3=>(q0 q1.1).elim)
 case h=>
  refine SW.xk ?_
  simp;refine SW.xk ?_
  simp;refine kP.mk sI hlx ?_
  simp;refine SW.xk ?_
  simp [List.replicate]
 ·refine a3Y rfl (q2.yK q1.2) fun a1 hr1=>?_
  refine wp_mono (DW.go (Q:=fun e s=>e= .ret∧a1F Tryz.prog s [.cell 4 3,.cell 5 31] (.cM [.int .i64 0,.int .i64 0]) [(100001,.cells ((C a).map .d))] []) ?hD hr1) fun e a2 w2 ⟨a3,s3,R3,μ3,h0,⟨h1,h2⟩,h3,h4⟩=>?_
  case hD=>
   refine DW.seq (DW.region ?_);simp [List.replicate];refine DW.seq (DW.region ?_);simp;refine a5e.mk (vR he hc [(100000,22),(100001,100001)] (fun a j hx=>?_) ?_ ?_ ?_ rfl rfl (fun a2 j2 hx=>?_) (fun n e hx=>by cases hx))
   ·simp [aN,aW,aR,aQ,bA,getKey,gB]
   ·simp [aN,aW,aR,aQ,bA,getKey,gB]
   ·simp [aT,bC,rk]
   ·simp [aT,bC,rk,cL,cW,jP]
   ·cases hx;simp [bB,aT,bC,rk,cL,cW,bN,gM,eX,eA,jP];refine DW.seq (DW.region ?_);simp;refine a5e.mk (vR (X:=[]) (own:=[]) (r:=zE l j) (enc:=fun _=> .cM []) (Y:=fun _=>[]) (av0:=[.ptr 100000 0]) a9S (b2m hV j hj) [(100000,22)] (fun a j hx=>?_) ?_ ?_ ?_ rfl rfl (fun u j2 hx=>?_) (fun n e hx=>by rw [hend] at hx;cases hx))
    ·simp [aN,aW,aR,aQ,bA,getKey,gB]
    ·simp [aN,aW,aR,aQ,bA,getKey,gB]
    ·simp [aT,bC,rk]
    ·simp [aT,bC,rk,cL,cW,jP]
    ·simp [bB,aT,bC,rk,cL,cW,bN,gM,eX,eA,jP];refine DW.seq (DW.region ?_);simp;exact DW.ret ⟨rfl,by simp⟩
  ·subst h0 h1;have p4:=hr1.dJ (x:= .tmp 4) rfl
   show Leaves _ _ _ _ [c2f _ _] .returning w2
   refine leaves_cons (f:=65) (args:= #[.pointer (some ⟨μ' 4,0,none⟩),.pointer (some ⟨μ' 5,0,none⟩)]) (by simp) (vX zK #[] #[.pointer (some ⟨μ' 4,0,none⟩),.pointer (some ⟨μ' 5,0,none⟩)] w2) ?_
   refine (c5b _ _ w2).mono ?_
   rintro e' u' w'' ⟨rfl,rfl,rfl⟩;unfold a1F at h2;split at h2
   ·rename_i r hres;obtain ⟨v,hv1,hv2⟩:=wR (fn:=Tryz.f32) h3 hres;exact ⟨v,hv1,v,R3,μ3,rfl,((h3.ret hv1 hv2).d0U h2.1).d4R h2.2,q3.trans h4⟩
   ·exact h2.elim
end
section
open Go Go.VM
variable {G:GT}
abbrev a2a (x y:Int):List (Nat×aY):=[(4,.cells [.d (.int .i64 x)]),(5,.cells [.d (.int .i64 y)])]
theorem a3l {base:cS}{R:Nat→Nat→Prop}{μ:Nat→Nat}{a:Act}{w:World}{tmps:List DV}{x y:Int}(n e:Int)(hr:Rel Tryz.prog G base R μ ⟨tmps,a2a x y,[]⟩ a w)(h4:tmps[4]? =some (.ptr 4 0))(h5:tmps[5]? =some (.ptr 5 0))(RR:Ending→World→Prop)(hR:∀v R' w',(∀μ',TV R' μ' w' v (.cM [.int .i64 n,.int .i64 e]))→Step base R w R' w'→(∀b o,R' b o→b<w'.heap.size)→RR (.returned v) w'):
  Leaves Tryz.prog Tryz.f32 a.tmps RR [c2f (.pointer (some ⟨μ 4,0,none⟩)) (.pointer (some ⟨μ 5,0,none⟩))] (.panicking (vQ (mB n e))) w:=by
 refine leaves_cons (f:=65) (args:= #[.pointer (some ⟨μ 4,0,none⟩),.pointer (some ⟨μ 5,0,none⟩)]) (by simp) (vX zK #[] #[.pointer (some ⟨μ 4,0,none⟩),.pointer (some ⟨μ 5,0,none⟩)] w) ?_
 obtain ⟨base',sub,hrel0,hout⟩:=b0f (s0:=⟨[.ptr 100000 0,.ptr 100001 0],c5c x y,[]⟩) (args:= #[.pointer (some ⟨μ 4,0,none⟩),.pointer (some ⟨μ 5,0,none⟩)]) [(100000,4),(100001,5)] («d6U» :=[.ptr 4 0,.ptr 5 0]) (ls:=[]) (rest:=[]) (by simp [aN,aW,aR,aQ,bA,getKey]) (by simp [aT,bC,rk]) (by simp [aT,bC,rk,cL,cW]) rfl rfl hr rfl (fun i d hd=>by
  match i,hd with
  |0,hd=>simp at hd;subst hd;exact .ptr 4 0
  |1,hd=>simp at hd;subst hd;exact .ptr 5 0) (fun i l h=>by simp at h)
 refine (c9x n e hrel0).mono ?_
 rintro e' u' w' ⟨rfl,rfl,R',μ',a',hr',hs⟩;have hs':Step base R w R' w':=⟨hs.below.mono sub,hs.mono,fun b o h1 h2=>sub b (hs.new b o h1 h2),hs.cells⟩;have m4:μ' 100000=μ 4:=(hr'.pass 100000 (by omega)).trans (hrel0.pass 100000 (by omega)).symm;have m5:μ' 100001=μ 5:=(hr'.pass 100001 (by omega)).trans (hrel0.pass 100001 (by omega)).symm;have hfin:Rel Tryz.prog G base R' μ ⟨tmps,a2a n e,[]⟩ a w':=by
  refine ⟨hr.defers,hr.size,fun i u d hu hd=>(hr.tmps i u d hu hd).bJ hs',fun k o hk=>?_,fun k k' o o' hk hk' he'=>?_,(fun c hc=>by cases hc),⟨[],rfl,fun i c v h _=>by simp at h,.nil⟩,hr.rX.bJ hs',hr'.mY,fun b hb=>hr.base b (Nat.le_trans hs.below.size hb),hr.pass⟩
  ·simp only [a2a,getKey] at hk;split at hk
   ·rename_i hk4;cases hk;subst hk4;obtain ⟨q1,q2,q3⟩:=hr'.gL 100000 (.cells [.d (.int .i64 n)]) rfl;rw [m4] at q1 q2 q3;exact ⟨sub _ q1,q2,q3.b1v (ν:=μ') (K:=[]) (fun k hk=>by simp at hk) rfl⟩
   ·split at hk
    ·rename_i hk5;cases hk;subst hk5;obtain ⟨q1,q2,q3⟩:=hr'.gL 100001 (.cells [.d (.int .i64 e)]) rfl;rw [m5] at q1 q2 q3;exact ⟨sub _ q1,q2,q3.b1v (ν:=μ') (K:=[]) (fun k hk=>by simp at hk) rfl⟩
    ·cases hk
  ·have one:∀k o,getKey k (a2a n e)=some o→∃o1,getKey k (a2a x y)=some o1:=fun k o h=>by
    simp only [a2a,getKey] at h ⊢;split at h
    ·exact ⟨_,by rw [if_pos (by assumption)]⟩
    ·split at h
     ·exact ⟨_,by rw [if_neg (by assumption),if_pos (by assumption)]⟩
     ·cases h
   obtain ⟨o1,h1⟩:=one k o hk;obtain ⟨o2,h2⟩:=one k' o' hk';exact hr.inj k k' o1 o2 h1 h2 he'
 have hset:settle (.panicking [{ v:=mB n e,recovered:=true }])= .returning:=by simp [settle]
 show Leaves _ _ _ _ [] (settle _) _
 rw [hset];have hres:xS Tryz.prog ⟨tmps,a2a n e,[]⟩ (Tryz.f32).results.toList=some (.cM [.int .i64 n,.int .i64 e]):=by simp [xS,h4,h5]
 obtain ⟨v,hv1,hv2⟩:=wR (fn:=Tryz.f32) hfin hres;exact ⟨v,hv1,hR v R' w' (fun μ'=>TV.c0b hv2) hs' hr'.mY⟩
end
end Go.Proofs.YtjpodcmhcenjjaaGreatDoor
section
namespace Go.VM
open Go Go.RowKit
section
variable {P:Program} {G:GT} {st:St}
theorem wB {a:Act}{dst:Option Tmp}{t:Tmp}(hd:dst≠some t)(v:Value):(a.put dst v).eval (.tmp t)=a.eval (.tmp t):=by
 cases dst with
 |none=>rfl
 |some x=>exact bR _ _ (fun e=>hd (by rw [e]))
theorem c5e {o:Oper}{a:Act}{w:World}{K:Act→World→Prop}{Q:Exit→Act→World→Prop}{t:Tmp}(hd:o.dst≠some t)(h:o.wp P a w K Q):o.wp P a w (fun a' w'=>K a' w'∧a'.eval (.tmp t)=a.eval (.tmp t)) (fun e a' w'=>Q e a' w'∧(e≠ .outgrown→a'.eval (.tmp t)=a.eval (.tmp t))):=by
 unfold Oper.wp at h ⊢;generalize (execOp a.eval o).run P w=r at h ⊢;unfold Oper.upon at h ⊢;split at h
 ·exact ⟨h,wB hd _⟩
 ·exact ⟨h,wB hd _⟩
 ·rename_i d w';exact ⟨h,(wB (a:={ a with defers:=d::a.defers }) hd _).trans rfl⟩
 ·refine h.mono fun e w' hx=>?_
  cases e with
  |returned v=>exact ⟨hx,wB hd _⟩
  |panicked chain=>exact ⟨hx,fun _=>rfl⟩
  |outgrown=>obtain ⟨a0,w0,h0⟩:=hx;exact ⟨a0,w0,h0,fun h=>(h rfl).elim⟩
 ·exact h.mono fun v w' hx=>⟨hx,wB hd _⟩
 ·exact ⟨h,fun _=>rfl⟩
 ·exact h.elim
theorem a0x {all:Array Oper}{QQ:Exit→Act→World→Prop}{t:Tmp}:∀(l:List Oper) (a:Act) (w:World),(∀o∈l,o.dst≠some t)→wpList P all QQ l a w→wpList P all (fun e a' w'=>QQ e a' w'∧(e≠ .outgrown→a'.eval (.tmp t)=a.eval (.tmp t))) l a w
 |[],a,w,_,h=>⟨h,fun _=>rfl⟩
 |o::rest,a,w,hd,h=>by
  have h0:=hd o (by simp);have hr:=fun o' (ho:o'∈rest)=>hd o' (by simp [ho])
  have mono:∀(a1:Act) (w1:World),a1.eval (.tmp t)=a.eval (.tmp t)→wpList P all QQ rest a1 w1→wpList P all (fun e a' w'=>QQ e a' w'∧(e≠ .outgrown→a'.eval (.tmp t)=a.eval (.tmp t))) rest a1 w1:=fun a1 w1 he hx=>by
   have:=a0x rest a1 w1 hr hx
   rwa [he] at this
  unfold wpList at h ⊢;split at h
  ·rename_i hw;rw [if_pos hw];rcases h with h|⟨h1,a0,w0,h2⟩
   ·exact .inl (Oper.wp_mono (fun a1 w1 hx=>mono a1 w1 hx.2 hx.1) (c5e h0 h))
   ·exact .inr ⟨h1,a0,w0,h2,fun h=>(h rfl).elim⟩
  ·rename_i hw;rw [if_neg hw];exact mono _ _ (wB h0 _) h
theorem DW.frame {ds:List Deferred}{id:Nat}{ops:Array Oper}{Q:Exit→St→Prop}{t u:Tmp}(h:c2e P G ops Q ops.toList st)(ht:∀o∈ops.toList,o.dst≠some t)(hu:∀o∈ops.toList,o.dst≠some u){base:cS}{R:Nat→Nat→Prop}{μ:Nat→Nat}{a:Act}{w:World}(hr:Rel P G base R μ st a w):
  (Code.region id ops false).wp P (fun e a' w'=>((∃a0 s R' μ',a'={ a0 with defers:=ds }∧Q e s∧Rel P G base R' μ' s a0 w'∧Step base R w R' w')∧(e≠ .outgrown→a'.eval (.tmp t)=a.eval (.tmp t)))∧(e≠ .outgrown→a'.eval (.tmp u)=a.eval (.tmp u))) { a with defers:=ds } w:=
 wp_region_list (a0x ops.toList _ w hu (a0x ops.toList _ w ht (b4k ds ops.toList st h base R μ a w hr _ fun e s a' w' R' μ' q1 q2 q3=>⟨a',s,R',μ',rfl,q1,q2,q3⟩)))
end
end Go.VM
end
namespace Go.Proofs.YtjpodcmhcenjjaaGreatDoor
section
open Go Go.VM
variable {G:GT}
abbrev b0i (s:List UInt8)(F:FuncId)(l:List Tok)(ds:List D):St:=⟨[.d (.str s),.yV F [.ptr 100001 0],.undef,.undef,.ptr 4 0,.ptr 5 0,.undef,.undef,.ptr 22 0]++List.replicate 19 .undef,[(4,.cells [.d (.int .i64 0)]),(5,.cells [.d (.int .i64 0)]),(22,rdO l 0),(100001,.cells (ds.map .d))],[]⟩
theorem c5f {α:Type}{rdP:List Tok→Nat→Nat→kY Pr}{l:List Tok}(hV:kQ G rdP l)(C:α→List D)(a0:α)(n e:Int){F:FuncId}(he:VM.Enters Tryz.prog F){s:List UInt8}(hlx:CS Tryz.prog G 64 [.str s] (.cM [.sl (l.map cJ),.int .i64 0,.int .i64 0]) none)(hc:kF G F [.ptr 100000 0,.ptr 100001 0] [(100001,.cells ((C a0).map .d))] [] l 0 (.bad n e:kY α) (fun _=> .cM []) (fun a=>[(100001,.cells ((C a).map .d))])):
  CHd Tryz.prog G 32 ⟨[.d (.str s),.yV F [.ptr 100001 0]],[(100001,.cells ((C a0).map .d))],[]⟩ (.cM [.int .i64 n,.int .i64 e]):=by
 intro base R μ args w hr;refine calls_of_wp_defers Tryz.func32 rfl ?_
 have hr0:=Rel.frame Tryz.ntmps32 rfl hr;refine SW.c9y (T:=fun e' s'=>e'= .normal∧vM s' (b0h s F l [(100001,.cells ((C a0).map .d))])) ?h hr0 (fun s' R' μ' a' w' q1 q2 q3=>?_) (fun e' s' R' μ' a' w' q0 q1 q2 q3=>(q0 q1.1).elim)
 case h=>
  refine SW.xk ?_
  simp;refine SW.xk ?_
  simp;refine kP.mk sI hlx ?_
  simp;refine SW.xk ?_
  simp [List.replicate]
 ·refine a3Y rfl (q2.yK q1.2) fun a1 hr1=>?_
  refine wp_seq (wp_mono (DW.frame (t:=4) (u:=5) (Q:=fun e s'=>e= .normal∧vM s' (b0i s F l (C a0))) ?hD (by decide) (by decide) hr1) fun e2 a2 w2 ⟨⟨⟨a3,s3,R3,μ3,h0,⟨h1,h2⟩,h3,h4⟩,f4⟩,f5⟩=>?_)
  case hD=>simp [List.replicate]
  ·subst h0 h1;have hr3:=h3.yK h2;have f4:a3.eval (.tmp 4)=a1.eval (.tmp 4):=f4 (by simp);have f5:a3.eval (.tmp 5)=a1.eval (.tmp 5):=f5 (by simp);have m4:μ3 4=μ' 4:=by have k1:=hr3.dJ (x:= .tmp 4) (k:=4) (off:=0) rfl;have k2:=hr1.dJ (x:= .tmp 4) (k:=4) (off:=0) rfl;rw [f4,k2] at k1;exact ((Addr.mk.inj (Option.some.inj (Value.pointer.inj k1))).1).symm
   have m5:μ3 5=μ' 5:=by have k1:=hr3.dJ (x:= .tmp 5) (k:=5) (off:=0) rfl;have k2:=hr1.dJ (x:= .tmp 5) (k:=5) (off:=0) rfl;rw [f5,k2] at k1;exact ((Addr.mk.inj (Option.some.inj (Value.pointer.inj k1))).1).symm
   have hz:a3.tmps.size=28:=hr3.size;obtain ⟨vs,hclo,hvs,hvc⟩:=(hr3.kG (x:= .tmp 1) rfl).a4h;obtain ⟨vc,rfl⟩:∃vc,vs= #[vc]:=by
    obtain ⟨L⟩:=vs
    match L,hvs with
    |[x],_=>exact ⟨x,rfl⟩
   have h8:a3.eval (.tmp 8)= .pointer (some ⟨μ3 22,0,none⟩):=hr3.dJ rfl;refine wp_seq (wp_region_list ?_);have hr4:=hr3.put (dst:=some 23) (v:= .func (.func F) #[] #[vc]) (dv:= .undef) (act:= .no) (.undef _) trivial;have hr5:=hr4.put (dst:=some 24) (v:= .pointer (some ⟨μ3 22,0,none⟩)) (dv:= .undef) (act:= .no) (.undef _) trivial;have hfin:finish (finish (b0i s F l (C a0)) (some 23) .undef .no) (some 24) .undef .no=b0i s F l (C a0):=by simp [finish,jK,cH,pS,List.replicate]
   rw [hfin] at hr5;refine oI (w':=w2) (v:= .func (.func F) #[] #[vc]) rfl (.inl (by show (pure (Next.value (a3.eval (.tmp 1))):Sem Next).run _ w2=_;rw [hclo];rfl)) rfl ?_
   refine oI (w':=w2) (v:= .pointer (some ⟨μ3 22,0,none⟩)) rfl (.inl (by show (pure (Next.value (((a3.put (some 23) (.func (.func F) #[] #[vc]))).eval (.tmp 8))):Sem Next).run _ w2=_;rw [bR _ _ (by decide),h8];rfl)) rfl ?_
   change wpList _ _ _ _ { (a3.put (some 23) (.func (.func F) #[] #[vc])).put (some 24) (.pointer (some ⟨μ3 22,0,none⟩)) with defers:=[c2f (.pointer (some ⟨μ' 4,0,none⟩)) (.pointer (some ⟨μ' 5,0,none⟩))] } w2
   generalize ha5:(a3.put (some 23) (.func (.func F) #[] #[vc])).put (some 24) (.pointer (some ⟨μ3 22,0,none⟩))=a5 at hr5 ⊢;have e23:a5.eval (.tmp 23)= .func (.func F) #[] #[vc]:=by rw [← ha5,bR _ _ (by decide)];exact dL _ _ (by omega)
   have e24:a5.eval (.tmp 24)= .pointer (some ⟨μ3 22,0,none⟩):=by rw [← ha5];exact dL _ _ (by rw [size_put];omega)
   have hd5:a5.defers=[]:=hr5.defers;have hw:∀(o:Oper) y,o.guard=none→Region.wanted o y=true:=fun o y hg=>by unfold Region.wanted;rw [hg]
   unfold wpList;rw [if_pos (hw _ _ rfl)];left;unfold Oper.wp;have e2:∀(o:Oper),o.op= .call { callee:= .value (.tmp 23),args:= #[.tmp 24],argTypes:= #[85] }→(execOp a5.eval o).run Tryz.prog w2= .ok (.enter F (#[.pointer (some ⟨μ3 22,0,none⟩)]++ #[vc])) w2:=fun o ho=>by have hi:=vX he #[.pointer (some ⟨μ3 22,0,none⟩)] #[vc] w2;simp [execOp,ho,resolve,e23,e24,Deferred.ofValue];exact hi
   show Oper.upon _ _ _ _ _ ((execOp a5.eval _).run Tryz.prog w2)
   rw [e2 _ (by rfl),Oper.upon_enter];refine (a4L.b2I (st:=b0i s F l (C a0)) hc [(100000,22),(100001,100001)] («d6U» :=[.ptr 22 0,.ptr 100001 0]) (ls:=[]) (rest:=[]) (a2a 0 0) (by simp [aN,aW,aR,aQ,bA,getKey]) (by simp [aT,bC,rk]) (by simp [aT,bC,rk,cL,cW,jP]) rfl rfl (fun k o hk=>?_) hr5 rfl (fun i d hd=>?_) (fun i l h=>by simp at h)).mono ?_
   ·simp only [a2a,getKey] at hk;split at hk
    ·rename_i hk4;subst hk4;exact ⟨by simpa [getKey] using hk,by simp [rk]⟩
    ·split at hk
     ·rename_i hk5;subst hk5;exact ⟨by simpa [getKey] using hk,by simp [rk]⟩
     ·cases hk
   ·match i,hd with
    |0,hd=>simp at hd;subst hd;exact (TV.ptr 22 0:TV R3 μ3 w2 (.pointer (some ⟨μ3 22,0,none⟩)) _)
    |1,hd=>simp at hd;subst hd;exact hvc 0 (.ptr 100001 0) rfl
   ·rintro e' w4 ⟨R4,rfl,hr6,hs6⟩;have hP:=a3l n e hr6 rfl rfl (fun en w'=>∃v R',en= .returned v∧(∀μ',TV R' μ' w' v (.cM [.int .i64 n,.int .i64 e]))∧Step base R w R' w'∧∀b o,R' b o→b<w'.heap.size) fun v R7 w7 hv hs7 hb7=>by exact ⟨v,R7,rfl,hv,((q3.trans h4).trans hs6).trans hs7,hb7⟩
    rw [m4,m5] at hP;exact hP
end
section
open Go Go.VM
variable {G:GT}
abbrev b4l (s:List UInt8)(F:FuncId)(l:List Tok)(j:Nat)(ds:List D):St:=⟨[.d (.str s),.yV F [.ptr 100001 0],.undef,.undef,.ptr 4 0,.ptr 5 0,.undef,.undef,.ptr 22 0]++List.replicate 19 .undef,[(4,.cells [.d (.int .i64 0)]),(5,.cells [.d (.int .i64 0)]),(22,rdO l j),(100001,.cells (ds.map .d))],[]⟩
theorem c2i {α:Type}{rdP:List Tok→Nat→Nat→kY Pr}{l:List Tok}(hV:kQ G rdP l)(C:α→List D)(a0 a:α)(j:Nat)(n e:Int){F:FuncId}(he:VM.Enters Tryz.prog F){s:List UInt8}(hlx:CS Tryz.prog G 64 [.str s] (.cM [.sl (l.map cJ),.int .i64 0,.int .i64 0]) none)(hc:kF G F [.ptr 100000 0,.ptr 100001 0] [(100001,.cells ((C a0).map .d))] [] l 0 (.ok a j) (fun _=> .cM []) (fun a=>[(100001,.cells ((C a).map .d))]))(hj:j<l.length)(hend:zE l j= .bad n e):
  CHd Tryz.prog G 32 ⟨[.d (.str s),.yV F [.ptr 100001 0]],[(100001,.cells ((C a0).map .d))],[]⟩ (.cM [.int .i64 n,.int .i64 e]):=by
 intro base R μ args w hr;refine calls_of_wp_defers Tryz.func32 rfl ?_
 have hr0:=Rel.frame Tryz.ntmps32 rfl hr;refine SW.c9y (T:=fun e' s'=>e'= .normal∧vM s' (b0h s F l [(100001,.cells ((C a0).map .d))])) ?h hr0 (fun s' R' μ' a' w' q1 q2 q3=>?_) (fun e' s' R' μ' a' w' q0 q1 q2 q3=>(q0 q1.1).elim)
 case h=>
  refine SW.xk ?_
  simp;refine SW.xk ?_
  simp;refine kP.mk sI hlx ?_
  simp;refine SW.xk ?_
  simp [List.replicate]
 ·refine a3Y rfl (q2.yK q1.2) fun a1 hr1=>?_
  refine wp_seq (wp_mono (DW.frame (t:=4) (u:=5) (Q:=fun e s'=>e= .normal∧vM s' (b0i s F l (C a0))) ?hD (by decide) (by decide) hr1) fun e2 a2 w2 ⟨⟨⟨a3,s3,R3,μ3,h0,⟨h1,h2⟩,h3,h4⟩,f4⟩,f5⟩=>?_)
  case hD=>simp [List.replicate]
  ·subst h0 h1;have hr3:=h3.yK h2;have f4:a3.eval (.tmp 4)=a1.eval (.tmp 4):=f4 (by simp);have f5:a3.eval (.tmp 5)=a1.eval (.tmp 5):=f5 (by simp);have m4:μ3 4=μ' 4:=by have k1:=hr3.dJ (x:= .tmp 4) (k:=4) (off:=0) rfl;have k2:=hr1.dJ (x:= .tmp 4) (k:=4) (off:=0) rfl;rw [f4,k2] at k1;exact ((Addr.mk.inj (Option.some.inj (Value.pointer.inj k1))).1).symm
   have m5:μ3 5=μ' 5:=by have k1:=hr3.dJ (x:= .tmp 5) (k:=5) (off:=0) rfl;have k2:=hr1.dJ (x:= .tmp 5) (k:=5) (off:=0) rfl;rw [f5,k2] at k1;exact ((Addr.mk.inj (Option.some.inj (Value.pointer.inj k1))).1).symm
   have hz:a3.tmps.size=28:=hr3.size;refine wp_seq (wp_mono (DW.frame (t:=4) (u:=5) (Q:=fun e s'=>e= .normal∧vM s' (b4l s F l j (C a))) ?hD2 (by decide) (by decide) hr3) fun e5 a5 w5 ⟨⟨⟨a6,s6,R6,μ6,h0',⟨h1',h2'⟩,h3',h4'⟩,g4⟩,g5⟩=>?_)
   case hD2=>
    simp [List.replicate];refine a5e.mk (vR he hc [(100000,22),(100001,100001)] (fun a j hx=>?_) ?_ ?_ ?_ rfl rfl (fun a2 j2 hx=>?_) (fun n e hx=>by cases hx))
    ·simp [aN,aW,aR,aQ,bA,getKey,gB]
    ·simp [aN,aW,aR,aQ,bA,getKey,gB]
    ·simp [aT,bC,rk]
    ·simp [aT,bC,rk,cL,cW,jP]
    ·cases hx;simp [bB,aT,bC,rk,cL,cW,bN,gM,eX,eA,jP]
   ·subst h0' h1';have hr6:=h3'.yK h2';have g4:a6.eval (.tmp 4)=a3.eval (.tmp 4):=g4 (by simp);have g5:a6.eval (.tmp 5)=a3.eval (.tmp 5):=g5 (by simp);have n4:μ6 4=μ' 4:=by have k1:=hr6.dJ (x:= .tmp 4) (k:=4) (off:=0) rfl;have k2:=hr1.dJ (x:= .tmp 4) (k:=4) (off:=0) rfl;rw [g4,f4,k2] at k1;exact ((Addr.mk.inj (Option.some.inj (Value.pointer.inj k1))).1).symm
    have n5:μ6 5=μ' 5:=by have k1:=hr6.dJ (x:= .tmp 5) (k:=5) (off:=0) rfl;have k2:=hr1.dJ (x:= .tmp 5) (k:=5) (off:=0) rfl;rw [g5,f5,k2] at k1;exact ((Addr.mk.inj (Option.some.inj (Value.pointer.inj k1))).1).symm
    have h8:a6.eval (.tmp 8)= .pointer (some ⟨μ6 22,0,none⟩):=hr6.dJ rfl;have hz6:a6.tmps.size=28:=hr6.size;refine wp_seq (wp_region_list ?_);have hr7:=hr6.put (dst:=some 26) (v:= .pointer (some ⟨μ6 22,0,none⟩)) (dv:= .undef) (act:= .no) (.undef _) trivial;have hfin:finish (b4l s F l j (C a)) (some 26) .undef .no=b4l s F l j (C a):=by simp [finish,jK,cH,pS,List.replicate]
    rw [hfin] at hr7;refine oI (w':=w5) (v:= .pointer (some ⟨μ6 22,0,none⟩)) rfl (.inl (by show (pure (Next.value (a6.eval (.tmp 8))):Sem Next).run _ w5=_;rw [h8];rfl)) rfl ?_
    change wpList _ _ _ _ { a6.put (some 26) (.pointer (some ⟨μ6 22,0,none⟩)) with defers:=[c2f (.pointer (some ⟨μ' 4,0,none⟩)) (.pointer (some ⟨μ' 5,0,none⟩))] } w5
    generalize ha7:a6.put (some 26) (.pointer (some ⟨μ6 22,0,none⟩))=a7 at hr7 ⊢;have e26:a7.eval (.tmp 26)= .pointer (some ⟨μ6 22,0,none⟩):=by rw [← ha7];exact dL _ _ (by omega)
    have hw:∀(o:Oper) y,o.guard=none→Region.wanted o y=true:=fun o y hg=>by unfold Region.wanted;rw [hg]
    unfold wpList;rw [if_pos (hw _ _ rfl)];left;unfold Oper.wp;have e2:∀(o:Oper),o.op= .call { callee:= .value (.func 66),args:= #[.tmp 26],argTypes:= #[85] }→(execOp a7.eval o).run Tryz.prog w5= .ok (.enter 66 (#[.pointer (some ⟨μ6 22,0,none⟩)]++ #[])) w5:=fun o ho=>by
     have hi:=vX a9S #[.pointer (some ⟨μ6 22,0,none⟩)] #[] w5;have e26u:a7.tmps[26]?.getD undef= .pointer (some ⟨μ6 22,0,none⟩):=by simpa [Act.eval] using e26
     simp [execOp,ho,resolve,e26u,Deferred.ofValue,Act.eval] at hi ⊢;exact hi
    show Oper.upon _ _ _ _ _ ((execOp a7.eval _).run Tryz.prog w5)
    rw [e2 _ (by rfl),Oper.upon_enter];have hce:=b2m (G:=G) hV j hj;rw [hend] at hce;refine (a4L.b2I (st:=b4l s F l j (C a)) hce [(100000,22)] («d6U» :=[.ptr 22 0]) (ls:=[]) (rest:=[]) (a2a 0 0) (by simp [aN,aW,aR,aQ,bA,getKey]) (by simp [aT,bC,rk]) (by simp [aT,bC,rk,cL,cW,jP]) rfl rfl (fun k o hk=>?_) hr7 rfl (fun i d hd=>?_) (fun i l h=>by simp at h)).mono ?_
    ·simp only [a2a,getKey] at hk;split at hk
     ·rename_i hk4;subst hk4;exact ⟨by simpa [getKey] using hk,by simp [rk]⟩
     ·split at hk
      ·rename_i hk5;subst hk5;exact ⟨by simpa [getKey] using hk,by simp [rk]⟩
      ·cases hk
    ·match i,hd with
     |0,hd=>simp at hd;subst hd;exact (TV.ptr 22 0:TV R6 μ6 w5 (.pointer (some ⟨μ6 22,0,none⟩)) _)
    ·rintro e' w8 ⟨R8,rfl,hr8,hs8⟩;have hP:=a3l n e hr8 rfl rfl (fun en w'=>∃v R',en= .returned v∧(∀μ',TV R' μ' w' v (.cM [.int .i64 n,.int .i64 e]))∧Step base R w R' w'∧∀b o,R' b o→b<w'.heap.size) fun v R9 w9 hv hs9 hb9=>by exact ⟨v,R9,rfl,hv,(((q3.trans h4).trans h4').trans hs8).trans hs9,hb9⟩
     rw [n4,n5] at hP;exact hP
end
section
def aB {α:Type}(l:List Tok)(low:Nat)(x:aS α):Prop:=∀(i:Nat) (n e:Int),low≤i→i<l.length→x i= .bad n e→e≠0
section
variable {kw:Nm→Bool} {l:List Tok} {low m:Nat} {α β:Type}
theorem aB.up {x:aS α}{k:Nat}(h:aB l low x)(hk:low≤k):aB l k x:=fun i n e h1 h2 h3=>h i n e (by omega) h2 h3
theorem aB.aO (a:α):aB l low (pure a:aS α):=fun i n e _ _ h=>by cases h
theorem aB.bind {x:aS α}{f:α→aS β}(hx:aB l low x)(ax:aA l m x)(hf:∀a,aB l (low+m) (f a)):aB l low (x >>=f):=fun i n e h1 h2 h3=>by
 rw [eF] at h3;cases hk:x i with
 |bad n' e'=>rw [hk] at h3;cases h3;exact hx i n e h1 h2 hk
 |ok a j=>rw [hk] at h3;have:=ax i a j h2 hk;exact hf a j n e (by omega) this.2 h3
theorem aB.ite {c:Prop}[Decidable c]{x y:aS α}(hx:aB l low x)(hy:aB l low y):aB l low (if c then x else y):=by
 split
 ·exact hx
 ·exact hy
theorem aB.failed:aB l low (cQ l:aS α):=fun i n e _ _ h=>by unfold cQ at h;cases h;decide
theorem aB.exp (hE:pE l):∀s:List Nm,aB l low (aL l s)
 |[]=>aB.aO ()
 |s::r=>fun i n e h1 h2 h3=>by
  have h3:(if aI l i s=true then aL l r (i+1) else cQ l i)= .bad n e:=h3;split at h3
  ·rename_i hs;exact aB.exp hE r (i+1) n e (by omega) (aF hE h2 hs) h3
  ·exact aB.failed (low:=low) i n e h1 h2 h3
theorem aB.skip (s:Nm):aB l low (cR l s):=fun i n e _ _ h=>by unfold cR at h;split at h<;>cases h
theorem aB.take (ok:Tok→Bool):aB l low (mK l ok):=fun i n e h1 h2 h=>by
 unfold mK at h;split at h
 ·cases h
 ·exact aB.failed (low:=low) i n e h1 h2 h
theorem aB.loop (hE:pE l){c:Nm}{one:α→aS α}(h0:∀a,aB l low (one a))(a0:∀a,aA l 0 (one a)):∀(g:Nat) (a:α) (i:Nat) (n e:Int),low≤i→i<l.length→l.length<g+i→gV l c one g a i= .bad n e→e≠0
 |0,a,i,n,e,_,h2,h3,_=>by omega
 |g+1,a,i,n,e,h1,h2,h3,h=>by
  unfold gV at h;split at h
  ·rename_i n' e' hb;cases h;exact h0 a i n e h1 h2 hb
  ·rename_i b j hb;have:=a0 a i b j h2 hb;split at h
   ·rename_i hs;exact aB.loop hE h0 a0 g b (j+1) n e (by omega) (aF hE this.2 hs) (by omega) h
   ·cases h
theorem aB.list (hE:pE l){c:Nm}{one:α→aS α}(h0:∀a,aB l low (one a))(a0:∀a,aA l 0 (one a))(a:α):aB l low (dT l c one a):=fun i n e h1 h2 h=>aB.loop hE h0 a0 _ a i n e h1 h2 (by omega) h
theorem aB.b3f {c:Nat→Bool}{one:α→aS α}(h0:∀a,aB l low (one a))(a1:∀a i b j,i<l.length→c i=true→one a i= .ok b j→i+1≤j∧j<l.length):∀(g:Nat) (a:α) (i:Nat) (n e:Int),low≤i→i<l.length→l.length<g+i→dK c one g a i= .bad n e→e≠0
 |0,a,i,n,e,_,h2,h3,_=>by omega
 |g+1,a,i,n,e,h1,h2,h3,h=>by
  unfold dK at h;split at h
  ·rename_i hc;split at h
   ·rename_i n' e' hb;cases h;exact h0 a i n e h1 h2 hb
   ·rename_i b j hb;have:=a1 a i b j h2 hc hb;exact aB.b3f h0 a1 g b j n e (by omega) this.2 (by omega) h
  ·cases h
theorem aB.many {c:Nat→Bool}{one:α→aS α}(h0:∀a,aB l low (one a))(a1:∀a i b j,i<l.length→c i=true→one a i= .ok b j→i+1≤j∧j<l.length)(a:α):aB l low (oT l c one a):=fun i n e h1 h2 h=>aB.b3f h0 a1 _ a i n e h1 h2 (by omega) h
theorem aB.b0 {x:aS α}{f:α→aS β}(hx:aB l low x)(ax:aA l m x)(hf:∀a,aB l low (f a)):aB l low (x >>=f):=aB.bind hx ax fun a=>(hf a).up (by omega)
section
variable {andP:Pr→Pr→Pr} {rdP:List Tok→Nat→Nat→kY Pr} (hE:pE l) (hB:uX rdP l) (hN:∀i e n x,i<l.length→rdP l i e= .bad n x→x≠0)
include hE
theorem aB.word:aB l low (bL kw l):=aB.take _
theorem aB.title:aB l low (eQ l):=aB.take _
theorem aB.sort:aB l low (a0e kw l):=aB.take _
theorem aB.words:aB l low (cZ kw l):=by unfold cZ;exact aB.b0 (aB.exp hE _) (aA.exp hE _ _) fun _=>aB.b0 (aB.list hE (fun a=>aB.b0 (aB.word hE) (aA.word hE) fun _=>aB.aO _) (fun a=>((aA.word hE).le (by omega)).bl fun _=>aA.aO _) _) (aA.list hE (m:=0) (fun a=>((aA.word hE).le (by omega)).bl fun _=>aA.aO _) _) fun _=>aB.b0 (aB.exp hE _) (aA.exp hE _ _) fun _=>aB.aO _
theorem aB.vars (v:Bool):aB l low (tC kw l v):=by
 unfold tC;refine aB.list hE (fun a=>?_) (fun a=>?_) _
 ·refine aB.b0 (m:=0) (aB.ite (aB.skip _) (aB.aO _)) (aA.ite (aA.skip hE _) (aA.aO _)) fun b=>?_
  refine aB.b0 (m:=0) (aB.ite (aB.aO _) (aB.word hE)) (aA.ite (aA.aO _) ((aA.word hE).le (by omega))) fun nm=>?_
  exact aB.b0 (aB.exp hE _) (aA.exp hE _ _) fun _=>aB.b0 (aB.sort hE) (aA.sort hE) fun _=>aB.aO _
 ·refine aA.br (aA.ite (aA.skip hE _) (aA.aO _)) fun b=>?_
  refine aA.br (aA.ite (aA.aO _) ((aA.word hE).le (by omega))) fun nm=>?_
  exact ((aA.exp hE _ _).le (by omega)).bl fun _=>((aA.sort hE).le (by omega)).bl fun _=>aA.aO _
include hN in
omit hE in
theorem aB.pred:aB l low (dH rdP l):=fun i n e h1 h2 h=>hN i _ n e h2 h
omit hE in
theorem aB.base:aB l low (gI kw l):=fun i n e h1 h2 h=>by
 unfold gI at h
 repeat' split at h
 all_goals cases h
end
section
variable {andP:Pr→Pr→Pr} {rdP:List Tok→Nat→Nat→kY Pr} (hE:pE l) (hB:uX rdP l) (hN:∀i e n x,i<l.length→rdP l i e= .bad n x→x≠0)
include hE hB hN
section
variable {ty:aS Ty} (hty:aB l (low+1) ty) (aty:aA l 1 ty)
include hty aty
theorem aB.a8M:aB l low (oU andP rdP l ty):=by
 unfold oU;refine aB.bind (m:=1) (aB.exp hE _) (aA.exp hE _ _) fun _=>aB.b0 hty aty fun t=>aB.ite aB.failed ?_
 exact aB.b0 (aB.exp hE _) (aA.exp hE _ _) fun _=>aB.b0 (aB.pred hN) hB.pred fun _=>aB.b0 (aB.exp hE _) (aA.exp hE _ _) fun _=>aB.aO _
theorem aB.tF:aB l low (eG kw andP rdP l ty):=by
 unfold eG;refine aB.b0 aB.base (aA.base hE) fun o=>?_
 cases o with
 |some t=>exact aB.aO _
 |none=>
  intro i n e h1 h2 h3;simp only at h3;split at h3
  ·cases h3
  ·split at h3
   ·exact aB.a8M hE hB hN hty aty i n e h1 h2 h3
   ·exact (aB.bind (m:=1) (aB.exp hE _) (aA.exp hE _ _) fun _=>aB.b0 hty aty fun t=>aB.b0 (aB.exp hE _) (aA.exp hE _ _) fun _=>aB.aO _:aB l low _) i n e h1 h2 h3
theorem aB.b1L:aB l low (oF kw andP rdP l ty):=by
 unfold oF;have hs:aB l low (eG kw andP rdP l ty):=aB.tF hE hB hN hty aty;have ash:aA l 1 (eG kw andP rdP l ty):=aA.tF hE (aty.le (by omega)) hB.pred;refine aB.b0 (aB.title hE) (aA.title hE) fun nm=>aB.b0 (aB.many (fun a=>aB.b0 hs ash fun _=>aB.aO _) (fun a i b j hi hc h=>(ash.bl fun _=>aA.aO _) i b j hi h) _) (aA.many (fun a=>(ash.le (by omega)).bl fun _=>aA.aO _) _) fun args=>aB.b0 (aB.skip _) (aA.skip hE _) fun b=>aB.ite ?_ (aB.aO _)
 refine aB.b0 (m:=0) (aB.list hE (fun a=>aB.b0 (aB.exp hE _) (aA.exp hE _ _) fun _=>aB.b0 (aB.pred hN) hB.pred fun _=>aB.aO _) (fun a=>((aA.exp hE _ _).le (by omega)).bl fun _=>hB.pred.bl fun _=>aA.aO _) _) (aA.list hE (fun a=>((aA.exp hE _ _).le (by omega)).bl fun _=>hB.pred.bl fun _=>aA.aO _) _) fun ps=>aB.b0 (aB.exp hE _) (aA.exp hE _ _) fun _=>aB.aO _
theorem aB.b7Z:aB l low (qS kw l ty):=by
 unfold qS;have n1:∀out:List Nm×List Ty,aB l (low+1) (do
   let w ← bL kw l
   aL l [[58]]
   let t ← ty
   pure (out.1++[w],out.2++[t]):aS (List Nm×List Ty)):=fun out=>aB.b0 (aB.word hE) (aA.word hE) fun _=>aB.b0 (aB.exp hE _) (aA.exp hE _ _) fun _=>aB.b0 hty aty fun _=>aB.aO _
 have n2:∀out:List Nm×List Ty,aB l (low+1) (do
   let t ← ty
   pure (out.1,out.2++[t]):aS (List Nm×List Ty)):=fun out=>aB.b0 hty aty fun _=>aB.aO _
 have a1:∀out:List Nm×List Ty,aA l 0 (do
   let w ← bL kw l
   aL l [[58]]
   let t ← ty
   pure (out.1++[w],out.2++[t]):aS (List Nm×List Ty)):=fun out=>((aA.word hE).le (by omega)).bl fun _=>((aA.exp hE _ _).le (by omega)).bl fun _=>(aty.le (by omega)).bl fun _=>aA.aO _
 have a2:∀out:List Nm×List Ty,aA l 0 (do
   let t ← ty
   pure (out.1,out.2++[t]):aS (List Nm×List Ty)):=fun out=>(aty.le (by omega)).bl fun _=>aA.aO _
 refine aB.bind (m:=1) (aB.exp hE _) (aA.exp hE _ _) fun _=>aB.b0 (m:=0) (fun i n e h1 h2 h3=>?_) (fun i a j h2 h3=>?_) fun q=>?_
 ·split at h3
  ·exact aB.list hE n1 a1 _ i n e h1 h2 h3
  ·exact aB.list hE n2 a2 _ i n e h1 h2 h3
 ·split at h3
  ·exact aA.list hE a1 _ i a j h2 h3
  ·exact aA.list hE a2 _ i a j h2 h3
 ·obtain ⟨ns,ts⟩:=q;refine aB.b0 (aB.exp hE _) (aA.exp hE _ _) fun _=>fun i n e h1 h2 h3=>?_
  simp only at h3;split at h3
  ·cases h3
  ·exact (aB.b0 (aB.exp hE _) (aA.exp hE _ _) fun _=>aB.b0 hty aty fun _=>aB.aO _:aB l (low+1) _) i n e h1 h2 h3
theorem aB.c1a:aB l low (oV kw andP rdP l ty):=by
 unfold oV;refine aB.b0 aB.base (aA.base hE) fun o=>?_
 cases o with
 |some t=>exact aB.aO _
 |none=>
  intro i n e h1 h2 h3;simp only at h3;split at h3
  ·exact aB.b1L hE hB hN hty aty i n e h1 h2 h3
  ·split at h3
   ·exact aB.a8M hE hB hN hty aty i n e h1 h2 h3
   ·exact aB.b7Z hE hB hN hty aty i n e h1 h2 h3
end
theorem aB.a4E:∀(n:Nat) (low:Nat),l.length<n+low→aB l low (kZ kw andP rdP l n)
 |0,low,h=>fun i n e h1 h2 h3=>by omega
 |n+1,low,h=>aB.c1a hE hB hN (aB.a4E n (low+1) (by omega)) (aA.a4E hE hB.pred n)
theorem aB.vF:aB l low (cK kw andP rdP l):=aB.a4E hE hB hN _ low (by omega)
theorem aB.types:aB l low (oG kw andP rdP l):=by unfold oG;have ht:aB l low (cK kw andP rdP l):=aB.vF hE hB hN;have hta:aA l 1 (cK kw andP rdP l):=aA.vF hE hB.pred;exact aB.b0 (aB.skip _) (aA.skip hE _) fun b=>aB.ite (aB.b0 (m:=0) (aB.list hE (fun a=>aB.b0 ht hta fun _=>aB.aO _) (fun a=>(hta.le (by omega)).bl fun _=>aA.aO _) _) (aA.list hE (fun a=>(hta.le (by omega)).bl fun _=>aA.aO _) _) fun _=>aB.b0 (aB.exp hE _) (aA.exp hE _ _) fun _=>aB.aO _) (aB.aO _)
section
variable {ex:Nat→aS bY} (hx:∀k,aB l (low+1) (ex k)) (ax:∀k,aA l 1 (ex k))
include hx ax
theorem aB.gJ:aB l low (eR l ex):=by unfold eR;exact aB.bind (m:=1) (aB.exp hE _) (aA.exp hE _ _) fun _=>aB.b0 (m:=0) (aB.list hE (fun a=>aB.b0 (hx 0) (ax 0) fun _=>aB.aO _) (fun a=>((ax 0).le (by omega)).bl fun _=>aA.aO _) _) (aA.list hE (fun a=>((ax 0).le (by omega)).bl fun _=>aA.aO _) _) fun _=>aB.b0 (aB.exp hE _) (aA.exp hE _ _) fun _=>aB.aO _
theorem aB.b0D (op:Int):aB l low (tD l ex op):=by unfold tD;exact aB.bind (m:=1) (aB.exp hE _) (aA.exp hE _ _) fun _=>aB.b0 (hx 0) (ax 0) fun _=>aB.b0 (aB.exp hE _) (aA.exp hE _ _) fun _=>aB.aO _
theorem aB.c3H:aB l (low+1) (uV kw andP rdP l ex):=by
 unfold uV;refine aB.b0 (aB.word hE) (aA.word hE) fun _=>aB.b0 (aB.skip _) (aA.skip hE _) fun b=>aB.b0 (m:=0) (aB.ite (aB.b0 (aB.vF hE hB hN) (aA.vF hE hB.pred) fun _=>aB.aO _) (aB.aO _)) (aA.ite (((aA.vF hE hB.pred).le (by omega)).bl fun _=>aA.aO _) (aA.aO _)) fun _=>?_
 exact aB.b0 (aB.exp hE _) (aA.exp hE _ _) fun _=>aB.b0 (hx 0) (ax 0) fun _=>aB.b0 (aB.exp hE _) (aA.exp hE _ _) fun _=>aB.b0 (hx 0) (ax 0) fun _=>aB.aO _
theorem aB.a8N:aB l (low+1) (oM kw l ex):=by
 unfold oM;have aw:aA l 0 (fun i=>if aI l i [40] then cZ kw l i else .ok [] i:aS (List Nm)):=fun i b j hi h=>by
  simp only at h;split at h
  ·exact ((aA.words hE).le (by omega)) _ _ _ hi h
  ·cases h;omega
 have nw:aB l (low+1) (fun i=>if aI l i [40] then cZ kw l i else .ok [] i:aS (List Nm)):=fun i n e h1 h2 h=>by
  simp only at h;split at h
  ·exact aB.words hE (low:=low+1) i n e h1 h2 h
  ·cases h
 refine aB.b0 (hx 0) (ax 0) fun _=>aB.b0 (aB.exp hE _) (aA.exp hE _ _) fun _=>aB.b0 (m:=0) (aB.list hE (fun a=>?_) (fun a=>?_) _) (aA.list hE (fun a=>?_) _) fun _=>aB.b0 (aB.exp hE _) (aA.exp hE _ _) fun _=>aB.aO _
 ·exact aB.b0 (aB.title hE) (aA.title hE) fun _=>aB.b0 nw aw fun _=>aB.b0 (aB.exp hE _) (aA.exp hE _ _) fun _=>aB.b0 (hx 0) (ax 0) fun _=>aB.aO _
 all_goals exact ((aA.title hE).le (by omega)).bl fun _=>aw.bl fun _=>((aA.exp hE _ _).le (by omega)).bl fun _=>((ax 0).le (by omega)).bl fun _=>aA.aO _
theorem aB.c3I:aB l (low+1) (uW kw andP rdP l ex):=by
 unfold uW;refine aB.b0 (aB.exp hE _) (aA.exp hE _ _) fun _=>aB.b0 (m:=0) (aB.list hE (fun a=>?_) (fun a=>?_) _) (aA.list hE (fun a=>?_) _) fun _=>aB.b0 (aB.exp hE _) (aA.exp hE _ _) fun _=>aB.b0 (hx 0) (ax 0) fun _=>aB.aO _
 ·exact aB.b0 (aB.word hE) (aA.word hE) fun _=>aB.b0 (aB.skip _) (aA.skip hE _) fun _=>aB.b0 (m:=0) (aB.ite (aB.vF hE hB hN) (aB.aO _)) (aA.ite ((aA.vF hE hB.pred).le (by omega)) (aA.aO _)) fun _=>aB.aO _
 all_goals exact ((aA.word hE).le (by omega)).bl fun _=>(aA.skip hE _).bl fun _=>aA.bl (aA.ite ((aA.vF hE hB.pred).le (by omega)) (aA.aO _)) fun _=>aA.aO _
theorem aB.a4F:aB l low (gQ kw andP rdP l ex):=by
 unfold gQ;refine aB.bind (m:=1) (aB.exp hE _) (aA.exp hE _ _) fun _=>fun i n e h1 h2 h=>?_
 split at h
 ·cases h
 ·exact (aB.b0 (hx 0) (ax 0) fun _=>aB.b0 (aB.skip _) (aA.skip hE _) fun _=>aB.b0 (m:=0) (aB.ite (aB.b0 (aB.vF hE hB hN) (aA.vF (kw:=kw) (andP:=andP) hE hB.pred) fun _=>aB.aO _) (aB.aO _)) (aA.ite (((aA.vF hE hB.pred).le (by omega)).bl fun _=>aA.aO _) (aA.aO _)) fun _=>aB.b0 (aB.exp hE _) (aA.exp hE _ _) fun _=>aB.aO _:aB l (low+1) _) i n e h1 h2 h
theorem aB.b5I:aB l low (mF kw andP rdP l ex):=fun i n e h1 h2 h=>by
 unfold mF at h;split at h
 ·cases h
 split at h
 ·cases h
 split at h
 ·cases h
 split at h
 ·rename_i hs;exact aB.b0D hE hB hN hx ax 22 (i+1) n e (by omega) (aF hE h2 hs) h
 split at h
 ·rename_i hs;exact aB.b0D hE hB hN hx ax 23 (i+1) n e (by omega) (aF hE h2 hs) h
 split at h
 ·rename_i hs;exact (aB.b0 (aB.exp hE _) (aA.exp hE _ _) fun _=>aB.b0 (hx 0) (ax 0) fun _=>aB.b0 (aB.exp hE _) (aA.exp hE _ _) fun _=>aB.b0 (hx 0) (ax 0) fun _=>aB.b0 (aB.exp hE _) (aA.exp hE _ _) fun _=>aB.aO _:aB l (low+1) _) (i+1) n e (by omega) (aF hE h2 hs) h
 split at h
 ·rename_i hs;have hn:i+1<l.length:=oH hE h2 (by unfold gU at hs;simp only [d6W,decide_eq_true_eq] at hs;omega);split at h
  ·cases h
  ·exact (aB.b0 (aB.types hE hB hN) (aA.types hE hB.pred) fun _=>aB.b0 (aB.gJ hE hB hN hx ax) (aA.gJ hE ax) fun _=>aB.aO _:aB l low _) (i+1) n e (by omega) hn h
 split at h
 ·rename_i hs;have hn:i+1<l.length:=oH hE h2 (by unfold kT at hs;simp only [decide_eq_true_eq] at hs;omega);refine (aB.b0 (aB.types hE hB hN) (aA.types hE hB.pred) fun _=>aB.b0 (m:=0) (fun i n e h1 h2 h=>?_) (fun i b j hi h=>?_) fun _=>aB.aO _:aB l low _) (i+1) n e (by omega) hn h
  ·split at h
   ·exact aB.gJ hE hB hN hx ax i n e h1 h2 h
   ·cases h
  ·split at h
   ·exact ((aA.gJ hE ax).le (by omega)) _ _ _ hi h
   ·cases h;omega
 ·exact aB.a4F hE hB hN hx ax i n e h1 h2 h
theorem aB.unG:aB l low (qW kw andP rdP l ex):=fun i n e h1 h2 h=>by
 unfold qW at h;split at h
 ·rename_i hs;exact (aB.b0 (hx 7) (ax 7) fun _=>aB.aO _:aB l (low+1) _) (i+1) n e (by omega) (aF hE h2 hs) h
 ·exact aB.b5I hE hB hN hx ax i n e h1 h2 h
omit hx ax hB hN in
theorem aB.chain {ops:List (Nm×Int)}{one:aS bY}(h0:aB l low one)(a0:aA l 0 one):∀(g:Nat) (e0:bY) (i:Nat) (n e:Int),low≤i→i<l.length→l.length<g+i→dC l ops one g e0 i= .bad n e→e≠0
 |0,e0,i,n,e,_,h2,h3,_=>by omega
 |g+1,e0,i,n,e,h1,h2,h3,h=>by
  unfold dC at h;split at h
  ·cases h
  ·rename_i p hp;have hs:aI l i p.1=true:=by simpa using List.find?_some hp
   have hn:=aF hE h2 hs;split at h
   ·rename_i n' e' hb;cases h;exact h0 (i+1) n e (by omega) hn hb
   ·rename_i x j hb;have:=a0 (i+1) x j hn hb;exact aB.chain h0 a0 g _ j n e (by omega) this.2 (by omega) h
omit hx ax hB hN in
theorem aB.lvl {ops:List (Nm×Int)}{one:aS bY}(h0:aB l low one)(a1:aA l 1 one):aB l low (rR l ops one):=by unfold rR;exact aB.b0 h0 a1 fun e0=>fun i n e h1 h2 h=>aB.chain hE h0 (a1.le (by omega)) _ e0 i n e h1 h2 (by omega) h
theorem aB.a2H:aB l low (dB kw andP rdP l ex):=aB.lvl hE (aB.lvl hE (aB.unG hE hB hN hx ax) (aA.unG hE ax hB.pred)) (aA.b5J hE ax hB.pred)
theorem aB.a0i:aB l low (rK kw andP rdP l ex):=by
 unfold rK;have hs:aB l low (dB kw andP rdP l ex):=aB.a2H hE hB hN hx ax;have ha:aA l 1 (dB kw andP rdP l ex):=aA.a2H hE ax hB.pred;have one:∀(f:bY→bY) (i:Nat) (n e:Int) (w:Nm),low≤i→i<l.length→aI l i w=true→(dB kw andP rdP l ex >>=fun x=>pure (f x)) (i+1)= .bad n e→e≠0:=fun f i n e w h1 h2 hw h=>(aB.b0 hs ha fun _=>aB.aO _:aB l low _) (i+1) n e (by omega) (aF hE h2 hw) h
 refine aB.b0 hs ha fun e0=>fun i n e h1 h2 h=>?_
 split at h
 ·rename_i hw;exact one _ i n e _ h1 h2 hw h
 split at h
 ·rename_i hw;exact one _ i n e _ h1 h2 hw h
 split at h
 ·rename_i hw;exact one _ i n e _ h1 h2 hw h
 split at h
 ·rename_i hw;exact one _ i n e _ h1 h2 hw h
 split at h
 ·rename_i hw;exact one _ i n e _ h1 h2 hw h
 split at h
 ·rename_i hw;exact one _ i n e _ h1 h2 hw h
 ·cases h
theorem aB.a2I:aB l low (pT kw andP rdP l ex):=fun i n e h1 h2 h=>by
 unfold pT at h;split at h
 ·rename_i hs;exact (aB.b0 (hx 3) (ax 3) fun _=>aB.aO _:aB l (low+1) _) (i+1) n e (by omega) (aF hE h2 hs) h
 ·exact aB.a0i hE hB hN hx ax i n e h1 h2 h
theorem aB.orG:aB l low (a2Z kw andP rdP l ex):=aB.lvl hE (aB.lvl hE (aB.a2I hE hB hN hx ax) (aA.a2I hE ax hB.pred)) (aA.lvl hE (aA.a2I hE ax hB.pred))
theorem aB.exG:aB l low (uI kw andP rdP l ex):=fun i n e h1 h2 h=>by
 unfold uI at h;split at h
 ·rename_i hs;exact aB.c3H hE hB hN hx ax (i+1) n e (by omega) (aF hE h2 hs) h
 split at h
 ·rename_i hs;exact (aB.b0 (hx 0) (ax 0) fun _=>aB.b0 (aB.exp hE _) (aA.exp hE _ _) fun _=>aB.b0 (hx 0) (ax 0) fun _=>aB.b0 (aB.exp hE _) (aA.exp hE _ _) fun _=>aB.b0 (hx 0) (ax 0) fun _=>aB.aO _:aB l (low+1) _) (i+1) n e (by omega) (aF hE h2 hs) h
 split at h
 ·rename_i hs;exact aB.a8N hE hB hN hx ax (i+1) n e (by omega) (aF hE h2 hs) h
 split at h
 ·rename_i hs;exact aB.c3I hE hB hN hx ax (i+1) n e (by omega) (aF hE h2 hs) h
 split at h
 ·rename_i hs;exact (aB.b0 (aB.word hE) (aA.word hE) fun _=>aB.b0 ((aB.gJ hE hB hN hx ax).up (by omega)) (aA.gJ hE ax) fun _=>aB.b0 (aB.exp hE _) (aA.exp hE _ _) fun _=>aB.b0 (hx 0) (ax 0) fun _=>aB.aO _:aB l (low+1) _) (i+1) n e (by omega) (aF hE h2 hs) h
 ·exact aB.orG hE hB hN hx ax i n e h1 h2 h
end
theorem aB.exF:∀(n:Nat) (low:Nat),l.length<n+low→∀k,aB l low (mL kw andP rdP l n k)
 |0,low,h,k=>fun i n e h1 h2 h3=>by omega
 |n+1,low,h,k=>by
  have hx:=aB.exF n (low+1) (by omega);have ax:=aA.exF (kw:=kw) (andP:=andP) hE hB.pred n;unfold mL;split
  ·exact aB.unG hE hB hN hx ax
  ·split
   ·exact aB.a2I hE hB hN hx ax
   ·exact aB.exG hE hB hN hx ax
theorem aB.expr:aB l low (a1u kw andP rdP l):=aB.exF hE hB hN _ low (by omega) 0
end
end
end
section
section
variable {kw:Nm→Bool} {l:List Tok} {low m:Nat} {α β:Type}
variable {andP:Pr→Pr→Pr} {rdP:List Tok→Nat→Nat→kY Pr} (hE:pE l) (hB:uX rdP l) (hN:∀i e n x,i<l.length→rdP l i e= .bad n x→x≠0)
include hE
theorem aB.wU:aB l low (tT kw l):=by unfold tT;exact aB.list hE (fun a=>aB.b0 (aB.title hE) (aA.title hE) fun _=>aB.b0 (aB.word hE) (aA.word hE) fun _=>aB.aO _) (fun a=>((aA.title hE).le (by omega)).bl fun _=>((aA.word hE).le (by omega)).bl fun _=>aA.aO _) _
theorem b2u (a:List Nm)(i:Nat)(b:List Nm)(j:Nat)(hi:i<l.length)(h:(do let w ← bL kw l;pure (a++[w]):aS (List Nm)) i= .ok b j):i+1≤j∧j<l.length:=((aA.word hE).bl fun _=>aA.aO _:aA l 1 _) i b j hi h
theorem aB.head (mode:Int):aB l low (a0f kw l mode):=by
 unfold a0f;refine aB.b0 (aB.word hE) (aA.word hE) fun nm=>aB.b0 (m:=0) (fun i n e h1 h2 h=>?_) (fun i a j hi h=>?_) fun _=>aB.aO _
 ·split at h
  ·split at h
   ·cases h
   ·exact aB.words hE (low:=low) i n e h1 h2 h
  ·cases h
 ·split at h
  ·rename_i hs;have h1:=aF hE hi hs;split at h
   ·rename_i hf;have h2:=oH hE h1 (pU hE hf);cases h;omega
   ·exact ((aA.words hE).le (by omega)) _ _ _ hi h
  ·cases h;omega
include hB hN
theorem aB.bound:aB l low (tU kw rdP l):=by unfold tU;exact aB.b0 (aB.word hE) (aA.word hE) fun _=>aB.b0 (aB.exp hE _) (aA.exp hE _ _) fun _=>aB.b0 (aB.vars hE _) (aA.vars hE _) fun _=>aB.b0 (aB.exp hE _) (aA.exp hE _ _) fun _=>aB.b0 (aB.pred hN) hB.pred fun _=>aB.b0 (aB.exp hE _) (aA.exp hE _ _) fun _=>aB.b0 (aB.pred hN) hB.pred fun _=>aB.b0 (aB.exp hE _) (aA.exp hE _ _) fun _=>aB.aO _
theorem aB.con:aB l low (a6P kw andP rdP l):=by
 unfold a6P;have n1:∀out:List Nm×List Ty,aB l low (do
   let w ← bL kw l
   aL l [[58]]
   let t ← cK kw andP rdP l
   pure (out.1++[w],out.2++[t]):aS (List Nm×List Ty)):=fun out=>aB.b0 (aB.word hE) (aA.word hE) fun _=>aB.b0 (aB.exp hE _) (aA.exp hE _ _) fun _=>aB.b0 (aB.vF hE hB hN) (aA.vF hE hB.pred) fun _=>aB.aO _
 have a1:∀out:List Nm×List Ty,aA l 0 (do
   let w ← bL kw l
   aL l [[58]]
   let t ← cK kw andP rdP l
   pure (out.1++[w],out.2++[t]):aS (List Nm×List Ty)):=fun out=>((aA.word hE).le (by omega)).bl fun _=>((aA.exp hE _ _).le (by omega)).bl fun _=>((aA.vF hE hB.pred).le (by omega)).bl fun _=>aA.aO _
 exact aB.b0 (aB.title hE) (aA.title hE) fun _=>aB.b0 (aB.skip _) (aA.skip hE _) fun _=>aB.ite (aB.b0 (m:=0) (aB.list hE n1 a1 _) (aA.list hE a1 _) fun _=>aB.b0 (aB.exp hE _) (aA.exp hE _ _) fun _=>aB.aO _) (aB.aO _)
theorem aB.data:aB l low (a0h kw andP rdP l):=by
 unfold a0h;refine aB.b0 (aB.title hE) (aA.title hE) fun _=>aB.b0 (m:=0) (aB.many (fun a=>aB.b0 (aB.word hE) (aA.word hE) fun _=>aB.aO _) (fun a i b j hi _ h=>b2u hE a i b j hi h) _) (aA.many (fun a=>((aA.word hE).le (by omega)).bl fun _=>aA.aO _) _) fun _=>aB.b0 (aB.skip _) (aA.skip hE _) fun _=>?_
 refine aB.b0 (m:=0) (aB.ite (aB.b0 (aB.vars hE _) (aA.vars hE _) fun _=>aB.b0 (aB.exp hE _) (aA.exp hE _ _) fun _=>aB.aO _) (aB.aO _)) (aA.ite (((aA.vars hE _).le (by omega)).bl fun _=>((aA.exp hE _ _).le (by omega)).bl fun _=>aA.aO _) (aA.aO _)) fun _=>aB.b0 (aB.exp hE _) (aA.exp hE _ _) fun _=>?_
 exact aB.b0 (m:=0) (aB.list hE (fun a=>aB.b0 (aB.con hE hB hN) (aA.con hE hB.pred) fun _=>aB.aO _) (fun a=>((aA.con hE hB.pred).le (by omega)).bl fun _=>aA.aO _) _) (aA.list hE (fun a=>((aA.con hE hB.pred).le (by omega)).bl fun _=>aA.aO _) _) fun _=>aB.aO _
theorem aB.cls:aB l low (vP kw andP rdP l):=by
 unfold vP;have n1:∀out:List (Nm×Ty),aB l low (do
   let w ← bL kw l
   aL l [[58]]
   let t ← cK kw andP rdP l
   pure (out++[(w,t)]):aS (List (Nm×Ty))):=fun out=>aB.b0 (aB.word hE) (aA.word hE) fun _=>aB.b0 (aB.exp hE _) (aA.exp hE _ _) fun _=>aB.b0 (aB.vF hE hB hN) (aA.vF hE hB.pred) fun _=>aB.aO _
 have a1:∀out:List (Nm×Ty),aA l 0 (do
   let w ← bL kw l
   aL l [[58]]
   let t ← cK kw andP rdP l
   pure (out++[(w,t)]):aS (List (Nm×Ty))):=fun out=>((aA.word hE).le (by omega)).bl fun _=>((aA.exp hE _ _).le (by omega)).bl fun _=>((aA.vF hE hB.pred).le (by omega)).bl fun _=>aA.aO _
 exact aB.b0 (aB.title hE) (aA.title hE) fun _=>aB.b0 (aB.word hE) (aA.word hE) fun _=>aB.b0 (aB.exp hE _) (aA.exp hE _ _) fun _=>aB.b0 (m:=0) (aB.list hE n1 a1 _) (aA.list hE a1 _) fun _=>aB.aO _
theorem aB.c3J:aB l low (a1w kw rdP l):=by
 unfold a1w;have aw:aA l 0 (fun i=>if aI l i [40] then cZ kw l i else .ok [] i:aS (List Nm)):=fun i b j hi h=>by
  simp only at h;split at h
  ·exact ((aA.words hE).le (by omega)) _ _ _ hi h
  ·cases h;omega
 have nw:aB l low (fun i=>if aI l i [40] then cZ kw l i else .ok [] i:aS (List Nm)):=fun i n e h1 h2 h=>by
  simp only at h;split at h
  ·exact aB.words hE (low:=low) i n e h1 h2 h
  ·cases h
 refine aB.b0 (aB.word hE) (aA.word hE) fun _=>aB.b0 (aB.exp hE _) (aA.exp hE _ _) fun _=>aB.b0 (aB.title hE) (aA.title hE) fun _=>aB.b0 (aB.exp hE _) (aA.exp hE _ _) fun _=>aB.b0 (aB.sort hE) (aA.sort hE) fun _=>aB.b0 (aB.exp hE _) (aA.exp hE _ _) fun _=>?_
 refine aB.b0 (m:=0) (aB.list hE (fun a=>?_) (fun a=>?_) _) (aA.list hE (fun a=>?_) _) fun _=>aB.b0 (aB.exp hE _) (aA.exp hE _ _) fun _=>aB.b0 (aB.skip _) (aA.skip hE _) fun _=>aB.b0 (m:=0) (aB.ite (aB.pred hN) (aB.aO _)) (aA.ite hB.pred (aA.aO _)) fun _=>aB.aO _
 ·exact aB.b0 (aB.title hE) (aA.title hE) fun _=>aB.b0 nw aw fun _=>aB.b0 (aB.exp hE _) (aA.exp hE _ _) fun _=>aB.b0 (aB.pred hN) hB.pred fun _=>aB.aO _
 all_goals exact ((aA.title hE).le (by omega)).bl fun _=>aw.bl fun _=>((aA.exp hE _ _).le (by omega)).bl fun _=>hB.pred.bl fun _=>aA.aO _
theorem aB.c3K:aB l low (a1x kw rdP l):=by unfold a1x;exact aB.b0 (aB.word hE) (aA.word hE) fun _=>aB.b0 (aB.exp hE _) (aA.exp hE _ _) fun _=>aB.b0 (aB.vars hE _) (aA.vars hE _) fun _=>aB.b0 (aB.exp hE _) (aA.exp hE _ _) fun _=>aB.b0 (aB.pred hN) hB.pred fun _=>aB.aO _
theorem aB.body (d:kK):aB l low (a0g kw andP rdP l d):=by unfold a0g;exact aB.b0 (aB.exp hE _) (aA.exp hE _ _) fun _=>aB.b0 (aB.expr hE hB hN) (aA.expr hE hB.pred) fun _=>aB.aO _
theorem aB.sig:aB l low (a0K kw andP rdP l):=by
 unfold a0K;refine aB.b0 (aB.skip _) (aA.skip hE _) fun b=>aB.b0 (m:=0) (aB.ite (aB.b0 (aB.word hE) (aA.word hE) fun _=>aB.b0 (m:=0) (aB.many (fun a=>aB.b0 (aB.word hE) (aA.word hE) fun _=>aB.aO _) (fun a i b j hi _ h=>b2u hE a i b j hi h) _) (aA.many (fun a=>((aA.word hE).le (by omega)).bl fun _=>aA.aO _) _) fun _=>aB.b0 (aB.exp hE _) (aA.exp hE _ _) fun _=>aB.aO _) (aB.aO _)) (aA.ite (((aA.word hE).le (by omega)).bl fun _=>(aA.many (fun a=>((aA.word hE).le (by omega)).bl fun _=>aA.aO _) _).bl fun _=>((aA.exp hE _ _).le (by omega)).bl fun _=>aA.aO _) (aA.aO _)) fun _=>?_
 refine aB.b0 (aB.skip _) (aA.skip hE _) fun b=>aB.b0 (m:=0) (aB.ite (aB.b0 (aB.wU hE) (aA.wU hE) fun _=>aB.b0 (aB.exp hE _) (aA.exp hE _ _) fun _=>aB.aO _) (aB.aO _)) (aA.ite (((aA.wU hE).le (by omega)).bl fun _=>((aA.exp hE _ _).le (by omega)).bl fun _=>aA.aO _) (aA.aO _)) fun _=>?_
 refine aB.b0 (aB.skip _) (aA.skip hE _) fun b=>aB.b0 (m:=0) (aB.ite (aB.b0 (aB.vars hE _) (aA.vars hE _) fun _=>aB.b0 (aB.exp hE _) (aA.exp hE _ _) fun _=>aB.aO _) (aB.aO _)) (aA.ite (((aA.vars hE _).le (by omega)).bl fun _=>((aA.exp hE _ _).le (by omega)).bl fun _=>aA.aO _) (aA.aO _)) fun _=>?_
 refine aB.b0 (m:=0) (aB.many (fun a=>aB.b0 (aB.exp hE _) (aA.exp hE _ _) fun _=>aB.b0 (aB.bound hE hB hN) (aA.bound hE hB.pred) fun _=>aB.aO _) (fun a i b j hi _ h=>((aA.exp hE _ _).bl fun _=>((aA.bound hE hB.pred).le (by omega)).bl fun _=>aA.aO _:aA l 1 _) i b j hi h) _) (aA.many (fun a=>((aA.exp hE _ _).le (by omega)).bl fun _=>((aA.bound hE hB.pred).le (by omega)).bl fun _=>aA.aO _) _) fun _=>?_
 have am:∀(i0:Nat) (a:List Pr),aA l 0 (do
  let p ← (fun j=>rdP l j (uJ l (l.length+1) 0 i0):aS Pr)
  pure (a++[p]):aS (List Pr)):=fun i0 a=>aA.bl (m:=0) (fun i' p j' hi' h'=>by have:=hB _ _ _ _ hi' h';omega) fun _=>aA.aO _
 have nm:∀(i0:Nat) (a:List Pr),aB l low (do
  let p ← (fun j=>rdP l j (uJ l (l.length+1) 0 i0):aS Pr)
  pure (a++[p]):aS (List Pr)):=fun i0 a=>aB.b0 (m:=0) (fun i' n e _ h2 h=>hN _ _ n e h2 h) (fun i' p j' hi' h'=>by have:=hB _ _ _ _ hi' h';omega) fun _=>aB.aO _
 refine aB.b0 (aB.vF hE hB hN) (aA.vF hE hB.pred) fun _=>aB.b0 (aB.skip _) (aA.skip hE _) fun b=>aB.b0 (m:=0) (aB.ite (fun i n e h1 h2 h=>?_) (aB.aO _)) (aA.ite (fun i a j hi h=>?_) (aA.aO _)) fun _=>aB.aO _
 ·exact aB.list hE (nm i) (am i) _ i n e h1 h2 h
 ·exact aA.list hE (am i) _ i a j hi h
theorem aB.defn:aB l low (wV kw andP rdP l):=fun i n e h1 h2 h=>by
 unfold wV at h;have asig:aA l 1 (a0K kw andP rdP l):=aA.sig hE hB;split at h
 ·rename_i hs;refine (aB.b0 (aB.head hE _) (aA.head hE _) fun _=>aB.b0 (aB.skip _) (aA.skip hE _) fun _=>aB.b0 (m:=0) (aB.ite (aB.b0 (aB.sig hE hB hN) asig fun _=>aB.aO _) (aB.aO _)) (aA.ite ((asig.le (by omega:0≤1)).bl fun _=>aA.aO _) (aA.aO _)) fun _=>aB.body hE hB hN _:aB l low _) (i+1) n e (by omega) (aF hE h2 hs) h
 split at h
 ·rename_i hs;exact (aB.b0 (aB.head hE _) (aA.head hE _) fun _=>aB.b0 (aB.exp hE _) (aA.exp hE _ _) fun _=>aB.b0 (aB.sig hE hB hN) asig fun _=>aB.aO _:aB l low _) (i+1) n e (by omega) (aF hE h2 hs) h
 split at h
 ·rename_i hs;exact (aB.b0 (aB.head hE _) (aA.head hE _) fun _=>aB.b0 (aB.exp hE _) (aA.exp hE _ _) fun _=>aB.b0 (aB.sig hE hB hN) asig fun _=>aB.body hE hB hN _:aB l low _) (i+1) n e (by omega) (aF hE h2 hs) h
 ·cases h
theorem aB.inst:aB l low (a1v kw andP rdP l):=by
 unfold a1v;have n1:∀ds:List kK,aB l low (do
  let d ← wV kw andP rdP l
  aL l [[59]]
  pure (ds++[d.getD ⟨[],[],a0R,0,false,a7k⟩]):aS (List kK)):=fun ds=>aB.b0 (m:=0) (aB.defn hE hB hN) (aA.b8a hE hB) fun _=>aB.b0 (aB.exp hE _) (aA.exp hE _ _) fun _=>aB.aO _
 have a1:∀ds:List kK,aA l 1 (do
  let d ← wV kw andP rdP l
  aL l [[59]]
  pure (ds++[d.getD ⟨[],[],a0R,0,false,a7k⟩]):aS (List kK)):=fun ds=>aA.br (aA.b8a hE hB) fun _=>(aA.exp hE _ _).bl fun _=>aA.aO _
 refine aB.b0 (aB.title hE) (aA.title hE) fun _=>aB.b0 (aB.tF hE hB hN (aB.vF hE hB hN) (aA.vF hE hB.pred)) (aA.tF hE ((aA.vF hE hB.pred).le (by omega)) hB.pred) fun _=>aB.b0 (aB.skip _) (aA.skip hE _) fun _=>aB.b0 (m:=0) (aB.ite (aB.wU hE) (aB.aO _)) (aA.ite ((aA.wU hE).le (by omega)) (aA.aO _)) fun _=>aB.b0 (aB.exp hE _) (aA.exp hE _ _) fun _=>?_
 exact aB.b0 (m:=0) (aB.many n1 (fun a i b j hi _ h=>a1 a i b j hi h) _) (aA.many (fun a=>(a1 a).le (by omega)) _) fun _=>aB.b0 (aB.exp hE _) (aA.exp hE _ _) fun _=>aB.aO _
theorem aB.decl (m:kL):aB l low (tE kw andP rdP l m):=fun i n e h1 h2 h=>by
 unfold tE at h;split at h
 ·rename_i hs;exact (aB.b0 (aB.data hE hB hN) (aA.data hE hB.pred) fun _=>aB.aO _:aB l low _) (i+1) n e (by omega) (aF hE h2 hs) h
 split at h
 ·rename_i hs;exact (aB.b0 (aB.cls hE hB hN) (aA.cls hE hB.pred) fun _=>aB.aO _:aB l low _) (i+1) n e (by omega) (aF hE h2 hs) h
 split at h
 ·rename_i hs;exact (aB.b0 (aB.inst hE hB hN) (aA.inst hE hB) fun _=>aB.aO _:aB l low _) (i+1) n e (by omega) (aF hE h2 hs) h
 split at h
 ·rename_i hs;exact (aB.b0 (aB.c3J hE hB hN) (aA.c3J hE hB.pred) fun _=>aB.aO _:aB l low _) (i+1) n e (by omega) (aF hE h2 hs) h
 split at h
 ·rename_i hs;exact (aB.b0 (aB.c3K hE hB hN) (aA.c3K hE hB.pred) fun _=>aB.aO _:aB l low _) (i+1) n e (by omega) (aF hE h2 hs) h
 refine (aB.b0 (m:=0) (aB.defn hE hB hN) (aA.b8a hE hB) fun d=>?_:aB l low _) i n e h1 h2 h;cases d with
 |none=>exact aB.failed
 |some d=>exact aB.aO _
theorem aB.mod:aB l low (a8L kw andP rdP l):=by
 unfold a8L;have n1:∀m:kL,aB l low (do
  let m ← tE kw andP rdP l m
  aL l [[59]]
  pure m:aS kL):=fun m=>aB.b0 (aB.decl hE hB hN m) (aA.decl hE hB m) fun _=>aB.b0 (aB.exp hE _) (aA.exp hE _ _) fun _=>aB.aO _
 have a1:∀m:kL,aA l 1 (do
  let m ← tE kw andP rdP l m
  aL l [[59]]
  pure m:aS kL):=fun m=>(aA.decl hE hB m).bl fun _=>((aA.exp hE _ _).le (by omega)).bl fun _=>aA.aO _
 exact aB.many n1 (fun a i b j hi _ h=>a1 a i b j hi h) _
end
end
section
open Go Go.VM
variable {G:GT}
theorem zD {α:Type}(hG:G 1=some dV)(hS:G 0=some tW)(C:α→List D)(a0:α){F:FuncId}(he:VM.Enters Tryz.prog F)(x:List Tok→aS α)(s:List UInt8)(hs:s.length≤900000000)(hc:∀l:List Tok,kQ G uP l→(∀i, -9223372036854775807≤(aJ l i).n∧(aJ l i).n≤9223372036854775807)→0<l.length→kF G F [.ptr 100000 0,.ptr 100001 0] [(100001,.cells ((C a0).map .d))] [] l 0 (x l 0) (fun _=> .cM []) fun a=>[(100001,.cells ((C a).map .d))])(ha:∀(l:List Tok) a j,pE l→uX uP l→x l 0= .ok a j→j<l.length):
  match dM x s with
  | .ok a _=>CH Tryz.prog G 32 ⟨[.d (.str s),.yV F [.ptr 100001 0]],[(100001,.cells ((C a0).map .d))],[]⟩ ⟨[.cM [.int .i64 0,.int .i64 0]],[(100001,.cells ((C a).map .d))],[]⟩
  | .bad n e=>CHd Tryz.prog G 32 ⟨[.d (.str s),.yV F [.ptr 100001 0]],[(100001,.cells ((C a0).map .d))],[]⟩ (.cM [.int .i64 n,.int .i64 e]):=by
 have hlx:=b0L hS s hs;unfold dM;by_cases hl:40000<s.length
 ·rw [if_pos hl] at hlx ⊢;exact b0g _ F s 0 7 (by decide) hlx
 ·rw [if_neg hl] at hlx ⊢;cases hr:gS kV s 0 1 false with
  |error n=>rw [hr] at hlx;exact b0g _ F s n 14 (by decide) hlx
  |ok l=>
   rw [hr] at hlx;have hV:kQ G uP l:=a6f hG hr (by omega);have hN:=c2d hr;have hpos:0<l.length:=List.length_pos_iff.2 hV.fin.1;have hcl:=hc l hV hN hpos;simp only;cases hx:x l 0 with
   |bad n e=>rw [hx] at hcl;exact c5f hV C a0 n e he hlx hcl
   |ok a j=>
    rw [hx] at hcl;have hj:=ha l a j hV.fin hV.pJ hx;simp only;cases hend:zE l j with
    |bad n e=>exact c2i hV C a0 a j n e he hlx hcl hj hend
    |ok u k=>
     have hk:zE l j= .ok () j:=by
      unfold zE at hend ⊢;split at hend
      ·rename_i h0;rw [if_pos h0]
      ·unfold cQ at hend;cases hend
     exact c9z hV C a0 a j he hlx hcl hj hk
theorem zL {α:Type}{x:List Tok→aS α}{s:List UInt8}(h:∀(l:List Tok) n e,pE l→uX uP l→0<l.length→x l 0= .bad n e→e≠0){n e:Int}(hb:dM x s= .bad n e):e≠0:=by
 unfold dM at hb;split at hb
 ·cases hb;decide
 ·split at hb
  ·cases hb;decide
  ·rename_i l hl;have hE:=b4j (rC s 0 1 false l hl);have hpos:0<l.length:=List.length_pos_iff.2 hE.1;have hfin:pE l:=by
    refine ⟨hE.1,hE.2 _ ?_⟩;unfold aJ;rw [if_pos (by omega),List.getD_eq_getElem?_getD,d7a (by omega)]
    rfl
   split at hb
   ·rename_i n' e' hx;cases hb;exact h l _ _ hfin (fun e i p j hi hx=>b4i hE.2 e i p j hi hx) hpos hx
   ·rename_i a j hx;split at hb
    ·rename_i n' e' he;cases hb;unfold zE at he;split at he
     ·cases he
     ·unfold cQ at he;cases he;decide
    ·cases hb
theorem a6g (l:List Tok):∀i e n x,i<l.length→uP l i e= .bad n x→x≠0:=fun i e n x _ h=>by
 unfold uP at h;split at h
 ·cases h;decide
 ·split at h
  ·cases h
  ·rename_i hc;cases h;exact hc
abbrev moN:List D:=[.aM,.aM,.aM,.aM,.aM,.aM]
def moC:Option kL→List D
 |none=>moN
 |some m=>a3a m
def a3Z {α:Type}:kY α→kY (Option α)
 | .ok a j=> .ok (some a) j
 | .bad n e=> .bad n e
section
variable {rdP:List Tok→Nat→Nat→kY Pr} {l:List Tok} (hV:kQ G rdP l) (hN:∀i, -9223372036854775807≤(aJ l i).n∧(aJ l i).n≤9223372036854775807)
include hV hN
theorem b0j (i:Nat)(hi:i<l.length):kF G 40 [.ptr 100000 0,.ptr 100001 0] [(100001,.cells ((moC none).map .d))] [] l i (a3Z (a8L aX bE rdP l i)) (fun _=> .cM []) fun a=>[(100001,.cells ((moC a).map .d))]:=by
 have h:=b1e hV hN i hi;cases hr:a8L aX bE rdP l i with
 |ok m j=>
  rw [hr] at h;intro base R μ args w hrel;refine (h base R μ args w (hrel.yK ⟨by simp [moC],by simp [uM,moC],by simp [moC],by simp [bA,moC,uM,getKey]⟩)).mono ?_
  rintro e w' ⟨v,R',μ',h1,h2,h3⟩;exact ⟨v,R',μ',h1,h2.yK ⟨by simp [moC,a3a],by simp [uM,moC,a3a],by simp [moC,a3a],by simp [bA,moC,a3a]⟩,h3⟩
 |bad n e=>rw [hr] at h;intro base R μ args w hrel;exact h base R μ args w (hrel.yK ⟨by simp [moC],by simp [uM,moC],by simp [moC],by simp [bA,moC,uM,getKey]⟩)
end
end
section
abbrev tyM (l:List Tok):aS Ty:=cK aX bE uP l
abbrev exM (l:List Tok):aS bY:=a1u aX bE uP l
abbrev moQ (l:List Tok):aS kL:=a8L aX bE uP l
def sP {α:Type}(z:α):kY α→α
 | .ok a _=>a
 | .bad _ _=>z
def sQ {α:Type}:kY α→Int
 | .ok _ _=>0
 | .bad _ e=>e
def c2j {α:Type}:kY α→Int
 | .ok _ _=>0
 | .bad n _=>n
end
section
open Go Go.VM
variable {G:GT}
theorem sM:VM.Enters Tryz.prog 17:=VM.Enters.mk Tryz.func17 rfl
theorem eW.mkd {P:Program}{q ro:Bool}{ls:List (Option VM.Loc)}{f:FuncId}{s0:St}{r:DV}{st:St}{«d6U» :List DV}{dst:Option Tmp}{all:Array Oper}{ops:List Oper}{k:List KI}{Q:Exit→St→Prop}{rest:List (TypeId×List VM.Loc)}(he:VM.Enters P f)(hch:CHd P G f s0 r)(K:List (Nat×Nat))(H':List (Nat×aY))(hfit:aN K s0 .undef s0.H=true)(hargs:WkT «d6U» (aT K s0.tmps))(hH:WkH st.H (cL K s0.H))(jR:rQ st st.own (s0.own.map (mJ K ls))=some rest)(harg:uU st.tmps.length ls s0.own=true)(hK:∀k o,getKey k H'=some o→getKey k st.H=some o∧∀p∈s0.H,k≠rk K p.1)(h:VK P G (.ops q all ops::k) .normal ⟨pS dst r st.tmps,H',[]⟩ Q)(hro:ro=false:=by kernel_rfl):eW P G q ro f «d6U» ls dst all ops k st Q:=eW.mk' ⟨_,⟨he,kR.d3A hch K H' hfit hargs hH jR harg hK⟩,h⟩ hro
theorem tX (hG:G 1=some dV)(hS:G 0=some tW)(s:List UInt8)(hs:s.length≤900000000):CS Tryz.prog G 17 [.str s] (.cM [.agg (tyD (sP oL (dM tyM s))),.int .i64 (sQ (dM tyM s))]) none:=by
 have hrd:=zD hG hS (C:=tyD) oL a5Z tyM s hs (fun l hV hN hp=>b6B hV oL 0 hp) (fun l a j hE hB hx=>((aA.vF hE hB.pred) 0 a j (List.length_pos_iff.2 hE.1) hx).2);have hnz:∀n e,dM tyM s= .bad n e→e≠0:=fun n e h=>zL (fun l n e hE hB hp h=>aB.vF (low:=0) hE hB (a6g l) 0 n e (Nat.zero_le _) hp h) h
 cases hr:dM tyM s with
 |ok t j=>
  rw [hr] at hrd;refine CS.bI Tryz.func17 rfl Tryz.ntmps17 rfl ?_
  simp;refine eW.mk jH hrd [(100001,4)] ?_ ?_ ?_ rfl rfl ?_ (rest:=[])
  ·simp [aN,aW,aR,aQ,bA,getKey]
  ·simp [aT,bC,rk]
  ·simp [aT,bC,rk,cL,cW,oL,kS,strs]
  ·simp [bB,aT,bC,rk,cL,cW,bN,gM,eX,eA,sP,sQ]
 |bad n e=>
  rw [hr] at hrd;have he:=hnz n e hr;refine CS.bI Tryz.func17 rfl Tryz.ntmps17 rfl ?_
  simp;refine eW.mkd jH hrd [(100001,4)] [(2,.cells [.d (.int .i64 0),.d (.str []),.d .aM,.d .aM,.d (.int .i64 0),.d (.str []),.d (.int .i64 0),.d .aM,.d .aM])] ?_ ?_ ?_ rfl rfl ?_ ?_ (rest:=[])
  ·simp [aN,aW,aR,aQ,bA,getKey]
  ·simp [aT,bC,rk]
  ·simp [aT,bC,rk,cL,cW,oL,kS,strs]
  ·intro k o hk;simp only [getKey] at hk;split at hk
   ·rename_i h2;subst h2;exact ⟨by simpa [getKey] using hk,by simp [rk]⟩
   ·cases hk
  ·simp [sP,sQ,he,oL,kS,strs]
theorem jI:VM.Enters Tryz.prog 14:=VM.Enters.mk Tryz.func14 rfl
theorem kE (hG:G 1=some dV)(hS:G 0=some tW)(s:List UInt8)(hs:s.length≤900000000):CS Tryz.prog G 14 [.str s] (.cM [.agg (rM (sP a0R (dM exM s))),.int .i64 (sQ (dM exM s))]) none:=by
 have hrd:=zD hG hS (C:=rM) a0R a5Y exM s hs (fun l hV hN hp=>b6C hV hN a0R 0 hp) (fun l a j hE hB hx=>((aA.exF hE hB.pred _ 0) 0 a j (List.length_pos_iff.2 hE.1) hx).2);have hnz:∀n e,dM exM s= .bad n e→e≠0:=fun n e h=>zL (fun l n e hE hB hp h=>aB.expr (low:=0) hE hB (a6g l) 0 n e (Nat.zero_le _) hp h) h
 cases hr:dM exM s with
 |ok t j=>
  rw [hr] at hrd;refine CS.bI Tryz.func14 rfl Tryz.ntmps14 rfl ?_
  simp;refine eW.mk jH hrd [(100001,4)] ?_ ?_ ?_ rfl rfl ?_ (rest:=[])
  ·simp [aN,aW,aR,aQ,bA,getKey]
  ·simp [aT,bC,rk]
  ·simp [aT,bC,rk,cL,cW,a0R,rM,strs]
  ·simp [bB,aT,bC,rk,cL,cW,bN,gM,eX,eA,sP,sQ]
 |bad n e=>
  rw [hr] at hrd;have he:=hnz n e hr;refine CS.bI Tryz.func14 rfl Tryz.ntmps14 rfl ?_
  simp;refine eW.mkd jH hrd [(100001,4)] [(2,.cells [.d (.int .i64 0),.d (.str []),.d (.int .i64 0),.d .aM,.d .aM,.d .aM,.d .aM])] ?_ ?_ ?_ rfl rfl ?_ ?_ (rest:=[])
  ·simp [aN,aW,aR,aQ,bA,getKey]
  ·simp [aT,bC,rk]
  ·simp [aT,bC,rk,cL,cW,a0R,rM,strs]
  ·intro k o hk;simp only [getKey] at hk;split at hk
   ·rename_i h2;subst h2;exact ⟨by simpa [getKey] using hk,by simp [rk]⟩
   ·cases hk
  ·simp [sP,sQ,he,a0R,rM,strs]
theorem c5g {l:List Tok}(hE:pE l)(hB:uX uP l):aA l 0 (yS uP l):=aA.bl (aA.b8a hE hB) fun d=>by
 cases d with
 |none=>exact aA.failed
 |some d=>exact (aA.skip hE _).bl fun _=>aA.aO _
theorem c9A {l:List Tok}(hE:pE l)(hB:uX uP l):aB l 0 (yS uP l):=aB.b0 (m:=0) (aB.defn hE hB (a6g l)) (aA.b8a hE hB) fun d=>by
 cases d with
 |none=>exact aB.failed
 |some d=>exact aB.b0 (aB.skip _) (aA.skip hE _) fun _=>aB.aO _
theorem b1i:VM.Enters Tryz.prog 27:=VM.Enters.mk Tryz.func27 rfl
theorem b4m (hG:G 1=some dV)(hS:G 0=some tW)(s:List UInt8)(hs:s.length≤900000000):CS Tryz.prog G 27 [.str s] (.cM [.agg (a7u (sP a7v (dM (yS uP) s))),.int .i64 (sQ (dM (yS uP) s))]) none:=by
 have hrd:=zD hG hS (C:=a7u) a7v a7y (yS uP) s hs (fun l hV hN hp=>b8H hV hN a7v 0 hp) (fun l a j hE hB hx=>((c5g hE hB) 0 a j (List.length_pos_iff.2 hE.1) hx).2);have hnz:∀n e,dM (yS uP) s= .bad n e→e≠0:=fun n e h=>zL (fun l n e hE hB hp h=>c9A hE hB 0 n e (Nat.zero_le _) hp h) h
 cases hr:dM (yS uP) s with
 |ok t j=>
  rw [hr] at hrd;refine CS.bI Tryz.func27 rfl Tryz.ntmps27 rfl ?_
  simp;refine eW.mk jH hrd [(100001,4)] ?_ ?_ ?_ rfl rfl ?_ (rest:=[])
  ·simp [aN,aW,aR,aQ,bA,getKey]
  ·simp [aT,bC,rk]
  ·simp [aT,bC,rk,cL,cW,a7v,a7u,b3S,a7k,oL,kS,a0R,dG,strs]
  ·simp [bB,aT,bC,rk,cL,cW,bN,gM,eX,eA,sP,sQ]
 |bad n e=>
  rw [hr] at hrd;have he:=hnz n e hr;refine CS.bI Tryz.func27 rfl Tryz.ntmps27 rfl ?_
  simp;refine eW.mkd jH hrd [(100001,4)] [(2,.cells [.d (.str []),.d .aM,.d (.int .i64 0),.d (.str []),.d (.int .i64 0),.d .aM,.d .aM,.d .aM,.d .aM,.d (.int .i64 0),.d (.bool false),.d .aM,.d .aM,.d .aM,.d .aM,.d (.int .i64 0),.d (.str []),.d .aM,.d .aM,.d (.int .i64 0),.d (.str []),.d (.int .i64 0),.d .aM,.d .aM,.d .aM])] ?_ ?_ ?_ rfl rfl ?_ ?_ (rest:=[])
  ·simp [aN,aW,aR,aQ,bA,getKey]
  ·simp [aT,bC,rk]
  ·simp [aT,bC,rk,cL,cW,a7v,a7u,b3S,a7k,oL,kS,a0R,dG,strs]
  ·intro k o hk;simp only [getKey] at hk;split at hk
   ·rename_i h2;subst h2;exact ⟨by simpa [getKey] using hk,by simp [rk]⟩
   ·cases hk
  ·simp [sP,sQ,he,a7v,a7u,b3S,a7k,oL,kS,a0R,dG,strs]
theorem tN:VM.Enters Tryz.prog 21:=VM.Enters.mk Tryz.func21 rfl
abbrev d6j:kL:=⟨[],[],[],[],[],[]⟩
theorem b8X {α:Type}(x:List Tok→aS α)(s:List UInt8):dM (fun l=>(fun i=>a3Z (x l i):aS (Option α))) s=a3Z (dM x s):=by
 unfold dM;split
 ·rfl
 ·split
  ·rfl
  ·rename_i l hl;simp only;cases x l 0 with
   |bad n e=>rfl
   |ok a j=>simp only [a3Z];cases zE l j<;>rfl
theorem vE (hG:G 1=some dV)(hS:G 0=some tW)(s:List UInt8)(hs:s.length≤900000000):CS Tryz.prog G 21 [.str s] (.cM [.agg (a3a (sP d6j (dM moQ s))),.int .i64 (c2j (dM moQ s)),.int .i64 (sQ (dM moQ s))]) none:=by
 have hrd:=zD hG hS (C:=moC) none a3V (fun l=>(fun i=>a3Z (moQ l i):aS (Option kL))) s hs (fun l hV hN hp=>b0j hV hN 0 hp) (fun l a j hE hB hx=>by
  cases hm:moQ l 0 with
  |bad n e=>simp [hm,a3Z] at hx
  |ok m k=>simp only [hm,a3Z] at hx;cases hx;have pJ:aA l 0 (moQ l):=aA.many (fun m=>(aA.decl hE hB m).le (by omega) |>.bl fun _=>((aA.exp hE _ _).le (by omega)).bl fun _=>aA.aO _) _;exact (pJ 0 _ _ (List.length_pos_iff.2 hE.1) hm).2)
 rw [b8X] at hrd;have hnz:∀n e,dM moQ s= .bad n e→e≠0:=fun n e h=>zL (fun l n e hE hB hp h=>aB.mod (low:=0) hE hB (a6g l) 0 n e (Nat.zero_le _) hp h) h
 cases hr:dM moQ s with
 |ok t j=>
  rw [hr] at hrd;refine CS.bI Tryz.func21 rfl Tryz.ntmps21 rfl ?_
  simp;refine eW.mk jH hrd [(100001,5)] ?_ ?_ ?_ rfl rfl ?_ (rest:=[])
  ·simp [aN,aW,aR,aQ,bA,getKey,moC,a3a]
  ·simp [aT,bC,rk]
  ·simp [aT,bC,rk,cL,cW,moC]
  ·simp [bB,aT,bC,rk,cL,cW,bN,gM,eX,eA,sP,sQ,c2j,moC,a3a]
 |bad n e=>
  rw [hr] at hrd;have he:=hnz n e hr;refine CS.bI Tryz.func21 rfl Tryz.ntmps21 rfl ?_
  simp;refine eW.mkd jH hrd [(100001,5)] [(2,.cells [.d .aM,.d .aM,.d .aM,.d .aM,.d .aM,.d .aM])] ?_ ?_ ?_ rfl rfl ?_ ?_ (rest:=[])
  ·simp [aN,aW,aR,aQ,bA,getKey,moC]
  ·simp [aT,bC,rk]
  ·simp [aT,bC,rk,cL,cW,moC]
  ·intro k o hk;simp only [getKey] at hk;split at hk
   ·rename_i h2;subst h2;exact ⟨by simpa [getKey] using hk,by simp [rk]⟩
   ·cases hk
  ·simp [sP,sQ,c2j,he,a3a]
end
end Go.Proofs.YtjpodcmhcenjjaaGreatDoor
section
namespace Go.VM
open Go Go.RowKit
section
variable {P:Program} {G:GT} {st:St} {base:cS} {R:Nat→Nat→Prop} {μ:Nat→Nat} {a:Act} {w w':World}
theorem b6T {c:Array Value}{T:TypeId}{fr:Nat×Nat}{ad:Addr}{v:Value}{w1:World}(h1:w.heap[ad.block]? =some (.cells c T fr))(h2:w'.heap[ad.block]? =some (.cells c T fr))(h:(load ad).run P w= .ok v w1):(load ad).run P w'= .ok v w':=by
 rw [run_load] at h ⊢;have e:w'.cell? ad=w.cell? ad:=by unfold World.cell?;rw [h1,h2]
 rw [e];cases hc:w.cell? ad with
 |some u=>rw [hc] at h;cases h;rfl
 |none=>
  rw [hc] at h;have:∃x,w.farLoad P ad (Mode.plain==Mode.atomic)= .error x:=by unfold World.farLoad;rw [h1];exact ⟨_,rfl⟩
  obtain ⟨x,hx⟩:=this;rw [hx] at h;cases h
theorem a3m {c:Array Value}{T:TypeId}{fr:Nat×Nat}{b off:Nat}(h1:w.heap[b]? =some (.cells c T fr))(h2:w'.heap[b]? =some (.cells c T fr)):∀(n i:Nat) (acc vs:Array Value) (w1:World),(loadCellsFrom ⟨b,off,none⟩ i n acc).run P w= .ok vs w1→(loadCellsFrom ⟨b,off,none⟩ i n acc).run P w'= .ok vs w'
 |0,i,acc,vs,w1,h=>by
  simp only [loadCellsFrom,Sem.run_pure] at h ⊢;cases h
  rfl
 |n+1,i,acc,vs,w1,h=>by
  simp only [loadCellsFrom,Sem.run_bind] at h ⊢;have hb:(Addr.add ⟨b,off,none⟩ i).block=b:=by rw [jS]
  cases hl:(load (Addr.add ⟨b,off,none⟩ i)).run P w with
  |halt x w2=>rw [hl] at h;cases h
  |ok v w2=>
   have hw2:w2=w:=by
    rw [run_load] at hl;split at hl
    ·cases hl;rfl
    ·split at hl
     ·cases hl;rfl
     ·cases hl
   rw [hw2] at hl;rw [hl] at h;rw [b6T (by rw [hb];exact h1) (by rw [hb];exact h2) hl];simp only [Result.andThen_ok] at h ⊢;exact a3m h1 h2 n (i+1) _ vs w1 h
theorem b6U {c:Array Value}{T:TypeId}{fr:Nat×Nat}{b off:Nat}{t:TypeId}{v:Value}{w1:World}(h1:w.heap[b]? =some (.cells c T fr))(h2:w'.heap[b]? =some (.cells c T fr))(h:(loadVar t ⟨b,off,none⟩).run P w= .ok v w1):(loadVar t ⟨b,off,none⟩).run P w'= .ok v w':=by
 unfold loadVar at h ⊢;cases hu:P.underlying t with
 |none=>
  have:∀w:World,∃x,(isAgg t).run P w= .halt x w:=fun w=>by unfold isAgg;simp [underlying,hu]
  obtain ⟨x,hx⟩:=this w;rw [Sem.run_bind,hx] at h;cases h
 |some d=>
  simp only [Sem.run_bind,oN hu,Result.andThen_ok] at h ⊢;cases hd:kW d with
  |false=>simp only [hd,Bool.false_eq_true,if_false] at h ⊢;exact b6T h1 h2 h
  |true=>
   simp only [hd,if_true,Sem.run_bind] at h ⊢;cases hi:P.info? t with
   |none=>
    have:∃x,(sizeOf t).run P w= .halt x w:=by simp [sizeOf,typeInfo,hi]
    obtain ⟨x,hx⟩:=this;rw [hx] at h;cases h
   |some i=>
    have hs:∀w,(sizeOf t).run P w= .ok (P.cellsOf t) w:=mD (by rw [hi];rfl);simp only [hs,Result.andThen_ok] at h ⊢;cases hl:(loadCells ⟨b,off,none⟩ (P.cellsOf t)).run P w with
    |halt x w2=>rw [hl] at h;cases h
    |ok vs w2=>
     rw [hl] at h;rw [show (loadCells ⟨b,off,none⟩ (P.cellsOf t)).run P w'= .ok vs w' from a3m h1 h2 _ _ _ _ _ hl];simp only [Result.andThen_ok,Sem.run_pure] at h ⊢;cases h
     rfl
def a2M (w w':World):Prop:=∀b,b<w.heap.size→w'.heap[b]? =w.heap[b]?
def c0c:Op→Bool
 | .load _ _=>true
 | .indexAddr _ _ _=>true
 |o=>a2r o
theorem c5h {o:Oper}{all:Array Oper}{K:St→Prop}(hg:o.guard=none)(hk:c0c o.op=true)(h:kH P G true all o K st)(hr:Rel P G base R μ st a w):∃v,∀w',a2M w w'→(execOp a.eval o).run P w'= .ok (.value v) w':=by
 by_cases hst:a2r o.op=true
 ·obtain ⟨v,hv⟩:=a8Y hg hst h hr;exact ⟨v,fun w' _=>hv w'⟩
 unfold kH at h;rw [show dU o all st.tmps=some true from by unfold dU;rw [hg]] at h;cases hop:o.op with
 |load t x=>
  simp only [gG,cX,hop,jJ] at h;split at h;rotate_left
  ·exact h.elim
  rename_i out ho;obtain ⟨v,w1,_,_,hrun,_⟩:=b4B hop ho base R μ a w hr;have key:∀ {b off:Nat} {c:Array Value} {T:TypeId} {fr:Nat×Nat},a.eval x= .pointer (some ⟨b,off,none⟩)→w.heap[b]? =some (.cells c T fr)→∃v,∀w',a2M w w'→(execOp a.eval o).run P w'= .ok (.value v) w':=fun {b off c T fr} hx hb=>by
   have hlt:b<w.heap.size:=(d7f.1 hb).1;have e:∀w,(execOp a.eval o).run P w=((loadVar t ⟨b,off,none⟩).run P w).andThen fun v w=> .ok (.value v) w:=fun w=>by simp [execOp,hop,hx,Instr.loadAt,Instr.sureAddr]
   cases hl:(loadVar t ⟨b,off,none⟩).run P w with
   |halt y w2=>rw [e,hl] at hrun;rcases hrun with hrun|⟨hrun,_⟩<;>cases hrun
   |ok u w2=>
    refine ⟨u,fun w' hw'=>?_⟩;rw [e,b6U hb ((hw' b hlt).trans hb) hl]
    rfl
  unfold a6o at ho;split at ho
  ·rename_i k off hx;split at ho
   ·rename_i cs hkk;obtain ⟨_,_,vs,T,hh,_⟩:=hr.gL k _ hkk;exact key (hr.dJ hx) hh
   ·cases ho
  ·rename_i cs hx;obtain ⟨b,off,he,hrunv⟩:=(hr.kG hx).a1c;simp only [d6V] at ho;obtain ⟨y,hy,_⟩:=ho;cases cs with
   |nil=>
    unfold takeD at hy;split at hy
    ·rename_i d hd;split at hy
     ·rename_i hagg;split at hy
      ·rename_i hle;have h0:P.cellsOf t=0:=by simpa using hle
       have hv0:∀w',(loadVar t ⟨b,off,none⟩).run P w'= .ok (.agg #[]) w':=fun w'=>by
        unfold loadVar;simp only [Sem.run_bind,oN hd,Result.andThen_ok,hagg,if_true,run_sizeOf hd,h0]
        rfl
       exact ⟨.agg #[],fun w' _=>by simp [execOp,hop,he,Instr.loadAt,Instr.sureAddr,hv0]⟩
      ·cases hy
     ·cases hy
    ·cases hy
   |cons d r=>
    obtain ⟨_,_,u,hu,_⟩:=hrunv 0 d rfl;unfold World.cell? at hu;split at hu
    ·rename_i c T fr hb;exact key he hb
    ·cases hu
  ·cases ho
 |indexAddr t x i=>
  simp only [gG,cX,hop,jJ] at h;split at h;rotate_left
  ·exact h.elim
  rename_i out ho;unfold pM at ho;split at ho
  ·rename_i e es n hu hx hi;simp only [d7k] at ho;obtain ⟨j,hj,cs,hcs,ho⟩:=ho;split at ho<;>simp at ho;rename_i hlen;obtain ⟨k,hk,hjl⟩:=a5C hr hi hj;obtain ⟨ao,cap,hv,hcap,hne⟩:=(hr.jA hx).uT;obtain ⟨b,off,size,rfl,hs0,hs1,hrun⟩:=hne (by rintro rfl;simp at hcs);have hsz:size=P.cellsOf e:=by rw [← hlen,hs1 cs (d7b hcs)]
   refine ⟨.pointer (some ⟨b,off+j*size,none⟩),fun w' _=>?_⟩;have hso:=mD (dW (P:=P) (t:=e) (by omega)) w';simp [execOp,hop,hv,hk,Instr.indexAt,run_underlying hu,asIntOf,hjl,hso,jS,hsz]
  ·rename_i len e k off n hu hx hi;split at ho
   ·cases ho
   ·rename_i hne;simp only [d6V] at ho;obtain ⟨j,hj,_⟩:=ho;obtain ⟨q,hq,hjl⟩:=a5C hr hi hj;exact ⟨.pointer (some ⟨μ k,off+j*P.cellsOf e,none⟩),fun w' _=>by simp [execOp,hop,hr.dJ hx,hq,Instr.indexAt,run_underlying hu,asIntOf,Instr.sureAddr,hjl,mD (dW hne) w',jS]⟩
  ·rename_i len e cs n hu hx hi;split at ho
   ·cases ho
   ·rename_i hne;simp only [d6V] at ho;obtain ⟨j,hj,_⟩:=ho;obtain ⟨q,hq,hjl⟩:=a5C hr hi hj;obtain ⟨b,off,he,hrun⟩:=(hr.kG hx).a1c;exact ⟨.pointer (some ⟨b,off+j*P.cellsOf e,none⟩),fun w' _=>by simp [execOp,hop,he,hq,Instr.indexAt,run_underlying hu,asIntOf,Instr.sureAddr,hjl,mD (dW hne) w',jS]⟩
  ·cases ho
 |_=>simp [c0c,hop] at hk<;>simp [hop,hk] at hst
theorem a2M.refl (w:World):a2M w w:=fun _ _=>rfl
theorem c2k {o:Oper}{all:Array Oper}{K:St→Prop}(hg:o.guard=none)(hk:c0c o.op=true)(h:kH P G true all o K st)(hr:Rel P G base R μ st a w):
  ∃v s R' μ',(∀w',a2M w w'→(execOp a.eval o).run P w'= .ok (.value v) w')∧K s∧Rel P G base R' μ' s (a.put o.dst v) w∧Step base R w R' w:=by
 obtain ⟨v,hv⟩:=c5h hg hk h hr;have h1:=pC (Q:=fun _ _ _=>False) (KK:=fun a' w'=>∃s R' μ',K s∧Rel P G base R' μ' s a' w'∧Step base R w R' w') h hr (fun s v w' R' μ' q1 q2 q3=>⟨s,R',μ',q1,q2,q3⟩);rw [if_pos (by unfold Region.wanted;rw [hg])] at h1;rcases h1 with h1|⟨_,_,_,h2⟩
 ·unfold Oper.wp at h1;rw [hv w (a2M.refl w)] at h1;obtain ⟨s,R',μ',q1,q2,q3⟩:=h1;exact ⟨v,s,R',μ',hv,q1,q2,q3⟩
 ·exact h2.elim
def c0d (ops:Array Oper):List Nat→Array Bool→Bool
 |[],_=>true
 |i::r,listed=>(match ops[i]? with
  |some o=>c0c o.op&&(o.guard==none)&&o.dst.isSome
  |none=>false)&&Region.noSelect ops&&Region.free .any ops listed i&&(Region.ready .any ops listed).contains i&&c0d ops r (listed.setIfInBounds i true)
theorem c0e {ops:Array Oper}{K:St→Prop}{QQ:Exit→Act→World→Prop}(hQ:∀c a a' w,a.defers=a'.defers→a.tmps.size=a'.tmps.size→QQ (.panic c) a w→QQ (.panic c) a' w):∀(l:List Nat) (listed:Array Bool) (fuel:Nat) (st:St),c0d ops l listed=true→qQ P G true ops (zO ops l) st K→
  ∀(base:cS) (R:Nat→Nat→Prop) (μ:Nat→Nat) (a:Act) (w:World),Rel P G base R μ st a w→(∀s a' R' μ',K s→a'.tmps.size=a.tmps.size→Rel P G base R' μ' s a' w→Step base R w R' w→wpAnyH P .any ops QQ (a2M w) fuel (cA l listed) a' w)→wpAnyH P .any ops QQ (a2M w) (l.length+fuel) listed a w
 |[],listed,fuel,st,_,h,base,R,μ,a,w,hr,hk=>by simpa [cA] using hk st a R μ h rfl hr (.refl _ _ _)
 |i::l,listed,fuel,st,hB,h,base,R,μ,a,w,hr,hk=>by
  simp only [c0d,d6W] at hB;obtain ⟨⟨⟨⟨ho,hsel⟩,hf⟩,hrd⟩,hB'⟩:=hB;split at ho;rotate_left
  ·cases ho
  rename_i o hoi;simp only [d6W,beq_iff_eq] at ho;obtain ⟨⟨hsk,hg⟩,hd⟩:=ho;simp only [zO,hoi,qQ] at h;obtain ⟨v,s,R',μ',hv,hK,hr',hs'⟩:=c2k hg hsk h hr;rw [show (i::l).length+fuel=(l.length+fuel)+1 by simp only [List.length_cons];omega];refine wpAnyH_take (v:=v) hoi hsel hf hrd (fun c a w h=>hQ c _ _ w ?_ ?_ h) (.inl ⟨by unfold Region.wanted;rw [hg],hv⟩) (a2M.refl w) ?_
  ·cases o.dst<;>rfl
  ·cases o.dst<;>simp [Act.put]
  ·exact c0e hQ l _ fuel s hB' hK base R' μ' _ w hr' fun s2 a2 R2 μ2 q1 q0 q2 q3=>hk s2 a2 R2 μ2 q1 (q0.trans (size_put _ _ _)) q2 (hs'.trans q3)
theorem b4n {o:Oper}{e:TypeId}{ev:Operand→Value}{v:Value}{w1:World}(ho:o.op= .alloc e)(h:(execOp ev o).run P w= .ok (.value v) w1):v= .pointer (some ⟨w.heap.size,0,none⟩)∧∀b,b<w.heap.size→w1.heap[b]? =w.heap[b]? :=by
 cases hz:(P.info? e).bind (·.zero) with
 |none=>
  exfalso;cases hi:P.info? e with
  |none=>simp [execOp,ho,Instr.alloc,zeroValue,typeInfo,hi] at h
  |some i=>rw [hi] at hz;simp at hz;simp [execOp,ho,Instr.alloc,zeroValue,typeInfo,hi,hz] at h
 |some z=>
  obtain ⟨i,hi,hz⟩:=d7k.1 hz;have hr:(execOp ev o).run P w= .ok (.value (.pointer (some ⟨w.heap.size,0,none⟩))) (w.alloc (.cells z.cells e)):=by simp [execOp,ho,Instr.alloc,zeroValue,typeInfo,hi,hz,newVar,newRow]
  rw [hr] at h;cases h;refine ⟨rfl,fun b hb=>?_⟩
  show (w.heap.push _)[b]? =w.heap[b]?
  rw [Array.getElem?_push,if_neg (Nat.ne_of_lt hb)]
theorem b4o {o:Oper}{t:TypeId}{ad x:Operand}{out:Out}(ho:o.op= .store t ad x)(h:oR P G t ad x st=some out)(hr:Rel P G base R μ st a w):∃w1 b off,a.eval ad= .pointer (some ⟨b,off,none⟩)∧(execOp a.eval o).run P w= .ok .skip w1∧∀j,j≠b→w1.heap[j]? =w.heap[j]? :=by
 unfold oR at h;split at h
 ·rename_i k off ys ha hx;split at h
  ·rename_i cs hk;split at h
   ·rename_i hc;obtain ⟨hlen,hne,hle⟩:=hc;obtain ⟨hbk,hnR,cur,T,hh,hsz,hcur,hnil⟩:=hr.gL k _ hk;have hv:=hr.eval x;obtain ⟨hvs,hvc⟩:=yY hv hx;have hone:∀u∈(a.eval x).cells.toList,u.oneCell'=true:=fun u hu=>by
     obtain ⟨i,hi⟩:=d7n hu;have hil:i<ys.length:=by rw [← hvs];simpa using (d6X.1 hi).1
     obtain ⟨_,_,h2⟩:=hvc i ys[i] (by simp [hil]);have:(a.eval x).cells.getD i undef=u:=by
      have:(a.eval x).cells[i]? =some u:=by simpa using hi
      simp [d6Y,this]
     rw [this] at h2;exact h2
    exact ⟨_,μ k,off,hr.dJ ha,qJ ho (hr.dJ ha) hh (by rw [hvs,hlen]) hne hone (by rw [hvs,hsz];omega),fun j hj=>setRow_other w (μ k) j _ hj⟩
   ·cases h
  ·cases h
 ·cases h
def a5o (ops:Array Oper)(m:Nat):OT→List Tmp→Bool
 | .stop,_=>true
 | .none,_=>true
 | .op i next more,D=>(match ops[i]? with
  |some o=>(o.guard==none)&&(match o.op,o.dst with
   | .alloc _,some k=> !D.contains k&&decide (k<m)&&a5o ops m next (k::D)
   | .store _ (.tmp k) _,none=>D.contains k&&a5o ops m next D
   |_,_=>false)
  |none=>false)&&a5o ops m more D
def d5q (w0:World)(a:Act)(D:List Tmp):Prop:=∀k∈D,∃b,a.eval (.tmp k)= .pointer (some ⟨b,0,none⟩)∧w0.heap.size≤b
theorem b6V {ops:Array Oper}{Q:Exit→St→Prop}{i n m:Nat}{listed:Array Bool}{D:List Tmp}:∀(T:OT),yG ops T (n+1) listed=true→a5o ops m T D=true→a5f i T=true→VT P G ops Q T st→∃next more,okT ops next (listed.setIfInBounds i true)=true∧yG ops next n (listed.setIfInBounds i true)=true∧a5o ops m (.op i next more) D=true∧∃o,ops[i]? =some o∧a1U P G ops o st (VT P G ops Q next) Q
 | .stop,_,_,h,_=>by simp [a5f] at h
 | .none,_,_,h,_=>by simp [a5f] at h
 | .op j next more,ht,hf,ha,hv=>by
  simp only [yG,d6W] at ht;simp only [a5f,d7i,beq_iff_eq] at ha;simp only [VT] at hv;rcases ha with rfl|ha
  ·refine ⟨next,more,ht.1.1,ht.1.2,hf,?_⟩;have:=hv.1;split at this
   ·rename_i o ho;exact ⟨o,ho,this⟩
   ·exact this.elim
  ·simp only [a5o,d6W] at hf;exact b6V more ht.2 hf.2 ha hv.2
theorem b0k {ops:Array Oper}{Q:Exit→St→Prop}{m:Nat}(w0:World):∀(n:Nat) (T:OT) (D:List Tmp) (listed:Array Bool) (st:St),okT ops T listed=true→yG ops T n listed=true→a5o ops m T D=true→VT P G ops Q T st→∀(base:cS) (R:Nat→Nat→Prop) (μ:Nat→Nat) (a:Act) (w:World),Rel P G base R μ st a w→a2M w0 w→w0.heap.size≤w.heap.size→d5q w0 a D→m≤a.tmps.size→
  ∀QQ:Exit→Act→World→Prop,(∀e s a' w' R' μ',Q e s→Rel P G base R' μ' s a' w'→Step base R w R' w'→QQ e a' w')→wpAnyH P .any ops QQ (a2M w0) n listed a w
 |0,T,D,listed,st,ho,ht,hf,hv,base,R,μ,a,w,hr,hH,hsz,hF,hD,QQ,hk=>by
  cases T with
  |stop=>exact ⟨by simpa [okT] using ho,hk _ st a w R μ hv hr (.refl _ _ _)⟩
  |none=>simp only [okT,d6W,Bool.not_eq_true',List.isEmpty_eq_false_iff,d6Z] at ho;obtain ⟨h1,h2⟩:=ho;obtain ⟨x,hx⟩:=List.exists_mem_of_ne_nil _ h1;have:=h2 x hx;simp [a5f] at this
  |op i next more=>simp [yG] at ht
 |n+1,T,D,listed,st,ho,ht,hf,hv,base,R,μ,a,w,hr,hH,hsz,hF,hD,QQ,hk=>by
  cases T with
  |stop=>
   have hrd:Region.ready .any ops listed=[]:=by simpa [okT] using ho
   refine ⟨fun _=>hk _ st a w R μ hv hr (.refl _ _ _),fun i hi=>?_⟩;rw [hrd] at hi;cases hi
  |none=>simp only [okT,d6W,Bool.not_eq_true',List.isEmpty_eq_false_iff,d6Z] at ho;obtain ⟨h1,h2⟩:=ho;obtain ⟨x,hx⟩:=List.exists_mem_of_ne_nil _ h1;have:=h2 x hx;simp [a5f] at this
  |op i0 next0 more0=>
   simp only [okT,d6W,Bool.not_eq_true',List.isEmpty_eq_false_iff,d6Z] at ho;refine ⟨fun h=>(ho.1 h).elim,fun i hi=>?_⟩;obtain ⟨next,more,q1,q2,q0,o,q3,q4⟩:=b6V _ ht hf (ho.2 i hi) hv;simp only [a5o,q3,d6W,beq_iff_eq] at q0;obtain ⟨⟨hg,q0⟩,_⟩:=q0;have hw:Region.wanted o (yielded ops a.tmps)=true:=by unfold Region.wanted;rw [hg]
   have hgD:dU o ops st.tmps=some true:=by unfold dU;rw [hg]
   unfold wpOp;rw [q3];simp only;rw [if_pos hw];left;have hone:∀out,gG G o st=none→cX G o st=none→jJ P G o st=some out→o.wp P a w (fun a' w'=>∃s R' μ',VT P G ops Q next s∧Rel P G base R' μ' s a' w'∧Step base R w R' w') fun _ _ _=>False:=fun out c1 c2 c3=>by
    have h1:kH P G false ops o (VT P G ops Q next) st:=by unfold a1U at q4;unfold kH;rw [hgD,c1,c2,c3] at q4;rw [hgD,c1,c2,c3];exact q4
    have h2:=pC (Q:=fun _ _ _=>False) (KK:=fun a' w'=>∃s R' μ',VT P G ops Q next s∧Rel P G base R' μ' s a' w'∧Step base R w R' w') h1 hr (fun s v w' R' μ' p1 p2 p3=>⟨s,R',μ',p1,p2,p3⟩);rw [if_pos hw] at h2;rcases h2 with h2|⟨_,_,_,h2⟩
    ·exact h2
    ·exact h2.elim
   split at q0
   ·
    rename_i e k hop hdst;simp only [d6W,Bool.not_eq_true'] at q0;have c1:gG G o st=none:=by simp only [gG,hop]
    have c2:cX G o st=none:=by simp only [cX,hop]
    have hout:∃out,jJ P G o st=some out:=by
     unfold a1U at q4;rw [hgD,c1,c2] at q4;simp only at q4;split at q4
     ·rename_i out ho2;exact ⟨out,ho2⟩
     ·exact q4.elim
    obtain ⟨out,hout⟩:=hout;have hx:=hone out c1 c2 hout;unfold Oper.wp at hx ⊢;have hrun:∃v w1,(execOp a.eval o).run P w= .ok (.value v) w1:=by
     cases hz:(P.info? e).bind (·.zero) with
     |none=>
      exfalso;cases hi:P.info? e with
      |none=>simp [execOp,hop,Instr.alloc,zeroValue,typeInfo,hi,Oper.upon] at hx
      |some i=>rw [hi] at hz;simp at hz;simp [execOp,hop,Instr.alloc,zeroValue,typeInfo,hi,hz,Oper.upon] at hx
     |some z=>exact ⟨_,_,b3j hop hz⟩
    obtain ⟨v,w1,hrun⟩:=hrun;obtain ⟨e1,e2⟩:=b4n hop hrun;rw [hrun] at hx ⊢;obtain ⟨s,R',μ',p1,p2,p3⟩:=hx;have hH1:a2M w0 w1:=fun b hb=>(e2 b (by omega)).trans (hH b hb)
    have hsz1:w.heap.size≤w1.heap.size:=p3.below.size;refine ⟨hH1,b0k w0 n next (k::D) _ s q1 q2 q0.2 p1 base R' μ' _ w1 p2 hH1 (by omega) (fun k' hk'=>?_) (by rw [hdst,size_put];exact hD) QQ fun e s a' w2 R2 μ2 k1 k2 k3=>hk e s a' w2 R2 μ2 k1 k2 (p3.trans k3)⟩;obtain ⟨⟨q5,q6⟩,_⟩:=q0;simp only [decide_eq_true_eq] at q6;rw [hdst];by_cases hkk:k'=k
    ·subst hkk;refine ⟨w.heap.size,?_,hsz⟩;have hlt:k'<a.tmps.size:=Nat.lt_of_lt_of_le q6 hD;rw [dL _ _ hlt,e1]
    ·have hk2:k'∈D:=by
      rcases List.mem_cons.1 hk' with h|h
      ·exact absurd h hkk
      ·exact h
     obtain ⟨b,g1,g2⟩:=hF k' hk2;exact ⟨b,by rw [bR _ _ hkk];exact g1,g2⟩
   ·
    rename_i t k x hop hdst;simp only [d6W] at q0;have c1:gG G o st=none:=by simp only [gG,hop]
    have c2:cX G o st=none:=by simp only [cX,hop]
    have hout:∃out,jJ P G o st=some out:=by
     unfold a1U at q4;rw [hgD,c1,c2] at q4;simp only at q4;split at q4
     ·rename_i out ho2;exact ⟨out,ho2⟩
     ·exact q4.elim
    obtain ⟨out,hout⟩:=hout;have hx:=hone out c1 c2 hout;have hst:oR P G t (.tmp k) x st=some out:=by unfold jJ at hout;rw [hop] at hout;exact hout
    obtain ⟨w1,b,off,r1,r2,r3⟩:=b4o hop hst hr;obtain ⟨b',g1,g2⟩:=hF k (by simpa using q0.1);rw [g1] at r1;cases r1;unfold Oper.wp at hx ⊢;rw [r2] at hx ⊢;obtain ⟨s,R',μ',p1,p2,p3⟩:=hx;have hH1:a2M w0 w1:=fun j hj=>(r3 j (by omega)).trans (hH j hj)
    have hsz1:w.heap.size≤w1.heap.size:=p3.below.size;refine ⟨hH1,b0k w0 n next D _ s q1 q2 q0.2 p1 base R' μ' _ w1 p2 hH1 (by omega) (fun k' hk'=>?_) (by rw [hdst];exact hD) QQ fun e s a' w2 R2 μ2 k1 k2 k3=>hk e s a' w2 R2 μ2 k1 k2 (p3.trans k3)⟩;rw [hdst];exact hF k' hk'
   ·cases q0
theorem c9B {id:Nat}{ops:Array Oper}{Q:Exit→St→Prop}(L:List Nat)(T:OT)(m:Nat)(hm:P.follows .mixedOrders=true)(hB:(c0d ops L (Array.replicate ops.size false)&&decide (L.length≤ops.size)&&okT ops T (cA L (Array.replicate ops.size false))&&yG ops T (ops.size-L.length) (cA L (Array.replicate ops.size false))&&a5o ops m T [])=true)(hl:m≤st.tmps.length)(h:VK P G [.ops true ops (zO ops L)] .normal st fun _ s=>VT P G ops (uK Q) T s):SW P G (.region id ops true) st Q:=by
 simp only [d6W,decide_eq_true_eq] at hB;obtain ⟨⟨⟨⟨h1,h2⟩,h3⟩,h4⟩,h5⟩:=hB;obtain ⟨k,hk⟩:=Nat.exists_eq_add_of_le h2;have e:ops.size-L.length=k:=by omega
 rw [e] at h4;refine SW.mono (fun e s=>a9a) ?_
 intro base R μ a w hr;obtain ⟨hr',hs'⟩:=hr.drew;simp only [VK] at h;refine wp_region_held (S:=a2M w.drew) hm ?_
 have key:wpAnyH P .any ops (fun e a' w'=>∃st' R' μ',uK Q e st'∧Rel P G base R' μ' st' a' w'∧Step base R w R' w') (a2M w.drew) (L.length+k) (Array.replicate ops.size false) a w.drew:=by
  refine c0e (fun c a a' w' e1 e2 hq=>?_) L _ k st h1 h base R μ a w.drew hr' fun s a' R' μ' q1 q0 q2 q3=>?_
  ·obtain ⟨s,R',μ',q1,q2,q3⟩:=hq;have hd:a'.defers=[]:=by rw [← e1];exact q2.defers
   rw [a1D] at q1;exact ⟨_,R',μ',by rw [a1D];exact q1,q2.a9b a' hd,q3⟩
  ·exact b0k w.drew k T [] _ s h3 h4 h5 q1 base R' μ' a' w.drew q2 (a2M.refl _) (d7m _) (fun k hk=>by cases hk) (by rw [q0,hr.size];exact hl) _ fun e s a' w' R2 μ2 k1 k2 k3=>⟨s,R2,μ2,k1,k2,(hs'.trans q3).trans k3⟩
 rw [← hk] at key;exact key
end
end Go.VM
end
namespace Go.Proofs.YtjpodcmhcenjjaaGreatDoor
section
open Go Go.VM
variable {G:GT}
mutual
theorem a6h:∀p:Pr,a2J p p=true
 |⟨op,nm,n,l⟩=>by simp [a2J,b0l l]
theorem b0l:∀l:List Pr,rV l l=true
 |[]=>by simp [rV]
 |a::r=>by simp [rV,a6h a,b0l r]
end
inductive WB (B:Nat):Ty→Prop
 |mk (op:Int) (nm:Nm) (l:List Ty) (ns:List Nm) (p:Pr) (ps:List Pr):l.length≤B→ns.length≤B→dF p≤B→ps.length≤B→(∀q∈ps,dF q≤B)→(∀k∈l,WB B k)→WB B ⟨op,nm,l,ns,p,ps⟩
inductive WE (B:Nat):bY→Prop
 |mk (e:bY):e.kids.length≤B→e.params.length≤B→e.alts.length≤B→e.types.length≤B→(∀k∈e.kids,WE B k)→(∀p∈e.params,WB B p.2)→(∀a∈e.alts,a.2.1.length≤B)→(∀a∈e.alts,WE B a.2.2)→(∀t∈e.types,WB B t)→WE B e
theorem yH:VM.Enters Tryz.prog 37:=VM.Enters.mk Tryz.func37 rfl
theorem xE (l:List Nm)(hl:l.length≤900000000):CS Tryz.prog G 37 [.sl (strs l),.sl (strs l)] (.d (.bool true)) none:=by
 refine CS.bI Tryz.func37 rfl Tryz.ntmps37 rfl ?_
 simp;refine SW.kJ (ι:={ i:Nat // i≤l.length }) (fun i=>[(5,.d (.int .i64 i.1))]) (fun _=>[]) (fun _=>[]) (fun i=>l.length-i.1) ⟨0,by simp⟩ (by simp) ?_
 rintro ⟨i,hi⟩;by_cases hlt:i<l.length
 ·have hg:=b5r hlt;have hw:=bO (show i<9223372036854775807 by omega);simp [hlt,hg];refine ⟨mA.mk (by kernel_rfl),?_⟩;exact bQ.mk ⟨i+1,hlt⟩ (by simp [hw]) (by simp;omega)
 ·have hie:i=l.length:=by omega
  subst hie;simp
theorem yI:VM.Enters Tryz.prog 36:=VM.Enters.mk Tryz.func36 rfl
theorem gF:VM.Enters Tryz.prog 25:=VM.Enters.mk Tryz.func25 rfl
theorem zM (l:List Ty)(hl:l.length≤900000000)(ih:∀k∈l,CS Tryz.prog G 25 [.agg (tyD k),.agg (tyD k)] (.d (.bool true)) none):CS Tryz.prog G 36 [.sl (l.map tyC),.sl (l.map tyC)] (.d (.bool true)) none:=by
 refine CS.bI Tryz.func36 rfl Tryz.ntmps36 rfl ?_
 simp;refine SW.kJ (ι:={ i:Nat // i≤l.length }) (fun i=>[(5,.d (.int .i64 i.1))]) (fun _=>[]) (fun _=>[]) (fun i=>l.length-i.1) ⟨0,by simp⟩ (by simp) ?_
 rintro ⟨i,hi⟩;by_cases hlt:i<l.length
 ·have hg:=c8E hlt;have hw:=bO (show i<9223372036854775807 by omega);simp [hlt,hg];refine ⟨mA.mk (by kernel_rfl),?_⟩;refine aH.mk gF (ih l[i] (List.getElem_mem hlt)) ?_
  simp;exact bQ.mk ⟨i+1,hlt⟩ (by simp [hw]) (by simp;omega)
 ·have hie:i=l.length:=by omega
  subst hie;simp
theorem sN:∀t:Ty,WB 900000000 t→CS Tryz.prog G 25 [.agg (tyD t),.agg (tyD t)] (.d (.bool true)) none:=by
 refine Ty.ind fun t ih=>?_
 obtain ⟨op,nm,l,ns,p,ps⟩:=t;simp only at ih;intro hw;cases hw with
 |mk _ _ _ _ _ _ w1 w2 w3 w4 w5 w6=>
 have hts:=zM (G:=G) l w1 fun k hk=>ih k hk (w6 k hk)
 have hns:=xE (G:=G) ns w2;have hsp:=a9i (G:=G) p p w3;rw [a6h] at hsp;refine CS.bI Tryz.func25 rfl Tryz.ntmps25 rfl ?_
 simp;refine aH.mk yH hns ?_
 simp;refine aH.mk a1K hsp ?_
 simp;refine SW.kJ (ι:={ i:Nat // i≤ps.length }) (fun i=>[(5,.d (.int .i64 i.1))]) (fun _=>[(2,.cells [.d (.int .i64 op),.d (.str nm),.d (.sl (l.map tyC)),.d (.sl (strs ns)),.d (.int .i64 p.op),.d (.str p.name),.d (.int .i64 p.n),.d (.sl (p.kids.map qR)),.d (.sl (ps.map qR))]),(3,.cells [.d (.int .i64 op),.d (.str nm),.d (.sl (l.map tyC)),.d (.sl (strs ns)),.d (.int .i64 p.op),.d (.str p.name),.d (.int .i64 p.n),.d (.sl (p.kids.map qR)),.d (.sl (ps.map qR))])]) (fun _=>[]) (fun i=>ps.length-i.1) ⟨0,by simp⟩ (by simp) ?_
 rintro ⟨i,hi⟩;by_cases hlt:i<ps.length
 ·have hg:=vO hlt;have hw:=bO (show i<9223372036854775807 by omega);have hsi:=a9i (G:=G) ps[i] ps[i] (w5 _ (List.getElem_mem hlt));rw [a6h] at hsi;simp [hlt,hg];refine ⟨mA.mk (by kernel_rfl),?_⟩;refine aH.mk a1K hsi ?_
  simp;exact bQ.mk ⟨i+1,hlt⟩ (by simp [hw]) (by simp;omega)
 ·have hie:i=ps.length:=by omega
  subst hie;simp;refine aH.mk yI hts ?_
  simp
theorem a4a:VM.Enters Tryz.prog 35:=VM.Enters.mk Tryz.func35 rfl
theorem a2N (l:List (Nm×Ty))(hl:l.length≤900000000)(ht:∀p∈l,WB 900000000 p.2):CS Tryz.prog G 35 [.sl (l.map a1z),.sl (l.map a1z)] (.d (.bool true)) none:=by
 refine CS.bI Tryz.func35 rfl Tryz.ntmps35 rfl ?_
 simp;refine SW.kJ (ι:={ i:Nat // i≤l.length }) (fun i=>[(5,.d (.int .i64 i.1))]) (fun _=>[]) (fun _=>[]) (fun i=>l.length-i.1) ⟨0,by simp⟩ (by simp) ?_
 rintro ⟨i,hi⟩;by_cases hlt:i<l.length
 ·have hg:=a0t l[i];have hw:=bO (show i<9223372036854775807 by omega);have hsi:=sN (G:=G) l[i].2 (ht _ (List.getElem_mem hlt));simp [hlt,hg];refine ⟨mA.mk (by kernel_rfl),?_⟩;refine aH.mk gF hsi ?_
  simp;exact bQ.mk ⟨i+1,hlt⟩ (by simp [hw]) (by simp;omega)
 ·have hie:i=l.length:=by omega
  subst hie;simp
theorem jB:VM.Enters Tryz.prog 15:=VM.Enters.mk Tryz.func15 rfl
abbrev d5r (a b x y:Nat):OT:= .op a (.op b (.op x (.op y .stop .none) (.op y (.op x .stop .none) .none)) (.op x (.op b (.op y .stop .none) .none) .none)) (.op b (.op a (.op x (.op y .stop .none) (.op y (.op x .stop .none) .none)) (.op y (.op a (.op x .stop .none) .none) .none)) .none)
theorem a3n (e:bY)(h:WE 900000000 e):CS Tryz.prog G 15 [.agg (rM e),.agg (rM e)] (.d (.bool true)) none:=by
 induction h with
 |mk e h1 h2 h3 h4 h5 h6 h7 h8 h9 ih1 ih2=>
  obtain ⟨op,nm,n,ks,ps,al,ts⟩:=e;simp only at h1 h2 h3 h4 h5 h6 h7 h8 h9 ih1 ih2;have hpa:=a2N (G:=G) ps h2 h6;have hty:=zM (G:=G) ts h4 fun t ht=>sN t (h9 t ht)
  refine CS.b3h Tryz.func15 rfl Tryz.ntmps15 rfl (SW.xk ?_);simp;refine kP.mk a4a hpa ?_
  simp;refine kP.mk yI hty ?_
  simp;refine SW.vG (ι:={ i:Nat // i≤ks.length }) (fun i=>[(5,.d (.int .i64 i.1))]) (fun _=>[(2,.cells [.d (.int .i64 op),.d (.str nm),.d (.int .i64 n),.d (.sl (ks.map wW)),.d (.sl (ps.map a1z)),.d (.sl (al.map a7l)),.d (.sl (ts.map tyC))]),(3,.cells [.d (.int .i64 op),.d (.str nm),.d (.int .i64 n),.d (.sl (ks.map wW)),.d (.sl (ps.map a1z)),.d (.sl (al.map a7l)),.d (.sl (ts.map tyC))])]) (fun _=>[]) (fun i=>ks.length-i.1) ⟨0,by simp⟩ (by simp) ?_
  rintro ⟨i,hi⟩;by_cases hlt:i<ks.length
  ·have hg:=dG ks[i];have hw:=bO (show i<9223372036854775807 by omega);simp [hlt];refine SW.vk ?_
   simp [hlt,hg];refine ⟨mA.mk (by kernel_rfl),?_⟩;refine aH.mk jB (ih1 _ (List.getElem_mem hlt)) ?_
   simp;exact bQ.mk ⟨i+1,hlt⟩ (by simp [hw]) (by simp;omega)
  ·have hie:i=ks.length:=by omega
   subst hie;simp;refine SW.vG (ι:={ i:Nat // i≤al.length }) (fun i=>[(6,.d (.int .i64 i.1))]) (fun _=>[(2,.cells [.d (.int .i64 op),.d (.str nm),.d (.int .i64 n),.d (.sl (ks.map wW)),.d (.sl (ps.map a1z)),.d (.sl (al.map a7l)),.d (.sl (ts.map tyC))]),(3,.cells [.d (.int .i64 op),.d (.str nm),.d (.int .i64 n),.d (.sl (ks.map wW)),.d (.sl (ps.map a1z)),.d (.sl (al.map a7l)),.d (.sl (ts.map tyC))])]) (fun _=>[]) (fun i=>al.length-i.1) ⟨0,by simp⟩ (by simp) ?_
   rintro ⟨i,hi⟩;by_cases hlt:i<al.length
   ·have hg:=a5c al[i];have hw:=bO (show i<9223372036854775807 by omega);have hns:=xE (G:=G) al[i].2.1 (h7 _ (List.getElem_mem hlt));simp [hlt];refine c9B [0,1,2,3,4,5,6,7,8,9] (d5r 10 11 12 13) 117 (by kernel_rfl) (by kernel_rfl) (by simp) ?_
    simp [hlt,hg,d5r];refine kP.mk yH hns ?_
    simp;refine kP.mk jB (ih2 _ (List.getElem_mem hlt)) ?_
    simp;exact bQ.mk ⟨i+1,hlt⟩ (by simp [hw]) (by simp;omega)
   ·have hie:i=al.length:=by omega
    subst hie;simp
end
section
open Go Go.VM
def G0:GT:=fun g=>if g=1 then some dV else if g=0 then some tW else none
theorem sS:G0 1=some dV:=rfl
theorem vH:G0 0=some tW:=rfl
abbrev num (n:Int):bY:=⟨1,[],n,[],[],[],[]⟩
abbrev var (c:UInt8):bY:=⟨3,[c],0,[],[],[],[]⟩
theorem ex1:dM exM [49,32,45,32,50,32,45,32,51]= .ok (bV 11 [bV 11 [num 1,num 2],num 3]) 5:=by kernel_rfl
theorem ex2:dM exM [40,45,51,41]= .ok (num (-3)) 4:=by kernel_rfl
theorem ex3:dM exM [45,32,51]= .ok (bV 15 [num 3]) 2:=by kernel_rfl
theorem ex4:dM exM [102,32,40,40,45,51,41,41]= .ok ({ bV 5 [num (-3)] with name:=[102] }) 7:=by kernel_rfl
theorem ex5:dM exM [40,97,32,60,32,98,41,32,61,61,32,99]= .ok (bV 16 [bV 17 [var 97,var 98],var 99]) 7:=by kernel_rfl
theorem ex6:dM exM [97,32,60,32,98,32,60,32,99]= .bad 1 14:=by kernel_rfl
abbrev exT:Ty:=⟨6,[],[psT 1 [],⟨1,[],[],[],⟨12,[],0,[⟨3,[120],0,[]⟩,⟨3,[118],0,[]⟩]⟩,[]⟩,⟨4,[76,105,115,116],[psT 1 []],[],kS,[⟨12,[],0,[⟨1,[],0,[]⟩,⟨3,[118],0,[]⟩]⟩]⟩],[[120],[121]],kS,[]⟩
theorem ex8:dM tyM [40,73,110,116,44,32,73,110,116,41]= .bad 1 14:=by kernel_rfl
theorem ex9:dM moQ [100,101,102,32,102,32,40,120,41,32,61,32,120,32,43,10,59]= .bad 2 14:=by kernel_rfl
theorem d6k:dM moQ [100,101,102,32,102,32,40,120,41,32,61,32,63]= .bad 1 14:=by kernel_rfl
def d5s:kY kL→Bool
 | .ok m _=>match m.a8H,m.a8I,m.defs with
  |[d],[me],[df]=>decide (d.cons.length=2)&&decide (me.cases.length=2)&&decide (df.sig.b3e.length=1)&&decide (df.body.op=8)
  |_,_,_=>false
 | .bad _ _=>false
def d5t:kY kK→Bool
 | .ok d _=>decide (d.mode=1)&&d.typed
 | .bad _ _=>false
abbrev txM:List UInt8:=[100,97,116,97,32,76,105,115,116,32,61,32,78,105,108,32,124,32,67,111,110,115,32,40,120,32,58,32,73,110,116,44,32,114,101,115,116,32,58,32,76,105,115,116,41,59,32,109,101,97,115,117,114,101,32,108,101,110,32,58,32,76,105,115,116,32,45,62,32,73,110,116,32,123,32,78,105,108,32,61,32,48,59,32,67,111,110,115,32,40,120,44,32,114,101,115,116,41,32,61,32,49,32,43,32,108,101,110,40,114,101,115,116,41,32,125,32,105,110,118,97,114,105,97,110,116,32,48,32,60,61,32,118,59,32,100,101,102,32,100,111,119,110,32,40,110,41,32,58,32,40,110,32,58,32,123,118,32,58,32,73,110,116,32,124,32,48,32,60,61,32,118,125,41,32,45,62,32,73,110,116,32,109,101,116,114,105,99,32,110,32,61,32,105,102,32,110,32,61,61,32,48,32,116,104,101,110,32,48,32,101,108,115,101,32,100,111,119,110,32,40,110,32,45,32,49,41,59]
abbrev txD:List UInt8:=[97,115,115,117,109,101,32,114,101,97,100,32,40,120,41,32,58,32,40,120,32,58,32,73,110,116,41,32,45,62,32,123,118,32,58,32,73,110,116,32,124,32,120,32,60,61,32,118,125]
abbrev txT:List UInt8:=[40,120,32,58,32,73,110,116,44,32,121,32,58,32,123,118,32,58,32,73,110,116,32,124,32,120,32,60,32,118,125,41,32,45,62,32,76,105,115,116,32,73,110,116,32,60,118,46,32,48,32,60,32,118,62]
theorem ex7:dM tyM txT= .ok exT 27:=by kernel_rfl
theorem d6n:d5s (dM moQ txM)=true:=by kernel_rfl
theorem d6o:d5t (dM (yS uP) txD)=true:=by kernel_rfl
theorem d5u:∃m j d me df,dM moQ txM= .ok m j∧m.a8H=[d]∧m.a8I=[me]∧m.defs=[df]∧d.cons.length=2∧me.cases.length=2∧df.sig.b3e.length=1∧df.body.op=8:=by
 have h:=d6n;unfold d5s at h;split at h
 ·rename_i m j hm;split at h
  ·rename_i d me df h1 h2 h3;simp only [d6W,decide_eq_true_eq] at h;exact ⟨m,j,d,me,df,hm,h1,h2,h3,h.1.1.1,h.1.1.2,h.1.2,h.2⟩
  ·cases h
 ·cases h
theorem d5v:∃d j,dM (yS uP) txD= .ok d j∧d.mode=1∧d.typed=true:=by
 have h:=d6o;unfold d5t at h;split at h
 ·rename_i d j hd;simp only [d6W,decide_eq_true_eq] at h;exact ⟨d,j,hd,h.1,h.2⟩
 ·cases h
end
section
open Go Go.VM
theorem dN:VM.Enters Tryz.prog 13:=VM.Enters.mk Tryz.func13 rfl
theorem eC:CS Tryz.prog G0 13 [] (.d (.bool true)) none:=by
 have h1:=kE (G:=G0) sS vH [49,32,45,32,50,32,45,32,51] (by decide);have h2:=kE (G:=G0) sS vH [40,45,51,41] (by decide);have h3:=kE (G:=G0) sS vH [45,32,51] (by decide);have h4:=kE (G:=G0) sS vH [102,32,40,40,45,51,41,41] (by decide);have h5:=tX (G:=G0) sS vH txT (by decide);have h6:=tX (G:=G0) sS vH [40,73,110,116,44,32,73,110,116,41] (by decide);have h7:=vE (G:=G0) sS vH [100,101,102,32,102,32,40,120,41,32,61,32,120,32,43,10,59] (by decide);have h8:=vE (G:=G0) sS vH [100,101,102,32,102,32,40,120,41,32,61,32,63] (by decide);have h9:=kE (G:=G0) sS vH [97,32,60,32,98,32,60,32,99] (by decide);have h10:=kE (G:=G0) sS vH [40,97,32,60,32,98,41,32,61,61,32,99] (by decide);have h11:=vE (G:=G0) sS vH txM (by decide);have h12:=b4m (G:=G0) sS vH txD (by decide);obtain ⟨m,jm,d,me,df,e11,m1,m2,m3,m4,m5,m6,m7⟩:=d5u;obtain ⟨dd,jd,e12,d1,d2⟩:=d5v;rw [ex1] at h1;rw [ex2] at h2;rw [ex3] at h3;rw [ex4] at h4;rw [ex7] at h5;rw [ex8] at h6;rw [ex9] at h7;rw [d6k] at h8;rw [ex6] at h9;rw [ex5] at h10;rw [e11] at h11;rw [e12] at h12;obtain ⟨md,mc,mi,mm,mq,mf⟩:=m;simp only at m1 m2 m3;subst m1 m2 m3;simp [sP,sQ,c2j,bV,dG] at h1 h2 h3 h4 h9 h10;simp [sP,sQ,c2j,psT,cP,eY,oL,kS,strs] at h5 h6;simp [sP,sQ,c2j,a3a] at h7 h8 h11;simp [sP,sQ,d1,d2] at h12;have k1:=dG ⟨11,[],0,[num 1,num 2],[],[],[]⟩;have k2:=dG (num (-3));have k3:=fun t=>cP t
 refine CS.bI Tryz.func13 rfl Tryz.ntmps13 rfl ?_
 simp;refine aH.mk jI h1 ?_
 simp;refine aH.mk jI h2 ?_
 simp;refine aH.mk jI h3 ?_
 simp;refine aH.mk jI h4 ?_
 simp;refine aH.mk sM h5 ?_
 simp;refine aH.mk sM h6 ?_
 simp;refine aH.mk tN h7 ?_
 simp;refine aH.mk tN h8 ?_
 simp;refine aH.mk jI h9 ?_
 simp;refine aH.mk jI h10 ?_
 simp (maxSteps:=1000000) [k1,k2];refine aH.mk tN h11 ?_
 simp;refine aH.mk b1i h12 ?_
 simp (maxSteps:=1000000) [a8O,b5L,b3g,c8G,dG,m4,m5,m6,m7,d1,d2]
end
section
def c5i (t:Tok):Prop:=t.kind=0∨(t.kind=4∧(t.text=[41]∨t.text=[59]))
structure yU (l l':List Tok) (N:Nat):Prop where
 same:∀i,i<N→∃t t',l[i]? =some t∧l'[i]? =some t'∧t'.kind=t.kind∧t'.text=t.text∧t'.n=t.n
 stp:∃t,l[N]? =some t∧c5i t
 a7B:∃t,l'[N]? =some t∧c5i t
def c5j (kw:List UInt8→Bool)(t:Tok):Prop:=t.kind=0∨(t.kind=4∧t.text≠[63]∧t.text≠[40]∧t.text≠[45]∧t.text≠[33])∨(t.kind=1∧kw t.text=true∧t.text≠[118]∧t.text≠[116,97,103]∧t.text≠[118,97,108]∧t.text≠[116,114,117,101]∧t.text≠[102,97,108,115,101])
def NoP (kw:List UInt8→Bool)(l:List Tok)(i:Nat):Prop:=∃t,l[i]? =some t∧c5j kw t
theorem b2w {kw:List UInt8→Bool}{t:Tok}(h:c5i t):c5j kw t:=by
 rcases h with h|⟨h,h1⟩
 ·exact .inl h
 ·refine .inr (.inl ⟨h,?_⟩);rcases h1 with h1|h1<;>rw [h1]<;>simp
section
variable {kw:List UInt8→Bool} {l l':List Tok} {N:Nat}
theorem yU.len (h:yU l l' N):N<l.length:=by obtain ⟨t,h1,_⟩:=h.stp;exact (d6X.1 h1).1
theorem yU.b1j (h:yU l l' N):N<l'.length:=by obtain ⟨t,h1,_⟩:=h.a7B;exact (d6X.1 h1).1
theorem b4p {l:List Tok}{n:Nat}{s:List UInt8}(h:∃t,l[n]? =some t∧c5i t)(h1:s≠[41])(h2:s≠[59]):jC l n s=false:=by
 obtain ⟨t,ht,hk⟩:=h;unfold jC;rw [ht];simp only [Bool.and_eq_false_iff,decide_eq_false_iff_not];rcases hk with hk|⟨hk,h3⟩
 ·left;omega
 ·right;intro e;rcases h3 with h3|h3
  ·exact h1 (e.symm.trans h3)
  ·exact h2 (e.symm.trans h3)
theorem b4q {l:List Tok}{n:Nat}{k:Int}(h:∃t,l[n]? =some t∧c5i t)(h0:k≠0)(h4:k≠4):kdB l n k=false:=by obtain ⟨t,ht,hk⟩:=h;unfold kdB;rw [ht];simp only [decide_eq_false_iff_not];rcases hk with hk|⟨hk,h3⟩<;>omega
theorem yU.sg (h:yU l l' N){i:Nat}(hi:i≤N){s:List UInt8}(hs:(s≠[41]∧s≠[59])∨i<N):jC l' i s=jC l i s:=by
 by_cases hlt:i<N
 ·obtain ⟨t,t',h1,h2,h3,h4,h5⟩:=h.same i hlt;unfold jC;rw [h1,h2];simp only [h3,h4]
 ·have:i=N:=by omega
  subst this;have hs:=hs.resolve_right (by omega);rw [b4p h.stp hs.1 hs.2,b4p h.a7B hs.1 hs.2]
theorem yU.kd (h:yU l l' N){i:Nat}(hi:i≤N){k:Int}(h0:(k≠0∧k≠4)∨i<N):kdB l' i k=kdB l i k:=by
 by_cases hlt:i<N
 ·obtain ⟨t,t',h1,h2,h3,h4,h5⟩:=h.same i hlt;unfold kdB;rw [h1,h2];simp only [h3]
 ·have:i=N:=by omega
  subst this;have h0:=h0.resolve_right (by omega);rw [b4q h.stp h0.1 h0.2,b4q h.a7B h0.1 h0.2]
theorem yU.wt (h:yU l l' N){i:Nat}(hi:i≤N):wtB l' i=wtB l i:=by unfold wtB;rw [h.kd hi (.inl (by decide)),h.kd hi (.inl (by decide))]
theorem yU.tx (h:yU l l' N){i:Nat}(hi:i<N):txA l' i=txA l i:=by obtain ⟨t,t',h1,h2,h3,h4,h5⟩:=h.same i hi;unfold txA;rw [h1,h2];simp only [Option.map_some,Option.getD_some,h4]
theorem yU.nm (h:yU l l' N){i:Nat}(hi:i<N):nmA l' i=nmA l i:=by obtain ⟨t,t',h1,h2,h3,h4,h5⟩:=h.same i hi;unfold nmA;rw [h1,h2];simp only [Option.map_some,Option.getD_some,h5]
theorem yU.b0m (h:yU l l' N){i:Nat}(hi:i≤N){s:List UInt8}(h1:s≠[41])(h2:s≠[59])(hs:jC l i s=true):i<N:=by
 refine Nat.lt_of_not_le fun hle=>?_
 have:i=N:=by omega
 subst this;rw [b4p h.stp h1 h2] at hs;cases hs
theorem yU.c0f (h:yU l l' N){i:Nat}(hi:i≤N){k:Int}(h0:k≠0)(h4:k≠4)(hs:kdB l i k=true):i<N:=by
 refine Nat.lt_of_not_le fun hle=>?_
 have:i=N:=by omega
 subst this;rw [b4q h.stp h0 h4] at hs;cases hs
theorem yU.c0g (h:yU l l' N){i:Nat}(hi:i≤N)(hs:wtB l i=true):i<N:=by
 unfold wtB at hs;rw [d7i] at hs;rcases hs with hs|hs
 ·exact h.c0f hi (by decide) (by decide) hs
 ·exact h.c0f hi (by decide) (by decide) hs
theorem yU.noP (h:yU l l' N){i:Nat}(hi:i≤N)(hn:NoP kw l i):NoP kw l' i:=by
 by_cases hlt:i<N
 ·obtain ⟨t,t',h1,h2,h3,h4,h5⟩:=h.same i hlt;obtain ⟨t0,g1,g2⟩:=hn;rw [h1] at g1;cases g1;refine ⟨t',h2,?_⟩;unfold c5j at g2 ⊢;rw [h3,h4];exact g2
 ·have:i=N:=by omega
  subst this;obtain ⟨t,h1,h2⟩:=h.a7B;exact ⟨t,h1,b2w h2⟩
theorem NoP.d5w {rd:Nat→Nat→Option (Pr×Nat)}{i:Nat}(h:NoP kw l i):uO kw rd l i=none:=by
 obtain ⟨t,ht,hn⟩:=h;have sg0:∀s,(s=[63]∨s=[40])→jC l i s=false:=fun s hs=>by
  unfold jC;rw [ht];simp only [Bool.and_eq_false_iff,decide_eq_false_iff_not];rcases hn with hn|⟨hn,h1,h2,h3,h4⟩|⟨hn,_⟩
  ·left;omega
  ·right;rcases hs with rfl|rfl
   ·exact h1
   ·exact h2
  ·left;omega
 have hname:pY kw l i=none:=by
  unfold pY;rw [if_neg];unfold a9W wtB kdB txA;rw [ht];rcases hn with hn|⟨hn,_⟩|⟨hn,h1,h2,h3,h4,_⟩
  ·simp [hn]
  ·simp [hn]
  ·simp [hn,h1,h2,h3,h4]
 unfold uO;rw [ht];simp only;rw [if_neg (by rcases hn with hn|⟨hn,_⟩|⟨hn,_⟩<;>omega),if_neg,if_neg,if_neg (by rw [sg0 _ (.inl rfl)];decide),if_neg (by rw [sg0 _ (.inr rfl)];decide),hname]
 ·rintro ⟨h1,h2⟩;rcases hn with hn|⟨hn,_⟩|⟨hn,_,_,_,_,_,h3⟩
  ·omega
  ·omega
  ·exact h3 h2
 ·rintro ⟨h1,h2⟩;rcases hn with hn|⟨hn,_⟩|⟨hn,_,_,_,_,h3,_⟩
  ·omega
  ·omega
  ·exact h3 h2
theorem NoP.read {i:Nat}(h:NoP kw l i):∀k,1≤k→k≤10→RR kw l i k=none:=by
 have hil:i≤l.length:=by obtain ⟨t,ht,_⟩:=h;exact Nat.le_of_lt (d6X.1 ht).1
 have sg0:∀s,(s=[45]∨s=[33])→jC l i s=false:=fun s hs=>by
  obtain ⟨t,ht,hn⟩:=h;unfold jC;rw [ht];simp only [Bool.and_eq_false_iff,decide_eq_false_iff_not];rcases hn with hn|⟨hn,h1,h2,h3,h4⟩|⟨hn,_⟩
  ·left;omega
  ·right;rcases hs with rfl|rfl
   ·exact h3
   ·exact h4
  ·left;omega
 have h10:RR kw l i 10=none:=by rw [a0P (by omega) (by omega) hil];exact h.d5w
 have h9:RR kw l i 9=none:=by
  rw [a0P (by omega) (by omega) hil]
  show (if jC l i [45]=true then _ else RR kw l i 10)=none
  rw [if_neg (by rw [sg0 _ (.inl rfl)];decide),h10]
 have h8:RR kw l i 8=none:=by
  rw [a0P (by omega) (by omega) hil]
  show (RR kw l i (8+1)).map _=none
  rw [h9];rfl
 have h7:RR kw l i 7=none:=by
  rw [a0P (by omega) (by omega) hil]
  show (RR kw l i (7+1)).map _=none
  rw [h8];rfl
 have h6:RR kw l i 6=none:=by
  rw [a0P (by omega) (by omega) hil]
  show a0i (RR kw l) l i=none
  unfold a0i;rw [h7]
 have h5:RR kw l i 5=none:=by
  rw [a0P (by omega) (by omega) hil]
  show (if jC l i [33]=true then _ else RR kw l i 6)=none
  rw [if_neg (by rw [sg0 _ (.inr rfl)];decide),h6]
 have h4:RR kw l i 4=none:=by
  rw [a0P (by omega) (by omega) hil]
  show (RR kw l i (4+1)).map _=none
  rw [h5];rfl
 have h3:RR kw l i 3=none:=by
  rw [a0P (by omega) (by omega) hil]
  show (RR kw l i (3+1)).map _=none
  rw [h4];rfl
 have h2:RR kw l i 2=none:=by
  rw [a0P (by omega) (by omega) hil]
  show a7A (RR kw l) l i=none
  unfold a7A;rw [h3]
 have h1:RR kw l i 1=none:=by
  rw [a0P (by omega) (by omega) hil]
  show (RR kw l i (1+1)).map _=none
  rw [h2];rfl
 intro k k1 k10;obtain rfl|rfl|rfl|rfl|rfl|rfl|rfl|rfl|rfl|rfl:k=1∨k=2∨k=3∨k=4∨k=5∨k=6∨k=7∨k=8∨k=9∨k=10:=by omega
 all_goals assumption
def Ded (kw:List UInt8→Bool)(l:List Tok)(k n:Nat):Prop:=∃s,jC l n s=true∧(s=[40]∨(k≤lvS s∧ ¬NoP kw l (n+1)))
theorem Ded.mono {k k' n:Nat}(h:Ded kw l k n)(hk:k'≤k):Ded kw l k' n:=by
 obtain ⟨s,h1,h2⟩:=h;refine ⟨s,h1,?_⟩;rcases h2 with h2|⟨h2,h3⟩
 ·exact .inl h2
 ·exact .inr ⟨by omega,h3⟩
theorem c9C {n:Nat}{s t:List UInt8}(h1:jC l n s=true)(h2:jC l n t=true):s=t:=by
 unfold jC at h1 h2;cases h:l[n]? with
 |none=>rw [h] at h1;cases h1
 |some x=>rw [h] at h1 h2;simp only [d6W,decide_eq_true_eq] at h1 h2;rw [← h1.2, ← h2.2]
theorem Ded.no {k n:Nat}(h:Ded kw l k n){s:List UInt8}(h1:s≠[40])(h2:lvS s<k):jC l n s=false:=by
 obtain ⟨t,ht,h3⟩:=h;cases hs:jC l n s with
 |false=>rfl
 |true=>
  have:=c9C ht hs;subst this;rcases h3 with h3|⟨h3,_⟩
  ·exact absurd h3 h1
  ·omega
theorem b8Y (k:Nat):∀p∈opL k,p.2≠[40]∧p.2≠[41]∧p.2≠[59]:=by unfold opL;split<;>simp
theorem b4r:∀p∈cmpL,p.1≠[40]∧p.1≠[41]∧p.1≠[59]:=by simp [cmpL]
theorem Ded.op {k n j:Nat}(h:Ded kw l k n)(hj:j<k):a1W l n j=none:=by unfold a1W;rw [Option.map_eq_none_iff,List.find?_eq_none];intro p hp hs;have h1:=c4K j p hp;rw [h.no (b8Y j p hp).1 (by omega)] at hs;cases hs
theorem Ded.cmp {k n:Nat}(h:Ded kw l k n)(hk:6<k):uN l n=none:=by unfold uN;rw [Option.map_eq_none_iff,List.find?_eq_none];intro p hp hs;have h1:=b9X p hp;rw [h.no (b4r p hp).1 (by omega)] at hs;cases hs
theorem d1m {k n:Nat}{op:Int}(h:a1W l n k=some op):∃s,jC l n s=true∧lvS s=k∧s≠[41]∧s≠[59]:=by unfold a1W at h;rw [d6V] at h;obtain ⟨p,hp,_⟩:=h;have hs:jC l n p.2=true:=List.find?_some (p:=fun p:Int×List UInt8=>jC l n p.2) hp;have hm:=List.mem_of_find?_eq_some hp;exact ⟨p.2,hs,c4K k p hm,(b8Y k p hm).2⟩
theorem c5k {n:Nat}{q:Int×Bool}(h:uN l n=some q):∃s,jC l n s=true∧lvS s=6∧s≠[41]∧s≠[59]:=by unfold uN at h;rw [d6V] at h;obtain ⟨p,hp,_⟩:=h;have hs:jC l n p.1=true:=List.find?_some (p:=fun p:List UInt8×Int×Bool=>jC l n p.1) hp;have hm:=List.mem_of_find?_eq_some hp;exact ⟨p.1,hs,b9X p hm,(b4r p hm).2⟩
theorem yU.op (h:yU l l' N){n:Nat}(hn:n≤N)(k:Nat):a1W l' n k=a1W l n k:=by unfold a1W;rw [find_congr fun p hp=>h.sg hn (.inl (b8Y k p hp).2)]
theorem yU.cmp (h:yU l l' N){n:Nat}(hn:n≤N):uN l' n=uN l n:=by unfold uN;rw [find_congr fun p hp=>h.sg hn (.inl (b4r p hp).2)]
theorem yU.d5x (h:yU l l' N){n k:Nat}(hn:n≤N){op:Int}(ho:a1W l n k=some op):n<N:=by obtain ⟨s,hs,_,h1,h2⟩:=d1m ho;exact h.b0m hn h1 h2 hs
theorem yU.d3C (h:yU l l' N){n:Nat}(hn:n≤N){q:Int×Bool}(ho:uN l n=some q):n<N:=by obtain ⟨s,hs,_,h1,h2⟩:=c5k ho;exact h.b0m hn h1 h2 hs
theorem yU.parts (h:yU l l' N):∀(g g' i:Nat) (s:List UInt8),i≤N→l.length≤g+i→l'.length≤g'+i→(mQ l g i s).2≤N∧mQ l' g' i s=mQ l g i s
 |0,g',i,s,hi,hg,_=>by have:=h.len;omega
 |g+1,g',i,s,hi,hg,hg'=>by
  have e1:=h.len;have e2:=h.b1j;obtain ⟨g',rfl⟩:∃x,g'=x+1:=⟨g'-1,by omega⟩;rw [mQ,mQ,h.sg hi (.inl ⟨by decide,by decide⟩)];split
  ·rename_i h1;have l1:=h.b0m hi (by decide) (by decide) h1;rw [h.wt (by omega:i+1≤N),h.kd (by omega:i+1≤N) (.inl (by decide))];split
   ·rename_i h2;have l2:=h.c0g (by omega:i+1≤N) h2;rw [h.tx l2];exact h.parts g g' (i+2) _ (by omega) (by omega) (by omega)
   ·split
    ·rename_i h3;have l3:=h.c0f (by omega:i+1≤N) (by decide) (by decide) h3;rw [h.wt (by omega:i+2≤N),h.tx l3];split
     ·rename_i h4;have l4:=h.c0g (by omega:i+2≤N) h4;rw [h.tx l4];exact h.parts g g' (i+3) _ (by omega) (by omega) (by omega)
     ·exact h.parts g g' (i+2) _ (by omega) (by omega) (by omega)
    ·exact ⟨hi,rfl⟩
  ·exact ⟨hi,rfl⟩
theorem yU.nok (h:yU l l' N){i:Nat}(hi:i≤N):a9W kw l' i=a9W kw l i:=by
 unfold a9W;rw [h.wt hi];cases hw:wtB l i with
 |false=>rfl
 |true=>rw [h.tx (h.c0g hi hw)]
theorem yU.name (h:yU l l' N){i:Nat}(hi:i≤N):pY kw l' i=pY kw l i∧∀s n,pY kw l i=some (s,n)→n≤N:=by
 unfold pY;rw [h.nok hi];by_cases hb:a9W kw l i=true
 ·rw [if_pos hb,if_pos hb];have hw:wtB l i=true:=by unfold a9W at hb;rw [d6W] at hb;exact hb.1
  have hlt:=h.c0g hi hw;have e1:=h.len;have e2:=h.b1j;obtain ⟨q1,q2⟩:=h.parts l.length l'.length (i+1) (txA l i) (by omega) (by omega) (by omega);refine ⟨by rw [h.tx hlt,q2],fun s n he=>?_⟩;rw [d7c] at he;rw [he] at q1;exact q1
 ·rw [if_neg hb,if_neg hb];exact ⟨rfl,fun s n he=>by cases he⟩
def Smr (kw:List UInt8→Bool)(l:List Tok)(N k:Nat)(x y:Option (Pr×Nat)):Prop:=∀p n,x=some (p,n)→n≤N→Ded kw l k n∨y=some (p,n)
theorem Smr.mono {k k':Nat}{x y:Option (Pr×Nat)}(h:Smr kw l N k x y)(hk:k'≤k):Smr kw l N k' x y:=fun p n e hn=>by
 rcases h p n e hn with h|h
 ·exact .inl (h.mono hk)
 ·exact .inr h
variable {rd rd':Nat→Nat→Option (Pr×Nat)}
variable (h:yU l l' N) (hA:Adv l rd) {i:Nat} (hS:∀i' k',1≤k'→k'≤10→i<i'→i'≤N→Smr kw l N k' (rd i' k') (rd' i' k')) (hT:∀i' k',1≤k'→k'≤10→i'≤N→NoP kw l i'→rd' i' k'=none)
include h hA hS hT
theorem b2x {k:Nat}(hk:1≤k∧k≤8):
  ∀(g g':Nat) (a:Pr) (n:Nat),i<n→n≤N→l.length≤g+n→l'.length≤g'+n→∀p m,dO rd l k g a n=(p,m)→m≤N→Ded kw l k m∨dO rd' l' k g' a n=(p,m)
 |0,g',a,n,hin,hn,hg,hg',p,m,hr,hm=>by have:=h.len;omega
 |g+1,g',a,n,hin,hn,hg,hg',p,m,hr,hm=>by
  have e1:=h.len;have e2:=h.b1j;obtain ⟨g',rfl⟩:∃x,g'=x+1:=⟨g'-1,by omega⟩;rw [dO] at hr ⊢;rw [h.op hn];cases ho:a1W l n k with
  |none=>rw [ho] at hr;cases hr;exact .inr rfl
  |some op=>
   rw [ho] at hr;simp only at hr ⊢;have hlt:=h.d5x hn ho;have hs:=hS (n+1) (k+1) (by omega) (by omega) (by omega) (by omega);cases hx:rd (n+1) (k+1) with
   |none=>
    rw [hx] at hr;cases hr;by_cases hst:NoP kw l (n+1)
    ·rw [hT (n+1) (k+1) (by omega) (by omega) (by omega) hst];exact .inr rfl
    ·obtain ⟨s,q1,q2,_⟩:=d1m ho;exact .inl ⟨s,q1,.inr ⟨by omega,hst⟩⟩
   |some q=>
    obtain ⟨b,j⟩:=q;have hadv:=hA _ _ _ _ hx;rw [hx] at hr hs;simp only at hr;have hca:=a2B hA k g (tw op a b) j hadv.2;rw [hr] at hca;simp only at hca;rcases hs b j rfl (by omega) with hd|hy
    ·rw [a9Z (hd.op (by omega))] at hr;cases hr;exact .inl (hd.mono (by omega))
    ·rw [hy];simp only;exact b2x hk g g' _ j (by omega) (by omega) (by omega) (by omega) p m hr hm
omit hT in
theorem b6W:
  ∀(g g' n:Nat) (acc ks:List Pr) (m:Nat),i≤n→n<N→l'.length≤g'+n→gJ rd l g n acc=some (ks,m)→m≤N→gJ rd' l' g' n acc=some (ks,m)
 |0,_,_,_,_,_,_,_,_,hr,_=>by cases hr
 |g+1,g',n,acc,ks,m,hin,hn,hg',hr,hm=>by
  have e2:=h.b1j;obtain ⟨g',rfl⟩:∃x,g'=x+1:=⟨g'-1,by omega⟩;rw [gJ] at hr ⊢;have hs:=hS (n+1) 1 (by omega) (by omega) (by omega) (by omega);cases hx:rd (n+1) 1 with
  |none=>rw [hx] at hr;cases hr
  |some q=>
   obtain ⟨p,j⟩:=q;have hadv:=hA _ _ _ _ hx;rw [hx] at hr hs;simp only at hr;by_cases h1:jC l j [41]=true
   ·rw [if_pos h1] at hr;cases hr;rcases hs p j rfl (by omega) with hd|hy
    ·rw [hd.no (by decide) (by decide)] at h1;cases h1
    ·rw [hy];simp only;rw [if_pos (by rw [h.sg (by omega) (.inr (by omega))];exact h1)]
   ·rw [if_neg h1] at hr;by_cases h2:jC l j [44]=true
    ·rw [if_pos h2] at hr;have hadv2:=a5g hA _ _ _ _ _ hr;rcases hs p j rfl (by omega) with hd|hy
     ·rw [hd.no (by decide) (by decide)] at h2;cases h2
     ·rw [hy];simp only;have h1': ¬jC l' j [41]=true:=by rw [h.sg (by omega) (.inr (by omega))];exact h1
      rw [if_neg h1',if_pos (by rw [h.sg (by omega) (.inr (by omega))];exact h2)];exact b6W g g' j _ ks m (by omega) (by omega) (by omega) hr hm
    ·rw [if_neg h2] at hr;cases hr
omit hT in
theorem b6X {n:Nat}(hin:i≤n){ks:List Pr}{m:Nat}(hr:pH rd l n=some (ks,m))(hm:m≤N):pH rd' l' n=some (ks,m):=by
 have e2:=h.b1j;unfold pH at hr ⊢;split at hr
 ·rename_i hs;have ha:=a5g hA _ _ _ _ _ hr;rw [if_pos (by rw [h.sg (by omega) (.inr (by omega))];exact hs)];exact b6W h hA hS l.length l'.length n [] ks m hin (by omega) (by omega) hr hm
 ·cases hr
omit hA hS hT in
theorem c9D {n:Nat}(hn:n≤N)(hs:jC l n [40]=false):pH rd' l' n=none:=by unfold pH;rw [if_neg (by rw [h.sg hn (.inl ⟨by decide,by decide⟩),hs];simp)]
end
end
section
section
variable {kw:List UInt8→Bool} {l l':List Tok} {N:Nat} {rd rd':Nat→Nat→Option (Pr×Nat)}
theorem d3D {l:List Tok}{i:Nat}{s:List UInt8}(h1:jC l i s=true)(h2:kdB l i 3=true):False:=by
 unfold jC at h1;unfold kdB at h2;cases h:l[i]? with
 |none=>rw [h] at h1;cases h1
 |some t=>rw [h] at h1 h2;simp only [d6W,decide_eq_true_eq] at h1 h2;omega
theorem c5l (h:yU l l' N)(hA:Adv l rd){i:Nat}(hi:i≤N)(hS:∀i' k',1≤k'→k'≤10→i<i'→i'≤N→Smr kw l N k' (rd i' k') (rd' i' k')):Smr kw l N 10 (uO kw rd l i) (uO kw rd' l' i):=by
 intro p n hr hn;by_cases hN:i=N
 ·subst hN;obtain ⟨t,h1,h2⟩:=h.stp;rw [NoP.d5w ⟨t,h1,b2w h2⟩] at hr;cases hr
 have hlt:i<N:=by omega
 have hlen:=h.len;obtain ⟨t,t',ht,ht',hk,hx,hnn⟩:=h.same i hlt;unfold uO at hr ⊢;rw [ht'];rw [ht] at hr;simp only at hr ⊢;rw [hk,hx,hnn];by_cases k3:t.kind=3
 ·rw [if_pos k3] at hr ⊢;exact .inr hr
 rw [if_neg k3] at hr ⊢;by_cases kt:t.kind=1∧t.text=[116,114,117,101]
 ·rw [if_pos kt] at hr ⊢;exact .inr hr
 rw [if_neg kt] at hr ⊢;by_cases kf:t.kind=1∧t.text=[102,97,108,115,101]
 ·rw [if_pos kf] at hr ⊢;exact .inr hr
 rw [if_neg kf] at hr ⊢;rw [h.sg hi (.inr hlt),h.sg hi (.inr hlt)];by_cases hq:jC l i [63]=true
 ·rw [if_pos hq] at hr ⊢;obtain ⟨q1,q2⟩:=h.name (kw:=kw) (i:=i+1) (by omega);rw [q1];cases hnm:pY kw l (i+1) with
  |none=>rw [hnm] at hr;cases hr
  |some z=>
   obtain ⟨s,m⟩:=z;have hadv:=qZ hnm;rw [hnm] at hr;simp only at hr ⊢;cases hL:pH rd l m with
   |none=>rw [hL] at hr;cases hr
   |some z=>obtain ⟨ks,j⟩:=z;rw [hL] at hr;cases hr;rw [b6X h hA hS (by omega) hL hn];exact .inr rfl
 rw [if_neg hq] at hr ⊢;by_cases hp:jC l i [40]=true
 ·rw [if_pos hp] at hr ⊢;have es1:jC l' (i+1) [45]=jC l (i+1) [45]:=h.sg (by omega) (.inl ⟨by decide,by decide⟩);by_cases hneg:jC l (i+1) [45]=true∧kdB l (i+2) 3=true∧jC l (i+3) [41]=true
  ·obtain ⟨n1,n2,n3⟩:=hneg;rw [if_pos ⟨n1,n2,n3⟩] at hr;have l3:i+3<N:=by cases hr;omega
   have c2:kdB l' (i+2) 3=true:=by rw [h.kd (by omega) (.inl (by decide))];exact n2
   have c3:jC l' (i+3) [41]=true:=by rw [h.sg (by omega) (.inr l3)];exact n3
   rw [if_pos ⟨by rw [es1];exact n1,c2,c3⟩,h.nm (by omega)];exact .inr hr
  ·rw [if_neg hneg] at hr;have hs:=hS (i+1) 1 (by omega) (by omega) (by omega) (by omega);cases hx:rd (i+1) 1 with
   |none=>rw [hx] at hr;cases hr
   |some q=>
    obtain ⟨a,m⟩:=q;have hadv:=hA _ _ _ _ hx;rw [hx] at hr hs;simp only at hr;by_cases hc:jC l m [41]=true
    ·rw [if_pos hc] at hr;cases hr;have hneg': ¬(jC l' (i+1) [45]=true∧kdB l' (i+2) 3=true∧jC l' (i+3) [41]=true):=by
      rintro ⟨c1,c2,c3⟩;rw [es1] at c1;have l1:=h.b0m (by omega:i+1≤N) (by decide) (by decide) c1;rw [h.kd (by omega) (.inl (by decide))] at c2;have l2:=h.c0f (by omega:i+2≤N) (by decide) (by decide) c2;by_cases h3:i+3<N
      ·rw [h.sg (by omega) (.inr h3)] at c3;exact hneg ⟨c1,c2,c3⟩
      ·have:m=i+2:=by omega
       subst this;exact d3D hc c2
     rw [if_neg hneg'];rcases hs _ _ rfl (by omega) with hd|hy
     ·rw [hd.no (by decide) (by decide)] at hc;cases hc
     ·rw [hy];simp only;rw [if_pos (by rw [h.sg (by omega) (.inr (by omega))];exact hc)];exact .inr rfl
    ·rw [if_neg hc] at hr;cases hr
 rw [if_neg hp] at hr ⊢;obtain ⟨q1,q2⟩:=h.name (kw:=kw) hi;rw [q1];cases hnm:pY kw l i with
 |none=>rw [hnm] at hr;cases hr
 |some z=>
  obtain ⟨s,m⟩:=z;have hadv:=qZ hnm;have hmN:=q2 s m hnm;rw [hnm] at hr;simp only at hr ⊢;cases hL:pH rd l m with
  |some z=>obtain ⟨ks,j⟩:=z;rw [hL] at hr;cases hr;rw [b6X h hA hS (by omega) hL hn];exact .inr rfl
  |none=>
   rw [hL] at hr;by_cases hb:jC l m [40]=true
   ·cases hr;exact .inl ⟨[40],hb,.inl rfl⟩
   ·rw [c9D h hmN (by simpa using hb)];cases hr;exact .inr rfl
theorem d3E (h:yU l l' N)(hA:Adv l rd){i k:Nat}(hk:1≤k∧k≤10)(hi:i≤N)(hS:∀i' k',1≤k'→k'≤10→i<i'→i'≤N→Smr kw l N k' (rd i' k') (rd' i' k'))(hT:∀i' k',1≤k'→k'≤10→i'≤N→NoP kw l i'→rd' i' k'=none)(h0:∀k',k<k'→k'≤10→Smr kw l N k' (rd i k') (rd' i k')):
  Smr kw l N k (atG kw rd l i k) (atG kw rd' l' i k):=by
 have hlen:=h.len;have hlen':=h.b1j;have hch:∀k,(k=1∨k=3∨k=4∨k=7∨k=8)→Smr kw l N (k+1) (rd i (k+1)) (rd' i (k+1))→Smr kw l N k ((rd i (k+1)).map fun q=>dO rd l k l.length q.1 q.2) ((rd' i (k+1)).map fun q=>dO rd' l' k l'.length q.1 q.2):=by
  intro k hk hs p n hr hn;cases hx:rd i (k+1) with
  |none=>rw [hx] at hr;cases hr
  |some q=>
   obtain ⟨a,m⟩:=q;have hadv:=hA _ _ _ _ hx;rw [hx] at hr hs;rw [Option.map_some,d7c] at hr;simp only at hr;have hca:=a2B hA k l.length a m hadv.2;rw [hr] at hca;simp only at hca;rcases hs a m rfl (by omega) with hd|hy
   ·rw [a9Z (hd.op (by omega))] at hr;cases hr;exact .inl (hd.mono (by omega))
   ·rw [hy,Option.map_some];simp only;rcases b2x h hA hS hT (k:=k) (by omega) l.length l'.length a m (by omega) (by omega) (by omega) (by omega) p n hr hn with hd|q2
    ·exact .inl hd
    ·exact .inr (by rw [q2])
 obtain rfl|rfl|rfl|rfl|rfl|rfl|rfl|rfl|rfl|rfl:k=1∨k=2∨k=3∨k=4∨k=5∨k=6∨k=7∨k=8∨k=9∨k=10:=by omega
 ·exact hch 1 (by omega) (h0 2 (by omega) (by omega))
 ·have hs:=h0 3 (by omega) (by omega)
  show Smr kw l N 2 (a7A rd l i) (a7A rd' l' i)
  intro p n hr hn;unfold a7A at hr ⊢;cases hx:rd i 3 with
  |none=>rw [hx] at hr;cases hr
  |some q=>
   obtain ⟨a,m⟩:=q;have hadv:=hA _ _ _ _ hx;rw [hx] at hr hs;simp only at hr;by_cases hb:jC l m [61,62]=true
   ·rw [if_pos hb] at hr;have hmn:m≤n:=by
     split at hr
     ·rename_i b j hj;have:=hA _ _ _ _ hj;cases hr;omega
     ·cases hr;omega
    have hlt:=h.b0m (by omega:m≤N) (by decide) (by decide) hb;rcases hs a m rfl (by omega) with hd|hy
    ·rw [hd.no (by decide) (by decide)] at hb;cases hb
    ·rw [hy];simp only;rw [h.sg (by omega) (.inr hlt),if_pos hb];have hs2:=hS (m+1) 2 (by omega) (by omega) (by omega) (by omega);cases hx2:rd (m+1) 2 with
     |none=>
      rw [hx2] at hr;cases hr;by_cases hst:NoP kw l (n+1)
      ·rw [hT (n+1) 2 (by omega) (by omega) (by omega) hst];exact .inr rfl
      ·exact .inl ⟨_,hb,.inr ⟨by decide,hst⟩⟩
     |some z=>
      obtain ⟨b,j⟩:=z;rw [hx2] at hr hs2;cases hr;rcases hs2 _ _ rfl hn with hd|hy2
      ·exact .inl hd
      ·rw [hy2];exact .inr rfl
   ·rw [if_neg hb] at hr;cases hr;rcases hs _ _ rfl hn with hd|hy
    ·exact .inl (hd.mono (by omega))
    ·rw [hy];simp only;rw [h.sg hn (.inl ⟨by decide,by decide⟩),if_neg hb];exact .inr rfl
 ·exact hch 3 (by omega) (h0 4 (by omega) (by omega))
 ·exact hch 4 (by omega) (h0 5 (by omega) (by omega))
 ·show Smr kw l N 5 (if jC l i [33]=true then _ else rd i 6) (if jC l' i [33]=true then _ else rd' i 6)
  rw [h.sg hi (.inl ⟨by decide,by decide⟩)];by_cases hb:jC l i [33]=true
  ·have hlt:=h.b0m hi (by decide) (by decide) hb;rw [if_pos hb,if_pos hb];have hs:=hS (i+1) 5 (by omega) (by omega) (by omega) (by omega);intro p n hr hn;rw [d6V] at hr;obtain ⟨⟨a,m⟩,hx,he⟩:=hr;cases he;rcases hs a m hx hn with hd|hy
   ·exact .inl hd
   ·rw [hy];exact .inr rfl
  ·rw [if_neg hb,if_neg hb];exact (h0 6 (by omega) (by omega)).mono (by omega)
 ·have hs:=h0 7 (by omega) (by omega)
  show Smr kw l N 6 (a0i rd l i) (a0i rd' l' i)
  intro p n hr hn;unfold a0i at hr ⊢;cases hx:rd i 7 with
  |none=>rw [hx] at hr;cases hr
  |some q=>
   obtain ⟨a,m⟩:=q;have hadv:=hA _ _ _ _ hx;rw [hx] at hr hs;simp only at hr;have hmn:m≤n:=by
    split at hr
    ·cases hr;omega
    ·split at hr
     ·cases hr;omega
     ·rename_i b j hj;have:=hA _ _ _ _ hj;cases hr;omega
   rcases hs a m rfl (by omega) with hd|hy
   ·rw [hd.cmp (by omega)] at hr;cases hr;exact .inl (hd.mono (by omega))
   ·rw [hy];simp only;rw [h.cmp (by omega)];cases hc:uN l m with
    |none=>rw [hc] at hr;cases hr;exact .inr rfl
    |some c=>
     obtain ⟨op,ex⟩:=c;have hlt:=h.d3C (by omega) hc;rw [hc] at hr;simp only at hr ⊢;have hs2:=hS (m+1) 7 (by omega) (by omega) (by omega) (by omega);cases hx2:rd (m+1) 7 with
     |none=>
      rw [hx2] at hr;cases hr;by_cases hst:NoP kw l (n+1)
      ·rw [hT (n+1) 7 (by omega) (by omega) (by omega) hst];exact .inr rfl
      ·obtain ⟨s,q1,q2,_⟩:=c5k hc;exact .inl ⟨s,q1,.inr ⟨by omega,hst⟩⟩
     |some z=>
      obtain ⟨b,j⟩:=z;rw [hx2] at hr hs2;cases hr;rcases hs2 _ _ rfl hn with hd|hy2
      ·exact .inl (hd.mono (by omega))
      ·rw [hy2];exact .inr rfl
 ·exact hch 7 (by omega) (h0 8 (by omega) (by omega))
 ·exact hch 8 (by omega) (h0 9 (by omega) (by omega))
 ·show Smr kw l N 9 (if jC l i [45]=true then _ else rd i 10) (if jC l' i [45]=true then _ else rd' i 10)
  rw [h.sg hi (.inl ⟨by decide,by decide⟩)];by_cases hb:jC l i [45]=true
  ·have hlt:=h.b0m hi (by decide) (by decide) hb;rw [if_pos hb,if_pos hb];have hs:=hS (i+1) 9 (by omega) (by omega) (by omega) (by omega);intro p n hr hn;rw [d6V] at hr;obtain ⟨⟨a,m⟩,hx,he⟩:=hr;cases he;rcases hs a m hx hn with hd|hy
   ·exact .inl hd
   ·rw [hy];exact .inr rfl
  ·rw [if_neg hb,if_neg hb];exact (h0 10 (by omega) (by omega)).mono (by omega)
 ·exact c5l h hA hi hS
theorem b8Z (h:yU l l' N):∀(f i k:Nat),1≤k→k≤10→i≤N→mu l.length i k≤f→Smr kw l N k (RR kw l i k) (RR kw l' i k)
 |0,i,k,_,h10,hi,hf=>by have:=h.len;unfold mu at hf;omega
 |f+1,i,k,h1,h10,hi,hf=>by
  have e1:=h.len;have e2:=h.b1j;rw [a0P h1 h10 (by omega),a0P h1 h10 (by omega)];refine d3E h (d3t kw l) ⟨h1,h10⟩ hi (fun i' k' q1 q2 q3 q4=>b8Z h f i' k' q1 q2 q4 ?_) (fun i' k' q1 q2 q3 q4=>(h.noP q3 q4).read k' q1 q2) (fun k' q1 q2=>b8Z h f i k' (by omega) q2 hi ?_)
  ·have:=vV (L:=l.length) (k:=k) q3 (by omega) q1 h10;omega
  ·have:=a5h (L:=l.length) (i:=i) q1 q2;omega
theorem d3F (h:yU l l' N){p:Pr}{n:Nat}(hr:RR kw l 0 1=some (p,n))(hn:n≤N)(hd: ¬Ded kw l 1 n):RR kw l' 0 1=some (p,n):=by
 rcases b8Z (kw:=kw) h _ 0 1 (by omega) (by omega) (by omega) (d7m _) p n hr hn with h1|h1
 ·exact absurd h1 hd
 ·exact h1
end
end
section
structure a6i (l l':List Tok) (N d:Nat) (u:Nm):Prop where
 len:N<l.length
 b1j:N+d<l'.length
 le:l.length≤l'.length
 kind:∀i,i<N→(aJ l' (i+d)).kind=(aJ l i).kind
 text:∀i,i<N→(aJ l' (i+d)).text=(aJ l i).text
 n:∀i,i<N→(aJ l' (i+d)).n=(aJ l i).n
 stp:(aJ l N).kind=0∨((aJ l N).kind=4∧(aJ l N).text=u)
 a7B:(aJ l' (N+d)).kind=4∧(aJ l' (N+d)).text=u
 uu:u=[41]∨u=[59]
def aC {α:Type}(N d:Nat)(W:Nat→Prop)(x y:aS α):Prop:=∀i a j,i≤N→x i= .ok a j→j≤N→W j→y (i+d)= .ok a (j+d)
abbrev wT:Nat→Prop:=fun _=>True
def Fol (kw:Nm→Bool)(l:List Tok)(j:Nat):Prop:=c5j kw (aJ l j)
def b9a (kw:Nm→Bool)(l:List Tok)(j:Nat):Prop:=(aJ l j).kind=4→(aJ l j).text≠[40]∧(lvS (aJ l j).text=0∨c5j kw (aJ l (j+1)))
def c5m (l:List Tok):Prop:=∀i,(aJ l i).kind≠0→firstT kV (aJ l i).text=((aJ l i).kind,(aJ l i).text,(aJ l i).n,true)
section
variable {α β:Type} {kw:Nm→Bool} {andP:Pr→Pr→Pr} {rdP:List Tok→Nat→Nat→kY Pr} {l l':List Tok} {N d:Nat} {W W':Nat→Prop} {u:Nm}
theorem aC.mono {x y:aS α}(h:aC N d W x y)(hw:∀j,j≤N→W' j→W j):aC N d W' x y:=fun i a j hi hx hj hW=>h i a j hi hx hj (hw j hj hW)
theorem aC.aO (a:α):aC N d W (pure a:aS α) (pure a):=fun i b j hi hx hj _=>by
 rw [gA] at hx ⊢;cases hx
 rfl
theorem aC.ite {c:Prop}[Decidable c]{x y x' y':aS α}(h:aC N d W x x')(h':aC N d W y y'):aC N d W (if c then x else y) (if c then x' else y'):=by
 split
 ·exact h
 ·exact h'
theorem aC.failed:aC N d W (cQ l:aS α) (cQ l'):=fun i a j hi hx hj _=>by unfold cQ at hx;cases hx
variable (hE:pE l) (hN:a6i l l' N d u)
include hE hN
omit hE in
theorem b9b {x:aS α}{m i j:Nat}{a:α}(h:aA l m x)(hi:i≤N)(hx:x i= .ok a j):i+m≤j∧j<l.length:=h i a j (by have:=hN.len;omega) hx
omit hE in
theorem aC.bnd {x x':aS α}{f f':α→aS β}(hx:aC N d W' x x')(hf:∀a,aC N d W (f a) (f' a))(ax:aA l 0 x)(af:∀a,aA l 0 (f a))(hW:∀a k b j,k≤N→f a k= .ok b j→j≤N→W j→W' k):aC N d W (x >>=f) (x' >>=f'):=fun i b j hi h hj hw=>by
 rw [eF] at h;cases h1:x i with
 |bad n e=>rw [h1] at h;cases h
 |ok a k=>rw [h1] at h;have k1:=b9b hN ax hi h1;have k2:=(af a) k b j k1.2 h;rw [bF (hx i a k hi h1 (by omega) (hW a k b j (by omega) h hj hw))];exact hf a k b j (by omega) h hj hw
omit hE in
theorem aC.bT {x x':aS α}{f f':α→aS β}(hx:aC N d wT x x')(hf:∀a,aC N d W (f a) (f' a))(ax:aA l 0 x)(af:∀a,aA l 0 (f a)):aC N d W (x >>=f) (x' >>=f'):=aC.bnd hN hx hf ax af fun _ _ _ _ _ _ _ _=>trivial
omit hE in
theorem a5p {i:Nat}(hi:i<N)(s:Nm):cU (aJ l' (i+d)) s=cU (aJ l i) s:=by unfold cU;rw [hN.kind i hi,hN.text i hi]
omit hE in
theorem a5q {i:Nat}(hi:i<N)(s:Nm):aI l' (i+d) s=aI l i s:=a5p hN hi s
omit hE in
theorem c0h {i:Nat}(hi:i<N):gU kw (aJ l' (i+d))=gU kw (aJ l i):=by unfold gU;rw [hN.kind i hi,hN.text i hi]
omit hE in
theorem c9E {i:Nat}(hi:i<N):kT (aJ l' (i+d))=kT (aJ l i):=by unfold kT;rw [hN.kind i hi]
omit hE in
theorem d5y {s:Nm}(h1:s≠[41])(h2:s≠[59]):u≠s:=by
 rcases hN.uu with rfl|rfl
 ·exact fun e=>h1 e.symm
 ·exact fun e=>h2 e.symm
omit hE in
theorem d5z {s:Nm}(h1:s≠[41])(h2:s≠[59]):aI l N s=false:=by
 unfold aI cU;rcases hN.stp with h|⟨h,h3⟩
 ·simp [h]
 ·simp [h3,d5y hN h1 h2]
omit hE in
theorem d5A {s:Nm}(h1:s≠[41])(h2:s≠[59]):aI l' (N+d) s=false:=by unfold aI cU;obtain ⟨h,h3⟩:=hN.a7B;simp [h3,d5y hN h1 h2]
omit hE in
theorem d5B:gU kw (aJ l N)=false:=by unfold gU;rcases hN.stp with h|⟨h,_⟩<;>simp [h]
omit hE in
theorem d5C:gU kw (aJ l' (N+d))=false:=by unfold gU;simp [hN.a7B.1]
omit hE in
theorem d5D:kT (aJ l N)=false:=by unfold kT;rcases hN.stp with h|⟨h,_⟩<;>simp [h]
omit hE in
theorem d5E:kT (aJ l' (N+d))=false:=by unfold kT;simp [hN.a7B.1]
omit hE in
theorem gX {s:Nm}(h1:s≠[41])(h2:s≠[59]){i:Nat}(hi:i≤N):aI l' (i+d) s=aI l i s:=by
 by_cases h:i=N
 ·subst h;rw [d5z hN h1 h2,d5A hN h1 h2]
 ·exact a5q hN (by omega) s
omit hE in
theorem a5r {i:Nat}(hi:i≤N):gU kw (aJ l' (i+d))=gU kw (aJ l i):=by
 by_cases h:i=N
 ·subst h;rw [d5B hN,d5C hN]
 ·exact c0h hN (by omega)
omit hE in
theorem a5s {i:Nat}(hi:i≤N):kT (aJ l' (i+d))=kT (aJ l i):=by
 by_cases h:i=N
 ·subst h;rw [d5D hN,d5E hN]
 ·exact c9E hN (by omega)
omit hE in
theorem is_lt {i:Nat}{s:Nm}(h1:s≠[41])(h2:s≠[59])(hi:i≤N)(h:aI l i s=true):i<N:=by
 refine Nat.lt_of_not_le fun hle=>?_
 have:i=N:=by omega
 subst this;rw [d5z hN h1 h2] at h;cases h
omit hE in
theorem d1n {i:Nat}(hi:i≤N)(h:gU kw (aJ l i)=true):i<N:=by
 refine Nat.lt_of_not_le fun hle=>?_
 have:i=N:=by omega
 subst this;rw [d5B hN] at h;cases h
omit hE in
theorem d5F {i:Nat}(hi:i≤N)(h:kT (aJ l i)=true):i<N:=by
 refine Nat.lt_of_not_le fun hle=>?_
 have:i=N:=by omega
 subst this;rw [d5D hN] at h;cases h
omit hN in
theorem c0i {s:List Nm}{i j:Nat}{a:Unit}(hi:i<l.length)(h:aL l s i= .ok a j):j=i+s.length:=by
 induction s generalizing i with
 |nil=>cases h;rfl
 |cons s r ih=>
  have h:(if aI l i s=true then aL l r (i+1) else cQ l i)= .ok a j:=h;split at h
  ·rename_i hs;have:=ih (aF hE hi hs) h;simp only [List.length_cons];omega
  ·unfold cQ at h;cases h
omit hE hN in
theorem a0y {s:Nm}{r:List Nm}{i j:Nat}{a:Unit}(h:aL l (s::r) i= .ok a j):aI l i s=true:=by
 have h:(if aI l i s=true then aL l r (i+1) else cQ l i)= .ok a j:=h;split at h
 ·assumption
 ·unfold cQ at h;cases h
omit hE hN in
theorem a2b {s:Nm}{r:List Nm}{f:Unit→aS α}{k j:Nat}{b:α}(h:(aL l (s::r) >>=f) k= .ok b j):aI l k s=true:=by
 rw [eF] at h;split at h
 ·rename_i u k2 he;exact a0y he
 ·cases h
theorem aC.exp:∀s,aC N d W (aL l s) (aL l' s)
 |[]=>aC.aO _
 |s::r=>fun i a j hi h hj hw=>by
  have hlen:=hN.len;have h1:=c0i hE (by omega) h;simp only [List.length_cons] at h1;have hs:=a0y h;have h:(if aI l i s=true then aL l r (i+1) else cQ l i)= .ok a j:=h;rw [if_pos hs] at h
  show (if aI l' (i+d) s=true then aL l' r (i+d+1) else cQ l' (i+d))=_
  rw [if_pos (by rw [a5q hN (by omega)];exact hs)];have:=aC.exp r (i+1) a j (by omega) h hj hw;rw [show i+1+d=i+d+1 by omega] at this;exact this
omit hE in
theorem aC.take {p:Tok→Bool}(hp:∀i,i≤N→p (aJ l' (i+d))=p (aJ l i)):aC N d W (mK l p) (mK l' p):=fun i a j hi h hj hw=>by
 unfold mK at h ⊢;split at h
 ·rename_i hs;cases h;rw [if_pos (by rw [hp i hi];exact hs),hN.text i (by omega)];rw [show i+1+d=i+d+1 by omega]
 ·unfold cQ at h;cases h
omit hE in
theorem aC.word:aC N d W (bL kw l) (bL kw l'):=aC.take hN fun i hi=>a5r hN hi
omit hE in
theorem aC.title:aC N d W (eQ l) (eQ l'):=aC.take hN fun i hi=>a5s hN hi
omit hE in
theorem aC.skip {s:Nm}(h1:s≠[41])(h2:s≠[59]):aC N d W (cR l s) (cR l' s):=fun i a j hi h hj hw=>by
 unfold cR at h ⊢;rw [gX hN h1 h2 hi];split at h
 ·rename_i hs;rw [if_pos hs];cases h;rw [show i+1+d=i+d+1 by omega]
 ·rename_i hs;rw [if_neg hs];cases h
  rfl
theorem aC.loop {c:Nm}{one one':α→aS α}(hq:∀j,j≤N→W j→aI l' (j+d) c=aI l j c)(hs:∀j,j<N→aI l j c=true→W j)(h1:∀a,aC N d W (one a) (one' a))(a1:∀a,aA l 0 (one a)):∀(g g':Nat) (a:α),g≤g'→aC N d W (gV l c one g a) (gV l' c one' g' a)
 |0,g',a,hg=>fun i b j hi h hj _=>by unfold gV at h;cases h
 |g+1,g',a,hg=>fun i b j hi h hj hw=>by
  obtain ⟨g',rfl⟩:∃k,g'=k+1:=⟨g'-1,by omega⟩;unfold gV at h ⊢;split at h
  ·cases h
  ·rename_i b' j' ho;have k1:=b9b hN (a1 a) hi ho;split at h
   ·rename_i hc;have k2:=aA.loop hE a1 g b' (j'+1) b j (aF hE k1.2 hc) h;rw [h1 a i b' j' hi ho (by omega) (hs j' (by omega) hc)];simp only;rw [if_pos (by rw [a5q hN (by omega)];exact hc)];have:=aC.loop hq hs h1 a1 g g' b' (by omega) (j'+1) b j (by omega) h hj hw;rw [show j'+1+d=j'+d+1 by omega] at this;exact this
   ·rename_i hc;cases h;rw [h1 a i b j hi ho hj hw];simp only;rw [hq j hj hw,if_neg hc]
theorem aC.list {c:Nm}{one one':α→aS α}(c1:c≠[41])(c2:c≠[59])(hs:∀j,j<N→aI l j c=true→W j)(h1:∀a,aC N d W (one a) (one' a))(a1:∀a,aA l 0 (one a))(a:α):aC N d W (dT l c one a) (dT l' c one' a):=
 aC.loop hE hN (fun j hj _=>gX hN c1 c2 hj) hs h1 a1 _ _ a (by have:=hN.le;omega)
theorem aC.d5G {c:Nm}{one one':α→aS α}(h1:∀a,aC N d (fun j=>j<N) (one a) (one' a))(a1:∀a,aA l 0 (one a))(a:α):aC N d (fun j=>j<N) (dT l c one a) (dT l' c one' a):=
 aC.loop hE hN (fun j _ hj=>a5q hN hj c) (fun j hj _=>hj) h1 a1 _ _ a (by have:=hN.le;omega)
omit hE in
theorem aC.b3f {c c':Nat→Bool}{one one':α→aS α}(hc:∀i,i≤N→c' (i+d)=c i)(h1:∀a,aC N d wT (one a) (one' a))(a1:∀a,aA l 0 (one a)):∀(g g':Nat) (a:α),g≤g'→aC N d W (dK c one g a) (dK c' one' g' a)
 |0,g',a,hg=>fun i b j hi h hj _=>by unfold dK at h;cases h
 |g+1,g',a,hg=>fun i b j hi h hj hw=>by
  obtain ⟨g',rfl⟩:∃k,g'=k+1:=⟨g'-1,by omega⟩;unfold dK at h ⊢;rw [hc i hi];split at h
  ·rename_i hs;rw [if_pos hs];split at h
   ·cases h
   ·rename_i b' j' ho;have k1:=b9b hN (a1 a) hi ho;have k2:=(aA.b3f a1 g b') j' b j k1.2 h;rw [h1 a i b' j' hi ho (by omega) trivial];exact aC.b3f hc h1 a1 g g' b' (by omega) j' b j (by omega) h hj hw
  ·rename_i hs;rw [if_neg hs];cases h
   rfl
omit hE in
theorem aC.many {c c':Nat→Bool}{one one':α→aS α}(hc:∀i,i≤N→c' (i+d)=c i)(h1:∀a,aC N d wT (one a) (one' a))(a1:∀a,aA l 0 (one a))(a:α):aC N d W (oT l c one a) (oT l' c' one' a):=
 aC.b3f hN hc h1 a1 _ _ a (by have:=hN.le;omega)
omit hE hN in
theorem yT (hwf:c5m l){s:Nm}{j:Nat}(h:aI l j s=true)(h4:(firstT kV s).1=4)(hs:s≠[63]∧s≠[40]∧s≠[45]∧s≠[33]):Fol kw l j:=by unfold aI cU at h;simp only [d6W,d7i,decide_eq_true_eq] at h;have h1:=hwf j (by omega);rw [h.2] at h1;rw [h1] at h4;refine .inr (.inl ⟨h4,?_⟩);rw [h.2];exact hs
omit hE hN in
theorem c0j {s:Nm}{j:Nat}(h:aI l j s=true)(h1:s≠[40])(h2:lvS s=0):b9a kw l j:=by unfold aI cU at h;simp only [d6W,decide_eq_true_eq] at h;intro _;rw [h.2];exact ⟨h1,.inl h2⟩
omit hE hN in
theorem c9F {j:Nat}(h:aI l j [62]=true)(h1:Fol kw l (j+1)):b9a kw l j:=by unfold aI cU at h;simp only [d6W,decide_eq_true_eq] at h;intro _;rw [h.2];exact ⟨by decide,.inr h1⟩
end
end
section
def d3G (t:Tok):Int:=if t.text=[40] then 1 else if t.text=[41] then -1 else 0
section
variable {l:List Tok}
def WfD (l:List Tok):Prop:=∀(i:Nat) (t:Tok),l[i]? =some t→t.kind≠4→d3G t=0
end
end
section
abbrev rW (ln:Int):Tok:=⟨0,[],0,ln⟩
section
variable {num:List UInt8→Int×Bool}
theorem d3H {l:List Tok}{ln:Int}(h:OkT num l ln):∀t∈l,(t.kind=0∧t.text=[])∨firstT num t.text=(t.kind,t.text,t.n,true):=by
 induction h with
 |fin ln l hl=>intro t ht;simp at ht;subst ht;exact .inl ⟨rfl,rfl⟩
 |cons t r ln h1 h2 h3 ih=>
  intro u hu;rcases List.mem_cons.1 hu with rfl|hu
  ·exact .inr h2
  ·exact ih u hu
theorem b0n {l:List Tok}{ln:Int}(h:OkT num l ln):∃l0 ln',l=l0++[rW ln']∧∀t∈l0,t.kind≠0:=by
 induction h with
 |fin ln l hl=>exact ⟨[],l,rfl,fun t ht=>by cases ht⟩
 |cons t r ln h1 h2 h3 ih=>
  obtain ⟨l0,ln',e,h0⟩:=ih;refine ⟨t::l0,ln',by rw [e];rfl,fun u hu=>?_⟩;rcases List.mem_cons.1 hu with rfl|hu
  ·have:=b7Y (num:=num) (s:=u.text) (by rw [h2]);rw [h2] at this;simp only at this;omega
  ·exact h0 u hu
theorem a0Q {l:List Tok}{i:Nat}{t:Tok}(h:l[i]? =some t):aJ l i=t:=by
 have hi:=(d6X.1 h).1;unfold aJ;rw [if_pos hi,List.getD_eq_getElem?_getD,h]
 rfl
theorem d5H {l:List Tok}(h:l≠[])(i:Nat):aJ l i∈l:=by
 unfold aJ;split
 ·rename_i hi;rw [List.getD_eq_getElem?_getD,d7a hi];exact List.getElem_mem hi
 ·rw [List.getLastD_eq_getLast?,List.getLast?_eq_some_getLast h];exact List.getLast_mem h
end
theorem lex_wf {s:List UInt8}{k:Nat}{ln:Int}{cm:Bool}{l:List Tok}(h:gS kV s k ln cm= .ok l):c5m l∧WfD l:=by
 have hw:=d3H (rC s k ln cm l h);obtain ⟨l0,ln',e,_⟩:=b0n (rC s k ln cm l h);refine ⟨fun i hk=>?_,fun i t ht hk=>?_⟩
 ·rcases hw _ (d5H (by rw [e];simp) i) with h1|h1
  ·exact absurd h1.1 hk
  ·exact h1
 ·rcases hw t (d7b ht) with h1|h1
  ·unfold d3G;rw [h1.2]
   rfl
  ·unfold d3G;split
   ·rename_i he;rw [he] at h1;have:(4:Int)=t.kind:=congrArg (fun x=>x.1) h1;omega
   ·split
    ·rename_i he;rw [he] at h1;have:(4:Int)=t.kind:=congrArg (fun x=>x.1) h1;omega
    ·rfl
section
variable (num:List UInt8→Int×Bool)
theorem c0k (rest:List UInt8):∀(t s:List UInt8),(∀b∈t,b≠41)→t.isPrefixOf (s++41::rest)=t.isPrefixOf s
 |[],s,_=>by simp [List.isPrefixOf]
 |x::t,[],ht=>by
  have:(x==41)=false:=by rw [beq_eq_false_iff_ne];exact ht x (.head _)
  simp [List.isPrefixOf,this]
 |x::t,c::s,ht=>by simp only [List.cons_append,List.isPrefixOf,c0k rest t s fun b hb=>ht b (.tail _ hb)]
theorem c5n:∀t∈eN,∀b∈t.tail,b≠41:=by decide
theorem c2n (rest:List UInt8)(c:UInt8)(r:List UInt8):firstT num (c::r++41::rest)=firstT num (c::r):=by
 have h1:=yM (p:=inU) (rest:=41::rest) (fun b hb=>by cases hb;decide) (c::r);have h2:=yM (p:=dgU) (rest:=41::rest) (fun b hb=>by cases hb;decide) (c::r);have h3:pD (c::r++41::rest)=pD (c::r):=by
  unfold pD;rw [find_congr fun t ht=>?_];cases t with
  |nil=>rfl
  |cons x t=>have:=c0k rest t r (c5n _ ht);simp only [List.cons_append,List.isPrefixOf,this]
 rw [List.cons_append] at h1 h2 h3 ⊢;simp only [firstT,h1,h2,h3]
theorem b9c (c:UInt8)(r:List UInt8):(firstT num (c::r)).2.1.length≤(c::r).length:=by
 by_cases h:(firstT num (c::r)).2.2.2=true
 ·exact (a4y h).2.1.length_le
 ·unfold firstT at h ⊢;split
  ·simp_all
  ·rename_i c' r' he;cases he;split
   ·rename_i h1;simp [h1] at h
   ·rename_i h1;split
    ·rename_i h2;simp [h1,h2] at h
    ·rename_i h2;split
     ·exact (tS _ _).length_le
     ·split
      ·simp
      ·rename_i h3 h4;exact (b5C h4).2.length_le
theorem a5t (rest:List UInt8):∀(s:List UInt8) (k:Nat) (ln:Int),(∀b∈s,b≠35)→k≤s.length→(∃l0 ln',gS num s k ln false= .ok (l0++[rW ln'])∧gS num (s++41::rest) k ln false=d3u (l0++[tL ln' [41]]) (gS num rest 0 ln' false))∨(∃e,gS num s k ln false= .error e∧gS num (s++41::rest) k ln false= .error e)
 |[],k,ln,_,hk=>by
  have:k=0:=by simpa using hk
  subst this;have:=c4L (num:=num) (ln:=ln) (r:=rest);unfold Lx at this;exact .inl ⟨[],ln,rfl,this⟩
 |c::r,k+1,ln,hs,hk=>by rw [List.cons_append,gS,gS];exact a5t rest r k ln (fun b hb=>hs b (.tail _ hb)) (by simpa using hk)
 |c::r,0,ln,hs,_=>by
  have hr:∀b∈r,b≠35:=fun b hb=>hs b (.tail _ hb)
  have hf:=c2n num rest c r;rw [List.cons_append] at hf ⊢;rw [gS,gS];by_cases h10:c=10
  ·rw [if_pos h10,if_pos h10];exact a5t rest r 0 (ln+1) hr (by omega)
  rw [if_neg h10,if_neg h10];by_cases hb:false=true∨c=32∨c=9
  ·rw [if_pos hb,if_pos hb];exact a5t rest r 0 ln hr (by omega)
  rw [if_neg hb,if_neg hb,if_neg (hs c (.head _)),if_neg (hs c (.head _)),hf];split
  ·rename_i hok;have hle:=b9c num c r;simp only [List.length_cons] at hle;rcases a5t rest r ((firstT num (c::r)).2.1.length-1) ln hr (by omega) with ⟨l0,ln',e1,e2⟩|⟨e,e1,e2⟩
   ·rw [e1,e2];refine .inl ⟨_::l0,ln',rfl,?_⟩;cases gS num rest 0 ln' false<;>rfl
   ·rw [e1,e2];exact .inr ⟨e,rfl,rfl⟩
  ·exact .inr ⟨ln,rfl,rfl⟩
end
end
section
open Go Go.VM
variable {G:GT}
def hasB (c:UInt8)(s:List UInt8):Bool:=s.any fun b=>decide (b=c)
theorem c9G {c:UInt8}{s:List UInt8}(h:∀b∈s,b≠c):hasB c s=false:=by unfold hasB;rw [List.any_eq_false];intro b hb;simpa using h b hb
theorem c9H {c:UInt8}{s:List UInt8}{i:Nat}(hi:i<s.length)(h:s[i]=c):hasB c s=true:=by unfold hasB;rw [List.any_eq_true];exact ⟨s[i],List.getElem_mem hi,by simpa using h⟩
theorem b9d {c:UInt8}{s:List UInt8}(h:hasB c s=false):∀b∈s,b≠c:=fun b hb e=>by unfold hasB at h;rw [List.any_eq_false] at h;exact h b hb (by simpa using e)
theorem b0o (s:List UInt8)(hl:s.length≤900000000):CS Tryz.prog G 11 [.str s] (.d (.bool (hasB 35 s))) none:=by
 refine CS.bI (Tryz.func11) rfl (Tryz.ntmps11) rfl ?_
 simp;refine SW.kJ (ι:={ i:Nat // i≤s.length∧∀b∈s.take i,b≠35 }) (fun i=>[(3,.d (.int .i64 i.1))]) (fun _=>[]) (fun _=>[]) (fun i=>s.length-i.1) ⟨0,by simp⟩ (by simp) ?_
 rintro ⟨i,hi,hn⟩
 try simp only at hi hn
 by_cases hlt:i<s.length
 ·have hw:=bO (show i<9223372036854775807 by omega);have cc:=a9d s[i] 35 (by omega);simp at cc;by_cases hc:s[i]=35
  ·have e:=cc.2 hc;simp [hlt,e,c9H hlt hc]
  ·have e: ¬s[i].toNat=35:=fun h=>hc (cc.1 h)
   simp [hlt,e];refine bQ.mk ⟨i+1,hlt,fun b hb=>?_⟩ (by simp [hw]) (by simp;omega);rw [d7l hlt] at hb;rcases List.mem_append.1 hb with hb|hb
   ·exact hn b hb
   ·simp at hb;rw [hb];exact hc
 ·have hie:i=s.length:=by omega
  subst hie;rw [List.take_length] at hn;simp [c9G hn]
theorem a7C:VM.Enters Tryz.prog 11:=VM.Enters.mk Tryz.func11 rfl
end
end Go.Proofs.YtjpodcmhcenjjaaGreatDoor
