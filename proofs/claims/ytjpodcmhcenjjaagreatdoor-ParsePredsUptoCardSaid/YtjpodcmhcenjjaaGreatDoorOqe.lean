/- Lemmas that the law of this claim needs (PsX PsY ZR ZS ZT ZW PrO PsZ PtA PrP PtB VmRP VmRQ PtC PtD PtE PtF VmRF PtG PtH PrM PrN PtI PrQ PtJ PvA PvD PvE PuG PvF PuI Fit PvG PvH PvI PvJ). No condition. -/
import Derived.Test.YtjpodcmhcenjjaaGreatDoorOqd
import Derived.Defers
import Derived.Recover
import Derived.Tactics2
import Derived.Laws.Pointers
import Derived.OrdersHeld
set_option linter.unusedVariables false
set_option linter.unusedSimpArgs false
set_option linter.unusedSectionVars false
set_option maxRecDepth 100000
set_option maxHeartbeats 64000000
namespace Go.Proofs.YtjpodcmhcenjjaaGreatDoor
section
open Go Go.VM
variable {G:GT}
theorem a3g:VM.Enters Tryz.prog 42:=VM.Enters.mk Tryz.func42 rfl
section
variable {rdP:List Tok→Nat→Nat→kJ Pr} {l:List Tok} (hV:jX G rdP l) (hN:∀i, -9223372036854775807≤(aZ l i).n∧(aZ l i).n≤9223372036854775807)
include hV hN
def tA (m:jK):List (Nat×aR):=[(100001,.cells [.d (.sl (m.a7q.map a7x)),.d (.sl (m.a3K.map b3P)),.d (.sl (m.insts.map b7m)),.d (.sl (m.a7r.map b3Q)),.d (.sl (m.b3L.map b7n)),.d (.sl (m.defs.map b1z))])]
abbrev d0v:List (TypeId×List VM.Loc):=[(78,[.c 100001 0]),(111,[.c 100001 1]),(114,[.c 100001 2]),(82,[.c 100001 3]),(118,[.c 100001 4]),(70,[.c 100001 5])]
abbrev d2e (d:a7m):List D:=[.str d.name,.sl (strs d.vars),.sl (d.a7l.map jR),.sl (d.cons.map b0k)]
abbrev d2f (d:a3J):List D:=[.str d.name,.str d.var,.sl (d.methods.map a7w)]
omit hN in
theorem a6i (i:Nat)(hi:i<l.length):mX G 79 [] l i (yZ bD bW rdP l i) (fun d=> .d (.agg (d2e d))):=a8q hV i hi
omit hN in
theorem b2o (i:Nat)(hi:i<l.length):mX G 80 [] l i (tW bD bW rdP l i) (fun d=> .d (.agg (d2f d))):=b4G hV i hi
structure c2i (m:jK) (i:Nat):Prop where
 a:m.a7q.length≤i
 b:m.a3K.length≤i
 c:m.insts.length≤i
 d:m.a7r.length≤i
 e:m.b3L.length≤i
 f:m.defs.length≤i
theorem b6B (m:jK)(i:Nat)(hi:i<l.length)(hm:c2i m i):jG G 42 [.ptr 100000 0,.ptr 100001 0] (tA m) d0v l i (rV bD bW rdP l m i) (fun _=> .cF []) tA:=by
 have hl:=hV.len;obtain ⟨j0,rfl⟩:∃j0,j0=i:=⟨_,rfl⟩;have p0:j0≤j0∧j0<l.length:=⟨d3X _,hi⟩;obtain ⟨m1,m2,m3,m4,m5,m6⟩:=hm;obtain ⟨da,cl,ins,me,qu,de⟩:=m;simp only at m1 m2 m3 m4 m5 m6;have eq1:∀d:a7m,a7x d=[.str d.name,.sl (strs d.vars),.sl (d.a7l.map jR),.sl (d.cons.map b0k)]:=fun d=>rfl
 have eq2:∀d:a3J,b3P d=[.str d.name,.str d.var,.sl (d.methods.map a7w)]:=fun d=>rfl
 have eq3:=c2d;have eq4:=c2f;have eq5:=c2g;have eq6:=a4j;refine jG.cK Tryz.func42 rfl Tryz.ntmps42 rfl (by simp) ?_
 intro Q Q0;unfold rV at Q0;simp [tA];cases s1:aQ l j0 [100,97,116,97] with
 |true=>
  have Q1:=Q0.ifp s1;refine aY (ds:=[.str [100,97,116,97]]) (d:= .d (.bool true)) aC (aN l j0 [100,97,116,97] p0.2 (by omega) s1) (by simp) (by simp) ?_
  have p1:j0+1≤j0+1∧j0+1<l.length:=⟨d3X _,aF hV.fin p0.2 s1⟩;obtain ⟨j1,hj1⟩:∃j,j0+1=j:=⟨_,rfl⟩;rw [hj1] at Q1 p1 ⊢;simp;refine jA [0,1,2,3,5] 6 [] (.op 4 (.call [7,8,9,10,11] .none) (.call [4,7,8,9,10,11] .none)) (eK (yZ bD bW rdP l j1)) (by kernel_rfl) (by kernel_rfl) ?_
  simp;refine ⟨?_,?_⟩
  all_goals
   refine rE a6e ((a6i hV j1 p1.2)) (by simp) (by simp) (fun x j2 x2=>?_) (fun n e hx=>by first|exact Q1.fail hx _|(simp;exact Q1.fail hx _)|(simp;exact fun s=>Q1.fail hx s));have Q2:=Q1.step x2;have p2:=(aA.data hV.fin hV.tM.pred) j1 x j2 p1.2 x2;refine cO.mk ?_
   simp;refine dH (by first|omega|exact ⟨fun x _=>by rw [eq1];rfl,by omega⟩|exact ⟨fun x _=>rfl,by omega⟩) ?_
   simp;exact Q2.ok _ j2 .normal _ rfl (.inl rfl) (by simp [tA,eq1])
 |false=>
 have Q0:=Q0.vX (by rw [s1];decide);refine aY (ds:=[.str [100,97,116,97]]) (d:= .d (.bool false)) aC (aO l j0 [100,97,116,97] p0.2 (by omega) s1) (by simp) (by simp) ?_
 simp;cases s2:aQ l j0 [99,108,97,115,115] with
 |true=>
  have Q1:=Q0.ifp s2;refine aY (ds:=[.str [99,108,97,115,115]]) (d:= .d (.bool true)) aC (aN l j0 [99,108,97,115,115] p0.2 (by omega) s2) (by simp) (by simp) ?_
  have p1:j0+1≤j0+1∧j0+1<l.length:=⟨d3X _,aF hV.fin p0.2 s2⟩;obtain ⟨j1,hj1⟩:∃j,j0+1=j:=⟨_,rfl⟩;rw [hj1] at Q1 p1 ⊢;simp;refine jA [0,1,2,3,5] 6 [] (.op 4 (.call [7,8,9,10,11] .none) (.call [4,7,8,9,10,11] .none)) (eK (tW bD bW rdP l j1)) (by kernel_rfl) (by kernel_rfl) ?_
  simp;refine ⟨?_,?_⟩
  all_goals
   refine rE b2n ((b2o hV j1 p1.2)) (by simp) (by simp) (fun x j2 x2=>?_) (fun n e hx=>by first|exact Q1.fail hx _|(simp;exact Q1.fail hx _)|(simp;exact fun s=>Q1.fail hx s));have Q2:=Q1.step x2;have p2:=(aA.cls hV.fin hV.tM.pred) j1 x j2 p1.2 x2;refine cO.mk ?_
   simp;refine dH (by first|omega|exact ⟨fun x _=>by rw [eq2];rfl,by omega⟩|exact ⟨fun x _=>rfl,by omega⟩) ?_
   simp;exact Q2.ok _ j2 .normal _ rfl (.inl rfl) (by simp [tA,eq2])
 |false=>
 have Q0:=Q0.vX (by rw [s2];decide);refine aY (ds:=[.str [99,108,97,115,115]]) (d:= .d (.bool false)) aC (aO l j0 [99,108,97,115,115] p0.2 (by omega) s2) (by simp) (by simp) ?_
 simp;cases s3:aQ l j0 [105,110,115,116] with
 |true=>
  have Q1:=Q0.ifp s3;refine aY (ds:=[.str [105,110,115,116]]) (d:= .d (.bool true)) aC (aN l j0 [105,110,115,116] p0.2 (by omega) s3) (by simp) (by simp) ?_
  have p1:j0+1≤j0+1∧j0+1<l.length:=⟨d3X _,aF hV.fin p0.2 s3⟩;obtain ⟨j1,hj1⟩:∃j,j0+1=j:=⟨_,rfl⟩;rw [hj1] at Q1 p1 ⊢;simp;refine jA [0,1,2,3,5] 6 [] (.op 4 (.call [7,8,9,10,11] .none) (.call [4,7,8,9,10,11] .none)) (eK (a0L bD bW rdP l j1)) (by kernel_rfl) (by kernel_rfl) ?_
  simp;refine ⟨?_,?_⟩
  all_goals
   refine rE a6h ((a8v hV hN j1 p1.2)) (by simp) (by simp) (fun x j2 x2=>?_) (fun n e hx=>by first|exact Q1.fail hx _|(simp;exact Q1.fail hx _)|(simp;exact fun s=>Q1.fail hx s));have Q2:=Q1.step x2;have p2:=(aA.inst hV.fin hV.tM) j1 x j2 p1.2 x2;refine cO.mk ?_
   simp;refine dH (by first|omega|exact ⟨fun x _=>by rw [eq3];rfl,by omega⟩|exact ⟨fun x _=>rfl,by omega⟩) ?_
   simp;exact Q2.ok _ j2 .normal _ rfl (.inl rfl) (by simp [tA,eq3])
 |false=>
 have Q0:=Q0.vX (by rw [s3];decide);refine aY (ds:=[.str [105,110,115,116]]) (d:= .d (.bool false)) aC (aO l j0 [105,110,115,116] p0.2 (by omega) s3) (by simp) (by simp) ?_
 simp;cases s4:aQ l j0 [109,101,97,115,117,114,101] with
 |true=>
  have Q1:=Q0.ifp s4;refine aY (ds:=[.str [109,101,97,115,117,114,101]]) (d:= .d (.bool true)) aC (aN l j0 [109,101,97,115,117,114,101] p0.2 (by omega) s4) (by simp) (by simp) ?_
  have p1:j0+1≤j0+1∧j0+1<l.length:=⟨d3X _,aF hV.fin p0.2 s4⟩;obtain ⟨j1,hj1⟩:∃j,j0+1=j:=⟨_,rfl⟩;rw [hj1] at Q1 p1 ⊢;simp;refine jA [0,1,2,3,5] 6 [] (.op 4 (.call [7,8,9,10,11] .none) (.call [4,7,8,9,10,11] .none)) (eK (a0M bD rdP l j1)) (by kernel_rfl) (by kernel_rfl) ?_
  simp;refine ⟨?_,?_⟩
  all_goals
   refine rE a8w ((a9B hV j1 p1.2)) (by simp) (by simp) (fun x j2 x2=>?_) (fun n e hx=>by first|exact Q1.fail hx _|(simp;exact Q1.fail hx _)|(simp;exact fun s=>Q1.fail hx s));have Q2:=Q1.step x2;have p2:=(aA.c1i hV.fin hV.tM.pred) j1 x j2 p1.2 x2;refine cO.mk ?_
   simp;refine dH (by first|omega|exact ⟨fun x _=>by rw [eq4];rfl,by omega⟩|exact ⟨fun x _=>rfl,by omega⟩) ?_
   simp;exact Q2.ok _ j2 .normal _ rfl (.inl rfl) (by simp [tA,eq4])
 |false=>
 have Q0:=Q0.vX (by rw [s4];decide);refine aY (ds:=[.str [109,101,97,115,117,114,101]]) (d:= .d (.bool false)) aC (aO l j0 [109,101,97,115,117,114,101] p0.2 (by omega) s4) (by simp) (by simp) ?_
 simp;cases s5:aQ l j0 [113,117,97,108] with
 |true=>
  have Q1:=Q0.ifp s5;refine aY (ds:=[.str [113,117,97,108]]) (d:= .d (.bool true)) aC (aN l j0 [113,117,97,108] p0.2 (by omega) s5) (by simp) (by simp) ?_
  have p1:j0+1≤j0+1∧j0+1<l.length:=⟨d3X _,aF hV.fin p0.2 s5⟩;obtain ⟨j1,hj1⟩:∃j,j0+1=j:=⟨_,rfl⟩;rw [hj1] at Q1 p1 ⊢;simp;refine jA [0,1,2,3,5] 6 [] (.op 4 (.call [7,8,9,10,11] .none) (.call [4,7,8,9,10,11] .none)) (eK (a0N bD rdP l j1)) (by kernel_rfl) (by kernel_rfl) ?_
  simp;refine ⟨?_,?_⟩
  all_goals
   refine rE b4H ((b6A hV j1 p1.2)) (by simp) (by simp) (fun x j2 x2=>?_) (fun n e hx=>by first|exact Q1.fail hx _|(simp;exact Q1.fail hx _)|(simp;exact fun s=>Q1.fail hx s));have Q2:=Q1.step x2;have p2:=(aA.c1j hV.fin hV.tM.pred) j1 x j2 p1.2 x2;refine cO.mk ?_
   simp;refine dH (by first|omega|exact ⟨fun x _=>by rw [eq5];rfl,by omega⟩|exact ⟨fun x _=>rfl,by omega⟩) ?_
   simp;exact Q2.ok _ j2 .normal _ rfl (.inl rfl) (by simp [tA,eq5])
 |false=>
 have Q0:=Q0.vX (by rw [s5];decide);refine aY (ds:=[.str [113,117,97,108]]) (d:= .d (.bool false)) aC (aO l j0 [113,117,97,108] p0.2 (by omega) s5) (by simp) (by simp) ?_
 simp;refine bY zI ((a1O hV hN j0 p0.2)) (by simp) (by simp) (fun d j1 x1=>?_) (fun n e hx=>by first|exact Q0.fail hx _|(simp;exact Q0.fail hx _)|(simp;exact fun s=>Q0.fail hx s));have Q1:=Q0.step x1;have p1:=a1P hV j0 d j1 p0.2 x1;cases d with
 |none=>
  simp;refine bY (ds:=[]) qJ (rY (α:=jK) l j1 p1.2 (by omega) fun _=> .cF []) (by simp) (by simp) (fun a j hx=>by unfold dQ at hx;cases hx) (fun n e hx=>?_)
  first|exact Q1.bad n e _ hx|(simp;exact Q1.bad n e _ hx)
 |some d=>
  simp;refine SW.vk ?_
  simp;refine ⟨oG.mk (by kernel_rfl),?_⟩;refine dH (by first|omega|exact ⟨fun x _=>by rw [eq6];rfl,by omega⟩) ?_
  simp;exact Q1.ok _ j1 .normal _ rfl (.inl rfl) (by simp [tA,eq6,a6f,b2i])
end
end
section
open Go Go.VM
variable {G:GT}
theorem a4T:VM.Enters Tryz.prog 33:=VM.Enters.mk Tryz.func33 rfl
theorem a4U:VM.Enters Tryz.prog 38:=VM.Enters.mk Tryz.func38 rfl
theorem a3h:VM.Enters Tryz.prog 40:=VM.Enters.mk Tryz.func40 rfl
theorem a6j:VM.Enters Tryz.prog 57:=VM.Enters.mk Tryz.func57 rfl
section
variable {rdP:List Tok→Nat→Nat→kJ Pr} {l:List Tok} (hV:jX G rdP l) (hN:∀i, -9223372036854775807≤(aZ l i).n∧(aZ l i).n≤9223372036854775807)
include hV
def exX (e:gC):List (Nat×aR):=[(100001,.cells ((vO e).map .d))]
def tyX (t:Ty):List (Nat×aR):=[(100001,.cells ((tyD t).map .d))]
def deX (d:jJ):List (Nat×aR):=[(100001,.cells ((a6f d).map .d))]
theorem b4I (t0:Ty)(i:Nat)(hi:i<l.length):jG G 38 [.ptr 100000 0,.ptr 100001 0] (tyX t0) [] l i (gW bD bW rdP l i) (fun _=> .cF []) tyX:=by
 have hl:=hV.len;refine jG.cK Tryz.func38 rfl Tryz.ntmps38 rfl (by simp) ?_
 intro Q Q0;simp [tyX];refine bY (ds:=[]) cG (jO hV i hi) (by simp) (by simp) (fun t j h=>?_) (fun n e h=>Q0.bad n e _ h);simp;exact Q0.ok t j _ _ h (.inl rfl) (by simp [tyX])
include hN
theorem b4J (e0:gC)(i:Nat)(hi:i<l.length):jG G 33 [.ptr 100000 0,.ptr 100001 0] (exX e0) [] l i (a2S bD bW rdP l i) (fun _=> .cF []) exX:=by
 have hl:=hV.len;refine jG.cK Tryz.func33 rfl Tryz.ntmps33 rfl (by simp) ?_
 intro Q Q0;simp [exX];refine bY (ds:=[]) bR (wX hV hN i hi) (by simp) (by simp) (fun t j h=>?_) (fun n e h=>Q0.bad n e _ h);simp;exact Q0.ok t j _ _ h (.inl rfl) (by simp [exX])
abbrev xJ (rdP:List Tok→Nat→Nat→kJ Pr)(l:List Tok):bE jJ:=do
 let d ← vG bD bW rdP l
 match d with
 |none=>dQ l
 |some d=>do
  let _ ← eC l [59]
  pure d
theorem b6C (d0:jJ)(i:Nat)(hi:i<l.length):jG G 57 [.ptr 100000 0,.ptr 100001 0] (deX d0) [] l i (xJ rdP l i) (fun _=> .cF []) deX:=by
 have hl:=hV.len;obtain ⟨j0,rfl⟩:∃j0,j0=i:=⟨_,rfl⟩;have p0:j0≤j0∧j0<l.length:=⟨d3X _,hi⟩;refine jG.cK Tryz.func57 rfl Tryz.ntmps57 rfl (by simp) ?_
 intro Q Q0;simp [deX];refine bY zI ((a1O hV hN j0 p0.2)) (by simp) (by simp) (fun d j1 x1=>?_) (fun n e hx=>by first|exact Q0.fail hx _|(simp;exact Q0.fail hx _)|(simp;exact fun s=>Q0.fail hx s));have Q1:=Q0.step x1;have p1:=a1P hV j0 d j1 p0.2 x1;cases d with
 |none=>
  simp;refine bY (ds:=[]) qJ (rY (α:=jJ) l j1 p1.2 (by omega) fun _=> .cF []) (by simp) (by simp) (fun a j hx=>by unfold dQ at hx;cases hx) (fun n e hx=>?_)
  first|exact Q1.bad n e _ hx|(simp;exact Q1.bad n e _ hx)
 |some d=>
  simp;cases hs:aQ l j1 [59] with
  |true=>
   have Q2:=Q1.step (eZ hs);refine aY (ds:=[.str [59]]) (d:= .d (.bool true)) aC (aN l j1 [59] p1.2 (by omega) hs) (by simp) (by simp) ?_
   have p2:j1+1≤j1+1∧j1+1<l.length:=⟨d3X _,aF hV.fin p1.2 hs⟩;simp;exact Q2.ok _ (j1+1) _ _ rfl (.inl rfl) (by simp [deX,a6f,b2i])
  |false=>
   have Q2:=Q1.step (gA hs);refine aY (ds:=[.str [59]]) (d:= .d (.bool false)) aC (aO l j1 [59] p1.2 (by omega) hs) (by simp) (by simp) ?_
   simp;exact Q2.ok _ j1 _ _ rfl (.inl rfl) (by simp [deX,a6f,b2i])
abbrev moM (rdP:List Tok→Nat→Nat→kJ Pr)(l:List Tok)(m:jK):bE jK:=do
 let m ← rV bD bW rdP l m
 aV l [[59]]
 pure m
omit hN in
theorem a8A (m:jK):aA l 1 (rV bD bW rdP l m):=aA.decl hV.fin hV.tM m
omit hN in
theorem b4K (m:jK)(i:Nat)(m2:jK)(j:Nat)(hi:i<l.length)(hm:c2i m i)(h:rV bD bW rdP l m i= .ok m2 j):c2i m2 j:=by
 have ha:=a8A hV m i m2 j hi h;obtain ⟨m1,m2,m3,m4,m5,m6⟩:=hm;unfold rV at h;split at h
 ·obtain ⟨x,k,_,h⟩:=bT h;cases h;constructor<;>simp<;>omega
 split at h
 ·obtain ⟨x,k,_,h⟩:=bT h;cases h;constructor<;>simp<;>omega
 split at h
 ·obtain ⟨x,k,_,h⟩:=bT h;cases h;constructor<;>simp<;>omega
 split at h
 ·obtain ⟨x,k,_,h⟩:=bT h;cases h;constructor<;>simp<;>omega
 split at h
 ·obtain ⟨x,k,_,h⟩:=bT h;cases h;constructor<;>simp<;>omega
 ·obtain ⟨x,k,_,h⟩:=bT h;cases x with
  |none=>unfold dQ at h;cases h
  |some d=>cases h;constructor<;>simp<;>omega
theorem a9C (i:Nat)(hi:i<l.length):jG G 40 [.ptr 100000 0,.ptr 100001 0] (tA ⟨[],[],[],[],[],[]⟩) d0v l i (a7u bD bW rdP l i) (fun _=> .cF []) tA:=by
 have hl:=hV.len;obtain ⟨j0,rfl⟩:∃j0,j0=i:=⟨_,rfl⟩;have p0:j0≤j0∧j0<l.length:=⟨d3X _,hi⟩;refine jG.cK Tryz.func40 rfl Tryz.ntmps40 rfl (by simp) ?_
 intro Q Q0;simp [tA];refine SW.wR (ι:={ x:jK×Nat×Nat // j0≤x.2.1∧x.2.1<l.length∧l.length<x.2.2+x.2.1∧c2i x.1 x.2.1∧eE (fun i=> !decide ((aZ l i).kind=0)) (moM rdP l) x.2.2 x.1 x.2.1=a7u bD bW rdP l j0 }) (fun _=>[]) (fun x=>rH l x.1.2.1++tA x.1.1) (fun _=>d0v) (fun x=>l.length-x.1.2.1) ⟨(⟨[],[],[],[],[],[]⟩,j0,l.length+2),d3X _,p0.2,by simp only;omega,⟨Nat.zero_le _,Nat.zero_le _,Nat.zero_le _,Nat.zero_le _,Nat.zero_le _,Nat.zero_le _⟩,rfl⟩ (by simp [tA]) ?_
 rintro ⟨⟨m,j1,g⟩,hb,hj1,hg,hm,hp⟩;simp only at hb hj1 hg hm hp;obtain ⟨g,rfl⟩:∃k,g=k+1:=⟨g-1,by omega⟩;have p1:j0≤j1∧j1<l.length:=⟨hb,hj1⟩;have ht:=cB (G:=G) l j1 j1 0 (by omega) (by omega) (by intro e;subst e;simp at hi) (by omega);simp [tA];refine aY (i:=j1) (ds:=[.int .i64 0]) bJ ht (by simp) (by simp) ?_
 by_cases hk:(aZ l j1).kind=0
 ·have hc:(fun i=> !decide ((aZ l i).kind=0)) j1=false:=by simp [hk]
  rw [sA hV hc] at hp;simp [cC,hk];exact Q0.ok m j1 _ _ hp.symm (.inl rfl) (by simp [tA])
 ·have hc:(fun i=> !decide ((aZ l i).kind=0)) j1=true:=by simp [hk]
  simp [cC,hk];refine eU.mk (tY a3g (b6B hV hN m j1 hj1 hm) [(100000,100000),(100001,100001)] (fun a j hx=>?_) ?_ ?_ ?_ rfl rfl (fun m2 j2 x2=>?_) (fun n e hx=>by simp;exact Q0.bad _ _ _ (hp.symm.trans (mO hV hc (eS hx)))))
  ·simp [tA,aJ,aP,aL,aK,aT,getKey]
  ·simp [tA,aJ,aP,aL,aK,aT,getKey]
  ·simp [aM,aW,rk]
  ·simp [tA,aM,aW,rk,cE,cL]
  ·have p2:=a8A hV m j1 m2 j2 hj1 x2;have hm2:=b4K hV m j1 m2 j2 hj1 hm x2;simp [aU,tA,aM,aW,rk,cE,cL,bH,eM,dZ,dC];refine bY (ds:=[.sl (strs [[59]])]) aD (aE l [[59]] j2 p2.2 (by omega) hV.fin (by simp)) (by simp [strs]) (by simp) (fun u j3 x3=>?_) (fun n e hx=>by simp;exact Q0.bad _ _ _ (hp.symm.trans (mO hV hc ((bQ x2).trans (eS hx)))));have p3:=aA.exp hV.fin _ _ j2 u j3 p2.2 x3;have hm3:c2i m2 j3:=⟨by have:=hm2.a;omega,by have:=hm2.b;omega,by have:=hm2.c;omega,by have:=hm2.d;omega,by have:=hm2.e;omega,by have:=hm2.f;omega⟩;have h1:moM rdP l m j1= .ok m2 j3:=(bQ x2).trans ((bQ x3).trans rfl);rw [rZ hV hc h1] at hp;simp;exact bN.mk ⟨(m2,j3,g),by simp only;omega,p3.2,by simp only;omega,hm3,hp⟩ (by simp [tA]) (by simp;omega)
end
end
end Go.Proofs.YtjpodcmhcenjjaaGreatDoor
section
section
namespace Go.Proofs.YtjpodcmhcenjjaaGreatDoor
def rG (l:List Tok)(i:Nat)(s:List UInt8):Bool:=match l[i]? with
 |some t=>decide (t.kind=4)&&decide (t.text=s)
 |none=>false
def kdB (l:List Tok)(i:Nat)(k:Int):Bool:=match l[i]? with
 |some t=>decide (t.kind=k)
 |none=>false
def wtB (l:List Tok)(i:Nat):Bool:=kdB l i 1||kdB l i 2
def txA (l:List Tok)(i:Nat):List UInt8:=((l[i]?).map (·.text)).getD []
def nmA (l:List Tok)(i:Nat):Int:=((l[i]?).map (·.n)).getD 0
def tw (op:Int)(a b:Pr):Pr:=⟨op,[],0,[a,b]⟩
def qC (l:List Tok):Nat→Nat→List UInt8→List UInt8×Nat
 |0,i,s=>(s,i)
 |f+1,i,s=>
  if rG l i [46]=true then
   if wtB l (i+1)=true then qC l f (i+2) (s++[46]++txA l (i+1))
   else if kdB l (i+1) 3=true then
    if wtB l (i+2)=true then qC l f (i+3) (s++[46]++txA l (i+1)++txA l (i+2)) else qC l f (i+2) (s++[46]++txA l (i+1))
   else (s,i)
  else (s,i)
def opL:Nat→List (Int×List UInt8)
 |1=>[(18,[60,61,62])]
 |3=>[(16,[124,124])]
 |4=>[(15,[38,38])]
 |7=>[(6,[43]),(7,[45])]
 |8=>[(8,[42])]
 |_=>[]
def b9t (l:List Tok)(n k:Nat):Option Int:=((opL k).find? fun p=>rG l n p.2).map (·.1)
def cmpL:List (List UInt8×Int×Bool):=[([61],10,false),([33,61],11,false),([60],12,false),([62],12,true),([60,61],13,false),([62,61],13,true)]
def b4L (l:List Tok)(n:Nat):Option (Int×Bool):=(cmpL.find? fun p=>rG l n p.1).map (·.2)
section
variable (kw:List UInt8→Bool) (rd:Nat→Nat→Option (Pr×Nat)) (l:List Tok)
def c2k (i:Nat):Bool:=wtB l i&&(!kw (txA l i)||decide (txA l i=[118])||decide (txA l i=[116,97,103])||decide (txA l i=[118,97,108]))
def yA (i:Nat):Option (List UInt8×Nat):=if c2k kw l i=true then some (qC l l.length (i+1) (txA l i)) else none
def eP (k:Nat):Nat→Pr→Nat→Pr×Nat
 |0,a,n=>(a,n)
 |g+1,a,n=>match b9t l n k with
  |none=>(a,n)
  |some op=>match rd (n+1) (k+1) with
   |none=>(a,n)
   |some (b,m)=>eP k g (tw op a b) m
def mL:Nat→Nat→List Pr→Option (List Pr×Nat)
 |0,_,_=>none
 |g+1,i,acc=>match rd (i+1) 1 with
  |none=>none
  |some (p,n)=>if rG l n [41]=true then some (acc++[p],n+1) else if rG l n [44]=true then mL g n (acc++[p]) else none
def wY (i:Nat):Option (List Pr×Nat):=if rG l i [40]=true then mL rd l l.length i [] else none
def a4l (i:Nat):Option (Pr×Nat):=match l[i]? with
 |none=>none
 |some t=>
  if t.kind=3 then some (⟨1,[],t.n,[]⟩,i+1)
  else if t.kind=1∧t.text=[116,114,117,101] then some (⟨2,[],1,[]⟩,i+1)
  else if t.kind=1∧t.text=[102,97,108,115,101] then some (⟨2,[],0,[]⟩,i+1)
  else if rG l i [63]=true then (match yA kw l (i+1) with
   |none=>none
   |some (s,n)=>(wY rd l n).map fun q=>(⟨5,s,0,q.1⟩,q.2))
  else if rG l i [40]=true then
   if rG l (i+1) [45]=true∧kdB l (i+2) 3=true∧rG l (i+3) [41]=true then some (⟨1,[],IntKind.i64.wrap (-nmA l (i+2)),[]⟩,i+4)
   else (match rd (i+1) 1 with
    |none=>none
    |some (p,n)=>if rG l n [41]=true then some (p,n+1) else none)
  else (match yA kw l i with
   |none=>none
   |some (s,n)=>(match wY rd l n with
    |some (ks,m)=>some (⟨4,s,0,ks⟩,m)
    |none=>some (⟨3,s,0,[]⟩,n)))
def a7v (i:Nat):Option (Pr×Nat):=match rd i 7 with
 |none=>none
 |some (a,n)=>(match b4L l n with
  |none=>some (a,n)
  |some (op,ex)=>(match rd (n+1) 7 with
   |none=>some (a,n)
   |some (b,m)=>some (if ex=true then tw op b a else tw op a b,m)))
def b9u (i:Nat):Option (Pr×Nat):=match rd i 3 with
 |none=>none
 |some (a,n)=>if rG l n [61,62]=true then (match rd (n+1) 2 with
  |some (b,m)=>some (tw 17 a b,m)
  |none=>some (a,n)) else some (a,n)
def atG (i k:Nat):Option (Pr×Nat):=
 match k with
 |2=>b9u rd l i
 |5=>if rG l i [33]=true then (rd (i+1) 5).map fun q=>(⟨14,[],0,[q.1]⟩,q.2) else rd i 6
 |6=>a7v rd l i
 |9=>if rG l i [45]=true then (rd (i+1) 9).map fun q=>(⟨9,[],0,[q.1]⟩,q.2) else rd i 10
 |10=>a4l kw rd l i
 |k=>(rd i (k+1)).map fun q=>eP rd l k l.length q.1 q.2
end
def mM (kw:List UInt8→Bool)(l:List Tok):Nat→Nat→Nat→Option (Pr×Nat)
 |0,_,_=>none
 |f+1,i,k=>atG kw (mM kw l f) l i k
theorem vT {l:List Tok}{i:Nat}{s:List UInt8}(h:rG l i s=true):i<l.length:=by
 unfold rG at h;split at h
 ·rename_i t ht;exact (d3I.1 ht).1
 ·cases h
theorem b6E {l:List Tok}{i:Nat}{k:Int}(h:kdB l i k=true):i<l.length:=by
 unfold kdB at h;split at h
 ·rename_i t ht;exact (d3I.1 ht).1
 ·cases h
theorem b6F {l:List Tok}{i:Nat}(h:wtB l i=true):i<l.length:=by unfold wtB at h;rw [d3T] at h;rcases h with h|h<;>exact b6E h
theorem a1Q {l:List Tok}:∀(f i:Nat) (s:List UInt8),i≤l.length→i≤(qC l f i s).2∧(qC l f i s).2≤l.length
 |0,i,s,h=>⟨d3X _,h⟩
 |f+1,i,s,h=>by
  rw [qC];split
  ·rename_i h1;have:=vT h1;split
   ·rename_i h2;have:=b6F h2;have:=a1Q (l:=l) f (i+2) (s++[46]++txA l (i+1)) (by omega);omega
   ·split
    ·rename_i h3;have:=b6E h3;split
     ·rename_i h4;have:=b6F h4;have:=a1Q (l:=l) f (i+3) (s++[46]++txA l (i+1)++txA l (i+2)) (by omega);omega
     ·have:=a1Q (l:=l) f (i+2) (s++[46]++txA l (i+1)) (by omega);omega
    ·exact ⟨d3X _,h⟩
  ·exact ⟨d3X _,h⟩
theorem yB {kw:List UInt8→Bool}{l:List Tok}{i n:Nat}{s:List UInt8}(h:yA kw l i=some (s,n)):i<n∧n≤l.length:=by
 unfold yA at h;split at h
 ·rename_i hb;unfold c2k at hb;rw [d3H] at hb;have h1:=b6F hb.1;have h2:=a1Q (l:=l) l.length (i+1) (txA l i) (by omega);rw [d3N] at h;rw [h] at h2;simp only at h2;omega
 ·cases h
def Adv (l:List Tok)(rd:Nat→Nat→Option (Pr×Nat)):Prop:=∀i k p n,rd i k=some (p,n)→i<n∧n≤l.length
section
variable {kw:List UInt8→Bool} {rd rd':Nat→Nat→Option (Pr×Nat)} {l:List Tok}
theorem b0K (h:Adv l rd)(k:Nat):∀(g:Nat) (a:Pr) (n:Nat),n≤l.length→n≤(eP rd l k g a n).2∧(eP rd l k g a n).2≤l.length
 |0,a,n,hn=>⟨d3X _,hn⟩
 |g+1,a,n,hn=>by
  rw [eP];split
  ·exact ⟨d3X _,hn⟩
  ·split
   ·exact ⟨d3X _,hn⟩
   ·rename_i op _ _ b m hr;have h1:=h _ _ _ _ hr;have h2:=b0K h k g (tw op a b) m h1.2;omega
theorem b4M (h:Adv l rd):∀(g i:Nat) (acc ks:List Pr) (m:Nat),mL rd l g i acc=some (ks,m)→i<m∧m≤l.length
 |0,_,_,_,_,hr=>by cases hr
 |g+1,i,acc,ks,m,hr=>by
  rw [mL] at hr;split at hr
  ·cases hr
  ·rename_i p n hp;have h1:=h _ _ _ _ hp;split at hr
   ·rename_i hs;have:=vT hs;cases hr;omega
   ·split at hr
    ·have:=b4M h g n _ ks m hr;omega
    ·cases hr
theorem b4N (h:Adv l rd){i m:Nat}{ks:List Pr}(hr:wY rd l i=some (ks,m)):i<m∧m≤l.length:=by
 unfold wY at hr;split at hr
 ·exact b4M h _ _ _ _ _ hr
 ·cases hr
theorem c2l (h:Adv l rd){i n:Nat}{p:Pr}(hr:a4l kw rd l i=some (p,n)):i<n∧n≤l.length:=by
 unfold a4l at hr;split at hr
 ·cases hr
 ·rename_i t ht;have hil:=(d3I.1 ht).1;split at hr
  ·cases hr;omega
  split at hr
  ·cases hr;omega
  split at hr
  ·cases hr;omega
  split at hr
  ·split at hr
   ·cases hr
   ·rename_i s m hn;have h1:=yB hn;rw [d3G] at hr;obtain ⟨⟨ks,q⟩,hq,he⟩:=hr;have h2:=b4N h hq;cases he;simp only at *;omega
  split at hr
  ·split at hr
   ·rename_i hc;have:=vT hc.2.2;cases hr;omega
   ·split at hr
    ·cases hr
    ·rename_i q m hq;have h1:=h _ _ _ _ hq;split at hr
     ·rename_i hs;have:=vT hs;cases hr;omega
     ·cases hr
  ·split at hr
   ·cases hr
   ·rename_i s m hn;have h1:=yB hn;split at hr
    ·rename_i ks q hq;have h2:=b4N h hq;cases hr;omega
    ·cases hr;omega
theorem d0x (h:Adv l rd){i k n:Nat}{p:Pr}(hr:atG kw rd l i k=some (p,n)):i<n∧n≤l.length:=by
 unfold atG at hr;split at hr
 ·unfold b9u at hr;split at hr
  ·cases hr
  ·rename_i a m ha;have h1:=h _ _ _ _ ha;split at hr
   ·split at hr
    ·rename_i b q hb;have h2:=h _ _ _ _ hb;cases hr;omega
    ·cases hr;exact h1
   ·cases hr;exact h1
 ·split at hr
  ·rw [d3G] at hr;obtain ⟨⟨a,m⟩,ha,he⟩:=hr;have h1:=h _ _ _ _ ha;cases he;simp only;omega
  ·exact h _ _ _ _ hr
 ·unfold a7v at hr;split at hr
  ·cases hr
  ·rename_i a m ha;have h1:=h _ _ _ _ ha;split at hr
   ·cases hr;exact h1
   ·split at hr
    ·cases hr;exact h1
    ·rename_i b q hb;have h2:=h _ _ _ _ hb;cases hr;omega
 ·split at hr
  ·rw [d3G] at hr;obtain ⟨⟨a,m⟩,ha,he⟩:=hr;have h1:=h _ _ _ _ ha;cases he;simp only;omega
  ·exact h _ _ _ _ hr
 ·exact c2l h hr
 ·rw [d3G] at hr;obtain ⟨⟨a,m⟩,ha,he⟩:=hr;have h1:=h _ _ _ _ ha;have h2:=b0K (k:=k) h l.length a m h1.2;have h3:(eP rd l k l.length a m).2=n:=by rw [he]
  omega
end
theorem qZ (kw:List UInt8→Bool)(l:List Tok):∀f,Adv l (mM kw l f)
 |0=>fun _ _ _ _ h=>by cases h
 |f+1=>fun _ _ _ _ h=>d0x (qZ kw l f) h
end Go.Proofs.YtjpodcmhcenjjaaGreatDoor
end
section
namespace Go.Proofs.YtjpodcmhcenjjaaGreatDoor
theorem b9v {l:List Tok}{n k:Nat}{op:Int}(h:b9t l n k=some op):n<l.length∧1≤k∧k≤8:=by unfold b9t at h;rw [d3G] at h;obtain ⟨p,hp,_⟩:=h;have hs:rG l n p.2=true:=List.find?_some (p:=fun p:Int×List UInt8=>rG l n p.2) hp;refine ⟨vT hs,?_⟩;have hm:=List.mem_of_find?_eq_some hp;unfold opL at hm;split at hm<;>first|omega|cases hm
def mu (L i k:Nat):Nat:=(L+1-i)*12+(11-k)
theorem a1R {L i i' k k':Nat}(hi:i<i')(hl:i'≤L)(hk:1≤k')(hk2:k≤10):mu L i' k'<mu L i k:=by unfold mu;omega
theorem c2m {L i k k':Nat}(h:k<k')(hk:k'≤10):mu L i k'<mu L i k:=by unfold mu;omega
end Go.Proofs.YtjpodcmhcenjjaaGreatDoor
end
section
namespace Go.Proofs.YtjpodcmhcenjjaaGreatDoor
structure Out (α:Type) where
 sg:List UInt8→List α
 nm:List UInt8→List α
 nu:Nat→List α
 bo:Bool→List α
 sp:List α
end Go.Proofs.YtjpodcmhcenjjaaGreatDoor
end
section
namespace Go.Proofs.YtjpodcmhcenjjaaGreatDoor
def RR (kw:List UInt8→Bool)(l:List Tok)(i k:Nat):Option (Pr×Nat):=mM kw l (mu l.length i k) i k
theorem c2n {α:Type}{l:List α}{i:Nat}{r:List α}(h:l.drop i=r):l[i]? =r.head? :=by subst h;rw [List.head?_drop]
def lvS (s:List UInt8):Nat:=if s=[60,61,62] then 1 else if s=[61,62] then 2 else if s=[124,124] then 3 else if s=[38,38] then 4
 else if s=[61]∨s=[33,61]∨s=[60]∨s=[62]∨s=[60,61]∨s=[62,61] then 6 else if s=[43]∨s=[45] then 7 else if s=[42] then 8 else 0
def Stp (k:Nat)(rest:List Tok):Prop:=∀t,rest.head? =some t→t.kind=0∨(t.kind=4∧t.text≠[46]∧t.text≠[40]∧lvS t.text<k)
section
variable {l rest:List Tok} {n k:Nat}
theorem Stp.kd (h:Stp k rest)(hd:l.drop n=rest){j:Int}(h0:j≠0)(h4:j≠4):kdB l n j=false:=by
 unfold kdB;rw [c2n hd];cases hr:rest.head? with
 |none=>rfl
 |some t=>
  simp only [decide_eq_false_iff_not];rintro rfl;rcases h t hr with h|⟨h,_⟩
  ·exact h0 h
  ·exact h4 h
end
end Go.Proofs.YtjpodcmhcenjjaaGreatDoor
end
section
namespace Go.Proofs.YtjpodcmhcenjjaaGreatDoor
def b9w (k:List Tok):Except Int (List Tok)→Except Int (List Tok)
 | .ok l=> .ok (k++l)
 | .error e=> .error e
theorem c2o (a b:List Tok)(x):b9w a (b9w b x)=b9w (a++b) x:=by cases x<;>simp [b9w]
theorem c2p (x):b9w [] x=x:=by cases x<;>rfl
section
variable {num:List UInt8→Int×Bool} {ln:Int}
def Lx (num:List UInt8→Int×Bool)(ln:Int)(t:List UInt8)(k:List Tok)(r:List UInt8):Prop:=gQ num (t++r) 0 ln false=b9w k (gQ num r 0 ln false)
theorem Lx.app {t u:List UInt8}{k m:List Tok}{r:List UInt8}(h1:Lx num ln t k (u++r))(h2:Lx num ln u m r):Lx num ln (t++u) (k++m) r:=by unfold Lx at h1 h2 ⊢;rw [List.append_assoc,h1,h2,c2o]
theorem Lx.sp {r:List UInt8}:Lx num ln [32] [] r:=by unfold Lx;rw [c2p,List.cons_append,List.nil_append,gQ];simp
theorem Lx.tok {c:UInt8}{s r:List UInt8}{k n:Int}(hf:firstT num (c::s++r)=(k,c::s,n,true)):Lx num ln (c::s) [⟨k,c::s,n,ln⟩] r:=by
 unfold Lx;have h0:(firstT num (c::(s++r))).2.2.2=true:=by rw [List.cons_append] at hf;rw [hf]
 obtain ⟨h1,h2,h3,h4⟩:=b5O h0;rw [List.cons_append] at hf ⊢;rw [gQ,if_neg h1,if_neg (by simp [h2,h3]),if_neg h4,if_pos h0,hf];simp only [List.length_cons,Nat.add_sub_cancel];rw [a4G (s++r) s.length ln false (by simp),List.drop_left];cases gQ num r 0 ln false<;>rfl
theorem d2h {c:UInt8}(h:dgU c=true):smU c=false∧caU c=false:=by simp only [dgU,smU,caU,decide_eq_true_eq,decide_eq_false_iff_not] at h ⊢;omega
theorem Lx.nmb {d r:List UInt8}{c:UInt8}{s:List UInt8}(hd:d=c::s)(ha:∀b∈d,dgU b=true)(hr:∀b,r.head? =some b→dgU b=false)(hn:(num d).2=true):Lx num ln d [⟨3,d,(num d).1,ln⟩] r:=by
 subst hd;have ht:(c::(s++r)).takeWhile dgU=c::s:=by have:=a2j hr (c::s);rw [sK ha] at this;exact this
 refine Lx.tok ?_
 have h3:dgU c=true:=ha c (.head _);obtain ⟨h1,h2⟩:=d2h h3;rw [List.cons_append];unfold firstT;simp [ht,h1,h2,h3,hn]
variable {dig:Nat→List UInt8}
def d2i (num:List UInt8→Int×Bool)(dig:Nat→List UInt8):Prop:=∀n,n≤1000000000000→dig n≠[]∧(∀b∈dig n,dgU b=true)∧num (dig n)=((n:Int),true)
end
end Go.Proofs.YtjpodcmhcenjjaaGreatDoor
end
end
section
section
namespace Go.Proofs.YtjpodcmhcenjjaaGreatDoor
open Go Go.VM
variable {G:GT}
theorem rg1:List.range 1=[0]:=rfl
theorem rg2:List.range 2=[0,1]:=rfl
theorem rg3:List.range 3=[0,1,2]:=rfl
abbrev rdD (l:List Tok):D:= .agg [.sl (l.map cC)]
theorem b6G {l:List Tok}{i:Nat}(h:i<l.length)(s:List UInt8):rG l i s=(decide (l[i].kind=4)&&decide (l[i].text=s)):=by simp [rG,h]
theorem c2r {l:List Tok}{i:Nat}(h: ¬i<l.length)(s:List UInt8):rG l i s=false:=by unfold rG;rw [List.getElem?_eq_none (by omega)]
theorem b2p {l:List Tok}{i:Nat}(h:i<l.length)(k:Int):kdB l i k=decide (l[i].kind=k):=by simp [kdB,h]
theorem c2s {l:List Tok}{i:Nat}(h: ¬i<l.length)(k:Int):kdB l i k=false:=by unfold kdB;rw [List.getElem?_eq_none (by omega)]
theorem b6H {l:List Tok}{i:Nat}(h:i<l.length):txA l i=l[i].text:=by simp [txA,h]
theorem d0y {l:List Tok}{i:Nat}(h:i<l.length):nmA l i=l[i].n:=by simp [nmA,h]
theorem bG:VM.Enters Tryz.prog 209:=VM.Enters.mk Tryz.func209 rfl
theorem kQ (l:List Tok)(i:Nat)(s:List UInt8)(hl:l.length≤900000000):CS Tryz.prog G 209 [rdD l,.int .i64 i,.str s] (.d (.bool (rG l i s))) none:=by
 refine CS.bB Tryz.func209 rfl Tryz.ntmps209 rfl ?_
 by_cases hlt:i<l.length
 ·rw [b6G hlt];obtain ⟨t,ht⟩:∃t,l[i]=t:=⟨_,rfl⟩;rw [ht];simp [hlt,ht,cC];by_cases h1:t.kind=4
  ·by_cases h2:t.text=s<;>simp [h1,h2,hlt,ht,cC]
  ·simp [h1,hlt,ht,cC]
 ·rw [c2r hlt];simp [hlt]
theorem pD:VM.Enters Tryz.prog 210:=VM.Enters.mk Tryz.func210 rfl
theorem pO (op:Int)(a b:Pr):CS Tryz.prog G 210 [.int .i64 op,.agg (prD a),.agg (prD b)] (.d (.agg (prD (tw op a b)))) none:=by
 refine CS.bB Tryz.func210 rfl Tryz.ntmps210 rfl ?_
 simp [tw,rg2,eB]
def a1Y (k:Nat):List (List D):=(opL k).map fun p=>[.int .i64 p.1]
theorem rC:VM.Enters Tryz.prog 234:=VM.Enters.mk Tryz.func234 rfl
theorem a0g (k:Nat):CS Tryz.prog G 234 [.int .i64 k] (.d (.sl (a1Y k))) none:=by
 refine CS.bB Tryz.func234 rfl Tryz.ntmps234 rfl ?_
 match k with
 |0=>simp [a1Y,opL,rg1,rg2]
 |1=>simp [a1Y,opL,rg1,rg2]
 |2=>simp [a1Y,opL,rg1,rg2]
 |3=>simp [a1Y,opL,rg1,rg2]
 |4=>simp [a1Y,opL,rg1,rg2]
 |5=>simp [a1Y,opL,rg1,rg2]
 |6=>simp [a1Y,opL,rg1,rg2]
 |7=>simp [a1Y,opL,rg1,rg2]
 |8=>simp [a1Y,opL,rg1,rg2]
 |k+9=>
  have h1: ¬(k:Int)+9=1:=by omega
  have h3: ¬(k:Int)+9=3:=by omega
  have h4: ¬(k:Int)+9=4:=by omega
  have h7: ¬(k:Int)+9=7:=by omega
  have h8: ¬(k:Int)+9=8:=by omega
  simp [a1Y,opL,h1,h3,h4,h7,h8]
def frm (op:Int):Option (Int×Int×Int×List UInt8):=
 if op=18 then some (1,1,2,[60,61,62]) else if op=17 then some (2,3,2,[61,62]) else if op=16 then some (3,3,4,[124,124]) else if op=15 then some (4,4,5,[38,38])
 else if op=10 then some (6,7,7,[61]) else if op=11 then some (6,7,7,[33,61]) else if op=12 then some (6,7,7,[60]) else if op=13 then some (6,7,7,[60,61])
 else if op=6 then some (7,7,8,[43]) else if op=7 then some (7,7,8,[45]) else if op=8 then some (8,8,9,[42]) else none
def a4m:Option (Int×Int×Int×List UInt8)→DV
 |some (a,b,c,s)=> .cF [.agg [.int .i64 a,.int .i64 b,.int .i64 c,.str s],.bool true]
 |none=> .cF [.agg [.int .i64 0,.int .i64 0,.int .i64 0,.str []],.bool false]
theorem a3i:VM.Enters Tryz.prog 236:=VM.Enters.mk Tryz.func236 rfl
theorem a4n (op:Int):CS Tryz.prog G 236 [.int .i64 op] (a4m (frm op)) none:=by
 refine CS.bB Tryz.func236 rfl Tryz.ntmps236 rfl ?_
 simp;by_cases h18:op=18
 ·simp [h18,frm,a4m]
 by_cases h17:op=17
 ·simp [h17,frm,a4m]
 by_cases h16:op=16
 ·simp [h16,frm,a4m]
 by_cases h15:op=15
 ·simp [h15,frm,a4m]
 by_cases h10:op=10
 ·simp [h10,frm,a4m]
 by_cases h11:op=11
 ·simp [h11,frm,a4m]
 by_cases h12:op=12
 ·simp [h12,frm,a4m]
 by_cases h13:op=13
 ·simp [h13,frm,a4m]
 by_cases h6:op=6
 ·simp [h6,frm,a4m]
 by_cases h7:op=7
 ·simp [h7,frm,a4m]
 by_cases h8:op=8
 ·simp [h8,frm,a4m]
 simp [h18,h17,h16,h15,h10,h11,h12,h13,h6,h7,h8,frm,a4m]
end Go.Proofs.YtjpodcmhcenjjaaGreatDoor
end
section
namespace Go.Proofs.YtjpodcmhcenjjaaGreatDoor
open Go Go.VM
variable {G:GT}
theorem c6y (k:Nat):∀p∈opL k,∃a b c,frm p.1=some (a,b,c,p.2):=by unfold opL;split<;>simp [frm]
abbrev c2t (l:List Tok)(n:Nat):List (Nat×aR):=[(100000,.cells [.d (.sl (l.map cC))]),(100001,.cells [.d (.int .i64 n)])]
theorem b6I:VM.Enters Tryz.prog 235:=VM.Enters.mk Tryz.func235 rfl
theorem b9y (l:List Tok)(n:Nat)(hl:l.length≤900000000){op a b c:Int}{s:List UInt8}(h:frm op=some (a,b,c,s)):CH Tryz.prog G 235 ⟨[.d (.int .i64 op),.ptr 100000 0,.ptr 100001 0],c2t l n,[]⟩ ⟨[.d (.bool (rG l n s))],c2t l n,[]⟩:=by
 have h1:=a4n (G:=G) op;rw [h,a4m] at h1;have h2:=kQ (G:=G) l n s hl;refine CH.bB Tryz.func235 rfl Tryz.ntmps235 rfl (by simp) ?_
 simp;refine aG.mk a3i h1 ?_
 simp;refine aG.mk bG h2 ?_
 simp
def ixO (l:List Tok)(n:Nat):List (Int×List UInt8)→Nat→Int
 |[],_=> -1
 |p::r,i=>if rG l n p.2=true then (i:Int) else ixO l n r (i+1)
theorem c2u {l:List Tok}{n:Nat}{o:List (Int×List UInt8)}{i:Nat}(h:i<o.length):ixO l n (o.drop i) i=if rG l n o[i].2=true then (i:Int) else ixO l n (o.drop (i+1)) (i+1):=by rw [d3U h,ixO]
theorem c2v:VM.Enters Tryz.prog 233:=VM.Enters.mk Tryz.func233 rfl
theorem c6z (l:List Tok)(n:Nat)(o:List (Int×List UInt8))(ho:∀p∈o,∃a b c,frm p.1=some (a,b,c,p.2))(hl:l.length≤900000000)(hol:o.length≤10):
  CH Tryz.prog G 233 ⟨[.d (.sl (o.map fun p=>[.int .i64 p.1])),.xL 235 [.ptr 100000 0,.ptr 100001 0]],c2t l n,[]⟩ ⟨[.d (.int .i64 (ixO l n o 0))],c2t l n,[]⟩:=by
 obtain ⟨r,hr⟩:∃r,ixO l n o 0=r:=⟨_,rfl⟩;rw [hr];refine CH.bB Tryz.func233 rfl Tryz.ntmps233 rfl (by simp) ?_
 simp;refine SW.jV (ι:={ i:Nat // i≤o.length∧ixO l n (o.drop i) i=r }) (fun i=>[(8,.d (.int .i64 i.1))]) (fun _=>c2t l n) (fun _=>[]) (fun i=>o.length-i.1) ⟨0,by simpa using hr⟩ (by simp) ?_
 rintro ⟨i,hi,hR⟩
 try simp only at hi hR
 by_cases hlt:i<o.length
 ·have hw:=bO (show i<9223372036854775807 by omega);obtain ⟨q,hq⟩:∃q,o[i]=q:=⟨_,rfl⟩;obtain ⟨a,b,c,hf⟩:=ho o[i] (List.getElem_mem hlt);rw [c2u hlt] at hR;rw [hq] at hf hR;have hc:=b9y (G:=G) l n hl hf;simp [hlt,hq];refine dY.ro b6I hc [(100000,100000),(100001,100001)] (by simp) (by simp) (by simp) (by simp) (by simp) ?_
  cases hs:rG l n q.2
  ·rw [if_neg (by simp [hs])] at hR;simp;exact bN.mk ⟨i+1,hlt,hR⟩ (by simp [hw]) (by simp;omega)
  ·rw [if_pos hs] at hR;simp [hR]
 ·have:i=o.length:=by omega
  subst this;rw [List.drop_length,ixO] at hR;simp [← hR]
end Go.Proofs.YtjpodcmhcenjjaaGreatDoor
end
section
namespace Go.Proofs.YtjpodcmhcenjjaaGreatDoor
open Go Go.VM
variable {G:GT}
theorem c2w:VM.Enters Tryz.prog 265:=VM.Enters.mk Tryz.func265 rfl
theorem c6A (xs:List (List UInt8))(sep:List UInt8)(hl:xs.length≤140737488355328)(hj:(Lib.join xs sep).length≤140737488355328):CS Tryz.prog G 265 [.sl (xs.map fun s=>[.str s]),.str sep] (.d (.str (Lib.join xs sep))) none:=
 c5J Tryz.strings_Join_none Tryz.strings_Join hl hj
theorem b0L:∀xs:List (List UInt8),Lib.join xs []=xs.flatten
 |[]=>rfl
 |x::r=>by rw [Lib.join_cons,Lib.joinTail];simp
theorem gX:VM.Enters Tryz.prog 248:=VM.Enters.mk Tryz.func248 rfl
theorem vU (xs:List (List UInt8))(hl:xs.length≤1000000)(hj:xs.flatten.length≤900000000):CS Tryz.prog G 248 [.sl (xs.map fun s=>[.str s])] (.d (.str xs.flatten)) none:=by
 have h:=c6A (G:=G) xs [] (by omega) (by rw [b0L];omega);rw [b0L] at h;refine CS.bB Tryz.func248 rfl Tryz.ntmps248 rfl ?_
 simp;refine aG.mk c2w h ?_
 simp
theorem c6B (a b:List UInt8)(h:(a++b).length≤900000000):CS Tryz.prog G 248 [.sl [[.str a],[.str b]]] (.d (.str (a++b))) none:=by have:=vU (G:=G) [a,b] (by simp) (by simpa using h);simpa using this
theorem c6C (a b c:List UInt8)(h:(a++(b++c)).length≤900000000):CS Tryz.prog G 248 [.sl [[.str a],[.str b],[.str c]]] (.d (.str (a++(b++c)))) none:=by have:=vU (G:=G) [a,b,c] (by simp) (by simpa using h);simpa using this
def txS:List Tok→Nat
 |[]=>0
 |t::r=>t.text.length+1+txS r
theorem b2q:∀a b:List Tok,txS (a++b)=txS a+txS b
 |[],b=>by simp [txS]
 |t::a,b=>by rw [List.cons_append,txS,txS,b2q a b];omega
theorem a4o {l:List Tok}{i:Nat}(h:i<l.length):txS (l.take (i+1))=txS (l.take i)+(l[i].text.length+1):=by rw [d3W h,b2q];simp [txS]
theorem d0z (l:List Tok)(i:Nat):txS (l.take i)≤txS l:=by have:=b2q (l.take i) (l.drop i);rw [List.take_append_drop] at this;omega
def a1m (l:List Tok):Prop:=l.length≤50000∧txS l≤900000
theorem b6J {l:List Tok}{j:Nat}{s:List UInt8}(hs:s.length≤txS (l.take j))(h1:j+1<l.length):(s++([46]++(l[j+1]).text)).length≤txS (l.take (j+2)):=by have q1:=a4o (l:=l) (i:=j) (by omega);have q2:txS (l.take (j+2))=txS (l.take (j+1))+((l[j+1]).text.length+1):=a4o h1;simp only [List.length_append,List.length_cons,List.length_nil];omega
theorem b4P {l:List Tok}{j:Nat}{s:List UInt8}(hs:s.length≤txS (l.take (j+2)))(h1:j+2<l.length):(s++(l[j+2]).text).length≤txS (l.take (j+3)):=by have q2:txS (l.take (j+3))=txS (l.take (j+2))+((l[j+2]).text.length+1):=a4o h1;simp only [List.length_append];omega
theorem a1m.le {l:List Tok}(h:a1m l){i n:Nat}(hn:n≤txS (l.take i)):n≤900000000:=by have h1:=d0z l i;have h2:=h.2;omega
theorem b6K {l:List Tok}{i:Nat}(h:i<l.length):wtB l i=(decide (l[i].kind=1)||decide (l[i].kind=2)):=by simp [wtB,b2p h]
theorem b6L {l:List Tok}{i:Nat}(h: ¬i<l.length):wtB l i=false:=by simp [wtB,c2s h]
theorem b6M {l:List Tok}{f i:Nat}{s:List UInt8}(h:rG l i [46]=false):qC l f i s=(s,i):=by
 cases f with
 |zero=>rfl
 |succ f=>rw [qC,if_neg (by simp [h])]
def a4V:Option (List UInt8×Nat)→DV
 |some (s,n)=> .cF [.str s,.int .i64 n]
 |none=> .cF [.str [],.int .i64 (-1)]
theorem uB (o):mV (a4V o)=true:=by
 cases o with
 |none=>rfl
 |some q=>obtain ⟨a,b⟩:=q;rfl
theorem a8B {P:Program}{x y:Code}{st:St}{Q:Exit→St→Prop}(st':St)(h1:SW P G x st fun e s=>match e with
  | .normal=>tS s st'
  |e=>Q e s)(h2:SW P G y st' Q):SW P G (.seq x y) st Q:=SW.mS fun base R μ a w hr=>
 wp_mono (h1 base R μ a w hr) fun e a1 w1 ⟨s,R1,μ1,q1,q2,q3⟩=>by
  cases e with
  |normal=>exact ⟨s,R1,μ1,fun base R μ a w hr=>h2 base R μ a w (hr.xB q1),q2,q3⟩
  |_=>exact ⟨s,R1,μ1,q1,q2,q3⟩
theorem a1S:VM.Enters Tryz.prog 230:=VM.Enters.mk Tryz.func230 rfl
theorem b4Q (hG:G 1=some cX)(l:List Tok)(i:Nat)(hl:a1m l)(hi:i≤l.length):CS Tryz.prog G 230 [rdD l,.int .i64 i] (a4V (yA bD l i)) none:=by
 have hll:=hl.1;obtain ⟨o,ho⟩:∃o,yA bD l i=o:=⟨_,rfl⟩;rw [ho];refine CS.b5U Tryz.func230 rfl Tryz.ntmps230 rfl ?_
 refine SW.mS (SW.vk ?_);simp;by_cases hlt:i<l.length;rotate_left
 ·have hge:l.length≤i:=Nat.le_of_not_lt hlt;have:o=none:=by rw [← ho];simp [yA,c2k,b6L hlt]
  subst this;refine SW.mS (SW.vk ?_);simp [hge,a4V]
 have hge: ¬l.length≤i:=by omega
 unfold yA c2k at ho;rw [b6K hlt,b6H hlt] at ho;obtain ⟨t,ht⟩:∃t,l[i]=t:=⟨_,rfl⟩;rw [ht] at ho;by_cases hw:t.kind=1∨t.kind=2;rotate_left
 ·have k1: ¬t.kind=1:=fun h=>hw (.inl h)
  have k2: ¬t.kind=2:=fun h=>hw (.inr h)
  have:o=none:=by rw [← ho];simp [k1,k2]
  subst this;refine SW.mS (SW.vk ?_);simp [hge,hlt,ht,cC];simp [k1,k2,hlt,ht,cC,a4V]
 have hwd:(decide (t.kind=1)||decide (t.kind=2))=true:=by simpa using hw
 rw [hwd,Bool.true_and] at ho;refine a8B ⟨[.d (rdD l),.d (.int .i64 i),.ptr 2 0,.undef,.d (.str []),.d (.int .i64 0)]++List.replicate 125 .undef,[(2,.cells [.d (.sl (l.map cC))])],[]⟩ (SW.vk ?_) ?_
 ·simp [hge,hlt,ht,cC];by_cases k1:t.kind=1
  ·simp [k1,hlt,ht,cC,List.replicate]
  ·have k2:=hw.resolve_left k1;simp [k1,k2,hlt,ht,cC,List.replicate]
 refine SW.mS (SW.vk ?_);simp [hlt,ht,cC,List.replicate];cases hok:(!bD t.text||decide (t.text=[118])||decide (t.text=[116,97,103])||decide (t.text=[118,97,108]))
 ·have:o=none:=by rw [← ho];simp [hok]
  subst this;simp at hok;obtain ⟨⟨⟨q1,q2⟩,q3⟩,q4⟩:=hok;refine SW.mS (SW.vk ?_);simp;refine aG.mk sF (tT hG t.text) ?_
  simp [q1,q2,q3,q4,a4V]
 rw [if_pos hok] at ho;refine a8B ⟨[.d (rdD l),.d (.int .i64 i),.ptr 2 0,.undef,.d (.str []),.d (.int .i64 0),.d (.str t.text)]++List.replicate 124 .undef,[(2,.cells [.d (.sl (l.map cC))])],[]⟩ (SW.vk ?_) ?_
 ·simp;refine aG.mk sF (tT hG t.text) ?_
  by_cases q1:bD t.text=true
  ·by_cases q2:t.text=[118]
   ·rw [q2] at q1;simp [q1,q2,List.replicate]
   ·by_cases q3:t.text=[116,97,103]
    ·rw [q3] at q1;simp [q1,q3,List.replicate]
    ·have q4:t.text=[118,97,108]:=by simpa [q1,q2,q3] using hok
     rw [q4] at q1;simp [q1,q4,List.replicate]
  ·simp [q1,List.replicate]
 obtain ⟨rs,rn,hrr⟩:∃rs rn,qC l l.length (i+1) t.text=(rs,rn):=⟨_,_,rfl⟩;rw [hrr] at ho;subst ho;have hw1:=bO (show i<9223372036854775807 by omega);refine SW.vk ?_
 simp [hw1,List.replicate];refine SW.jV (ι:={ p:Nat×List UInt8 // p.1≤l.length∧p.2.length≤txS (l.take p.1)∧∃f,l.length≤f+p.1∧qC l f p.1 p.2=(rs,rn) }) (fun p=>[(1,.d (.int .i64 p.1.1)),(6,.d (.str p.1.2))]) (fun _=>[(2,.cells [.d (.sl (l.map cC))])]) (fun _=>[]) (fun p=>l.length-p.1.1) ⟨(i+1,t.text),hlt,by have:=a4o hlt;rw [ht] at this;simp only;omega,l.length,by omega,hrr⟩ (by simp) ?_
 rintro ⟨⟨j,s⟩,hj,hs,f,hf,hp⟩;simp only at hj hs hf hp;have hsg:=kQ (G:=G) l j [46] (by omega);have hj1:=bO (show j<9223372036854775807 by omega);have hj2:IntKind.i64.wrap ((j:Int)+2)=((j+2:Nat):Int):=by rw [wrap64 (by omega)];simp
 have hj3:IntKind.i64.wrap ((j:Int)+2+1)=((j+3:Nat):Int):=by rw [wrap64 (by omega)];omega
 simp;refine aG.mk bG hsg ?_
 cases hd:rG l j [46] with
 |false=>rw [b6M hd] at hp;cases hp;simp [a4V]
 |true=>
  have hjl:=vT hd;obtain ⟨f,rfl⟩:∃g,f=g+1:=⟨f-1,by omega⟩;rw [qC,if_pos hd] at hp;simp [hj1];by_cases hlt1:j+1<l.length;rotate_left
  ·rw [if_neg (by rw [b6L hlt1];simp),if_neg (by rw [c2s hlt1];simp)] at hp;cases hp;simp [hlt1,a4V]
  obtain ⟨u,hu⟩:∃u,l[j+1]=u:=⟨_,rfl⟩;have hgr:=b6J hs hlt1;rw [hu] at hgr;rw [b6K hlt1,b2p hlt1,b6H hlt1,hu] at hp;have hjoin:=c6C (G:=G) s [46] u.text (hl.le hgr);simp [hj1,hlt1,hu,cC];by_cases k1:u.kind=1
  ·simp [k1] at hp;simp [k1,hj1,hlt1,hu,cC,rg3];refine aG.mk gX hjoin ?_
   simp [hj2,k1];exact bN.mk ⟨(j+2,s++([46]++u.text)),hlt1,hgr,f,by omega,by simpa using hp⟩ (by simp [hj2]) (by simp;omega)
  by_cases k2:u.kind=2
  ·simp [k2] at hp;simp [k1,k2,hj1,hlt1,hu,cC,rg3];refine aG.mk gX hjoin ?_
   simp [hj2,k2];exact bN.mk ⟨(j+2,s++([46]++u.text)),hlt1,hgr,f,by omega,by simpa using hp⟩ (by simp [hj2]) (by simp;omega)
  by_cases k3:u.kind=3;rotate_left
  ·simp [k1,k2,k3] at hp;obtain ⟨rfl,rfl⟩:=hp;simp [k1,k2,k3,a4V]
  simp [k3] at hp;simp [k1,k2,k3,hj1,hlt1,hu,cC,rg3];refine aG.mk gX hjoin ?_
  simp [hj2,k3];by_cases hlt2:j+2<l.length;rotate_left
  ·rw [if_neg (by rw [b6L hlt2];simp)] at hp;have hlt2': ¬(j:Int)+2<(l.length:Int):=by omega
   simp [hlt2'];exact bN.mk ⟨(j+2,s++([46]++u.text)),hlt1,hgr,f,by omega,by simpa using hp⟩ (by simp [hj2]) (by simp;omega)
  have hlt2':(j:Int)+2<(l.length:Int):=by omega
  have hnn:(0:Int)≤(j:Int)+2:=by omega
  have htn:((j:Int)+2).toNat=j+2:=by omega
  obtain ⟨v,hv⟩:∃v,l[j+2]=v:=⟨_,rfl⟩;have hgr3:=b4P hgr hlt2;rw [hv] at hgr3;rw [b6K hlt2,b6H hlt2,hv] at hp;have hjoin2:=c6B (G:=G) (s++([46]++u.text)) v.text (hl.le hgr3);simp at hjoin2;simp [hlt2',hlt2,hnn,htn,hv,cC];by_cases m1:v.kind=1
  ·simp [m1] at hp;simp [m1,hlt2,hlt2',hnn,htn,hv,cC,rg2];refine aG.mk gX hjoin2 ?_
   simp [hj3];exact bN.mk ⟨(j+3,s++([46]++u.text)++v.text),hlt2,hgr3,f,by omega,by simpa using hp⟩ (by simp [hj3]) (by simp;omega)
  by_cases m2:v.kind=2
  ·simp [m2] at hp;simp [m1,m2,hlt2,hlt2',hnn,htn,hv,cC,rg2];refine aG.mk gX hjoin2 ?_
   simp [hj3];exact bN.mk ⟨(j+3,s++([46]++u.text)++v.text),hlt2,hgr3,f,by omega,by simpa using hp⟩ (by simp [hj3]) (by simp;omega)
  simp [m1,m2] at hp;simp [m1,m2,hlt2,hlt2',hnn,htn,hv,cC];exact bN.mk ⟨(j+2,s++([46]++u.text)),hlt1,hgr,f,by omega,by simpa using hp⟩ (by simp [hj2]) (by simp;omega)
end Go.Proofs.YtjpodcmhcenjjaaGreatDoor
end
section
namespace Go.Proofs.YtjpodcmhcenjjaaGreatDoor
open Go Go.VM
variable {G:GT}
def cZ:Option (Pr×Nat)→Pr→DV
 |some (p,n),_=> .cF [.agg (prD p),.int .i64 n]
 |none,j=> .cF [.agg (prD j),.int .i64 (-1)]
def a9E:Option (List Pr×Nat)→DV
 |some (ks,n)=> .cF [.sl (ks.map pW),.int .i64 n]
 |none=> .cF [.sl [],.int .i64 (-1)]
theorem bM (o)(j):mV (cZ o j)=true:=by
 cases o with
 |none=>rfl
 |some q=>obtain ⟨a,b⟩:=q;rfl
theorem zJ (o):mV (a9E o)=true:=by
 cases o with
 |none=>rfl
 |some q=>obtain ⟨a,b⟩:=q;rfl
theorem c2x (l:List Pr):∀x:List D,x∈l.map pW→x.length=4:=fun x hx=>by
 obtain ⟨p,_,rfl⟩:=List.mem_map.1 hx;rw [eB]
 rfl
section
variable {l:List Tok} {f:Nat}
def AtC (G:GT)(l:List Tok)(f:Nat):Prop:=∀i k,1≤k→k≤9→k≠6→i≤l.length→mu l.length i k≤f→∃j,CS Tryz.prog G 198 [rdD l,.int .i64 i,.int .i64 k] (cZ (mM bD l f i k) j) none
def CmC (G:GT)(l:List Tok)(f:Nat):Prop:=∀i,i≤l.length→mu l.length i 6≤f→∃j,CS Tryz.prog G 211 [rdD l,.int .i64 i] (cZ (mM bD l f i 6) j) none
def PrC (G:GT)(l:List Tok)(f:Nat):Prop:=∀i,i≤l.length→mu l.length i 10≤f→∃j,CS Tryz.prog G 212 [rdD l,.int .i64 i] (cZ (mM bD l f i 10) j) none
theorem rD:VM.Enters Tryz.prog 198:=VM.Enters.mk Tryz.func198 rfl
theorem a4W:VM.Enters Tryz.prog 231:=VM.Enters.mk Tryz.func231 rfl
theorem d0A {L n:Nat}(h:n<L):mu L (n+1) 1=(L-n)*12+10:=by unfold mu;omega
theorem b4R (hl:a1m l)(hA:AtC G l f)(n:Nat)(hf:(l.length-n)*12+10≤f):CS Tryz.prog G 231 [rdD l,.int .i64 n] (a9E (wY (mM bD l f) l n)) none:=by
 have hll:=hl.1;obtain ⟨o,ho⟩:∃o,wY (mM bD l f) l n=o:=⟨_,rfl⟩;rw [ho];unfold wY at ho;have hsg:=kQ (G:=G) l n [40] (by omega);refine CS.bB Tryz.func231 rfl Tryz.ntmps231 rfl ?_
 simp;refine aG.mk bG hsg ?_
 cases hd:rG l n [40] with
 |false=>rw [if_neg (by simp [hd])] at ho;subst ho;simp [a9E]
 |true=>
  have hnl:=vT hd;rw [if_pos hd] at ho;simp;refine SW.jV (ι:={ p:Nat×List Pr // p.1<l.length∧(l.length-p.1)*12+10≤f∧p.2.length≤p.1∧∃g,l.length≤g+p.1∧mL (mM bD l f) l g p.1 p.2=o }) (fun p=>[(1,.d (.int .i64 p.1.1)),(6,.d (.sl (p.1.2.map pW)))]) (fun _=>[(2,.cells [.d (.sl (l.map cC))])]) (fun _=>[(43,[.t 6])]) (fun p=>l.length-p.1.1) ⟨(n,[]),hnl,hf,by simp,l.length,by omega,ho⟩ (by simp) ?_
  rintro ⟨⟨i,acc⟩,hi,hf,hal,g,hg,hR⟩;simp only at hi hf hal hg hR;have hi1:=bO (show i<9223372036854775807 by omega);obtain ⟨g,rfl⟩:∃h,g=h+1:=⟨g-1,by omega⟩;rw [mL] at hR;obtain ⟨jk,hat⟩:=hA (i+1) 1 (by omega) (by omega) (by omega) hi (by rw [d0A hi];exact hf);simp [hi1];refine aG.mk (hkl:=bM _ _) rD hat ?_
  cases hr:mM bD l f (i+1) 1 with
  |none=>rw [hr] at hR;simp only at hR;subst hR;simp [cZ,a9E]
  |some q=>
   obtain ⟨p,m⟩:=q;have hadv:=qZ bD l f _ _ _ _ hr;rw [hr] at hR;simp only at hR;have hm1:=bO (show m<9223372036854775807 by omega);have hs1:=kQ (G:=G) l m [41] (by omega);have hs2:=kQ (G:=G) l m [44] (by omega);have hfour:=c2x acc;have hap:acc.map pW++[prD p]=(acc++[p]).map pW:=by simp [eB]
   simp [cZ];have hsz:(acc.length+1)*57≤140737488355328:=by omega
   simp [hsz];refine aG.mk bG hs1 ?_
   cases hd1:rG l m [41] with
   |true=>rw [if_pos hd1] at hR;subst hR;simp [hm1,a9E,eB]
   |false=>
    rw [if_neg (by simp [hd1])] at hR;simp;refine aG.mk bG hs2 ?_
    cases hd2:rG l m [44] with
    |false=>rw [if_neg (by simp [hd2])] at hR;subst hR;simp [a9E]
    |true=>
     rw [if_pos hd2] at hR;have hml:=vT hd2;have hmu:(l.length-m)*12+10≤f:=by omega
     have hac:(acc++[p]).length≤m:=by simp;omega
     simp;exact bN.mk ⟨(m,acc++[p]),hml,hmu,hac,g,by omega,hR⟩ (by simp [eB]) (by simp;omega)
theorem yC:VM.Enters Tryz.prog 213:=VM.Enters.mk Tryz.func213 rfl
theorem c6D {l:List Tok}{n k:Nat}:(match b9t l n k with
  |none=>ixO l n (opL k) 0= -1
  |some op=>∃(q:Nat) (h:q<(opL k).length),ixO l n (opL k) 0=q∧(opL k)[q].1=op):=by
 have gen:∀(o:List (Int×List UInt8)) (i:Nat),(match (o.find? fun p=>rG l n p.2).map (·.1) with
   |none=>ixO l n o i= -1
   |some op=>∃(q:Nat) (h:q<o.length),ixO l n o i=((q+i:Nat):Int)∧o[q].1=op):=by
  intro o
  induction o with
  |nil=>intro i;rfl
  |cons p r ih=>
   intro i;rw [List.find?_cons,ixO];cases hs:rG l n p.2 with
   |true=>exact ⟨0,by simp,by simp,rfl⟩
   |false=>
    have:=ih (i+1);simp only [Bool.false_eq_true,if_false];cases ho:(r.find? fun p=>rG l n p.2).map (·.1) with
    |none=>rw [ho] at this;exact this
    |some op=>rw [ho] at this;obtain ⟨q,hq,h1,h2⟩:=this;exact ⟨q+1,by simpa using hq,by rw [h1];congr 1;omega,by simpa using h2⟩
 have:=gen (opL k) 0;unfold b9t;cases ho:((opL k).find? fun p=>rG l n p.2).map (·.1) with
 |none=>rw [ho] at this;exact this
 |some op=>rw [ho] at this;simpa using this
theorem c6E (k:Nat):(opL k).length≤2:=by unfold opL;split<;>simp
def b2r (p:Pr)(z:Int):St:=⟨List.replicate 6 .undef++[.ptr 6 0,.d (.int .i64 0),.ptr 8 0,.ptr 9 0]++List.replicate 41 .undef,[(6,.cells [.d (.int .i64 0),.d (.str []),.d (.int .i64 0),.d .aI]),(8,.cells ((prD p).map .d)),(9,.cells [.d (.int .i64 z)])],[]⟩
theorem a1n (hl:a1m l)(hA:AtC G l f)(i k:Nat)(hk:1≤k∧k≤8∧k≠5)(hi:i≤l.length)(hf:mu l.length i k≤f+1):
  ∃j,CS Tryz.prog G 213 [rdD l,.int .i64 i,.int .i64 k] (cZ ((mM bD l f i (k+1)).map fun q=>eP (mM bD l f) l k l.length q.1 q.2) j) none:=by
 have hll:=hl.1;obtain ⟨ja,hat⟩:=hA i (k+1) (by omega) (by omega) (by omega) hi (by unfold mu at hf ⊢;omega);refine ⟨ja,?_⟩;obtain ⟨o,ho⟩:∃o,((mM bD l f i (k+1)).map fun q=>eP (mM bD l f) l k l.length q.1 q.2)=o:=⟨_,rfl⟩;rw [ho];have hops:=a0g (G:=G) k;have hk1:=bO (show k<9223372036854775807 by omega);refine CS.b5U Tryz.func213 rfl Tryz.ntmps213 rfl ?_
 refine SW.mS (SW.vk ?_);simp;refine SW.mS (SW.vk ?_);simp [hk1];refine aG.mk (hkl:=bM _ _) rD hat ?_
 cases hr:mM bD l f i (k+1) with
 |none=>
  rw [hr] at ho;subst ho;simp [cZ];refine a8B (b2r ja (-1)) (SW.vk ?_) ?_
  rotate_left
  ·skip
   refine SW.mS (b3S (by kernel_rfl) (by kernel_rfl) rfl rfl rfl rfl ⟨?_,?_⟩)
   ·simp [b2r,List.replicate];refine SW.vk ?_
    simp
   ·simp [b2r,List.replicate];refine SW.vk ?_
    simp
  simp;refine SW.jV (ι:={ x:Unit // True }) (fun _=>[]) (fun _=>[(3,.cells [.d (.sl (l.map cC))]),(6,.cells [.d (.int .i64 0),.d (.str []),.d (.int .i64 0),.d .aI]),(8,.cells ((prD ja).map .d)),(9,.cells [.d (.int .i64 (-1))])]) (fun _=>[]) (fun _=>0) ⟨(),trivial⟩ (by simp) ?_
  rintro ⟨_,_⟩;simp [b2r,List.replicate]
 |some q=>
  obtain ⟨a,n⟩:=q;have hadv:=qZ bD l f _ _ _ _ hr;rw [hr] at ho;simp only [Option.map_some] at ho;obtain ⟨⟨rp,rn⟩,hres⟩:∃r,eP (mM bD l f) l k l.length a n=r:=⟨_,rfl⟩;rw [hres] at ho;subst ho;simp [cZ];refine a8B (b2r rp rn) (SW.vk ?_) ?_
  rotate_left
  ·skip
   refine SW.mS (b3S (by kernel_rfl) (by kernel_rfl) rfl rfl rfl rfl ⟨?_,?_⟩)
   ·simp [b2r,List.replicate];refine SW.vk ?_
    simp
   ·simp [b2r,List.replicate];refine SW.vk ?_
    simp
  simp;refine SW.jV (ι:={ p:Pr×Nat // p.2≤l.length∧i<p.2∧∃g,l.length≤g+p.2∧eP (mM bD l f) l k g p.1 p.2=(rp,rn) }) (fun _=>[]) (fun p=>[(3,.cells [.d (.sl (l.map cC))]),(6,.cells [.d (.int .i64 0),.d (.str []),.d (.int .i64 0),.d .aI]),(8,.cells ((prD p.1.1).map .d)),(9,.cells [.d (.int .i64 p.1.2)])]) (fun _=>[]) (fun p=>l.length-p.1.2) ⟨(a,n),hadv.2,hadv.1,l.length,by omega,hres⟩ (by simp) ?_
  rintro ⟨⟨a,n⟩,hn,hin,g,hg,hR⟩;simp only at hn hin hg hR;have hcx:=c6z (G:=G) l n (opL k) (c6y k) (by omega) (by have:=c6E k;omega);have hix:=c6D (l:=l) (n:=n) (k:=k);have hn1:=bO (show n<9223372036854775807 by omega)
  change CH _ _ _ ⟨[.d (.sl (a1Y k)),_],_,_⟩ _ at hcx
  simp;refine aG.mk rC hops ?_
  simp;refine dY.ro c2v hcx [(100000,3),(100001,9)] (by simp) (by simp) (by simp) (by simp) (by simp) ?_
  cases hop:b9t l n k with
  |none=>
   rw [hop] at hix;simp only at hix;have:(a,n)=(rp,rn):=by
    rw [← hR];cases g with
    |zero=>rfl
    |succ g=>rw [eP,hop]
   cases this;simp [hix,b2r,List.replicate]
  |some op=>
   rw [hop] at hix;obtain ⟨q,hq,hx,hqo⟩:=hix;obtain ⟨hnl,_,_⟩:=b9v hop;obtain ⟨g,rfl⟩:∃h,g=h+1:=⟨g-1,by omega⟩;rw [eP,hop] at hR;obtain ⟨jb,hat2⟩:=hA (n+1) (k+1) (by omega) (by omega) (by omega) hnl (by have:=a1R (L:=l.length) (i:=i) (i':=n+1) (k:=k) (k':=k+1) (by omega) hnl (by omega) (by omega);omega)
   have hql:q<(a1Y k).length:=by simpa [a1Y] using hq
   have hqe:(a1Y k)[q]=[.int .i64 op]:=by simp [a1Y,hqo]
   simp [hx,hn1,hk1];refine aG.mk (hkl:=bM _ _) rD hat2 ?_
   cases hr2:mM bD l f (n+1) (k+1) with
   |none=>rw [hr2] at hR;cases hR;simp [cZ,b2r,List.replicate]
   |some z=>
    obtain ⟨b,m⟩:=z;have hadv2:=qZ bD l f _ _ _ _ hr2;rw [hr2] at hR;simp only at hR;have htw:=pO (G:=G) op a b;simp [cZ];refine ⟨oG.mk (by kernel_rfl),?_⟩;refine aG.mk rC hops ?_
    simp [hql,hqe];refine aG.mk pD htw ?_
    simp;exact bN.mk ⟨(tw op a b,m),hadv2.2,by simp only;omega,g,by simp only;omega,hR⟩ (by simp) (by simp;omega)
end
end Go.Proofs.YtjpodcmhcenjjaaGreatDoor
end
end
section
section
namespace Go.Proofs.YtjpodcmhcenjjaaGreatDoor
open Go Go.VM
variable {G:GT}
section
variable {l:List Tok} {f:Nat}
theorem b2s:VM.Enters Tryz.prog 211:=VM.Enters.mk Tryz.func211 rfl
def a8C (s:List UInt8):Option (Int×Bool):=(cmpL.find? fun p=>decide (s=p.1)).map (·.2)
theorem c2y {n:Nat}(h:n<l.length):b4L l n=if l[n].kind=4 then a8C l[n].text else none:=by
 unfold b4L a8C;by_cases hk:l[n].kind=4
 ·simp [b6G h,hk]
 ·simp [b6G h,hk]
theorem c2z {n:Nat}(h: ¬n<l.length):b4L l n=none:=by unfold b4L;simp [c2r h]
def b4S (l:List Tok)(a:Pr)(n:Nat)(op:Int)(ex:Bool):St:=⟨[.undef,.undef,.ptr 2 0,.undef,.ptr 4 0,.d (.int .i64 0),.ptr 6 0,.d (.int .i64 n),.d (.int .i64 op),.d (.bool ex)]++List.replicate 79 .undef,[(2,.cells [.d (.sl (l.map cC))]),(4,.cells [.d (.int .i64 0),.d (.str []),.d (.int .i64 0),.d .aI]),(6,.cells ((prD a).map .d))],[]⟩
theorem b4T (hl:a1m l)(hA:AtC G l f)(i:Nat)(hi:i≤l.length)(hf:mu l.length i 6≤f+1):
  ∃j,CS Tryz.prog G 211 [rdD l,.int .i64 i] (cZ (a7v (mM bD l f) l i) j) none:=by
 have hll:=hl.1;obtain ⟨ja,hat⟩:=hA i 7 (by omega) (by omega) (by omega) hi (by unfold mu at hf ⊢;omega);refine ⟨ja,?_⟩;obtain ⟨o,ho⟩:∃o,a7v (mM bD l f) l i=o:=⟨_,rfl⟩;rw [ho];unfold a7v at ho;refine CS.b5U Tryz.func211 rfl Tryz.ntmps211 rfl ?_
 refine SW.mS (SW.vk ?_);simp;refine SW.mS (SW.vk ?_);simp;refine aG.mk (hkl:=bM _ _) rD hat ?_
 cases hr:mM bD l f i 7 with
 |none=>
  rw [hr] at ho;subst ho;simp [cZ];refine SW.vk ?_
  simp
 |some q=>
  obtain ⟨a,n⟩:=q;have hadv:=qZ bD l f _ _ _ _ hr;rw [hr] at ho;simp only at ho;simp [cZ];by_cases hlt:n<l.length;rotate_left
  ·rw [c2z hlt] at ho;subst ho;have hge:l.length≤n:=Nat.le_of_not_lt hlt;refine SW.vk ?_
   simp [hge,cZ]
  have hge: ¬l.length≤n:=by omega
  rw [c2y hlt] at ho;obtain ⟨t,ht⟩:∃t,l[n]=t:=⟨_,rfl⟩;rw [ht] at ho;by_cases hk:t.kind=4;rotate_left
  ·rw [if_neg hk] at ho;subst ho;refine SW.vk ?_
   simp [hge,hlt,ht,cC];simp [hk,cZ]
  rw [if_pos hk] at ho;refine SW.mS (SW.vk ?_);simp [hge,hlt,ht,cC];simp [hk];refine SW.mS (SW.vk ?_);simp;cases hc:a8C t.text with
  |none=>rw [hc] at ho;simp only at ho;subst ho;simp [a8C,cmpL] at hc;obtain ⟨e1,e2,e3,e4,e5,e6⟩:=hc;refine SW.mS (SW.vk ?_);simp [hlt,ht,cC,e1,e2,e3,e4,e5,e6,cZ]
  |some c=>
   obtain ⟨op,ex⟩:=c;rw [hc] at ho;simp only at ho;refine a8B (b4S l a n op ex) (SW.vk ?_) ?_
   ·simp [hlt,ht,cC];by_cases e1:t.text=[61]
    ·obtain ⟨rfl,rfl⟩:10=op∧false=ex:=by simpa [a8C,cmpL,e1] using hc
     simp [e1,b4S,List.replicate]
    by_cases e2:t.text=[33,61]
    ·obtain ⟨rfl,rfl⟩:11=op∧false=ex:=by simpa [a8C,cmpL,e2] using hc
     simp [e2,b4S,List.replicate]
    by_cases e3:t.text=[60]
    ·obtain ⟨rfl,rfl⟩:12=op∧false=ex:=by simpa [a8C,cmpL,e3] using hc
     simp [e3,hlt,ht,cC];refine ⟨oG.mk (by kernel_rfl),?_⟩;simp [e3,hlt,ht,cC,b4S,List.replicate]
    by_cases e4:t.text=[62]
    ·obtain ⟨rfl,rfl⟩:12=op∧true=ex:=by simpa [a8C,cmpL,e4] using hc
     simp [e4,hlt,ht,cC];refine ⟨oG.mk (by kernel_rfl),?_⟩;simp [e4,hlt,ht,cC,b4S,List.replicate]
    by_cases e5:t.text=[60,61]
    ·obtain ⟨rfl,rfl⟩:13=op∧false=ex:=by simpa [a8C,cmpL,e5] using hc
     simp [e5,hlt,ht,cC];refine ⟨oG.mk (by kernel_rfl),?_⟩;simp [e5,hlt,ht,cC,b4S,List.replicate]
    by_cases e6:t.text=[62,61]
    ·obtain ⟨rfl,rfl⟩:13=op∧true=ex:=by simpa [a8C,cmpL,e6] using hc
     simp [e6,hlt,ht,cC];refine ⟨oG.mk (by kernel_rfl),?_⟩;simp [e6,hlt,ht,cC,b4S,List.replicate]
    simp [a8C,cmpL,e1,e2,e3,e4,e5,e6] at hc
   have hn1:=bO (show n<9223372036854775807 by omega);obtain ⟨jb,hat2⟩:=hA (n+1) 7 (by omega) (by omega) (by omega) hlt (by have:=a1R (L:=l.length) (i:=i) (i':=n+1) (k:=6) (k':=7) (by omega) hlt (by omega) (by omega);omega)
   refine SW.vk ?_
   simp [b4S,List.replicate,hn1];refine aG.mk (hkl:=bM _ _) rD hat2 ?_
   cases hr2:mM bD l f (n+1) 7 with
   |none=>rw [hr2] at ho;simp only at ho;subst ho;simp [cZ]
   |some z=>
    obtain ⟨b,m⟩:=z;rw [hr2] at ho;simp only at ho;subst ho;cases ex with
    |false=>
     simp [cZ];refine aG.mk pD (pO op a b) ?_
     simp
    |true=>
     simp [cZ];refine aG.mk pD (pO op b a) ?_
     simp
end
end Go.Proofs.YtjpodcmhcenjjaaGreatDoor
end
section
namespace Go.Proofs.YtjpodcmhcenjjaaGreatDoor
open Go Go.VM
variable {G:GT}
section
variable {l:List Tok} {f:Nat}
theorem c8p {L i k f:Nat}(h:mu L i k≤f+1)(hk:k+1≤10):mu L i (k+1)≤f:=by have:=c2m (L:=L) (i:=i) (show k<k+1 by omega) hk;omega
theorem b4U:VM.Enters Tryz.prog 212:=VM.Enters.mk Tryz.func212 rfl
theorem d2j (hl:a1m l)(hA:AtC G l f)(hC:CmC G l f)(hP:PrC G l f):AtC G l (f+1):=by
 have hll:=hl.1;intro i k h1 h9 h6 hi hf;obtain rfl|rfl|rfl|rfl|rfl|rfl|rfl|rfl:k=1∨k=2∨k=3∨k=4∨k=5∨k=7∨k=8∨k=9:=by omega
 ·skip
  obtain ⟨j,hc⟩:=a1n hl hA i 1 (by omega) hi hf;refine ⟨j,?_⟩;have he:mM bD l (f+1) i 1=(mM bD l f i (1+1)).map fun q=>eP (mM bD l f) l 1 l.length q.1 q.2:=rfl
  rw [he];refine CS.bB Tryz.func198 rfl Tryz.ntmps198 rfl ?_
  simp;refine aG.mk (hkl:=bM _ _) yC hc ?_
  cases (mM bD l f i (1+1)).map fun q=>eP (mM bD l f) l 1 l.length q.1 q.2 with
  |none=>simp [cZ]
  |some q=>obtain ⟨p,n⟩:=q;simp [cZ]
 ·obtain ⟨ja,hat⟩:=hA i 3 (by omega) (by omega) (by omega) hi (by unfold mu at hf ⊢;omega);refine ⟨ja,?_⟩;obtain ⟨o,ho⟩:∃o,b9u (mM bD l f) l i=o:=⟨_,rfl⟩;have he:mM bD l (f+1) i 2=o:=ho;rw [he];unfold b9u at ho;refine CS.bB Tryz.func198 rfl Tryz.ntmps198 rfl ?_
  simp;refine aG.mk (hkl:=bM _ _) rD hat ?_
  cases hr:mM bD l f i 3 with
  |none=>rw [hr] at ho;subst ho;simp [cZ]
  |some q=>
   obtain ⟨a,n⟩:=q;have hadv:=qZ bD l f _ _ _ _ hr;rw [hr] at ho;simp only at ho;have hsg:=kQ (G:=G) l n [61,62] (by omega);simp [cZ];refine aG.mk bG hsg ?_
   cases hd:rG l n [61,62] with
   |false=>rw [if_neg (by simp [hd])] at ho;subst ho;simp [cZ]
   |true=>
    rw [if_pos hd] at ho;have hnl:=vT hd;have hn1:=bO (show n<9223372036854775807 by omega);obtain ⟨jb,hat2⟩:=hA (n+1) 2 (by omega) (by omega) (by omega) hnl (by have:=a1R (L:=l.length) (i:=i) (i':=n+1) (k:=2) (k':=2) (by omega) hnl (by omega) (by omega);omega)
    simp [hn1];refine aG.mk (hkl:=bM _ _) rD hat2 ?_
    cases hr2:mM bD l f (n+1) 2 with
    |none=>rw [hr2] at ho;subst ho;simp [cZ]
    |some z=>
     obtain ⟨b,m⟩:=z;rw [hr2] at ho;subst ho;simp [cZ];refine aG.mk pD (pO 17 a b) ?_
     simp
 ·skip
  obtain ⟨j,hc⟩:=a1n hl hA i 3 (by omega) hi hf;refine ⟨j,?_⟩;have he:mM bD l (f+1) i 3=(mM bD l f i (3+1)).map fun q=>eP (mM bD l f) l 3 l.length q.1 q.2:=rfl
  rw [he];refine CS.bB Tryz.func198 rfl Tryz.ntmps198 rfl ?_
  simp;refine aG.mk (hkl:=bM _ _) yC hc ?_
  cases (mM bD l f i (3+1)).map fun q=>eP (mM bD l f) l 3 l.length q.1 q.2 with
  |none=>simp [cZ]
  |some q=>obtain ⟨p,n⟩:=q;simp [cZ]
 ·skip
  obtain ⟨j,hc⟩:=a1n hl hA i 4 (by omega) hi hf;refine ⟨j,?_⟩;have he:mM bD l (f+1) i 4=(mM bD l f i (4+1)).map fun q=>eP (mM bD l f) l 4 l.length q.1 q.2:=rfl
  rw [he];refine CS.bB Tryz.func198 rfl Tryz.ntmps198 rfl ?_
  simp;refine aG.mk (hkl:=bM _ _) yC hc ?_
  cases (mM bD l f i (4+1)).map fun q=>eP (mM bD l f) l 4 l.length q.1 q.2 with
  |none=>simp [cZ]
  |some q=>obtain ⟨p,n⟩:=q;simp [cZ]
 ·skip
  have hsg:=kQ (G:=G) l i [33] (by omega);cases hd:rG l i [33] with
  |true=>
   have hil:=vT hd;have hi1:=bO (show i<9223372036854775807 by omega);obtain ⟨ja,hat⟩:=hA (i+1) 5 (by omega) (by omega) (by omega) hil (by have:=a1R (L:=l.length) (i:=i) (i':=i+1) (k:=5) (k':=5) (by omega) hil (by omega) (by omega);omega)
   refine ⟨⟨0,[],0,[]⟩,?_⟩;have he:mM bD l (f+1) i 5=(mM bD l f (i+1) 5).map fun q=>((⟨14,[],0,[q.1]⟩:Pr),q.2):=by
    show (if rG l i [33]=true then _ else _)=_
    rw [if_pos hd]
   rw [he];rw [hd] at hsg;refine CS.bB Tryz.func198 rfl Tryz.ntmps198 rfl ?_
   simp;refine aG.mk bG hsg ?_
   simp [hi1];refine aG.mk (hkl:=bM _ _) rD hat ?_
   cases mM bD l f (i+1) 5 with
   |none=>simp [cZ]
   |some q=>obtain ⟨p,n⟩:=q;simp [cZ,rg1,eB]
  |false=>
   obtain ⟨j,hc⟩:=hC i hi (c8p hf (by omega));refine ⟨j,?_⟩;have he:mM bD l (f+1) i 5=mM bD l f i (5+1):=by
    show (if rG l i [33]=true then _ else _)=_
    rw [if_neg (by simp [hd])]
   rw [he];rw [hd] at hsg;refine CS.bB Tryz.func198 rfl Tryz.ntmps198 rfl ?_
   simp;refine aG.mk bG hsg ?_
   simp;refine aG.mk (hkl:=bM _ _) b2s hc ?_
   cases mM bD l f i (5+1) with
   |none=>simp [cZ]
   |some q=>obtain ⟨p,n⟩:=q;simp [cZ]
 ·skip
  obtain ⟨j,hc⟩:=a1n hl hA i 7 (by omega) hi hf;refine ⟨j,?_⟩;have he:mM bD l (f+1) i 7=(mM bD l f i (7+1)).map fun q=>eP (mM bD l f) l 7 l.length q.1 q.2:=rfl
  rw [he];refine CS.bB Tryz.func198 rfl Tryz.ntmps198 rfl ?_
  simp;refine aG.mk (hkl:=bM _ _) yC hc ?_
  cases (mM bD l f i (7+1)).map fun q=>eP (mM bD l f) l 7 l.length q.1 q.2 with
  |none=>simp [cZ]
  |some q=>obtain ⟨p,n⟩:=q;simp [cZ]
 ·skip
  obtain ⟨j,hc⟩:=a1n hl hA i 8 (by omega) hi hf;refine ⟨j,?_⟩;have he:mM bD l (f+1) i 8=(mM bD l f i (8+1)).map fun q=>eP (mM bD l f) l 8 l.length q.1 q.2:=rfl
  rw [he];refine CS.bB Tryz.func198 rfl Tryz.ntmps198 rfl ?_
  simp;refine aG.mk (hkl:=bM _ _) yC hc ?_
  cases (mM bD l f i (8+1)).map fun q=>eP (mM bD l f) l 8 l.length q.1 q.2 with
  |none=>simp [cZ]
  |some q=>obtain ⟨p,n⟩:=q;simp [cZ]
 ·skip
  have hsg:=kQ (G:=G) l i [45] (by omega);cases hd:rG l i [45] with
  |true=>
   have hil:=vT hd;have hi1:=bO (show i<9223372036854775807 by omega);obtain ⟨ja,hat⟩:=hA (i+1) 9 (by omega) (by omega) (by omega) hil (by have:=a1R (L:=l.length) (i:=i) (i':=i+1) (k:=9) (k':=9) (by omega) hil (by omega) (by omega);omega)
   refine ⟨⟨0,[],0,[]⟩,?_⟩;have he:mM bD l (f+1) i 9=(mM bD l f (i+1) 9).map fun q=>((⟨9,[],0,[q.1]⟩:Pr),q.2):=by
    show (if rG l i [45]=true then _ else _)=_
    rw [if_pos hd]
   rw [he];rw [hd] at hsg;refine CS.bB Tryz.func198 rfl Tryz.ntmps198 rfl ?_
   simp;refine aG.mk bG hsg ?_
   simp [hi1];refine aG.mk (hkl:=bM _ _) rD hat ?_
   cases mM bD l f (i+1) 9 with
   |none=>simp [cZ]
   |some q=>obtain ⟨p,n⟩:=q;simp [cZ,rg1,eB]
  |false=>
   obtain ⟨j,hc⟩:=hP i hi (c8p hf (by omega));refine ⟨j,?_⟩;have he:mM bD l (f+1) i 9=mM bD l f i (9+1):=by
    show (if rG l i [45]=true then _ else _)=_
    rw [if_neg (by simp [hd])]
   rw [he];rw [hd] at hsg;refine CS.bB Tryz.func198 rfl Tryz.ntmps198 rfl ?_
   simp;refine aG.mk bG hsg ?_
   simp;refine aG.mk (hkl:=bM _ _) b4U hc ?_
   cases mM bD l f i (9+1) with
   |none=>simp [cZ]
   |some q=>obtain ⟨p,n⟩:=q;simp [cZ]
end
end Go.Proofs.YtjpodcmhcenjjaaGreatDoor
end
section
namespace Go.Proofs.YtjpodcmhcenjjaaGreatDoor
open Go Go.VM
variable {G:GT}
section
variable {l:List Tok} {f:Nat}
def b2t (rd:Nat→Nat→Option (Pr×Nat))(l:List Tok)(i:Nat):Option (Pr×Nat):=match yA bD l i with
 |none=>none
 |some (s,n)=>(match wY rd l n with
  |some (ks,m)=>some (⟨4,s,0,ks⟩,m)
  |none=>some (⟨3,s,0,[]⟩,n))
theorem b0M {L i n f:Nat}(hf:mu L i 10≤f+1)(hn:i<n)(hl:n≤L):(L-n)*12+10≤f:=by unfold mu at hf;omega
theorem b9A:VM.Enters Tryz.prog 232:=VM.Enters.mk Tryz.func232 rfl
theorem b9B (hG:G 1=some cX)(hl:a1m l)(hA:AtC G l f)(i:Nat)(hi:i≤l.length)(hf:mu l.length i 10≤f+1):
  CS Tryz.prog G 232 [rdD l,.int .i64 i] (cZ (b2t (mM bD l f) l i) ⟨0,[],0,[]⟩) none:=by
 have hll:=hl.1;have hnm:=b4Q (G:=G) hG l i hl hi;obtain ⟨o,ho⟩:∃o,b2t (mM bD l f) l i=o:=⟨_,rfl⟩;rw [ho];unfold b2t at ho;refine CS.bB Tryz.func232 rfl Tryz.ntmps232 rfl ?_
 simp;refine aG.mk (hkl:=uB _) a1S hnm ?_
 cases hn:yA bD l i with
 |none=>rw [hn] at ho;subst ho;simp [a4V,cZ]
 |some q=>
  obtain ⟨s,n⟩:=q;have hadv:=yB hn;rw [hn] at ho;simp only at ho;have hli:=b4R (G:=G) hl hA n (b0M hf hadv.1 hadv.2);simp [a4V];refine aG.mk (hkl:=zJ _) a4W hli ?_
  cases hL:wY (mM bD l f) l n with
  |none=>rw [hL] at ho;subst ho;simp [a9E,cZ]
  |some z=>obtain ⟨ks,m⟩:=z;rw [hL] at ho;subst ho;simp [a9E,cZ]
theorem b6N (hG:G 1=some cX)(hl:a1m l)(hA:AtC G l f):PrC G l (f+1):=by
 have hll:=hl.1;intro i hi hf;obtain ⟨o,ho⟩:∃o,a4l bD (mM bD l f) l i=o:=⟨_,rfl⟩;have he:mM bD l (f+1) i 10=o:=ho;rw [he];unfold a4l at ho;by_cases hlt:i<l.length;rotate_left
 ·rw [List.getElem?_eq_none (by omega)] at ho;subst ho;have hge:l.length≤i:=Nat.le_of_not_lt hlt;refine ⟨⟨0,[],0,[]⟩,?_⟩;refine CS.bB Tryz.func212 rfl Tryz.ntmps212 rfl ?_
  simp [hge,cZ]
 have hge: ¬l.length≤i:=by omega
 rw [d3L hlt] at ho;obtain ⟨t,ht⟩:∃t,l[i]=t:=⟨_,rfl⟩;rw [ht] at ho;simp only at ho;have hi1:=bO (show i<9223372036854775807 by omega);have hi2:IntKind.i64.wrap ((i:Int)+2)=((i+2:Nat):Int):=by rw [wrap64 (by omega)];simp
 have hi3:IntKind.i64.wrap ((i:Int)+3)=((i+3:Nat):Int):=by rw [wrap64 (by omega)];simp
 have hi4:IntKind.i64.wrap ((i:Int)+4)=((i+4:Nat):Int):=by rw [wrap64 (by omega)];simp
 by_cases k3:t.kind=3
 ·rw [if_pos k3] at ho;subst ho;refine ⟨⟨0,[],0,[]⟩,?_⟩;refine CS.bB Tryz.func212 rfl Tryz.ntmps212 rfl ?_
  simp [hge,hlt,ht,cC];simp [k3,hi1,cZ]
 rw [if_neg k3] at ho;by_cases kt:t.kind=1∧t.text=[116,114,117,101]
 ·rw [if_pos kt] at ho;subst ho;refine ⟨⟨0,[],0,[]⟩,?_⟩;refine CS.bB Tryz.func212 rfl Tryz.ntmps212 rfl ?_
  simp [hge,hlt,ht,cC];simp [kt.1,kt.2,hi1,cZ]
 rw [if_neg kt] at ho;by_cases kf:t.kind=1∧t.text=[102,97,108,115,101]
 ·rw [if_pos kf] at ho;subst ho;refine ⟨⟨0,[],0,[]⟩,?_⟩;refine CS.bB Tryz.func212 rfl Tryz.ntmps212 rfl ?_
  simp [hge,hlt,ht,cC];simp [kf.1,kf.2,hi1,cZ]
 rw [if_neg kf] at ho;have hk:t.kind=1→ ¬t.text=[116,114,117,101]∧ ¬t.text=[102,97,108,115,101]:=fun h=>⟨fun e=>kt ⟨h,e⟩,fun e=>kf ⟨h,e⟩⟩
 have hsq:=kQ (G:=G) l i [63] (by omega);have hsp:=kQ (G:=G) l i [40] (by omega);cases hq:rG l i [63] with
 |true=>
  rw [if_pos hq] at ho;rw [hq] at hsq;have hnm:=b4Q (G:=G) hG l (i+1) hl hlt;cases hn:yA bD l (i+1) with
  |none=>
   rw [hn] at ho hnm;subst ho;refine ⟨⟨0,[],0,[]⟩,?_⟩;refine CS.bB Tryz.func212 rfl Tryz.ntmps212 rfl ?_
   simp [hge,hlt,ht,cC];simp [k3];rcases Classical.em (t.kind=1) with k1|k1
   case' inl=>simp [k1,(hk k1).1,(hk k1).2]
   case' inr=>simp [k1]
   all_goals
    refine aG.mk bG hsq ?_
    simp [hi1];refine aG.mk (hkl:=uB _) a1S hnm ?_
    simp [a4V,cZ]
  |some q=>
   obtain ⟨s,n⟩:=q;have hadv:=yB hn;rw [hn] at ho hnm;simp only at ho;have hli:=b4R (G:=G) hl hA n (b0M hf (by omega) hadv.2);cases hL:wY (mM bD l f) l n with
   |none=>
    rw [hL] at ho hli;subst ho;refine ⟨⟨5,s,0,[]⟩,?_⟩;refine CS.bB Tryz.func212 rfl Tryz.ntmps212 rfl ?_
    simp [hge,hlt,ht,cC];simp [k3];rcases Classical.em (t.kind=1) with k1|k1
    case' inl=>simp [k1,(hk k1).1,(hk k1).2]
    case' inr=>simp [k1]
    all_goals
     refine aG.mk bG hsq ?_
     simp [hi1];refine aG.mk (hkl:=uB _) a1S hnm ?_
     simp [a4V];refine aG.mk (hkl:=zJ _) a4W hli ?_
     simp [a9E,cZ]
   |some z=>
    obtain ⟨ks,m⟩:=z;rw [hL] at ho hli;subst ho;refine ⟨⟨0,[],0,[]⟩,?_⟩;refine CS.bB Tryz.func212 rfl Tryz.ntmps212 rfl ?_
    simp [hge,hlt,ht,cC];simp [k3];rcases Classical.em (t.kind=1) with k1|k1
    case' inl=>simp [k1,(hk k1).1,(hk k1).2]
    case' inr=>simp [k1]
    all_goals
     refine aG.mk bG hsq ?_
     simp [hi1];refine aG.mk (hkl:=uB _) a1S hnm ?_
     simp [a4V];refine aG.mk (hkl:=zJ _) a4W hli ?_
     simp [a9E,cZ]
 |false=>
 rw [if_neg (by simp [hq])] at ho;rw [hq] at hsq;cases hp:rG l i [40] with
 |false=>
  rw [if_neg (by simp [hp])] at ho;rw [hp] at hsp;have hnd:=b9B hG hl hA i hi hf;have hx:b2t (mM bD l f) l i=o:=ho;rw [hx] at hnd;refine ⟨⟨0,[],0,[]⟩,?_⟩;refine CS.bB Tryz.func212 rfl Tryz.ntmps212 rfl ?_
  simp [hge,hlt,ht,cC];simp [k3];rcases Classical.em (t.kind=1) with k1|k1
  case' inl=>simp [k1,(hk k1).1,(hk k1).2]
  case' inr=>simp [k1]
  all_goals
   refine aG.mk bG hsq ?_
   simp;refine aG.mk bG hsp ?_
   simp;refine aG.mk (hkl:=bM _ _) b9A hnd ?_
   cases o with
   |none=>simp [cZ]
   |some q=>obtain ⟨p,n⟩:=q;simp [cZ]
 |true=>
 rw [if_pos hp] at ho;rw [hp] at hsp;have hsm:=kQ (G:=G) l (i+1) [45] (by omega);have hsc:=kQ (G:=G) l (i+3) [41] (by omega);by_cases hneg:rG l (i+1) [45]=true∧kdB l (i+2) 3=true∧rG l (i+3) [41]=true
 ·rw [if_pos hneg] at ho;subst ho;obtain ⟨n1,n2,n3⟩:=hneg;have h2:=b6E n2;rw [b2p h2] at n2;rw [d0y h2];obtain ⟨u,hu⟩:∃u,l[i+2]=u:=⟨_,rfl⟩;rw [hu] at n2 ⊢;have ku:u.kind=3:=of_decide_eq_true n2;rw [n1] at hsm;rw [n3] at hsc;have h2':(i:Int)+2<(l.length:Int):=by omega
  have hnn:(0:Int)≤(i:Int)+2:=by omega
  have htn:((i:Int)+2).toNat=i+2:=by omega
  refine ⟨⟨0,[],0,[]⟩,?_⟩;refine CS.bB Tryz.func212 rfl Tryz.ntmps212 rfl ?_
  simp [hge,hlt,ht,cC];simp [k3];rcases Classical.em (t.kind=1) with k1|k1
  case' inl=>simp [k1,(hk k1).1,(hk k1).2]
  case' inr=>simp [k1]
  all_goals
   refine aG.mk bG hsq ?_
   simp;refine aG.mk bG hsp ?_
   simp [hi1];refine aG.mk bG hsm ?_
   simp [hi2,h2,h2',hnn,htn,hu,ku,cC,hi3];refine aG.mk bG hsc ?_
   simp [hi2,h2,h2',hnn,htn,hu,ku,cC,hi4,cZ]
 ·rw [if_neg hneg] at ho;obtain ⟨jp,hat⟩:=hA (i+1) 1 (by omega) (by omega) (by omega) hlt (by have:=a1R (L:=l.length) (i:=i) (i':=i+1) (k:=10) (k':=1) (by omega) hlt (by omega) (by omega);omega)
  refine ⟨⟨0,[],0,[]⟩,?_⟩;have tail:∀n:Nat,CS Tryz.prog G 209 [rdD l,.int .i64 n,.str [41]] (.d (.bool (rG l n [41]))) none:=fun n=>kQ (G:=G) l n [41] (by omega)
  cases n1:rG l (i+1) [45] with
  |false=>
   rw [n1] at hsm;refine CS.bB Tryz.func212 rfl Tryz.ntmps212 rfl ?_
   simp [hge,hlt,ht,cC];simp [k3];rcases Classical.em (t.kind=1) with k1|k1
   case' inl=>simp [k1,(hk k1).1,(hk k1).2]
   case' inr=>simp [k1]
   all_goals
    refine aG.mk bG hsq ?_
    simp;refine aG.mk bG hsp ?_
    simp [hi1];refine aG.mk bG hsm ?_
    simp [hi1];refine aG.mk (hkl:=bM _ _) rD hat ?_
    cases hr:mM bD l f (i+1) 1 with
    |none=>rw [hr] at ho;subst ho;simp [cZ]
    |some q=>
     obtain ⟨p,n⟩:=q;have hadv:=qZ bD l f _ _ _ _ hr;have hcs:=tail n;rw [hr] at ho;simp only at ho;simp [cZ];refine aG.mk bG hcs ?_
     cases hc:rG l n [41] with
     |false=>rw [if_neg (by simp [hc])] at ho;subst ho;simp [cZ]
     |true=>rw [if_pos hc] at ho;subst ho;have hn1:=bO (show n<9223372036854775807 by omega);simp [hn1,cZ]
  |true=>
  rw [n1] at hsm;have hnn:(0:Int)≤(i:Int)+2:=by omega
  have htn:((i:Int)+2).toNat=i+2:=by omega
  by_cases h2:i+2<l.length;rotate_left
  ·have h2': ¬(i:Int)+2<(l.length:Int):=by omega
   refine CS.bB Tryz.func212 rfl Tryz.ntmps212 rfl ?_
   simp [hge,hlt,ht,cC];simp [k3];rcases Classical.em (t.kind=1) with k1|k1
   case' inl=>simp [k1,(hk k1).1,(hk k1).2]
   case' inr=>simp [k1]
   all_goals
    refine aG.mk bG hsq ?_
    simp;refine aG.mk bG hsp ?_
    simp [hi1];refine aG.mk bG hsm ?_
    simp [hi1,hi2,h2'];refine aG.mk (hkl:=bM _ _) rD hat ?_
    cases hr:mM bD l f (i+1) 1 with
    |none=>rw [hr] at ho;subst ho;simp [cZ]
    |some q=>
     obtain ⟨p,n⟩:=q;have hadv:=qZ bD l f _ _ _ _ hr;have hcs:=tail n;rw [hr] at ho;simp only at ho;simp [cZ];refine aG.mk bG hcs ?_
     cases hc:rG l n [41] with
     |false=>rw [if_neg (by simp [hc])] at ho;subst ho;simp [cZ]
     |true=>rw [if_pos hc] at ho;subst ho;have hn1:=bO (show n<9223372036854775807 by omega);simp [hn1,cZ]
  have h2':(i:Int)+2<(l.length:Int):=by omega
  obtain ⟨u,hu⟩:∃u,l[i+2]=u:=⟨_,rfl⟩;by_cases ku:u.kind=3;rotate_left
  ·skip
   refine CS.bB Tryz.func212 rfl Tryz.ntmps212 rfl ?_
   simp [hge,hlt,ht,cC];simp [k3];rcases Classical.em (t.kind=1) with k1|k1
   case' inl=>simp [k1,(hk k1).1,(hk k1).2]
   case' inr=>simp [k1]
   all_goals
    refine aG.mk bG hsq ?_
    simp;refine aG.mk bG hsp ?_
    simp [hi1];refine aG.mk bG hsm ?_
    simp [hi1,hi2,h2,h2',hnn,htn,hu,ku,cC];refine aG.mk (hkl:=bM _ _) rD hat ?_
    cases hr:mM bD l f (i+1) 1 with
    |none=>rw [hr] at ho;subst ho;simp [cZ]
    |some q=>
     obtain ⟨p,n⟩:=q;have hadv:=qZ bD l f _ _ _ _ hr;have hcs:=tail n;rw [hr] at ho;simp only at ho;simp [cZ];refine aG.mk bG hcs ?_
     cases hc:rG l n [41] with
     |false=>rw [if_neg (by simp [hc])] at ho;subst ho;simp [cZ]
     |true=>rw [if_pos hc] at ho;subst ho;have hn1:=bO (show n<9223372036854775807 by omega);simp [hn1,cZ]
  have n3:rG l (i+3) [41]=false:=by
   cases n3:rG l (i+3) [41] with
   |false=>rfl
   |true=>exact absurd ⟨n1,by rw [b2p h2,hu];simp [ku],n3⟩ hneg
  rw [n3] at hsc;refine CS.bB Tryz.func212 rfl Tryz.ntmps212 rfl ?_
  simp [hge,hlt,ht,cC];simp [k3];rcases Classical.em (t.kind=1) with k1|k1
  case' inl=>simp [k1,(hk k1).1,(hk k1).2]
  case' inr=>simp [k1]
  all_goals
   refine aG.mk bG hsq ?_
   simp;refine aG.mk bG hsp ?_
   simp [hi1];refine aG.mk bG hsm ?_
   simp [hi2,h2,h2',hnn,htn,hu,ku,cC,hi3];refine aG.mk bG hsc ?_
   simp [hi1];refine aG.mk (hkl:=bM _ _) rD hat ?_
   cases hr:mM bD l f (i+1) 1 with
   |none=>rw [hr] at ho;subst ho;simp [cZ]
   |some q=>
    obtain ⟨p,n⟩:=q;have hadv:=qZ bD l f _ _ _ _ hr;have hcs:=tail n;rw [hr] at ho;simp only at ho;simp [cZ];refine aG.mk bG hcs ?_
    cases hc:rG l n [41] with
    |false=>rw [if_neg (by simp [hc])] at ho;subst ho;simp [cZ]
    |true=>rw [if_pos hc] at ho;subst ho;have hn1:=bO (show n<9223372036854775807 by omega);simp [hn1,cZ]
end
end Go.Proofs.YtjpodcmhcenjjaaGreatDoor
end
end
section
section
namespace Go.Proofs.YtjpodcmhcenjjaaGreatDoor
def Nod (rd:Nat→Nat→Option (Pr×Nat)):Prop:=∀i k p n,rd i k=some (p,n)→cW p+i≤n
theorem b6O (op:Int)(a b:Pr):cW (tw op a b)=cW a+cW b+1:=by simp [tw,cW,dG];omega
theorem b7E (op:Int)(a:Pr):cW ⟨op,[],0,[a]⟩=cW a+1:=by simp [cW,dG];omega
theorem a1o (op:Int)(s:List UInt8)(n:Int):cW ⟨op,s,n,[]⟩=1:=by simp [cW,dG]
theorem b7F (op:Int)(s:List UInt8)(ks:List Pr):cW ⟨op,s,0,ks⟩=dG ks+1:=by simp [cW];omega
section
variable {kw:List UInt8→Bool} {rd:Nat→Nat→Option (Pr×Nat)} {l:List Tok}
theorem b0N (h:Nod rd)(k:Nat):∀(g:Nat) (a:Pr) (n i:Nat),cW a+i≤n→cW (eP rd l k g a n).1+i≤(eP rd l k g a n).2
 |0,a,n,i,hn=>hn
 |g+1,a,n,i,hn=>by
  rw [eP];split
  ·exact hn
  ·split
   ·exact hn
   ·rename_i op _ _ b m hr;have h1:=h _ _ _ _ hr;exact b0N h k g (tw op a b) m i (by rw [b6O];omega)
theorem b4V (h:Nod rd):∀(g i:Nat) (acc ks:List Pr) (m b:Nat),dG acc+b≤i→mL rd l g i acc=some (ks,m)→dG ks+b+1≤m
 |0,_,_,_,_,_,_,hr=>by cases hr
 |g+1,i,acc,ks,m,b,hb,hr=>by
  rw [mL] at hr;split at hr
  ·cases hr
  ·rename_i p n hp;have h1:=h _ _ _ _ hp;have h2:dG (acc++[p])=dG acc+cW p:=by rw [a4H];simp [dG]
   split at hr
   ·cases hr;omega
   ·split at hr
    ·exact b4V h g n _ ks m b (by omega) hr
    ·cases hr
theorem b4W (h:Nod rd){i m:Nat}{ks:List Pr}(hr:wY rd l i=some (ks,m)):dG ks+i+1≤m:=by
 unfold wY at hr;split at hr
 ·exact b4V h _ _ _ _ _ _ (by simp [dG]) hr
 ·cases hr
theorem c2A (h:Nod rd){i n:Nat}{p:Pr}(hr:a4l kw rd l i=some (p,n)):cW p+i≤n:=by
 unfold a4l at hr;split at hr
 ·cases hr
 ·split at hr
  ·cases hr;rw [a1o];omega
  split at hr
  ·cases hr;rw [a1o];omega
  split at hr
  ·cases hr;rw [a1o];omega
  split at hr
  ·split at hr
   ·cases hr
   ·rename_i s m hn;have h1:=yB hn;rw [d3G] at hr;obtain ⟨⟨ks,q⟩,hq,he⟩:=hr;have h2:=b4W h hq;cases he;rw [b7F];simp only at *;omega
  split at hr
  ·split at hr
   ·cases hr;rw [a1o];omega
   ·split at hr
    ·cases hr
    ·rename_i q m hq;have h1:=h _ _ _ _ hq;split at hr
     ·cases hr;omega
     ·cases hr
  ·split at hr
   ·cases hr
   ·rename_i s m hn;have h1:=yB hn;split at hr
    ·rename_i ks q hq;have h2:=b4W h hq;cases hr;rw [b7F];omega
    ·cases hr;rw [a1o];omega
theorem d0B (h:Nod rd){i k n:Nat}{p:Pr}(hr:atG kw rd l i k=some (p,n)):cW p+i≤n:=by
 unfold atG at hr;split at hr
 ·unfold b9u at hr;split at hr
  ·cases hr
  ·rename_i a m ha;have h1:=h _ _ _ _ ha;split at hr
   ·split at hr
    ·rename_i b q hb;have h2:=h _ _ _ _ hb;cases hr;rw [b6O];omega
    ·cases hr;exact h1
   ·cases hr;exact h1
 ·split at hr
  ·rw [d3G] at hr;obtain ⟨⟨a,m⟩,ha,he⟩:=hr;have h1:=h _ _ _ _ ha;cases he;rw [b7E];simp only;omega
  ·exact h _ _ _ _ hr
 ·unfold a7v at hr;split at hr
  ·cases hr
  ·rename_i a m ha;have h1:=h _ _ _ _ ha;split at hr
   ·cases hr;exact h1
   ·split at hr
    ·cases hr;exact h1
    ·rename_i b q hb;have h2:=h _ _ _ _ hb;cases hr;split<;>rw [b6O]<;>omega
 ·split at hr
  ·rw [d3G] at hr;obtain ⟨⟨a,m⟩,ha,he⟩:=hr;have h1:=h _ _ _ _ ha;cases he;rw [b7E];simp only;omega
  ·exact h _ _ _ _ hr
 ·exact c2A h hr
 ·rw [d3G] at hr;obtain ⟨⟨a,m⟩,ha,he⟩:=hr;have h1:=h _ _ _ _ ha;have h2:=b0N (l:=l) h k l.length a m i h1;simp only at he;rw [he] at h2;exact h2
end
theorem b2u (kw:List UInt8→Bool)(l:List Tok):∀f,Nod (mM kw l f)
 |0=>fun _ _ _ _ h=>by cases h
 |f+1=>fun _ _ _ _ h=>d0B (b2u kw l f) h
end Go.Proofs.YtjpodcmhcenjjaaGreatDoor
end
section
namespace Go.Proofs.YtjpodcmhcenjjaaGreatDoor
theorem c2B (s:List UInt8):(qG s).length≤s.length:=by
 unfold qG;cases h:eA.find? fun t=>t.isPrefixOf s with
 |none=>simp
 |some t=>have h1:t.isPrefixOf s=true:=List.find?_some (p:=fun t:List UInt8=>t.isPrefixOf s) h;exact (List.isPrefixOf_iff_prefix.1 h1).length_le
theorem b9C (num:List UInt8→Int×Bool)(c:UInt8)(r:List UInt8):(firstT num (c::r)).2.1.length≤r.length+1:=by
 have h1:∀p:UInt8→Bool,((c::r).takeWhile p).length≤r.length+1:=fun p=>(List.takeWhile_sublist p).length_le
 have h2:(qG (c::r)).length≤r.length+1:=c2B (c::r)
 show (if smU c then _ else _:Int×List UInt8×Int×Bool).2.1.length≤_
 split
 ·exact h1 _
 split
 ·exact h1 _
 split
 ·exact h1 _
 split
 ·simp
 ·exact h2
theorem sB (num:List UInt8→Int×Bool):∀(s:List UInt8) (k:Nat) (ln:Int) (cm:Bool) (l:List Tok),gQ num s k ln cm= .ok l→1≤l.length∧l.length≤s.length+1∧txS l≤2*(s.length-k)+1
 |[],k,ln,cm,l,h=>by cases k<;>(simp [gQ] at h;subst h;simp [txS])
 |c::r,k+1,ln,cm,l,h=>by rw [gQ] at h;obtain ⟨h1,h2,h3⟩:=sB num r k ln cm l h;simp only [List.length_cons];omega
 |c::r,0,ln,cm,l,h=>by
  rw [gQ] at h;simp only [List.length_cons];split at h
  ·obtain ⟨h1,h2,h3⟩:=sB num r 0 (ln+1) false l h;omega
  split at h
  ·obtain ⟨h1,h2,h3⟩:=sB num r 0 ln cm l h;omega
  split at h
  ·obtain ⟨h1,h2,h3⟩:=sB num r 0 ln true l h;omega
  split at h
  ·generalize hT:(firstT num (c::r)).2.1=T at h;split at h
   ·rename_i l' hl';obtain ⟨h1,h2,h3⟩:=sB num r (T.length-1) ln false l' hl';cases h;have hTl:T.length≤r.length+1:=by rw [← hT];exact b9C num c r
    simp only [List.length_cons,txS];omega
   ·cases h
  ·cases h
end Go.Proofs.YtjpodcmhcenjjaaGreatDoor
end
section
namespace Go.Proofs.YtjpodcmhcenjjaaGreatDoor
open Go Go.VM
variable {G:GT}
theorem a8D (hG:G 1=some cX){l:List Tok}(hl:a1m l):∀f,AtC G l f∧CmC G l f∧PrC G l f
 |0=>⟨fun i k _ h9 _ hi h=>by unfold mu at h;omega,fun i hi h=>by unfold mu at h;omega,fun i hi h=>by unfold mu at h;omega⟩
 |f+1=>by obtain ⟨hA,hC,hP⟩:=a8D hG hl f;exact ⟨d2j hl hA hC hP,fun i hi h=>b4T hl hA i hi h,b6N hG hl hA⟩
def a2w (l:List Tok):Option (Pr×Nat):=mM bD l (mu l.length 0 1) 0 1
theorem d0C (hG:G 1=some cX){l:List Tok}(hl:a1m l):∃j,CS Tryz.prog G 198 [rdD l,.int .i64 0,.int .i64 1] (cZ (a2w l) j) none:=
 (a8D hG hl _).1 0 1 (by omega) (by omega) (by omega) (by omega) (d3X _)
theorem a4X {l:List Tok}{p:Pr}{n:Nat}(h:a2w l=some (p,n)):0<n∧n≤l.length:=qZ bD l _ _ _ _ _ h
def b4X (l:List Tok):DV:=match a2w l with
 |none=> .cF [.agg (prD ⟨0,[],0,[]⟩),.int .i64 0,.int .i64 14]
 |some (p,n)=>if a4M p=0 then .cF [.agg (prD p),.int .i64 n,.int .i64 0] else .cF [.agg (prD ⟨0,[],0,[]⟩),.int .i64 0,.int .i64 (a4M p)]
theorem a4p:VM.Enters Tryz.prog 186:=VM.Enters.mk Tryz.func186 rfl
theorem a4Y (hG:G 1=some cX)(l:List Tok)(hl:a1m l)(hn:∀p n,a2w l=some (p,n)→cW p≤1000000):CS Tryz.prog G 186 [.sl (l.map cC)] (b4X l) none:=by
 obtain ⟨j,hat⟩:=d0C hG hl;obtain ⟨o,ho⟩:∃o,a2w l=o:=⟨_,rfl⟩;rw [ho] at hat hn;unfold b4X;rw [ho];refine CS.bB Tryz.func186 rfl Tryz.ntmps186 rfl ?_
 simp;refine aG.mk (hkl:=bM _ _) rD hat ?_
 cases o with
 |none=>simp [cZ]
 |some q=>
  obtain ⟨p,n⟩:=q;have hck:=a9q hG p (hn p n rfl);simp [cZ];refine aG.mk a7R hck ?_
  by_cases h0:a4M p=0
  ·simp [h0]
  ·simp [h0]
end Go.Proofs.YtjpodcmhcenjjaaGreatDoor
end
section
namespace Go.Proofs.YtjpodcmhcenjjaaGreatDoor
open Go Go.VM
variable {G:GT}
theorem c2C {s:List UInt8}{l:List Tok}(h:gQ jS s 0 1 false= .ok l)(hs:s.length≤40000):a1m l∧1≤l.length:=by obtain ⟨h1,h2,h3⟩:=sB jS s 0 1 false l h;exact ⟨⟨by omega,by omega⟩,h1⟩
theorem b9D {l:List Tok}{p:Pr}{n:Nat}(h:a2w l=some (p,n)):cW p≤l.length:=by have h1:=b2u bD l _ _ _ _ _ h;have h2:=a4X h;omega
end Go.Proofs.YtjpodcmhcenjjaaGreatDoor
end
end
namespace Go.Proofs.YtjpodcmhcenjjaaGreatDoor
section
def rdQ (l:List Tok)(i e:Nat):kJ Pr:=match a2w ((l.take e).drop (min i e)) with
 |none=> .bad (aZ l i).line 14
 |some (p,n)=>if a4M p=0 then .ok p (i+n) else .bad (aZ l i).line (a4M p)
end
section
open Go Go.VM
variable {G:GT}
theorem a8E (a b:List Tok):txS (a++b)=txS a+txS b:=by
 induction a with
 |nil=>simp [txS]
 |cons t r ih=>simp only [List.cons_append,txS,ih];omega
theorem c2D {l:List Tok}(h:a1m l)(e k:Nat):a1m ((l.take e).drop k):=by have h1:=a8E (l.take e) (l.drop e);rw [List.take_append_drop] at h1;have h2:=a8E ((l.take e).take k) ((l.take e).drop k);rw [List.take_append_drop] at h2;refine ⟨?_,by have:=h.2;omega⟩;have:=h.1;simp;omega
theorem a9F (l:List Tok):mV (b4X l)=true:=by
 unfold b4X;split
 ·rfl
 ·split<;>rfl
theorem b2v (hG:G 1=some cX){l:List Tok}(hok:a1m l)(i e:Nat)(hi:i<l.length)(he:e≤l.length):mX G 155 [.int .i64 e] l i (rdQ l i e) d0l:=by
 have hl:=hok.1;obtain ⟨k,hk⟩:∃k,min i e=k:=⟨_,rfl⟩;have hke:k≤e:=by omega
 have hmin:min (i:Int) (e:Int)=(k:Int):=by omega
 obtain ⟨L,hL⟩:∃L,(l.take e).drop k=L:=⟨_,rfl⟩;have hokL:a1m L:=by rw [← hL];exact c2D hok e k
 have hrd:=a4Y (G:=G) hG L hokL (fun p n h=>Nat.le_trans (b9D h) (by have:=hokL.1;omega));have hLm:((l.map cC).take e).drop k=L.map cC:=by rw [← hL,List.map_drop,List.map_take]
 rw [← hLm] at hrd;have hsel:(if e<i then (e:Int) else (i:Int))=(k:Int):=by split<;>omega
 have ht:=cB (G:=G) l i i 0 (by omega) (by omega) (by intro e;subst e;simp at hi) (by omega);refine jG.a2g Tryz.func155 rfl Tryz.ntmps155 rfl (by simp) ?_
 intro Q Q0;unfold rdQ at Q0;rw [hk,hL] at Q0;refine SW.mS (SW.xk ?_);simp;refine SW.mS (SW.vk ?_);simp [hmin,hke,he,hsel,a1i];refine ⟨oG.mk (by kernel_rfl),?_⟩;refine aG.mk (hkl:=a9F L) a4p hrd ?_
 unfold b4X;cases hR:a2w L with
 |none=>
  rw [hR] at Q0;simp;refine SW.mS (SW.mS (SW.xk ?_));simp;refine SW.a2n rfl ?_
  refine SW.lw (LW.app 5 ?_);simp;refine b1P (i:=i) (ds:=[.int .i64 0]) bJ ht (by simp) (by simp) (by simp) ?_
  have hb:=fun s=>Q0.bad (aZ l i).line 14 s rfl
  simp [cC];refine LW.b5X (td:=_) (n:=(aZ l i).line) (e:=14) rfl rfl (by simp) (by simp) ?_
  exact hb _
 |some q=>
  obtain ⟨p,n⟩:=q;have hn:=a4X hR;have hLl:L.length≤e-k:=by rw [← hL];simp;omega
  rw [hR] at Q0;simp only at Q0 ⊢;by_cases hc:a4M p=0
  ·have Q0:=Q0.ifp hc;have hw:IntKind.i64.wrap ((i:Int)+(n:Int))=((i+n:Nat):Int):=by rw [wrap64 (by omega)];omega
   rw [if_pos hc];simp;refine SW.xk ?_
   simp [hw];exact Q0.ok p (i+n) _ _ rfl (.inr rfl) (by simp)
  ·have Q0:=Q0.vX hc;rw [if_neg hc];simp;refine SW.mS (SW.mS (SW.xk ?_));simp [hc];refine SW.a2n rfl ?_
   refine SW.lw (LW.app 5 ?_);simp;refine b1P (i:=i) (ds:=[.int .i64 0]) bJ ht (by simp) (by simp) (by simp) ?_
   have hb:=fun s=>Q0.bad (aZ l i).line (a4M p) s rfl
   simp [cC];refine LW.b5X (td:=_) (n:=(aZ l i).line) (e:=a4M p) rfl rfl (by simp) (by simp) ?_
   exact hb _
end
section
def a4q (l:List Tok):Prop:=∀t,l[l.length-1]? =some t→t.kind=0
theorem a4Z {l:List Tok}(hE:a4q l){i:Nat}{t:Tok}(h:l[i]? =some t)(hk:t.kind≠0):i+1<l.length:=by
 have hi:=(d3I.1 h).1;rcases Nat.lt_or_ge (i+1) l.length with h1|h1
 ·exact h1
 ·have:l.length-1=i:=by omega
  exact (hk (hE t (by rw [this];exact h))).elim
theorem a6x {l:List Tok}(hE:a4q l){i:Nat}{s:List UInt8}(h:rG l i s=true):i+1<l.length:=by
 unfold rG at h;split at h
 ·rename_i t ht;simp only [d3H,decide_eq_true_eq] at h;exact a4Z hE ht (by omega)
 ·cases h
theorem b7G {l:List Tok}(hE:a4q l){i:Nat}{k:Int}(h:kdB l i k=true)(hk:k≠0:=by omega):i+1<l.length:=by
 unfold kdB at h;split at h
 ·rename_i t ht;simp only [decide_eq_true_eq] at h;exact a4Z hE ht (by omega)
 ·cases h
theorem b2w {l:List Tok}(hE:a4q l){i:Nat}(h:wtB l i=true):i+1<l.length:=by unfold wtB at h;rw [d3T] at h;rcases h with h|h<;>exact b7G hE h
theorem zK {l:List Tok}(hE:a4q l):∀(f i:Nat) (s:List UInt8),i<l.length→i≤(qC l f i s).2∧(qC l f i s).2<l.length
 |0,i,s,h=>⟨d3X _,h⟩
 |f+1,i,s,h=>by
  rw [qC];split
  ·rename_i h1;have:=a6x hE h1;split
   ·rename_i h2;have:=b2w hE h2;have:=zK hE (l:=l) f (i+2) (s++[46]++txA l (i+1)) (by omega);omega
   ·split
    ·rename_i h3;have:=b7G hE h3;split
     ·rename_i h4;have:=b2w hE h4;have:=zK hE (l:=l) f (i+3) (s++[46]++txA l (i+1)++txA l (i+2)) (by omega);omega
     ·have:=zK hE (l:=l) f (i+2) (s++[46]++txA l (i+1)) (by omega);omega
    ·exact ⟨d3X _,h⟩
  ·exact ⟨d3X _,h⟩
theorem b0O {kw:List UInt8→Bool}{l:List Tok}(hE:a4q l){i n:Nat}{s:List UInt8}(h:yA kw l i=some (s,n)):i<n∧n<l.length:=by
 unfold yA at h;split at h
 ·rename_i hb;unfold c2k at hb;rw [d3H] at hb;have h1:=b2w hE hb.1;have h2:=zK hE (l:=l) l.length (i+1) (txA l i) (by omega);rw [d3N] at h;rw [h] at h2;simp only at h2;omega
 ·cases h
def b9E (l:List Tok)(rd:Nat→Nat→Option (Pr×Nat)):Prop:=∀i k p n,rd i k=some (p,n)→i<n∧n<l.length
section
variable {kw:List UInt8→Bool} {rd rd':Nat→Nat→Option (Pr×Nat)} {l:List Tok}
theorem a8F (hE:a4q l)(h:b9E l rd)(k:Nat):∀(g:Nat) (a:Pr) (n:Nat),n<l.length→n≤(eP rd l k g a n).2∧(eP rd l k g a n).2<l.length
 |0,a,n,hn=>⟨d3X _,hn⟩
 |g+1,a,n,hn=>by
  rw [eP];split
  ·exact ⟨d3X _,hn⟩
  ·split
   ·exact ⟨d3X _,hn⟩
   ·rename_i op _ _ b m hr;have h1:=h _ _ _ _ hr;have h2:=a8F hE h k g (tw op a b) m h1.2;omega
theorem b0P (hE:a4q l)(h:b9E l rd):∀(g i:Nat) (acc ks:List Pr) (m:Nat),mL rd l g i acc=some (ks,m)→i<m∧m<l.length
 |0,_,_,_,_,hr=>by cases hr
 |g+1,i,acc,ks,m,hr=>by
  rw [mL] at hr;split at hr
  ·cases hr
  ·rename_i p n hp;have h1:=h _ _ _ _ hp;split at hr
   ·rename_i hs;have:=a6x hE hs;cases hr;omega
   ·split at hr
    ·have:=b0P hE h g n _ ks m hr;omega
    ·cases hr
theorem b0Q (hE:a4q l)(h:b9E l rd){i m:Nat}{ks:List Pr}(hr:wY rd l i=some (ks,m)):i<m∧m<l.length:=by
 unfold wY at hr;split at hr
 ·exact b0P hE h _ _ _ _ _ hr
 ·cases hr
theorem b9F (hE:a4q l)(h:b9E l rd){i n:Nat}{p:Pr}(hr:a4l kw rd l i=some (p,n)):i<n∧n<l.length:=by
 unfold a4l at hr;split at hr
 ·cases hr
 ·rename_i t ht;have hil:=(d3I.1 ht).1;have hnx:∀x:Int,x≠0→t.kind=x→i+1<l.length:=fun x hx hk=>a4Z hE ht (by omega)
  split at hr
  ·rename_i hk;have:=hnx 3 (by omega) hk;cases hr;omega
  split at hr
  ·rename_i hk;have:=hnx 1 (by omega) hk.1;cases hr;omega
  split at hr
  ·rename_i hk;have:=hnx 1 (by omega) hk.1;cases hr;omega
  split at hr
  ·split at hr
   ·cases hr
   ·rename_i s m hn;have h1:=b0O hE hn;rw [d3G] at hr;obtain ⟨⟨ks,q⟩,hq,he⟩:=hr;have h2:=b0Q hE h hq;cases he;simp only at *;omega
  split at hr
  ·split at hr
   ·rename_i hc;have:=a6x hE hc.2.2;cases hr;omega
   ·split at hr
    ·cases hr
    ·rename_i q m hq;have h1:=h _ _ _ _ hq;split at hr
     ·rename_i hs;have:=a6x hE hs;cases hr;omega
     ·cases hr
  ·split at hr
   ·cases hr
   ·rename_i s m hn;have h1:=b0O hE hn;split at hr
    ·rename_i ks q hq;have h2:=b0Q hE h hq;cases hr;omega
    ·cases hr;omega
theorem c6F (hE:a4q l)(h:b9E l rd){i k n:Nat}{p:Pr}(hr:atG kw rd l i k=some (p,n)):i<n∧n<l.length:=by
 unfold atG at hr;split at hr
 ·unfold b9u at hr;split at hr
  ·cases hr
  ·rename_i a m ha;have h1:=h _ _ _ _ ha;split at hr
   ·split at hr
    ·rename_i b q hb;have h2:=h _ _ _ _ hb;cases hr;omega
    ·cases hr;exact h1
   ·cases hr;exact h1
 ·split at hr
  ·rw [d3G] at hr;obtain ⟨⟨a,m⟩,ha,he⟩:=hr;have h1:=h _ _ _ _ ha;cases he;simp only;omega
  ·exact h _ _ _ _ hr
 ·unfold a7v at hr;split at hr
  ·cases hr
  ·rename_i a m ha;have h1:=h _ _ _ _ ha;split at hr
   ·cases hr;exact h1
   ·split at hr
    ·cases hr;exact h1
    ·rename_i b q hb;have h2:=h _ _ _ _ hb;cases hr;omega
 ·split at hr
  ·rw [d3G] at hr;obtain ⟨⟨a,m⟩,ha,he⟩:=hr;have h1:=h _ _ _ _ ha;cases he;simp only;omega
  ·exact h _ _ _ _ hr
 ·exact b9F hE h hr
 ·rw [d3G] at hr;obtain ⟨⟨a,m⟩,ha,he⟩:=hr;have h1:=h _ _ _ _ ha;have h2:=a8F (k:=k) hE h l.length a m h1.2;have h3:(eP rd l k l.length a m).2=n:=by rw [he]
  omega
end
theorem b4Y (kw:List UInt8→Bool)(l:List Tok)(hE:a4q l):∀f,b9E l (mM kw l f)
 |0=>fun _ _ _ _ h=>by cases h
 |f+1=>fun _ _ _ _ h=>c6F hE (b4Y kw l hE f) h
end
section
theorem b7H {l:List Tok}(hE:a4q l)(e i:Nat)(p:Pr)(j:Nat)(hi:i<l.length)(h:rdQ l i e= .ok p j):i≤j∧j<l.length:=by
 unfold rdQ at h;split at h
 ·cases h
 ·rename_i q n hr;split at h
  ·cases h;refine ⟨by omega,?_⟩;have h1:=a4X hr;rw [List.length_drop,List.length_take] at h1;rcases Nat.lt_or_ge e l.length with he|he
   ·omega
   ·have hmin:min i e=i:=by omega
    rw [hmin,List.take_of_length_le he] at hr;have hS:a4q (l.drop i):=fun t ht=>by rw [List.length_drop,d4a] at ht;exact hE t (by rw [show l.length-1=i+(l.length-i-1) by omega];exact ht)
    have h2:=(b4Y bD (l.drop i) hS _ _ _ _ _ hr).2;rw [List.length_drop] at h2;omega
  ·cases h
def dK {α:Type}(x:List Tok→bE α)(s:List UInt8):kJ α:=if 40000<s.length then .bad 0 7 else match gQ jS s 0 1 false with
 | .error n=> .bad n 14
 | .ok l=>match x l 0 with
  | .bad n e=> .bad n e
  | .ok a j=>match xU l j with
   | .bad n e=> .bad n e
   | .ok _ _=> .ok a j
theorem b9G {α:Type}{x:List Tok→bE α}{s:List UInt8}{a:α}{j:Nat}(h:dK x s= .ok a j): ¬40000<s.length∧∃l,gQ jS s 0 1 false= .ok l∧x l 0= .ok a j∧(aZ l j).kind=0:=by
 unfold dK at h;split at h
 ·cases h
 ·rename_i hl;split at h
  ·cases h
  ·rename_i l hlx;split at h
   ·cases h
   ·rename_i b k hx;split at h
    ·cases h
    ·rename_i u m he;cases h;refine ⟨hl,l,hlx,hx,?_⟩;unfold xU at he;split at he
     ·assumption
     ·unfold dQ at he;cases he
theorem c2E {α:Type}{x:List Tok→bE α}{s:List UInt8}{a:α}{j:Nat}{l:List Tok}(hs: ¬40000<s.length)(hl:gQ jS s 0 1 false= .ok l)(hx:x l 0= .ok a j)(he:(aZ l j).kind=0):dK x s= .ok a j:=by unfold dK;rw [if_neg hs,hl];simp only [hx];unfold xU;rw [if_pos he]
end
section
open Go Go.VM
variable {G:GT}
theorem c6G {p:Pr}(h:a4M p=0):p.op≠0:=by
 unfold a4M a9l at h;split at h
 ·cases h
 split at h
 ·cases h
 intro h0;have hn:a1e p=1:=by unfold a1e;rw [if_pos (by omega)]
 obtain ⟨op,nm,n,ks⟩:=p;simp [xZ,xG,hn] at h
theorem b2x {num:List UInt8→Int×Bool}{l:List Tok}{ln:Int}(h:OkT num l ln):l≠[]∧∀t,l[l.length-1]? =some t→t.kind=0:=by
 induction h with
 |fin ln l hl=>exact ⟨by simp,fun t ht=>by simp at ht;subst ht;rfl⟩
 |cons t r ln h1 h2 h3 ih=>refine ⟨by simp,fun u hu=>ih.2 u ?_⟩;have:0<r.length:=List.length_pos_iff.2 ih.1;rw [List.length_cons,Nat.add_sub_cancel] at hu;rw [show r.length=(r.length-1)+1 by omega] at hu;simpa using hu
theorem c6H {l:List Tok}{ln:Int}(h:OkT jS l ln):∀t∈l,0≤t.n∧t.n≤1000000000000:=by
 induction h with
 |fin ln l hl=>intro t ht;simp at ht;subst ht;simp
 |cons t r ln h1 h2 h3 ih=>
  intro u hu;rcases List.mem_cons.1 hu with rfl|hu
  ·have hn:(firstT jS u.text).2.2.1=u.n:=by rw [h2]
   rw [← hn];have hb:∀s,0≤(jS s).1∧(jS s).1≤1000000000000:=fun s=>by
    unfold jS;split
    ·simp only;omega
    ·simp only;omega
   unfold firstT;split
   ·simp
   ·split
    ·simp
    ·split
     ·simp
     ·split
      ·exact hb _
      ·split<;>simp
  ·exact ih u hu
theorem c2F {l:List Tok}(h:l≠[])(i:Nat):aZ l i∈l:=by
 unfold aZ;split
 ·rename_i hi;rw [List.getD_eq_getElem?_getD,d3L hi];exact List.getElem_mem hi
 ·rw [List.getLastD_eq_getLast?,List.getLast?_eq_some_getLast h];exact List.getLast_mem h
theorem b0R (hG:G 1=some cX){s:List UInt8}{l:List Tok}(h:gQ jS s 0 1 false= .ok l)(hs:s.length≤40000):jX G rdQ l:=by
 have hok:=(c2C h hs).1;have hO:=tU s 0 1 false l h;have hE:=b2x hO;refine ⟨hG,hok.1,⟨hE.1,?_⟩,fun i e hi he=>b2v hG hok i e hi he,fun e i p j hi hx=>b7H hE.2 e i p j hi hx,fun i e p j hi hx=>?_⟩
 ·have hpos:0<l.length:=List.length_pos_iff.2 hE.1;have hlt:l.length-1<l.length:=by omega
  refine hE.2 _ ?_
  unfold aZ;rw [if_pos hlt,List.getD_eq_getElem?_getD,d3L hlt]
  rfl
 ·unfold rdQ at hx;split at hx
  ·cases hx
  ·rename_i q n hr;split at hx
   ·rename_i hc;cases hx;have:=b2u bD _ _ _ _ _ _ hr;exact ⟨by omega,c6G hc⟩
   ·cases hx
theorem b9H {s:List UInt8}{l:List Tok}(h:gQ jS s 0 1 false= .ok l):∀i, -9223372036854775807≤(aZ l i).n∧(aZ l i).n≤9223372036854775807:=fun i=>by have hO:=tU s 0 1 false l h;have:=c6H hO _ (c2F (b2x hO).1 i);omega
end
end Go.Proofs.YtjpodcmhcenjjaaGreatDoor
section
namespace Go.VM
open Go Go.RowKit
section
variable {P:Program} {G:GT} {st:St} {base:cM} {R:Nat→Nat→Prop} {μ:Nat→Nat} {a:Act} {w:World}
theorem a8G {s0:St}(K:List (Nat×Nat)){d3F:List DV}{ls:List (Option Loc)}{rest:List (TypeId×List Loc)}{args:Array Value}(hfit:aJ K s0 .undef s0.H=true)(hargs:WkT d3F (aM K s0.tmps))(hH:WkH st.H (cE K s0.H))(gU:qF st st.own (s0.own.map (kI K ls))=some rest)(kn:tE st.tmps.length ls s0.own=true)(hr:Rel P G base R μ st a w)(hl:args.size=d3F.length)(hv:∀(i:Nat) (d:DV),d3F[i]? =some d→TV R μ w (args.getD i undef) d)(hloc:∀(i:Nat) (l:Loc),ls[i]? =some (some l)→∀u,bS a w μ l=some u→u=args.getD i undef):
  ∃base':cM,(∀b,base' b→base b)∧Rel P G base' R (fun k=>μ (rk K k)) s0 { tmps:=args,defers:=[] } w∧∀k o,getKey k st.H=some o→(∀p∈s0.H,k≠rk K p.1)→ ¬base' (μ k):=by
 simp only [aJ,d3H,decide_eq_true_eq,d3K] at hfit;obtain ⟨⟨⟨⟨⟨⟨⟨⟨kf,ks⟩,kp⟩,kt⟩,kh⟩,kl⟩,kr⟩,kd⟩,k1⟩:=hfit;obtain ⟨vs,hvs⟩:=hr.own;obtain ⟨vsT,vsR,t1,t2,t3,t4,t5,t6,t7⟩:=a0H hr _ _ _ vs ⟨hvs.len,hvs.one,hvs.apart⟩ gU;have inK:∀k o,getKey k s0.H=some o→(K.any fun p=>p.1==k)=true∧aL K o=true∧(getKey k s0.H).isSome=true:=fun k o hk=>by
  have:=kh _ (eN hk)
  try simp only [d3H] at this
  exact ⟨this.1.1,this.1.2,this.2⟩
 have inst:∀k o,getKey k s0.H=some o→∃o',getKey (rk K k) st.H=some o'∧WkO o' (cL K o):=fun k o hk=>by
  have hm:=eN hk;have:∀ {l:List (Nat×aR)},WkH st.H (cE K l)→(k,o)∈l→∃o',getKey (rk K k) st.H=some o'∧WkO o' (cL K o):=by
   intro l
   induction l with
   |nil=>intro _ h;cases h
   |cons p l ih=>
    intro hw hp;obtain ⟨h1,h2⟩:=hw;rcases List.mem_cons.1 hp with rfl|hp
    ·exact h1
    ·exact ih h2 hp
  exact this hH hm
 have big:∀k,(K.any fun p=>p.1==k)=true→100000≤k:=fun k hk=>by obtain ⟨p,h1,h2,_⟩:=uS hk;rw [← h2];exact kp p h1
 have rinj:∀k k',(K.any fun p=>p.1==k)=true→(K.any fun p=>p.1==k')=true→rk K k=rk K k'→k=k':=fun k k' h h' he=>by
  obtain ⟨p,p1,p2,p3⟩:=uS h;obtain ⟨q,q1,q2,q3⟩:=uS h';have hpq:p.2=q.2:=by rw [← p3, ← q3,he]
  have:p=q:=jQ.a5v.a1A ks p1 q1 hpq;rw [← p2, ← q2,this]
 have one:∀k,(getKey k s0.H).isSome=true→∃o,getKey k s0.H=some o:=fun k hk=>by
  obtain ⟨o,ho⟩:=Option.isSome_iff_exists.1 hk;have:=k1 _ (eN ho)
  try simp only [d3H] at this
  exact Option.isSome_iff_exists.1 this.2
 let base':cM:=⟨fun b=>w.heap.size≤b∨(∃k o,getKey k s0.H=some o∧b=μ (rk K k))∨(∃v∈vsT,aX v=some b),fun k=>μ (rk K k)⟩
 have sub:∀b,base' b→base b:=fun b hb=>by
  rcases hb with hb|⟨k,o,hk,rfl⟩|⟨v,hv,hs⟩
  ·exact hr.base b hb
  ·obtain ⟨o',ho',_⟩:=inst k o hk;exact (hr.eT _ o' ho').1
  ·obtain ⟨i,hi⟩:=d3Y hv;have hil:i<(s0.own.map (kI K ls)).length:=by rw [← t1];exact (d3I.1 hi).1
   exact (t2 i _ v (d3L hil) hi).own.wB hs
 have hrel0:Rel P G base' R (fun k=>μ (rk K k)) s0 { tmps:=args,defers:=[] } w:=by
  obtain ⟨g1,g2⟩:=uU hargs;rw [mI] at g1 g2;refine ⟨rfl,by show args.size=s0.tmps.length;rw [List.length_map] at g1;omega,fun i v d hiv hid=>?_,fun k o hk=>?_,fun k k' o o' hk hk' he=>?_,fun c hc k off hl'=>?_,⟨vsT,by simpa using t1,fun i c v hc hv'=>?_,t3⟩,hr.qL.up sub,hr.kY,fun b hb=> .inl hb,fun k hk=>rfl⟩
  ·obtain ⟨d0,hd0,hcase⟩:=g2 i (aW K d) (by rw [d3R,hid];rfl);have hva:=hv i d0 hd0;have hav:args.getD i undef=v:=by simp only at hiv;simp [d3J,hiv]
   rw [hav] at hva;have hren:TV R μ w v (aW K d):=by
    rcases hcase with hc|hc|⟨hc1,hc2⟩
    ·rw [hc];exact .undef _
    ·rw [hc];exact hva
    ·rw [hc2];rw [hc1] at hva;obtain ⟨ao,rfl⟩:=hva.a3p.gG;exact .d _ _ (.emp _ _)
   exact hren.ren (μ:=μ) (fun _ _=>rfl) (kt d (d3M hid))
  ·obtain ⟨q1,q2,_⟩:=inK k o hk;obtain ⟨o',ho',hw⟩:=inst k o hk;obtain ⟨p1,p2,p3⟩:=hr.eT _ o' ho';exact ⟨.inr (.inl ⟨k,o,hk,rfl⟩),p2,(a6q hw p3).ren (fun _ _=>rfl) q2⟩
  ·obtain ⟨o1,h1,_⟩:=inst k o hk;obtain ⟨o2,h2,_⟩:=inst k' o' hk';exact rinj k k' (inK k o hk).1 (inK k' o' hk').1 (hr.inj _ _ o1 o2 h1 h2 he)
  ·have:=d3K.1 (d3K.1 kl c hc) _ hl';exact Option.isSome_iff_exists.1 this
  ·have ho:=t2 i (kI K ls c) v (by rw [d3R,hc];rfl) hv';refine ⟨fun l hl' u hu=>?_,?_,fun k o hk=>?_⟩
   ·have hn:=d3K.1 (d3K.1 kn c (d3M hc)) l hl';cases l with
    |t j=>
     simp only at hn;split at hn
     ·rename_i t hj;simp only [decide_eq_true_eq] at hn;have ht:t<a.tmps.size:=by rw [hr.size];exact hn
      have hlv:bS a w μ (.t t)=some a.tmps[t]:=by simp [bS,ht]
      have h1:=hloc j _ hj _ hlv;have h2:=ho.cU (.t t) (List.mem_filterMap.2 ⟨.t j,hl',by simp [a7g,hj]⟩) _ hlv;simp only [bS] at hu;have h3:args.getD j undef=u:=by simp [d3J,hu]
      rw [← h3, ← h1,h2]
     ·cases hn
    |c k off=>exact ho.cU (.c (rk K k) off) (List.mem_filterMap.2 ⟨.c k off,hl',rfl⟩) u hu
   ·rcases ho.own with h|⟨g,n,cap,cur,h0,h1,h2,h3,h4⟩
    ·exact .inl h
    ·by_cases hc0:cap=0
     ·subst hc0;have:n=0:=by omega
      subst this;exact .inl ⟨_,h0⟩
     ·exact .inr ⟨g,n,cap,cur,h0,.inr (.inr ⟨v,d3M hv',by rw [h0];simp [aX,hc0]⟩),h2,h3,h4⟩
   ·obtain ⟨o',ho',_⟩:=inst k o hk;exact ho.keys _ o' ho'
 refine ⟨base',sub,hrel0,fun k o ho hk hb=>?_⟩;rcases hb with hb|⟨k0,o0,h0,he'⟩|⟨u,hu,hsp⟩
 ·have:=(hr.eT k o ho).2.2.lt;omega
 ·obtain ⟨o',ho',_⟩:=inst k0 o0 h0;have:=hr.inj k (rk K k0) o o' ho ho' he';exact hk (k0,o0) (eN h0) this
 ·obtain ⟨i,hi⟩:=d3Y hu;have hil:i<(s0.own.map (kI K ls)).length:=by rw [← t1];exact (d3I.1 hi).1
  exact (t2 i _ u (d3L hil) hi).keys k o ho hsp
def CHd (P:Program)(G:GT)(f:FuncId)(s0:St)(r:DV):Prop:=
 ∀(base:cM) (R:Nat→Nat→Prop) (μ:Nat→Nat) (args:Array Value) (w:World),Rel P G base R μ s0 { tmps:=args,defers:=[] } w→
  Calls P f args w fun e w'=>∃v R',e= .returned v∧(∀μ',TV R' μ' w' v r)∧Step base R w R' w'∧∀b o,R' b o→b<w'.heap.size
theorem jQ.d0D {f:FuncId}{s0:St}{r:DV}(hch:CHd P G f s0 r)(K:List (Nat×Nat)){d3F:List DV}{ls:List (Option Loc)}{dst:Option Tmp}{rest:List (TypeId×List Loc)}(H':List (Nat×aR))(hfit:aJ K s0 .undef s0.H=true)(hargs:WkT d3F (aM K s0.tmps))(hH:WkH st.H (cE K s0.H))(gU:qF st st.own (s0.own.map (kI K ls))=some rest)(kn:tE st.tmps.length ls s0.own=true)(hK:∀k o,getKey k H'=some o→getKey k st.H=some o∧∀p∈s0.H,k≠rk K p.1):
  jQ P G f d3F ls st dst ⟨oH dst r st.tmps,H',[]⟩:=by
 intro base R μ a w args hr hl hv hloc;obtain ⟨base',sub,hrel0,hout⟩:=a8G K hfit hargs hH gU kn hr hl hv hloc;refine (hch base' R _ args w hrel0).mono fun e w' ⟨v,R',he,hres,hs,hb⟩=>⟨v,R',μ,he,?_,⟨hs.below.mono sub,hs.mono,fun b o h1 h2=>sub b (hs.new b o h1 h2),hs.cells⟩⟩
 have hsb:Step base R w R' w':=⟨hs.below.mono sub,hs.mono,fun b o h1 h2=>sub b (hs.new b o h1 h2),hs.cells⟩;have kept:∀b, ¬base' b→w'.heap[b]? =w.heap[b]? ∧∀off,R' b off→R b off:=fun b hb=>⟨hs.below.block b hb,fun off h=>by
  by_cases hx:R b off
  ·exact hx
  ·exact absurd (hs.new b off h hx) hb⟩
 refine ⟨by cases dst<;>exact hr.defers,?_,fun i u d hu hd=>?_,fun k o hk=>?_,fun k k' o o' hk hk' he'=>?_,(fun c hc=>by cases hc),⟨[],rfl,fun i c v h _=>by simp at h,.nil⟩,hr.qL.bC hsb,hb,fun b hb=>hr.base b (Nat.le_trans hs.below.size hb),hr.pass⟩
 ·cases dst with
  |none=>exact hr.size
  |some t=>simp [oH,Act.put,hr.size]
 ·cases dst with
  |none=>exact (hr.tmps i u d hu hd).bC hsb
  |some t=>
   simp only [oH,Act.put] at hu hd;by_cases hti:t=i
   ·subst hti;have h1:t<st.tmps.length:=by
     by_cases hlt:t<st.tmps.length
     ·exact hlt
     ·have hno:(st.tmps.set t r)[t]? =none:=List.getElem?_eq_none (by rw [List.length_set];exact Nat.le_of_not_lt hlt)
      rw [hno] at hd;cases hd
    have h2:t<a.tmps.size:=by rw [hr.size];exact h1
    simp [h1] at hd;simp [h2] at hu;subst hu hd;exact hres μ
   ·rw [Array.getElem?_setIfInBounds_ne hti] at hu;rw [List.getElem?_set_ne hti] at hd;exact (hr.tmps i u d hu hd).bC hsb
 ·obtain ⟨hk2,hk1⟩:=hK k o hk;obtain ⟨p1,p2,p3⟩:=hr.eT k o hk2;obtain ⟨e1,e2⟩:=kept _ (hout k o hk2 hk1);exact ⟨p1,fun off h=>p2 off (e2 off h),p3.bC hsb e1⟩
 ·exact hr.inj k k' o o' (hK k o hk).1 (hK k' o' hk').1 he'
theorem a3S.b0Z {f:FuncId}{s0:St}{v:Value}(hch:CPn P G f s0 v)(K:List (Nat×Nat)){d3F:List DV}{ls:List (Option Loc)}{rest:List (TypeId×List Loc)}(H':List (Nat×aR))(hfit:aJ K s0 .undef s0.H=true)(hargs:WkT d3F (aM K s0.tmps))(hH:WkH st.H (cE K s0.H))(gU:qF st st.own (s0.own.map (kI K ls))=some rest)(kn:tE st.tmps.length ls s0.own=true)(hK:∀k o,getKey k H'=some o→getKey k st.H=some o∧∀p∈s0.H,k≠rk K p.1){args:Array Value}(hr:Rel P G base R μ st a w)(hl:args.size=d3F.length)(hv:∀(i:Nat) (d:DV),d3F[i]? =some d→TV R μ w (args.getD i undef) d)(hloc:∀(i:Nat) (l:Loc),ls[i]? =some (some l)→∀u,bS a w μ l=some u→u=args.getD i undef):
  Calls P f args w fun e w'=>∃R',e= .panicked (tX v)∧Rel P G base R' μ ⟨st.tmps,H',[]⟩ a w'∧Step base R w R' w':=by
 obtain ⟨base',sub,hrel0,hout⟩:=a8G K hfit hargs hH gU kn hr hl hv hloc;refine (hch base' R _ args w hrel0).mono fun e w' ⟨R',he,hs,hb⟩=>⟨R',he,?_,⟨hs.below.mono sub,hs.mono,fun b o h1 h2=>sub b (hs.new b o h1 h2),hs.cells⟩⟩
 have hsb:Step base R w R' w':=⟨hs.below.mono sub,hs.mono,fun b o h1 h2=>sub b (hs.new b o h1 h2),hs.cells⟩;have kept:∀b, ¬base' b→w'.heap[b]? =w.heap[b]? ∧∀off,R' b off→R b off:=fun b hb=>⟨hs.below.block b hb,fun off h=>by
  by_cases hx:R b off
  ·exact hx
  ·exact absurd (hs.new b off h hx) hb⟩
 refine ⟨hr.defers,hr.size,fun i u d hu hd=>(hr.tmps i u d hu hd).bC hsb,fun k o hk=>?_,fun k k' o o' hk hk' he'=>?_,(fun c hc=>by cases hc),⟨[],rfl,fun i c v h _=>by simp at h,.nil⟩,hr.qL.bC hsb,hb,fun b hb=>hr.base b (Nat.le_trans hs.below.size hb),hr.pass⟩
 ·obtain ⟨hk2,hk1⟩:=hK k o hk;obtain ⟨p1,p2,p3⟩:=hr.eT k o hk2;obtain ⟨e1,e2⟩:=kept _ (hout k o hk2 hk1);exact ⟨p1,fun off h=>p2 off (e2 off h),p3.bC hsb e1⟩
 ·exact hr.inj k k' o o' (hK k o hk).1 (hK k' o' hk').1 he'
end
end Go.VM
end
section
namespace Go.VM
open Go Go.RowKit
section
variable {P:Program} {G:GT} {st:St} {base:cM} {R:Nat→Nat→Prop} {μ:Nat→Nat} {a:Act} {w:World}
theorem put_defers (a:Act)(ds:List Deferred)(dst:Option Tmp)(v:Value):({ a with defers:=ds }:Act).put dst v={ a.put dst v with defers:=ds }:=by cases dst<;>rfl
theorem d2k {o:Oper}{ds:List Deferred}{K K':Act→World→Prop}{Q Q':Exit→Act→World→Prop}(ha:a.defers=[])(h:o.wp P a w K Q)(hK0:∀a' w',K a' w'→a'.defers=[])(hK:∀a' w',K a' w'→K' { a' with defers:=ds } w')(hQ:∀e a' w',Q e a' w'→Q' e { a' with defers:=ds } w'):o.wp P { a with defers:=ds } w K' Q':=by
 unfold Oper.wp at h ⊢;have he:execOp ({ a with defers:=ds }:Act).eval o=execOp a.eval o:=rfl;rw [he];generalize (execOp a.eval o).run P w=r at h ⊢;unfold Oper.upon at h ⊢;split at h
 ·rw [put_defers];exact hK _ _ h
 ·rw [put_defers];exact hK _ _ h
 ·rename_i d w';have:=hK0 _ _ h;rw [put_defers] at this;simp at this
 ·refine h.mono fun e w' hx=>?_
  cases e with
  |returned v=>simp only at hx ⊢;rw [put_defers];exact hK _ _ hx
  |panicked chain=>exact hQ _ _ _ hx
  |outgrown=>obtain ⟨a0,w0,h0⟩:=hx;exact ⟨_,_,hQ _ _ _ h0⟩
 ·refine h.mono fun v w' hx=>?_
  rw [put_defers];exact hK _ _ hx
 ·exact hQ _ _ _ h
 ·exact h.elim
def b9I (P:Program)(G:GT)(all:Array Oper)(Q:Exit→St→Prop):List Oper→St→Prop
 |[],st=>Q .normal st
 |o::rest,st=>a8t P G all o st (b9I P G all Q rest) Q
theorem b2y {all:Array Oper}{Q:Exit→St→Prop}(ds:List Deferred):∀(l:List Oper) (st:St),b9I P G all Q l st→∀(base:cM) (R:Nat→Nat→Prop) (μ:Nat→Nat) (a:Act) (w:World),Rel P G base R μ st a w→
  ∀QQ:Exit→Act→World→Prop,(∀e s a' w' R' μ',Q e s→Rel P G base R' μ' s a' w'→Step base R w R' w'→QQ e { a' with defers:=ds } w')→wpList P all QQ l { a with defers:=ds } w
 |[],st,h,base,R,μ,a,w,hr,QQ,hk=>hk _ st a w R μ h hr (.refl _ _ _)
 |o::rest,st,h,base,R,μ,a,w,hr,QQ,hk=>by
  have h1:=b4E (KK:=fun a' w'=>a'.defers=[]∧wpList P all QQ rest { a' with defers:=ds } w') (QQ:=fun e a' w'=>QQ e { a' with defers:=ds } w') (show a8t P G all o st (b9I P G all Q rest) Q from h) hr (fun s v w' R' μ' p1 p2 p3=>⟨p2.defers,b2y ds rest s p1 base R' μ' _ w' p2 QQ fun e s a' w2 R2 μ2 q1 q2 q3=>hk e s a' w2 R2 μ2 q1 q2 (p3.trans q3)⟩) fun c s w' R' μ' p1 p2 p3=>hk _ s a w' R' μ' p1 p2 p3
  unfold wpList;by_cases hw:Region.wanted o (yielded all a.tmps)=true
  ·rw [if_pos hw] at h1;rw [if_pos (show Region.wanted o (yielded all ({ a with defers:=ds }:Act).tmps)=true from hw)];rcases h1 with h1|⟨h1,a0,w0,h2⟩
   ·exact .inl (d2k hr.defers h1 (fun _ _ h=>h.1) (fun _ _ h=>h.2) fun _ _ _ h=>h)
   ·exact .inr ⟨h1,_,_,h2⟩
  ·rw [if_neg hw] at h1;rw [if_neg (show ¬Region.wanted o (yielded all ({ a with defers:=ds }:Act).tmps)=true from hw),put_defers];exact h1.2
def DW (P:Program)(G:GT)(ds:List Deferred)(c:Code)(st:St)(Q:Exit→St→Prop):Prop:=
 ∀(base:cM) (R:Nat→Nat→Prop) (μ:Nat→Nat) (a:Act) (w:World),Rel P G base R μ st a w→c.wp P (fun e a' w'=>∃a0 s R' μ',a'={ a0 with defers:=ds }∧Q e s∧Rel P G base R' μ' s a0 w'∧Step base R w R' w') { a with defers:=ds } w
theorem DW.region {ds:List Deferred}{id:Nat}{ops:Array Oper}{Q:Exit→St→Prop}(h:b9I P G ops Q ops.toList st):DW P G ds (.region id ops false) st Q:=fun base R μ a w hr=>wp_region_list (b2y ds ops.toList st h base R μ a w hr _ fun e s a' w' R' μ' q1 q2 q3=>⟨a',s,R',μ',rfl,q1,q2,q3⟩)
theorem DW.seq {ds:List Deferred}{x y:Code}{Q:Exit→St→Prop}(h:DW P G ds x st fun e s=>match e with
  | .normal=>DW P G ds y s Q
  |e=>Q e s):DW P G ds (.seq x y) st Q:=fun base R μ a w hr=>
 wp_seq (wp_mono (h base R μ a w hr) fun e a1 w1 ⟨a0,s,R1,μ1,q0,q1,q2,q3⟩=>by
  cases e with
  |normal=>subst q0;exact wp_mono (q1 base R1 μ1 a0 w1 q2) fun e2 a2 w2 ⟨a3,s2,R2,μ2,p0,p1,p2,p3⟩=>⟨a3,s2,R2,μ2,p0,p1,p2,q3.trans p3⟩
  |_=>exact ⟨a0,s,R1,μ1,q0,q1,q2,q3⟩)
theorem DW.ret {ds:List Deferred}{Q:Exit→St→Prop}(h:Q .ret st):DW P G ds .ret st Q:=fun base R μ a w hr=>wp_ret ⟨a,st,R,μ,rfl,h,hr,.refl _ _ _⟩
attribute [simp] b9I
end
end Go.VM
end
namespace Go.Proofs.YtjpodcmhcenjjaaGreatDoor
section
open Go Go.VM
theorem c2G (p q:Addr)(w:World):
  CallsD Tryz.prog 65 #[.pointer (some p),.pointer (some q)] .returning w fun e u' w'=>e= .returned (.tuple #[])∧u'= .returning∧w'=w:=by
 refine callsD_of_wpS Tryz.func65 rfl fun c₀ cs hu=>?_
 apply wpS_seq;apply wpS_region;simp [wpOpsS,go_sem,recoverD,hu,Tryz.ntmps65,Exit.thenS];apply wpS_seq;apply wpS_region;simp [wpOpsS,go_sem,recoverD,hu,Tryz.ntmps65,Exit.thenS];refine wpS_cond (t:=false) (by simp [Act.eval,Array.replicate]) ?_
 simp only [Bool.false_eq_true,if_false];refine wpS_of_wp (wp_skip ?_);cases c₀
 simp_all [bodyPostS,results]
theorem d0E {P:Program}{T xT:TypeId}(hu:(P.underlying T).map (fun td=>match td with| .interface _=>false|_=>true)=some true)(v:Value)(w:World):(Instr.typeAssert (.iface T v) xT T true).run P w= .ok (.tuple #[v,.bool true]) w:=by obtain ⟨td,h1,h2⟩:=d3G.1 hu;unfold Instr.typeAssert;rw [Sem.run_bind,run_underlying h1];simp only [Result.andThen_ok];cases td<;>first|(simp at h2;done)|(simp only [if_true,go_sem];done)|(simp [go_sem,Result.andThen];done)
variable {G:GT}
theorem b4Z {P:Program}{id:Nat}{ops:Array Oper}{D:Code}{QQ:Exit→Act→World→Prop}{a:Act}{w:World}{base:cM}{R:Nat→Nat→Prop}(Qf:Exit→St→Prop)(hk:∀e s a' w' R' μ',Qf e s→Rel P G base R' μ' s a' w'→Step base R w R' w'→QQ e a' w')(h:∀QL:Exit→Act→World→Prop,(∀s a' w' R' μ',SW P G D s Qf→Rel P G base R' μ' s a' w'→Step base R w R' w'→QL .normal a' w')→wpList P ops QL ops.toList a w):(Code.seq (.region id ops false) D).wp P QQ a w:=
 wp_seq (wp_region_list (h _ fun s a' w' R' μ' hD hr hs=>wp_mono (hD base R' μ' a' w' hr) fun e a2 w2 ⟨s2,R2,μ2,q1,q2,q3⟩=>hk e s2 a2 w2 R2 μ2 q1 q2 (hs.trans q3)))
theorem LW.next {P:Program}{all:Array Oper}{l:List Oper}{st:St}{D:Code}{Qf:Exit→St→Prop}{base:cM}{R:Nat→Nat→Prop}{μ:Nat→Nat}{a:Act}{w:World}{QL:Exit→Act→World→Prop}(hQL:∀s a' w' R' μ',SW P G D s Qf→Rel P G base R' μ' s a' w'→Step base R w R' w'→QL .normal a' w')(hr:Rel P G base R μ st a w)(h:LW P G all l st fun e s=>e= .normal∧SW P G D s Qf):wpList P all QL l a w:=by unfold LW at h;exact h base R μ a w hr QL fun e s a' w' R' μ' hq hr' hs=>by obtain ⟨rfl,hq⟩:=hq;exact hQL s a' w' R' μ' hq hr' hs
def d2l:OT:=(.op 0 (.op 1 (.op 2 (.op 3 (.op 4 (.op 5 .stop .none) .none) (.op 4 (.op 3 (.op 5 .stop .none) .none) .none)) (.op 4 (.op 2 (.op 3 (.op 5 .stop .none) .none) .none) .none)) (.op 2 (.op 1 (.op 3 (.op 4 (.op 5 .stop .none) .none) (.op 4 (.op 3 (.op 5 .stop .none) .none) .none)) (.op 3 (.op 1 (.op 4 (.op 5 .stop .none) .none) .none) .none)) .none)) (.op 2 (.op 0 (.op 1 (.op 3 (.op 4 (.op 5 .stop .none) .none) (.op 4 (.op 3 (.op 5 .stop .none) .none) .none)) (.op 3 (.op 1 (.op 4 (.op 5 .stop .none) .none) .none) .none)) (.op 3 (.op 0 (.op 1 (.op 4 (.op 5 .stop .none) .none) .none) .none) .none)) .none))
abbrev c2H (x y:Int):List (Nat×aR):=[(100000,.cells [.d (.int .i64 x)]),(100001,.cells [.d (.int .i64 y)])]
theorem c6I {base:cM}{R:Nat→Nat→Prop}{μ:Nat→Nat}{args:Array Value}{w:World}{x y:Int}(n e:Int)(hr:Rel Tryz.prog G base R μ ⟨[.ptr 100000 0,.ptr 100001 0],c2H x y,[]⟩ { tmps:=args,defers:=[] } w):
  CallsD Tryz.prog 65 args (.panicking (tX (jW n e))) w fun e' u' w'=>e'= .returned (.tuple #[])∧u'= .panicking [{ v:=jW n e,recovered:=true }]∧∃R' μ' a',Rel Tryz.prog G base R' μ' ⟨List.replicate 20 .undef,c2H n e,[]⟩ a' w'∧Step base R w R' w':=by
 have hsz:args.size=2:=hr.size;obtain ⟨v0,v1,rfl⟩:∃v0 v1,args= #[v0,v1]:=by
  obtain ⟨l⟩:=args
  match l,hsz with
  |[a,b],_=>exact ⟨a,b,rfl⟩
 refine callsD_of_wpS Tryz.func65 rfl fun c₀ cs hu=>?_
 apply wpS_seq;apply wpS_region;simp [wpOpsS,go_sem,recoverD,hu,Tryz.ntmps65,Exit.thenS];apply wpS_seq;apply wpS_region;simp [wpOpsS,go_sem,recoverD,hu,Tryz.ntmps65,Exit.thenS];refine wpS_cond (t:=true) (by simp [Act.eval,Array.replicate]) ?_
 simp only [if_true];refine wpS_of_wp ?_
 have hr1:Rel Tryz.prog G base R μ ⟨.ptr 100000 0:: .ptr 100001 0::List.replicate 18 .undef,c2H x y,[]⟩ { tmps:= #[v0,v1,jW n e,undef,undef,jW n e,jW n e,.bool true,undef,undef,undef,undef,undef,undef,undef,undef,undef,undef,undef,undef],defers:=[] } w:=by
  refine ⟨rfl,rfl,fun i v d hv hd=>?_,hr.eT,hr.inj,hr.cU,⟨[],rfl,fun i c v h _=>by simp at h,.nil⟩,hr.qL,hr.kY,hr.base,hr.pass⟩
  match i,hv,hd with
  |0,hv,hd=>exact hr.tmps 0 v d (by simpa using hv) (by simpa using hd)
  |1,hv,hd=>exact hr.tmps 1 v d (by simpa using hv) (by simpa using hd)
  |i+2,hv,hd=>
   simp only [List.getElem?_cons_succ,List.getElem?_replicate] at hd;split at hd
   ·simp at hd;subst hd;exact .undef _
   ·cases hd
 have hta:=fun (v:Value) (w:World)=>d0E (P:=Tryz.prog) (T:=127) (xT:=20) (by kernel_rfl) v w
 show Code.wp Tryz.prog _ _ { tmps:= #[v0,v1,jW n e,undef,undef,jW n e,jW n e,.bool true,undef,undef,undef,undef,undef,undef,undef,undef,undef,undef,undef,undef],defers:=[] } w
 generalize ha1:({ tmps:= #[v0,v1,jW n e,undef,undef,jW n e,jW n e,.bool true,undef,undef,undef,undef,undef,undef,undef,undef,undef,undef,undef,undef],defers:=[] }:Act)=a1 at hr1 ⊢;have h2:a1.eval (.tmp 2)=jW n e:=by rw [← ha1];rfl
 have hz:a1.tmps.size=20:=by rw [← ha1];rfl
 refine b4Z (G:=G) (base:=base) (R:=R) (fun e' s=>e'= .normal∧tS s ⟨List.replicate 20 .undef,c2H n e,[]⟩) (fun e2 s2 a2 w2 R2 μ2 hq q2 q3=>?_) fun QL hQL=>?_
 ·obtain ⟨he,hw⟩:=hq;subst he;exact ⟨q2.defers,_,rfl,.tuple #[],by simp [results],rfl,rfl,R2,⟨μ2,a2,q2.xB hw⟩,q3⟩
 have hr2:=hr1.put (dst:=some 9) (v:=jW n e) (dv:= .undef) (act:= .no) (.undef _) trivial;refine mG (w':=w) (v:=jW n e) rfl (.inl (by show (pure (Next.value (a1.eval (.tmp 2))):Sem Next).run _ w=_;rw [h2];rfl)) rfl ?_
 have h9:(a1.put (some 9) (jW n e)).eval (.tmp 9)=jW n e:=cY _ _ (by omega);have hr3:=hr2.put (dst:=some 10) (v:= .tuple #[.agg #[.int .i64 n,.int .i64 e],.bool true]) (dv:= .cF [.agg [.int .i64 n,.int .i64 e],.bool true]) (act:= .no) (.cF _ _ rfl (fun i d hd=>by
  match i,hd with
  |0,hd=>
   simp at hd;subst hd;refine .agg _ _ rfl (fun i d hd=>?_) (fun i d hd=>?_)
   ·match i,hd with
    |0,hd=>simp at hd;subst hd;rfl
    |1,hd=>simp at hd;subst hd;rfl
   ·match i,hd with
    |0,hd=>simp at hd;subst hd;exact .int _ _
    |1,hd=>simp at hd;subst hd;exact .int _ _
  |1,hd=>simp at hd;subst hd;exact .bool _)) trivial
 refine mG (w':=w) (v:= .tuple #[.agg #[.int .i64 n,.int .i64 e],.bool true]) rfl (.inl ?_) rfl ?_
 ·show (Instr.typeAssert ((a1.put (some 9) (jW n e)).eval (.tmp 9)) _ _ true >>=fun s=>pure (Next.value s):Sem Next).run _ w=_
  rw [h9,Sem.run_bind,hta]
  rfl
 refine LW.next hQL hr3 (LW.vk ?_);simp;refine SW.mS (SW.xk ?_);simp;refine b0I d2l (by kernel_rfl) (by kernel_rfl) ?_
 simp [d2l]
end
section
open Go Go.VM
variable {G:GT}
theorem gJ:VM.Enters Tryz.prog 32:=VM.Enters.mk Tryz.func32 rfl
theorem Rel.frame {P:Program}{base:cM}{R:Nat→Nat→Prop}{μ:Nat→Nat}{args:Array Value}{w:World}{fn:Func}{n:Nat}{s0:St}(hn:fn.ntmps=n)(hT:(s0.own.all fun c=>c.2.all fun l=>match l with| .t i=>decide (i<s0.tmps.length)|_=>true)=true)(hr:Rel P G base R μ s0 { tmps:=args,defers:=[] } w):
  Rel P G base R μ ⟨s0.tmps++List.replicate (n-s0.tmps.length) (.cF []),s0.H,s0.own⟩ { tmps:=args++Array.replicate (fn.ntmps-args.size) undef,defers:=[] } w:=by
 have hsz:args.size=s0.tmps.length:=hr.size;refine ⟨rfl,by simp [hsz,hn],fun i v d hiv hid=>?_,hr.eT,hr.inj,hr.cU,?_,hr.qL,hr.kY,hr.base,hr.pass⟩
 ·simp only at hid;by_cases hi:i<s0.tmps.length
  ·rw [d3S hi] at hid;rw [Array.getElem?_append_left (by omega)] at hiv;exact hr.tmps i v d hiv hid
  ·rw [d3P (by omega),List.getElem?_replicate] at hid;split at hid<;>simp at hid;subst hid;rw [Array.getElem?_append_right (by omega),Array.getElem?_replicate] at hiv;split at hiv<;>simp at hiv;subst hiv;exact .cF #[] [] rfl (by simp)
 ·obtain ⟨vs,hl,h1,hap⟩:=hr.own;refine ⟨vs,hl,fun i c v hc hv=>?_,hap⟩;have ho:=h1 i c v hc hv;refine ⟨fun l hl u hu=>?_,ho.own,ho.keys⟩;cases l with
  |t j=>have hj:=d3K.1 (d3K.1 hT c (d3M hc)) _ hl;simp only [decide_eq_true_eq] at hj;simp only [bS] at hu;rw [Array.getElem?_append_left (by omega)] at hu;exact ho.cU _ hl u hu
  |c k off=>exact ho.cU _ hl u hu
theorem SW.wps {P:Program}{x y:Code}{st:St}{T:Exit→St→Prop}{QQ:Exit→Act→World→Prop}{base:cM}{R:Nat→Nat→Prop}{μ:Nat→Nat}{a:Act}{w:World}(h:SW P G x st T)(hr:Rel P G base R μ st a w)(hn:∀s R' μ' a' w',T .normal s→Rel P G base R' μ' s a' w'→Step base R w R' w'→y.wp P QQ a' w')(hq:∀e s R' μ' a' w',e≠ .normal→T e s→Rel P G base R' μ' s a' w'→Step base R w R' w'→QQ e a' w'):(Code.seq x y).wp P QQ a w:=
 wp_seq (wp_mono (h base R μ a w hr) fun e a' w' ⟨s,R',μ',q1,q2,q3⟩=>by
  cases e with
  |normal=>exact hn s R' μ' a' w' q1 q2 q3
  |_=>exact hq _ s R' μ' a' w' (by simp) q1 q2 q3)
theorem SW.c6J {P:Program}{r0 r1 rc rest:Code}{st:St}{T:Exit→St→Prop}{QQ:Exit→Act→World→Prop}{base:cM}{R:Nat→Nat→Prop}{μ:Nat→Nat}{a:Act}{w:World}(h:SW P G r0 st fun e s=>e= .normal∧SW P G r1 s fun e s=>e= .normal∧SW P G rc s T)(hr:Rel P G base R μ st a w)(hn:∀s R' μ' a' w',T .normal s→Rel P G base R' μ' s a' w'→Step base R w R' w'→rest.wp P QQ a' w')(hq:∀e s R' μ' a' w',e≠ .normal→T e s→Rel P G base R' μ' s a' w'→Step base R w R' w'→QQ e a' w'):(Code.seq r0 (.seq r1 (.seq rc rest))).wp P QQ a w:=
 SW.wps h hr (fun s R1 μ1 a1 w1 q1 q2 q3=>SW.wps q1.2 q2 (fun s R2 μ2 a2 w2 p1 p2 p3=>SW.wps p1.2 p2 (fun s R3 μ3 a3 w3 k1 k2 k3=>hn s R3 μ3 a3 w3 k1 k2 ((q3.trans p3).trans k3)) fun e s R3 μ3 a3 w3 k0 k1 k2 k3=>hq e s R3 μ3 a3 w3 k0 k1 k2 ((q3.trans p3).trans k3)) fun e s R2 μ2 a2 w2 p0 p1 p2 p3=>(p0 p1.1).elim) fun e s R1 μ1 a1 w1 q0 q1 q2 q3=>(q0 q1.1).elim
theorem TV.b7I {R:Nat→Nat→Prop}{μ μ':Nat→Nat}{w:World}{v:Value}{ds:List D}(h:TV R μ w v (.cF ds)):TV R μ' w v (.cF ds):=by
 cases h with
 |cF vs ds h1 h2=>exact .cF _ _ h1 h2
theorem a8H (cs:List DV)(F:FuncId)(s:List UInt8)(n e:Int)(he:e≠0)(hlx:CS Tryz.prog G 64 [.str s] (.cF [.aI,.int .i64 n,.int .i64 e]) none):
  CHd Tryz.prog G 32 ⟨[.d (.str s),.xL F [.ptr 100001 0]],[(100001,.cells cs)],[]⟩ (.cF [.int .i64 n,.int .i64 e]):=by
 intro base R μ args w hr;refine calls_of_wp_defers Tryz.func32 rfl ?_
 have hr0:=Rel.frame Tryz.ntmps32 rfl hr;refine SW.c6J (T:=fun e' s'=>e'= .ret∧wJ Tryz.prog s' [.cell 4 3,.cell 5 31]=some (.cF [.int .i64 n,.int .i64 e])) ?h hr0 (fun s' R' μ' a' w' q1 q2 q3=>by cases q1.1) (fun e' s' R' μ' a' w' q0 q1 q2 q3=>?_)
 case h=>
  refine SW.xk ?_
  simp;refine SW.xk ?_
  simp;refine kU.mk qX hlx ?_
  simp;refine SW.xk ?_
  simp [he]
 ·obtain ⟨rfl,hres⟩:=q1;obtain ⟨v,hv1,hv2⟩:=uZ (fn:=Tryz.f32) q2 hres
  show Leaves _ _ _ _ a'.defers _ _
  rw [q2.defers];exact ⟨v,hv1,v,R',rfl,fun μ'=>TV.b7I hv2,q3,q2.kY⟩
abbrev a8I (s:List UInt8)(F:FuncId)(l:List Tok)(H:List (Nat×aR)):St:=⟨[.d (.str s),.xL F [.ptr 100001 0],.undef,.undef,.ptr 4 0,.ptr 5 0,.d (.sl (l.map cC))]++List.replicate 21 .undef,(4,.cells [.d (.int .i64 0)])::(5,.cells [.d (.int .i64 0)])::H,[]⟩
abbrev b9J (p q:Value):Deferred:={ target:= .fn (.func 65) #[p,q],args:= #[] }
theorem a3k {base:cM}{R:Nat→Nat→Prop}{μ:Nat→Nat}{s:List UInt8}{F:FuncId}{l:List Tok}{H:List (Nat×aR)}{a:Act}{w:World}{QQ:Exit→Act→World→Prop}{id:Nat}{all:Array Oper}{y0 y1:TypeId}{p0 p1:String}{f0 f1:Array Edge}{rest:Code}(hall:all= #[⟨some 19,.makeFunc (.func 65) #[] #[.tmp 4,.tmp 5],y0,p0,f0,none⟩,⟨none,.defer { callee:= .value (.tmp 19),args:= #[],argTypes:= #[] },y1,p1,f1,none⟩])(hr:Rel Tryz.prog G base R μ (a8I s F l H) a w)(h:∀a1,Rel Tryz.prog G base R μ (a8I s F l H) a1 w→rest.wp Tryz.prog QQ { a1 with defers:=[b9J (.pointer (some ⟨μ 4,0,none⟩)) (.pointer (some ⟨μ 5,0,none⟩))] } w):(Code.seq (.region id all false) rest).wp Tryz.prog QQ a w:=by
 subst hall;have h4:a.eval (.tmp 4)= .pointer (some ⟨μ 4,0,none⟩):=hr.dJ rfl;have h5:a.eval (.tmp 5)= .pointer (some ⟨μ 5,0,none⟩):=hr.dJ rfl;have hz:a.tmps.size=28:=hr.size;refine wp_seq (wp_region_list ?_);generalize hfv:(Value.func (.func 65) #[] #[.pointer (some ⟨μ 4,0,none⟩),.pointer (some ⟨μ 5,0,none⟩)])=fv;have hr2:=hr.put (dst:=some 19) (v:=fv) (dv:= .undef) (act:= .no) (.undef _) trivial;refine mG (w':=w) (v:=fv) rfl (.inl ?_) rfl ?_
 ·rw [← hfv, ← h4, ← h5]
  show (Instr.makeFunc (.func 65) (#[].map a.eval) (#[.tmp 4,.tmp 5].map a.eval) >>=fun x=>pure (Next.value x):Sem Next).run _ w=_
  simp [Instr.makeFunc,go_sem]
 have h19:(a.put (some 19) fv).eval (.tmp 19)=fv:=cY _ _ (by omega);have hw:∀(o:Oper) y,o.guard=none→Region.wanted o y=true:=fun o y hg=>by unfold Region.wanted;rw [hg]
 unfold wpList;rw [if_pos (hw _ _ rfl)];left;unfold Oper.wp;have e2:(execOp (a.put (some 19) fv).eval ⟨none,.defer { callee:= .value (.tmp 19),args:= #[],argTypes:= #[] },y1,p1,f1,none⟩).run Tryz.prog w= .ok (.defer (b9J (.pointer (some ⟨μ 4,0,none⟩)) (.pointer (some ⟨μ 5,0,none⟩)))) w:=by
  show ((Deferred.ofValue ((a.put (some 19) fv).eval (.tmp 19)) (#[].map (a.put (some 19) fv).eval) >>=fun d=>pure (Next.defer d)):Sem Next).run _ w=_
  rw [h19, ← hfv,Sem.run_bind];simp [Deferred.ofValue,go_sem]
 rw [e2];have hd:(a.put (some 19) fv).defers=[]:=hr2.defers;rw [Oper.upon_defer];unfold wpList;have hfin:finish (a8I s F l H) (some 19) .undef .no=a8I s F l H:=by simp [finish,gK,bZ,oH,List.replicate]
 rw [hfin] at hr2;have:=h (a.put (some 19) fv) hr2;rw [← hd] at this;exact this
end
section
open Go Go.VM
variable {G:GT}
theorem DW.go {P:Program}{ds:List Deferred}{c:Code}{st:St}{Q:Exit→St→Prop}(h:DW P G ds c st Q){base:cM}{R:Nat→Nat→Prop}{μ:Nat→Nat}{a:Act}{w:World}(hr:Rel P G base R μ st a w):c.wp P (fun e a' w'=>∃a0 s R' μ',a'={ a0 with defers:=ds }∧Q e s∧Rel P G base R' μ' s a0 w'∧Step base R w R' w') { a with defers:=ds } w:=h base R μ a w hr
@[simp] theorem c3Y (k:Nat)(ds:List D):ds.map (gK k∘DV.d)=ds.map DV.d:=rfl
@[simp] theorem c3Z (k k':Nat)(ds:List D):ds.map ((gK k∘gK k')∘DV.d)=ds.map DV.d:=rfl
@[simp] theorem c2I:∀ds:List D,WkT (ds.map DV.d) (ds.map DV.d)
 |[]=>by simp
 |d::r=>by have:=c2I r;simp [this]
@[simp] theorem b9K (K:List (Nat×Nat)):∀ds:List D,aK K (ds.map DV.d)=true
 |[]=>by simp [aK]
 |d::r=>by have:=b9K K r;simp [aK,aP,this]
@[simp] theorem b9L:∀ds:List D,c1s (ds.map DV.d) (ds.map DV.d)
 |[]=>by simp
 |d::r=>by have:=b9L r;simp [this]
theorem yD:VM.Enters Tryz.prog 65:=VM.Enters.mk Tryz.func65 rfl
theorem uC {P:Program}{f:FuncId}(he:VM.Enters P f)(args cap:Array Value)(w:World):(invoke (.fn (.func f) cap) args).run P w= .ok (.enter f (args++cap)) w:=by
 obtain ⟨fn,hf1,hf2,hf3⟩:=he;have hf2': ¬fn.body=none:=fun he=>by simp [he] at hf2
 have hf3': ¬fn.name= "runtime.NumGoroutine" :=by simpa using hf3
 simp [invoke,callFunc,hf1,hf2',hf3']
theorem c6K {α:Type}{rdP:List Tok→Nat→Nat→kJ Pr}{l:List Tok}(hV:jX G rdP l)(C:α→List D)(a0 a:α)(j:Nat){F:FuncId}(he:VM.Enters Tryz.prog F){s:List UInt8}(hlx:CS Tryz.prog G 64 [.str s] (.cF [.sl (l.map cC),.int .i64 0,.int .i64 0]) none)(hc:jG G F [.ptr 100000 0,.ptr 100001 0] [(100001,.cells ((C a0).map .d))] [] l 0 (.ok a j) (fun _=> .cF []) (fun a=>[(100001,.cells ((C a).map .d))]))(hj:j<l.length)(hend:xU l j= .ok () j):
  CH Tryz.prog G 32 ⟨[.d (.str s),.xL F [.ptr 100001 0]],[(100001,.cells ((C a0).map .d))],[]⟩ ⟨[.cF [.int .i64 0,.int .i64 0]],[(100001,.cells ((C a).map .d))],[]⟩:=by
 intro base R μ args w hr;refine calls_of_wp_defers Tryz.func32 rfl ?_
 have hr0:=Rel.frame Tryz.ntmps32 rfl hr;refine SW.c6J (T:=fun e' s'=>e'= .normal∧tS s' (a8I s F l [(100001,.cells ((C a0).map .d))])) ?h hr0 (fun s' R' μ' a' w' q1 q2 q3=>?_) (fun e' s' R' μ' a' w' q0 q1 q2 q3=>(q0 q1.1).elim)
 case h=>
  refine SW.xk ?_
  simp;refine SW.xk ?_
  simp;refine kU.mk qX hlx ?_
  simp;refine SW.xk ?_
  simp [List.replicate]
 ·refine a3k rfl (q2.xB q1.2) fun a1 hr1=>?_
  refine wp_mono (DW.go (Q:=fun e s=>e= .ret∧a0U Tryz.prog s [.cell 4 3,.cell 5 31] (.cF [.int .i64 0,.int .i64 0]) [(100001,.cells ((C a).map .d))] []) ?hD hr1) fun e a2 w2 ⟨a3,s3,R3,μ3,h0,⟨h1,h2⟩,h3,h4⟩=>?_
  case hD=>
   refine DW.seq (DW.region ?_);simp [List.replicate];refine DW.seq (DW.region ?_);simp;refine a4k.mk (tY he hc [(100000,22),(100001,100001)] (fun a j hx=>?_) ?_ ?_ ?_ rfl rfl (fun a2 j2 hx=>?_) (fun n e hx=>by cases hx))
   ·simp [aJ,aP,aL,aK,aT,getKey,eF]
   ·simp [aJ,aP,aL,aK,aT,getKey,eF]
   ·simp [aM,aW,rk]
   ·simp [aM,aW,rk,cE,cL,gS]
   ·cases hx;simp [aU,aM,aW,rk,cE,cL,bH,eM,dZ,dC,gS];refine DW.seq (DW.region ?_);simp;refine a4k.mk (tY (X:=[]) (own:=[]) (r:=xU l j) (enc:=fun _=> .cF []) (Y:=fun _=>[]) (av0:=[.ptr 100000 0]) a8x (b0J hV j hj) [(100000,22)] (fun a j hx=>?_) ?_ ?_ ?_ rfl rfl (fun u j2 hx=>?_) (fun n e hx=>by rw [hend] at hx;cases hx))
    ·simp [aJ,aP,aL,aK,aT,getKey,eF]
    ·simp [aJ,aP,aL,aK,aT,getKey,eF]
    ·simp [aM,aW,rk]
    ·simp [aM,aW,rk,cE,cL,gS]
    ·simp [aU,aM,aW,rk,cE,cL,bH,eM,dZ,dC,gS];refine DW.seq (DW.region ?_);simp;exact DW.ret ⟨rfl,by simp⟩
  ·subst h0 h1;have p4:=hr1.dJ (x:= .tmp 4) rfl
   show Leaves _ _ _ _ [b9J _ _] .returning w2
   refine leaves_cons (f:=65) (args:= #[.pointer (some ⟨μ' 4,0,none⟩),.pointer (some ⟨μ' 5,0,none⟩)]) (by simp) (uC yD #[] #[.pointer (some ⟨μ' 4,0,none⟩),.pointer (some ⟨μ' 5,0,none⟩)] w2) ?_
   refine (c2G _ _ w2).mono ?_
   rintro e' u' w'' ⟨rfl,rfl,rfl⟩;unfold a0U at h2;split at h2
   ·rename_i r hres;obtain ⟨v,hv1,hv2⟩:=uZ (fn:=Tryz.f32) h3 hres;exact ⟨v,hv1,v,R3,μ3,rfl,((h3.ret hv1 hv2).c7Y h2.1).d1L h2.2,q3.trans h4⟩
   ·exact h2.elim
end
section
open Go Go.VM
variable {G:GT}
abbrev a1p (x y:Int):List (Nat×aR):=[(4,.cells [.d (.int .i64 x)]),(5,.cells [.d (.int .i64 y)])]
theorem a2x {base:cM}{R:Nat→Nat→Prop}{μ:Nat→Nat}{a:Act}{w:World}{tmps:List DV}{x y:Int}(n e:Int)(hr:Rel Tryz.prog G base R μ ⟨tmps,a1p x y,[]⟩ a w)(h4:tmps[4]? =some (.ptr 4 0))(h5:tmps[5]? =some (.ptr 5 0))(RR:Ending→World→Prop)(hR:∀v R' w',(∀μ',TV R' μ' w' v (.cF [.int .i64 n,.int .i64 e]))→Step base R w R' w'→(∀b o,R' b o→b<w'.heap.size)→RR (.returned v) w'):
  Leaves Tryz.prog Tryz.f32 a.tmps RR [b9J (.pointer (some ⟨μ 4,0,none⟩)) (.pointer (some ⟨μ 5,0,none⟩))] (.panicking (tX (jW n e))) w:=by
 refine leaves_cons (f:=65) (args:= #[.pointer (some ⟨μ 4,0,none⟩),.pointer (some ⟨μ 5,0,none⟩)]) (by simp) (uC yD #[] #[.pointer (some ⟨μ 4,0,none⟩),.pointer (some ⟨μ 5,0,none⟩)] w) ?_
 obtain ⟨base',sub,hrel0,hout⟩:=a8G (s0:=⟨[.ptr 100000 0,.ptr 100001 0],c2H x y,[]⟩) (args:= #[.pointer (some ⟨μ 4,0,none⟩),.pointer (some ⟨μ 5,0,none⟩)]) [(100000,4),(100001,5)] («d3F» :=[.ptr 4 0,.ptr 5 0]) (ls:=[]) (rest:=[]) (by simp [aJ,aP,aL,aK,aT,getKey]) (by simp [aM,aW,rk]) (by simp [aM,aW,rk,cE,cL]) rfl rfl hr rfl (fun i d hd=>by
  match i,hd with
  |0,hd=>simp at hd;subst hd;exact .ptr 4 0
  |1,hd=>simp at hd;subst hd;exact .ptr 5 0) (fun i l h=>by simp at h)
 refine (c6I n e hrel0).mono ?_
 rintro e' u' w' ⟨rfl,rfl,R',μ',a',hr',hs⟩;have hs':Step base R w R' w':=⟨hs.below.mono sub,hs.mono,fun b o h1 h2=>sub b (hs.new b o h1 h2),hs.cells⟩;have m4:μ' 100000=μ 4:=(hr'.pass 100000 (by omega)).trans (hrel0.pass 100000 (by omega)).symm;have m5:μ' 100001=μ 5:=(hr'.pass 100001 (by omega)).trans (hrel0.pass 100001 (by omega)).symm;have hfin:Rel Tryz.prog G base R' μ ⟨tmps,a1p n e,[]⟩ a w':=by
  refine ⟨hr.defers,hr.size,fun i u d hu hd=>(hr.tmps i u d hu hd).bC hs',fun k o hk=>?_,fun k k' o o' hk hk' he'=>?_,(fun c hc=>by cases hc),⟨[],rfl,fun i c v h _=>by simp at h,.nil⟩,hr.qL.bC hs',hr'.kY,fun b hb=>hr.base b (Nat.le_trans hs.below.size hb),hr.pass⟩
  ·simp only [a1p,getKey] at hk;split at hk
   ·rename_i hk4;cases hk;subst hk4;obtain ⟨q1,q2,q3⟩:=hr'.eT 100000 (.cells [.d (.int .i64 n)]) rfl;rw [m4] at q1 q2 q3;exact ⟨sub _ q1,q2,q3.a9R (ν:=μ') (K:=[]) (fun k hk=>by simp at hk) rfl⟩
   ·split at hk
    ·rename_i hk5;cases hk;subst hk5;obtain ⟨q1,q2,q3⟩:=hr'.eT 100001 (.cells [.d (.int .i64 e)]) rfl;rw [m5] at q1 q2 q3;exact ⟨sub _ q1,q2,q3.a9R (ν:=μ') (K:=[]) (fun k hk=>by simp at hk) rfl⟩
    ·cases hk
  ·have one:∀k o,getKey k (a1p n e)=some o→∃o1,getKey k (a1p x y)=some o1:=fun k o h=>by
    simp only [a1p,getKey] at h ⊢;split at h
    ·exact ⟨_,by rw [if_pos (by assumption)]⟩
    ·split at h
     ·exact ⟨_,by rw [if_neg (by assumption),if_pos (by assumption)]⟩
     ·cases h
   obtain ⟨o1,h1⟩:=one k o hk;obtain ⟨o2,h2⟩:=one k' o' hk';exact hr.inj k k' o1 o2 h1 h2 he'
 have hset:settle (.panicking [{ v:=jW n e,recovered:=true }])= .returning:=by simp [settle]
 show Leaves _ _ _ _ [] (settle _) _
 rw [hset];have hres:wJ Tryz.prog ⟨tmps,a1p n e,[]⟩ (Tryz.f32).results.toList=some (.cF [.int .i64 n,.int .i64 e]):=by simp [wJ,h4,h5]
 obtain ⟨v,hv1,hv2⟩:=uZ (fn:=Tryz.f32) hfin hres;exact ⟨v,hv1,hR v R' w' (fun μ'=>TV.b7I hv2) hs' hr'.kY⟩
end
end Go.Proofs.YtjpodcmhcenjjaaGreatDoor
section
namespace Go.VM
open Go Go.RowKit
section
variable {P:Program} {G:GT} {st:St}
theorem uG {a:Act}{dst:Option Tmp}{t:Tmp}(hd:dst≠some t)(v:Value):(a.put dst v).eval (.tmp t)=a.eval (.tmp t):=by
 cases dst with
 |none=>rfl
 |some x=>exact bL _ _ (fun e=>hd (by rw [e]))
theorem c2J {o:Oper}{a:Act}{w:World}{K:Act→World→Prop}{Q:Exit→Act→World→Prop}{t:Tmp}(hd:o.dst≠some t)(h:o.wp P a w K Q):o.wp P a w (fun a' w'=>K a' w'∧a'.eval (.tmp t)=a.eval (.tmp t)) (fun e a' w'=>Q e a' w'∧(e≠ .outgrown→a'.eval (.tmp t)=a.eval (.tmp t))):=by
 unfold Oper.wp at h ⊢;generalize (execOp a.eval o).run P w=r at h ⊢;unfold Oper.upon at h ⊢;split at h
 ·exact ⟨h,uG hd _⟩
 ·exact ⟨h,uG hd _⟩
 ·rename_i d w';exact ⟨h,(uG (a:={ a with defers:=d::a.defers }) hd _).trans rfl⟩
 ·refine h.mono fun e w' hx=>?_
  cases e with
  |returned v=>exact ⟨hx,uG hd _⟩
  |panicked chain=>exact ⟨hx,fun _=>rfl⟩
  |outgrown=>obtain ⟨a0,w0,h0⟩:=hx;exact ⟨a0,w0,h0,fun h=>(h rfl).elim⟩
 ·exact h.mono fun v w' hx=>⟨hx,uG hd _⟩
 ·exact ⟨h,fun _=>rfl⟩
 ·exact h.elim
theorem zL {all:Array Oper}{QQ:Exit→Act→World→Prop}{t:Tmp}:∀(l:List Oper) (a:Act) (w:World),(∀o∈l,o.dst≠some t)→wpList P all QQ l a w→wpList P all (fun e a' w'=>QQ e a' w'∧(e≠ .outgrown→a'.eval (.tmp t)=a.eval (.tmp t))) l a w
 |[],a,w,_,h=>⟨h,fun _=>rfl⟩
 |o::rest,a,w,hd,h=>by
  have h0:=hd o (by simp);have hr:=fun o' (ho:o'∈rest)=>hd o' (by simp [ho])
  have mono:∀(a1:Act) (w1:World),a1.eval (.tmp t)=a.eval (.tmp t)→wpList P all QQ rest a1 w1→wpList P all (fun e a' w'=>QQ e a' w'∧(e≠ .outgrown→a'.eval (.tmp t)=a.eval (.tmp t))) rest a1 w1:=fun a1 w1 he hx=>by
   have:=zL rest a1 w1 hr hx
   rwa [he] at this
  unfold wpList at h ⊢;split at h
  ·rename_i hw;rw [if_pos hw];rcases h with h|⟨h1,a0,w0,h2⟩
   ·exact .inl (Oper.wp_mono (fun a1 w1 hx=>mono a1 w1 hx.2 hx.1) (c2J h0 h))
   ·exact .inr ⟨h1,a0,w0,h2,fun h=>(h rfl).elim⟩
  ·rename_i hw;rw [if_neg hw];exact mono _ _ (uG h0 _) h
theorem DW.frame {ds:List Deferred}{id:Nat}{ops:Array Oper}{Q:Exit→St→Prop}{t u:Tmp}(h:b9I P G ops Q ops.toList st)(ht:∀o∈ops.toList,o.dst≠some t)(hu:∀o∈ops.toList,o.dst≠some u){base:cM}{R:Nat→Nat→Prop}{μ:Nat→Nat}{a:Act}{w:World}(hr:Rel P G base R μ st a w):
  (Code.region id ops false).wp P (fun e a' w'=>((∃a0 s R' μ',a'={ a0 with defers:=ds }∧Q e s∧Rel P G base R' μ' s a0 w'∧Step base R w R' w')∧(e≠ .outgrown→a'.eval (.tmp t)=a.eval (.tmp t)))∧(e≠ .outgrown→a'.eval (.tmp u)=a.eval (.tmp u))) { a with defers:=ds } w:=
 wp_region_list (zL ops.toList _ w hu (zL ops.toList _ w ht (b2y ds ops.toList st h base R μ a w hr _ fun e s a' w' R' μ' q1 q2 q3=>⟨a',s,R',μ',rfl,q1,q2,q3⟩)))
end
end Go.VM
end
namespace Go.Proofs.YtjpodcmhcenjjaaGreatDoor
section
open Go Go.VM
variable {G:GT}
abbrev a8J (s:List UInt8)(F:FuncId)(l:List Tok)(ds:List D):St:=⟨[.d (.str s),.xL F [.ptr 100001 0],.undef,.undef,.ptr 4 0,.ptr 5 0,.undef,.undef,.ptr 22 0]++List.replicate 19 .undef,[(4,.cells [.d (.int .i64 0)]),(5,.cells [.d (.int .i64 0)]),(22,rdO l 0),(100001,.cells (ds.map .d))],[]⟩
theorem c2K {α:Type}{rdP:List Tok→Nat→Nat→kJ Pr}{l:List Tok}(hV:jX G rdP l)(C:α→List D)(a0:α)(n e:Int){F:FuncId}(he:VM.Enters Tryz.prog F){s:List UInt8}(hlx:CS Tryz.prog G 64 [.str s] (.cF [.sl (l.map cC),.int .i64 0,.int .i64 0]) none)(hc:jG G F [.ptr 100000 0,.ptr 100001 0] [(100001,.cells ((C a0).map .d))] [] l 0 (.bad n e:kJ α) (fun _=> .cF []) (fun a=>[(100001,.cells ((C a).map .d))])):
  CHd Tryz.prog G 32 ⟨[.d (.str s),.xL F [.ptr 100001 0]],[(100001,.cells ((C a0).map .d))],[]⟩ (.cF [.int .i64 n,.int .i64 e]):=by
 intro base R μ args w hr;refine calls_of_wp_defers Tryz.func32 rfl ?_
 have hr0:=Rel.frame Tryz.ntmps32 rfl hr;refine SW.c6J (T:=fun e' s'=>e'= .normal∧tS s' (a8I s F l [(100001,.cells ((C a0).map .d))])) ?h hr0 (fun s' R' μ' a' w' q1 q2 q3=>?_) (fun e' s' R' μ' a' w' q0 q1 q2 q3=>(q0 q1.1).elim)
 case h=>
  refine SW.xk ?_
  simp;refine SW.xk ?_
  simp;refine kU.mk qX hlx ?_
  simp;refine SW.xk ?_
  simp [List.replicate]
 ·refine a3k rfl (q2.xB q1.2) fun a1 hr1=>?_
  refine wp_seq (wp_mono (DW.frame (t:=4) (u:=5) (Q:=fun e s'=>e= .normal∧tS s' (a8J s F l (C a0))) ?hD (by decide) (by decide) hr1) fun e2 a2 w2 ⟨⟨⟨a3,s3,R3,μ3,h0,⟨h1,h2⟩,h3,h4⟩,f4⟩,f5⟩=>?_)
  case hD=>simp [List.replicate]
  ·subst h0 h1;have hr3:=h3.xB h2;have f4:a3.eval (.tmp 4)=a1.eval (.tmp 4):=f4 (by simp);have f5:a3.eval (.tmp 5)=a1.eval (.tmp 5):=f5 (by simp);have m4:μ3 4=μ' 4:=by have k1:=hr3.dJ (x:= .tmp 4) (k:=4) (off:=0) rfl;have k2:=hr1.dJ (x:= .tmp 4) (k:=4) (off:=0) rfl;rw [f4,k2] at k1;exact ((Addr.mk.inj (Option.some.inj (Value.pointer.inj k1))).1).symm
   have m5:μ3 5=μ' 5:=by have k1:=hr3.dJ (x:= .tmp 5) (k:=5) (off:=0) rfl;have k2:=hr1.dJ (x:= .tmp 5) (k:=5) (off:=0) rfl;rw [f5,k2] at k1;exact ((Addr.mk.inj (Option.some.inj (Value.pointer.inj k1))).1).symm
   have hz:a3.tmps.size=28:=hr3.size;obtain ⟨vs,hclo,hvs,hvc⟩:=(hr3.jU (x:= .tmp 1) rfl).a3r;obtain ⟨vc,rfl⟩:∃vc,vs= #[vc]:=by
    obtain ⟨L⟩:=vs
    match L,hvs with
    |[x],_=>exact ⟨x,rfl⟩
   have h8:a3.eval (.tmp 8)= .pointer (some ⟨μ3 22,0,none⟩):=hr3.dJ rfl;refine wp_seq (wp_region_list ?_);have hr4:=hr3.put (dst:=some 23) (v:= .func (.func F) #[] #[vc]) (dv:= .undef) (act:= .no) (.undef _) trivial;have hr5:=hr4.put (dst:=some 24) (v:= .pointer (some ⟨μ3 22,0,none⟩)) (dv:= .undef) (act:= .no) (.undef _) trivial;have hfin:finish (finish (a8J s F l (C a0)) (some 23) .undef .no) (some 24) .undef .no=a8J s F l (C a0):=by simp [finish,gK,bZ,oH,List.replicate]
   rw [hfin] at hr5;refine mG (w':=w2) (v:= .func (.func F) #[] #[vc]) rfl (.inl (by show (pure (Next.value (a3.eval (.tmp 1))):Sem Next).run _ w2=_;rw [hclo];rfl)) rfl ?_
   refine mG (w':=w2) (v:= .pointer (some ⟨μ3 22,0,none⟩)) rfl (.inl (by show (pure (Next.value (((a3.put (some 23) (.func (.func F) #[] #[vc]))).eval (.tmp 8))):Sem Next).run _ w2=_;rw [bL _ _ (by decide),h8];rfl)) rfl ?_
   change wpList _ _ _ _ { (a3.put (some 23) (.func (.func F) #[] #[vc])).put (some 24) (.pointer (some ⟨μ3 22,0,none⟩)) with defers:=[b9J (.pointer (some ⟨μ' 4,0,none⟩)) (.pointer (some ⟨μ' 5,0,none⟩))] } w2
   generalize ha5:(a3.put (some 23) (.func (.func F) #[] #[vc])).put (some 24) (.pointer (some ⟨μ3 22,0,none⟩))=a5 at hr5 ⊢;have e23:a5.eval (.tmp 23)= .func (.func F) #[] #[vc]:=by rw [← ha5,bL _ _ (by decide)];exact cY _ _ (by omega)
   have e24:a5.eval (.tmp 24)= .pointer (some ⟨μ3 22,0,none⟩):=by rw [← ha5];exact cY _ _ (by rw [size_put];omega)
   have hd5:a5.defers=[]:=hr5.defers;have hw:∀(o:Oper) y,o.guard=none→Region.wanted o y=true:=fun o y hg=>by unfold Region.wanted;rw [hg]
   unfold wpList;rw [if_pos (hw _ _ rfl)];left;unfold Oper.wp;have e2:∀(o:Oper),o.op= .call { callee:= .value (.tmp 23),args:= #[.tmp 24],argTypes:= #[85] }→(execOp a5.eval o).run Tryz.prog w2= .ok (.enter F (#[.pointer (some ⟨μ3 22,0,none⟩)]++ #[vc])) w2:=fun o ho=>by have hi:=uC he #[.pointer (some ⟨μ3 22,0,none⟩)] #[vc] w2;simp [execOp,ho,resolve,e23,e24,Deferred.ofValue];exact hi
   show Oper.upon _ _ _ _ _ ((execOp a5.eval _).run Tryz.prog w2)
   rw [e2 _ (by rfl),Oper.upon_enter];refine (a3S.b0Z (st:=a8J s F l (C a0)) hc [(100000,22),(100001,100001)] («d3F» :=[.ptr 22 0,.ptr 100001 0]) (ls:=[]) (rest:=[]) (a1p 0 0) (by simp [aJ,aP,aL,aK,aT,getKey]) (by simp [aM,aW,rk]) (by simp [aM,aW,rk,cE,cL,gS]) rfl rfl (fun k o hk=>?_) hr5 rfl (fun i d hd=>?_) (fun i l h=>by simp at h)).mono ?_
   ·simp only [a1p,getKey] at hk;split at hk
    ·rename_i hk4;subst hk4;exact ⟨by simpa [getKey] using hk,by simp [rk]⟩
    ·split at hk
     ·rename_i hk5;subst hk5;exact ⟨by simpa [getKey] using hk,by simp [rk]⟩
     ·cases hk
   ·match i,hd with
    |0,hd=>simp at hd;subst hd;exact (TV.ptr 22 0:TV R3 μ3 w2 (.pointer (some ⟨μ3 22,0,none⟩)) _)
    |1,hd=>simp at hd;subst hd;exact hvc 0 (.ptr 100001 0) rfl
   ·rintro e' w4 ⟨R4,rfl,hr6,hs6⟩;have hP:=a2x n e hr6 rfl rfl (fun en w'=>∃v R',en= .returned v∧(∀μ',TV R' μ' w' v (.cF [.int .i64 n,.int .i64 e]))∧Step base R w R' w'∧∀b o,R' b o→b<w'.heap.size) fun v R7 w7 hv hs7 hb7=>by exact ⟨v,R7,rfl,hv,((q3.trans h4).trans hs6).trans hs7,hb7⟩
    rw [m4,m5] at hP;exact hP
end
section
open Go Go.VM
variable {G:GT}
abbrev b2z (s:List UInt8)(F:FuncId)(l:List Tok)(j:Nat)(ds:List D):St:=⟨[.d (.str s),.xL F [.ptr 100001 0],.undef,.undef,.ptr 4 0,.ptr 5 0,.undef,.undef,.ptr 22 0]++List.replicate 19 .undef,[(4,.cells [.d (.int .i64 0)]),(5,.cells [.d (.int .i64 0)]),(22,rdO l j),(100001,.cells (ds.map .d))],[]⟩
theorem b9M {α:Type}{rdP:List Tok→Nat→Nat→kJ Pr}{l:List Tok}(hV:jX G rdP l)(C:α→List D)(a0 a:α)(j:Nat)(n e:Int){F:FuncId}(he:VM.Enters Tryz.prog F){s:List UInt8}(hlx:CS Tryz.prog G 64 [.str s] (.cF [.sl (l.map cC),.int .i64 0,.int .i64 0]) none)(hc:jG G F [.ptr 100000 0,.ptr 100001 0] [(100001,.cells ((C a0).map .d))] [] l 0 (.ok a j) (fun _=> .cF []) (fun a=>[(100001,.cells ((C a).map .d))]))(hj:j<l.length)(hend:xU l j= .bad n e):
  CHd Tryz.prog G 32 ⟨[.d (.str s),.xL F [.ptr 100001 0]],[(100001,.cells ((C a0).map .d))],[]⟩ (.cF [.int .i64 n,.int .i64 e]):=by
 intro base R μ args w hr;refine calls_of_wp_defers Tryz.func32 rfl ?_
 have hr0:=Rel.frame Tryz.ntmps32 rfl hr;refine SW.c6J (T:=fun e' s'=>e'= .normal∧tS s' (a8I s F l [(100001,.cells ((C a0).map .d))])) ?h hr0 (fun s' R' μ' a' w' q1 q2 q3=>?_) (fun e' s' R' μ' a' w' q0 q1 q2 q3=>(q0 q1.1).elim)
 case h=>
  refine SW.xk ?_
  simp;refine SW.xk ?_
  simp;refine kU.mk qX hlx ?_
  simp;refine SW.xk ?_
  simp [List.replicate]
 ·refine a3k rfl (q2.xB q1.2) fun a1 hr1=>?_
  refine wp_seq (wp_mono (DW.frame (t:=4) (u:=5) (Q:=fun e s'=>e= .normal∧tS s' (a8J s F l (C a0))) ?hD (by decide) (by decide) hr1) fun e2 a2 w2 ⟨⟨⟨a3,s3,R3,μ3,h0,⟨h1,h2⟩,h3,h4⟩,f4⟩,f5⟩=>?_)
  case hD=>simp [List.replicate]
  ·subst h0 h1;have hr3:=h3.xB h2;have f4:a3.eval (.tmp 4)=a1.eval (.tmp 4):=f4 (by simp);have f5:a3.eval (.tmp 5)=a1.eval (.tmp 5):=f5 (by simp);have m4:μ3 4=μ' 4:=by have k1:=hr3.dJ (x:= .tmp 4) (k:=4) (off:=0) rfl;have k2:=hr1.dJ (x:= .tmp 4) (k:=4) (off:=0) rfl;rw [f4,k2] at k1;exact ((Addr.mk.inj (Option.some.inj (Value.pointer.inj k1))).1).symm
   have m5:μ3 5=μ' 5:=by have k1:=hr3.dJ (x:= .tmp 5) (k:=5) (off:=0) rfl;have k2:=hr1.dJ (x:= .tmp 5) (k:=5) (off:=0) rfl;rw [f5,k2] at k1;exact ((Addr.mk.inj (Option.some.inj (Value.pointer.inj k1))).1).symm
   have hz:a3.tmps.size=28:=hr3.size;refine wp_seq (wp_mono (DW.frame (t:=4) (u:=5) (Q:=fun e s'=>e= .normal∧tS s' (b2z s F l j (C a))) ?hD2 (by decide) (by decide) hr3) fun e5 a5 w5 ⟨⟨⟨a6,s6,R6,μ6,h0',⟨h1',h2'⟩,h3',h4'⟩,g4⟩,g5⟩=>?_)
   case hD2=>
    simp [List.replicate];refine a4k.mk (tY he hc [(100000,22),(100001,100001)] (fun a j hx=>?_) ?_ ?_ ?_ rfl rfl (fun a2 j2 hx=>?_) (fun n e hx=>by cases hx))
    ·simp [aJ,aP,aL,aK,aT,getKey,eF]
    ·simp [aJ,aP,aL,aK,aT,getKey,eF]
    ·simp [aM,aW,rk]
    ·simp [aM,aW,rk,cE,cL,gS]
    ·cases hx;simp [aU,aM,aW,rk,cE,cL,bH,eM,dZ,dC,gS]
   ·subst h0' h1';have hr6:=h3'.xB h2';have g4:a6.eval (.tmp 4)=a3.eval (.tmp 4):=g4 (by simp);have g5:a6.eval (.tmp 5)=a3.eval (.tmp 5):=g5 (by simp);have n4:μ6 4=μ' 4:=by have k1:=hr6.dJ (x:= .tmp 4) (k:=4) (off:=0) rfl;have k2:=hr1.dJ (x:= .tmp 4) (k:=4) (off:=0) rfl;rw [g4,f4,k2] at k1;exact ((Addr.mk.inj (Option.some.inj (Value.pointer.inj k1))).1).symm
    have n5:μ6 5=μ' 5:=by have k1:=hr6.dJ (x:= .tmp 5) (k:=5) (off:=0) rfl;have k2:=hr1.dJ (x:= .tmp 5) (k:=5) (off:=0) rfl;rw [g5,f5,k2] at k1;exact ((Addr.mk.inj (Option.some.inj (Value.pointer.inj k1))).1).symm
    have h8:a6.eval (.tmp 8)= .pointer (some ⟨μ6 22,0,none⟩):=hr6.dJ rfl;have hz6:a6.tmps.size=28:=hr6.size;refine wp_seq (wp_region_list ?_);have hr7:=hr6.put (dst:=some 26) (v:= .pointer (some ⟨μ6 22,0,none⟩)) (dv:= .undef) (act:= .no) (.undef _) trivial;have hfin:finish (b2z s F l j (C a)) (some 26) .undef .no=b2z s F l j (C a):=by simp [finish,gK,bZ,oH,List.replicate]
    rw [hfin] at hr7;refine mG (w':=w5) (v:= .pointer (some ⟨μ6 22,0,none⟩)) rfl (.inl (by show (pure (Next.value (a6.eval (.tmp 8))):Sem Next).run _ w5=_;rw [h8];rfl)) rfl ?_
    change wpList _ _ _ _ { a6.put (some 26) (.pointer (some ⟨μ6 22,0,none⟩)) with defers:=[b9J (.pointer (some ⟨μ' 4,0,none⟩)) (.pointer (some ⟨μ' 5,0,none⟩))] } w5
    generalize ha7:a6.put (some 26) (.pointer (some ⟨μ6 22,0,none⟩))=a7 at hr7 ⊢;have e26:a7.eval (.tmp 26)= .pointer (some ⟨μ6 22,0,none⟩):=by rw [← ha7];exact cY _ _ (by omega)
    have hw:∀(o:Oper) y,o.guard=none→Region.wanted o y=true:=fun o y hg=>by unfold Region.wanted;rw [hg]
    unfold wpList;rw [if_pos (hw _ _ rfl)];left;unfold Oper.wp;have e2:∀(o:Oper),o.op= .call { callee:= .value (.func 66),args:= #[.tmp 26],argTypes:= #[85] }→(execOp a7.eval o).run Tryz.prog w5= .ok (.enter 66 (#[.pointer (some ⟨μ6 22,0,none⟩)]++ #[])) w5:=fun o ho=>by
     have hi:=uC a8x #[.pointer (some ⟨μ6 22,0,none⟩)] #[] w5;have e26u:a7.tmps[26]?.getD undef= .pointer (some ⟨μ6 22,0,none⟩):=by simpa [Act.eval] using e26
     simp [execOp,ho,resolve,e26u,Deferred.ofValue,Act.eval] at hi ⊢;exact hi
    show Oper.upon _ _ _ _ _ ((execOp a7.eval _).run Tryz.prog w5)
    rw [e2 _ (by rfl),Oper.upon_enter];have hce:=b0J (G:=G) hV j hj;rw [hend] at hce;refine (a3S.b0Z (st:=b2z s F l j (C a)) hce [(100000,22)] («d3F» :=[.ptr 22 0]) (ls:=[]) (rest:=[]) (a1p 0 0) (by simp [aJ,aP,aL,aK,aT,getKey]) (by simp [aM,aW,rk]) (by simp [aM,aW,rk,cE,cL,gS]) rfl rfl (fun k o hk=>?_) hr7 rfl (fun i d hd=>?_) (fun i l h=>by simp at h)).mono ?_
    ·simp only [a1p,getKey] at hk;split at hk
     ·rename_i hk4;subst hk4;exact ⟨by simpa [getKey] using hk,by simp [rk]⟩
     ·split at hk
      ·rename_i hk5;subst hk5;exact ⟨by simpa [getKey] using hk,by simp [rk]⟩
      ·cases hk
    ·match i,hd with
     |0,hd=>simp at hd;subst hd;exact (TV.ptr 22 0:TV R6 μ6 w5 (.pointer (some ⟨μ6 22,0,none⟩)) _)
    ·rintro e' w8 ⟨R8,rfl,hr8,hs8⟩;have hP:=a2x n e hr8 rfl rfl (fun en w'=>∃v R',en= .returned v∧(∀μ',TV R' μ' w' v (.cF [.int .i64 n,.int .i64 e]))∧Step base R w R' w'∧∀b o,R' b o→b<w'.heap.size) fun v R9 w9 hv hs9 hb9=>by exact ⟨v,R9,rfl,hv,(((q3.trans h4).trans h4').trans hs8).trans hs9,hb9⟩
     rw [n4,n5] at hP;exact hP
end
section
def aB {α:Type}(l:List Tok)(low:Nat)(x:bE α):Prop:=∀(i:Nat) (n e:Int),low≤i→i<l.length→x i= .bad n e→e≠0
section
variable {kw:Nm→Bool} {l:List Tok} {low m:Nat} {α β:Type}
theorem aB.up {x:bE α}{k:Nat}(h:aB l low x)(hk:low≤k):aB l k x:=fun i n e h1 h2 h3=>h i n e (by omega) h2 h3
theorem aB.bI (a:α):aB l low (pure a:bE α):=fun i n e _ _ h=>by cases h
theorem aB.bind {x:bE α}{f:α→bE β}(hx:aB l low x)(ax:aA l m x)(hf:∀a,aB l (low+m) (f a)):aB l low (x >>=f):=fun i n e h1 h2 h3=>by
 rw [hZ] at h3;cases hk:x i with
 |bad n' e'=>rw [hk] at h3;cases h3;exact hx i n e h1 h2 hk
 |ok a j=>rw [hk] at h3;have:=ax i a j h2 hk;exact hf a j n e (by omega) this.2 h3
theorem aB.ite {c:Prop}[Decidable c]{x y:bE α}(hx:aB l low x)(hy:aB l low y):aB l low (if c then x else y):=by
 split
 ·exact hx
 ·exact hy
theorem aB.failed:aB l low (dQ l:bE α):=fun i n e _ _ h=>by unfold dQ at h;cases h;decide
theorem aB.exp (hE:sY l):∀s:List Nm,aB l low (aV l s)
 |[]=>aB.bI ()
 |s::r=>fun i n e h1 h2 h3=>by
  have h3:(if aQ l i s=true then aV l r (i+1) else dQ l i)= .bad n e:=h3;split at h3
  ·rename_i hs;exact aB.exp hE r (i+1) n e (by omega) (aF hE h2 hs) h3
  ·exact aB.failed (low:=low) i n e h1 h2 h3
theorem aB.skip (s:Nm):aB l low (eC l s):=fun i n e _ _ h=>by unfold eC at h;split at h<;>cases h
theorem aB.take (ok:Tok→Bool):aB l low (oI l ok):=fun i n e h1 h2 h=>by
 unfold oI at h;split at h
 ·cases h
 ·exact aB.failed (low:=low) i n e h1 h2 h
theorem aB.loop (hE:sY l){c:Nm}{one:α→bE α}(h0:∀a,aB l low (one a))(a0:∀a,aA l 0 (one a)):∀(g:Nat) (a:α) (i:Nat) (n e:Int),low≤i→i<l.length→l.length<g+i→oJ l c one g a i= .bad n e→e≠0
 |0,a,i,n,e,_,h2,h3,_=>by omega
 |g+1,a,i,n,e,h1,h2,h3,h=>by
  unfold oJ at h;split at h
  ·rename_i n' e' hb;cases h;exact h0 a i n e h1 h2 hb
  ·rename_i b j hb;have:=a0 a i b j h2 hb;split at h
   ·rename_i hs;exact aB.loop hE h0 a0 g b (j+1) n e (by omega) (aF hE this.2 hs) (by omega) h
   ·cases h
theorem aB.list (hE:sY l){c:Nm}{one:α→bE α}(h0:∀a,aB l low (one a))(a0:∀a,aA l 0 (one a))(a:α):aB l low (gR l c one a):=fun i n e h1 h2 h=>aB.loop hE h0 a0 _ a i n e h1 h2 (by omega) h
theorem aB.c1c {c:Nat→Bool}{one:α→bE α}(h0:∀a,aB l low (one a))(a1:∀a i b j,i<l.length→c i=true→one a i= .ok b j→i+1≤j∧j<l.length):∀(g:Nat) (a:α) (i:Nat) (n e:Int),low≤i→i<l.length→l.length<g+i→eE c one g a i= .bad n e→e≠0
 |0,a,i,n,e,_,h2,h3,_=>by omega
 |g+1,a,i,n,e,h1,h2,h3,h=>by
  unfold eE at h;split at h
  ·rename_i hc;split at h
   ·rename_i n' e' hb;cases h;exact h0 a i n e h1 h2 hb
   ·rename_i b j hb;have:=a1 a i b j h2 hc hb;exact aB.c1c h0 a1 g b j n e (by omega) this.2 (by omega) h
  ·cases h
theorem aB.many {c:Nat→Bool}{one:α→bE α}(h0:∀a,aB l low (one a))(a1:∀a i b j,i<l.length→c i=true→one a i= .ok b j→i+1≤j∧j<l.length)(a:α):aB l low (pZ l c one a):=fun i n e h1 h2 h=>aB.c1c h0 a1 _ a i n e h1 h2 (by omega) h
theorem aB.b0 {x:bE α}{f:α→bE β}(hx:aB l low x)(ax:aA l m x)(hf:∀a,aB l low (f a)):aB l low (x >>=f):=aB.bind hx ax fun a=>(hf a).up (by omega)
section
variable {andP:Pr→Pr→Pr} {rdP:List Tok→Nat→Nat→kJ Pr} (hE:sY l) (hB:vI rdP l) (hN:∀i e n x,i<l.length→rdP l i e= .bad n x→x≠0)
include hE
theorem aB.word:aB l low (cA kw l):=aB.take _
theorem aB.title:aB l low (gM l):=aB.take _
theorem aB.sort:aB l low (yT kw l):=aB.take _
theorem aB.words:aB l low (gD kw l):=by unfold gD;exact aB.b0 (aB.exp hE _) (aA.exp hE _ _) fun _=>aB.b0 (aB.list hE (fun a=>aB.b0 (aB.word hE) (aA.word hE) fun _=>aB.bI _) (fun a=>((aA.word hE).le (by omega)).bl fun _=>aA.bI _) _) (aA.list hE (m:=0) (fun a=>((aA.word hE).le (by omega)).bl fun _=>aA.bI _) _) fun _=>aB.b0 (aB.exp hE _) (aA.exp hE _ _) fun _=>aB.bI _
theorem aB.vars (v:Bool):aB l low (rS kw l v):=by
 unfold rS;refine aB.list hE (fun a=>?_) (fun a=>?_) _
 ·refine aB.b0 (m:=0) (aB.ite (aB.skip _) (aB.bI _)) (aA.ite (aA.skip hE _) (aA.bI _)) fun b=>?_
  refine aB.b0 (m:=0) (aB.ite (aB.bI _) (aB.word hE)) (aA.ite (aA.bI _) ((aA.word hE).le (by omega))) fun nm=>?_
  exact aB.b0 (aB.exp hE _) (aA.exp hE _ _) fun _=>aB.b0 (aB.sort hE) (aA.sort hE) fun _=>aB.bI _
 ·refine aA.br (aA.ite (aA.skip hE _) (aA.bI _)) fun b=>?_
  refine aA.br (aA.ite (aA.bI _) ((aA.word hE).le (by omega))) fun nm=>?_
  exact ((aA.exp hE _ _).le (by omega)).bl fun _=>((aA.sort hE).le (by omega)).bl fun _=>aA.bI _
include hN in
omit hE in
theorem aB.pred:aB l low (jM rdP l):=fun i n e h1 h2 h=>hN i _ n e h2 h
omit hE in
theorem aB.base:aB l low (kK kw l):=fun i n e h1 h2 h=>by
 unfold kK at h
 repeat' split at h
 all_goals cases h
end
section
variable {andP:Pr→Pr→Pr} {rdP:List Tok→Nat→Nat→kJ Pr} (hE:sY l) (hB:vI rdP l) (hN:∀i e n x,i<l.length→rdP l i e= .bad n x→x≠0)
include hE hB hN
section
variable {ty:bE Ty} (hty:aB l (low+1) ty) (aty:aA l 1 ty)
include hty aty
theorem aB.c1d:aB l low (tF andP rdP l ty):=by
 unfold tF;refine aB.bind (m:=1) (aB.exp hE _) (aA.exp hE _ _) fun _=>aB.b0 hty aty fun t=>aB.ite aB.failed ?_
 exact aB.b0 (aB.exp hE _) (aA.exp hE _ _) fun _=>aB.b0 (aB.pred hN) hB.pred fun _=>aB.b0 (aB.exp hE _) (aA.exp hE _ _) fun _=>aB.bI _
theorem aB.zA:aB l low (kL kw andP rdP l ty):=by
 unfold kL;refine aB.b0 aB.base (aA.base hE) fun o=>?_
 cases o with
 |some t=>exact aB.bI _
 |none=>
  intro i n e h1 h2 h3;simp only at h3;split at h3
  ·cases h3
  ·split at h3
   ·exact aB.c1d hE hB hN hty aty i n e h1 h2 h3
   ·exact (aB.bind (m:=1) (aB.exp hE _) (aA.exp hE _ _) fun _=>aB.b0 hty aty fun t=>aB.b0 (aB.exp hE _) (aA.exp hE _ _) fun _=>aB.bI _:aB l low _) i n e h1 h2 h3
theorem aB.c1e:aB l low (tV kw andP rdP l ty):=by
 unfold tV;have hs:aB l low (kL kw andP rdP l ty):=aB.zA hE hB hN hty aty;have ash:aA l 1 (kL kw andP rdP l ty):=aA.zA hE (aty.le (by omega)) hB.pred;refine aB.b0 (aB.title hE) (aA.title hE) fun nm=>aB.b0 (aB.many (fun a=>aB.b0 hs ash fun _=>aB.bI _) (fun a i b j hi hc h=>(ash.bl fun _=>aA.bI _) i b j hi h) _) (aA.many (fun a=>(ash.le (by omega)).bl fun _=>aA.bI _) _) fun args=>aB.b0 (aB.skip _) (aA.skip hE _) fun b=>aB.ite ?_ (aB.bI _)
 refine aB.b0 (m:=0) (aB.list hE (fun a=>aB.b0 (aB.exp hE _) (aA.exp hE _ _) fun _=>aB.b0 (aB.pred hN) hB.pred fun _=>aB.bI _) (fun a=>((aA.exp hE _ _).le (by omega)).bl fun _=>hB.pred.bl fun _=>aA.bI _) _) (aA.list hE (fun a=>((aA.exp hE _ _).le (by omega)).bl fun _=>hB.pred.bl fun _=>aA.bI _) _) fun ps=>aB.b0 (aB.exp hE _) (aA.exp hE _ _) fun _=>aB.bI _
theorem aB.c5P:aB l low (yU kw l ty):=by
 unfold yU;have n1:∀out:List Nm×List Ty,aB l (low+1) (do
   let w ← cA kw l
   aV l [[58]]
   let t ← ty
   pure (out.1++[w],out.2++[t]):bE (List Nm×List Ty)):=fun out=>aB.b0 (aB.word hE) (aA.word hE) fun _=>aB.b0 (aB.exp hE _) (aA.exp hE _ _) fun _=>aB.b0 hty aty fun _=>aB.bI _
 have n2:∀out:List Nm×List Ty,aB l (low+1) (do
   let t ← ty
   pure (out.1,out.2++[t]):bE (List Nm×List Ty)):=fun out=>aB.b0 hty aty fun _=>aB.bI _
 have a1:∀out:List Nm×List Ty,aA l 0 (do
   let w ← cA kw l
   aV l [[58]]
   let t ← ty
   pure (out.1++[w],out.2++[t]):bE (List Nm×List Ty)):=fun out=>((aA.word hE).le (by omega)).bl fun _=>((aA.exp hE _ _).le (by omega)).bl fun _=>(aty.le (by omega)).bl fun _=>aA.bI _
 have a2:∀out:List Nm×List Ty,aA l 0 (do
   let t ← ty
   pure (out.1,out.2++[t]):bE (List Nm×List Ty)):=fun out=>(aty.le (by omega)).bl fun _=>aA.bI _
 refine aB.bind (m:=1) (aB.exp hE _) (aA.exp hE _ _) fun _=>aB.b0 (m:=0) (fun i n e h1 h2 h3=>?_) (fun i a j h2 h3=>?_) fun q=>?_
 ·split at h3
  ·exact aB.list hE n1 a1 _ i n e h1 h2 h3
  ·exact aB.list hE n2 a2 _ i n e h1 h2 h3
 ·split at h3
  ·exact aA.list hE a1 _ i a j h2 h3
  ·exact aA.list hE a2 _ i a j h2 h3
 ·obtain ⟨ns,ts⟩:=q;refine aB.b0 (aB.exp hE _) (aA.exp hE _ _) fun _=>fun i n e h1 h2 h3=>?_
  simp only at h3;split at h3
  ·cases h3
  ·exact (aB.b0 (aB.exp hE _) (aA.exp hE _ _) fun _=>aB.b0 hty aty fun _=>aB.bI _:aB l (low+1) _) i n e h1 h2 h3
theorem aB.c5Q:aB l low (vD kw andP rdP l ty):=by
 unfold vD;refine aB.b0 aB.base (aA.base hE) fun o=>?_
 cases o with
 |some t=>exact aB.bI _
 |none=>
  intro i n e h1 h2 h3;simp only at h3;split at h3
  ·exact aB.c1e hE hB hN hty aty i n e h1 h2 h3
  ·split at h3
   ·exact aB.c1d hE hB hN hty aty i n e h1 h2 h3
   ·exact aB.c5P hE hB hN hty aty i n e h1 h2 h3
end
theorem aB.b3N:∀(n:Nat) (low:Nat),l.length<n+low→aB l low (rT kw andP rdP l n)
 |0,low,h=>fun i n e h1 h2 h3=>by omega
 |n+1,low,h=>aB.c5Q hE hB hN (aB.b3N n (low+1) (by omega)) (aA.b3N hE hB.pred n)
theorem aB.typ:aB l low (gW kw andP rdP l):=aB.b3N hE hB hN _ low (by omega)
theorem aB.types:aB l low (wM kw andP rdP l):=by unfold wM;have ht:aB l low (gW kw andP rdP l):=aB.typ hE hB hN;have hta:aA l 1 (gW kw andP rdP l):=aA.typ hE hB.pred;exact aB.b0 (aB.skip _) (aA.skip hE _) fun b=>aB.ite (aB.b0 (m:=0) (aB.list hE (fun a=>aB.b0 ht hta fun _=>aB.bI _) (fun a=>(hta.le (by omega)).bl fun _=>aA.bI _) _) (aA.list hE (fun a=>(hta.le (by omega)).bl fun _=>aA.bI _) _) fun _=>aB.b0 (aB.exp hE _) (aA.exp hE _ _) fun _=>aB.bI _) (aB.bI _)
section
variable {ex:Nat→bE gC} (hx:∀k,aB l (low+1) (ex k)) (ax:∀k,aA l 1 (ex k))
include hx ax
theorem aB.mL:aB l low (mF l ex):=by unfold mF;exact aB.bind (m:=1) (aB.exp hE _) (aA.exp hE _ _) fun _=>aB.b0 (m:=0) (aB.list hE (fun a=>aB.b0 (hx 0) (ax 0) fun _=>aB.bI _) (fun a=>((ax 0).le (by omega)).bl fun _=>aA.bI _) _) (aA.list hE (fun a=>((ax 0).le (by omega)).bl fun _=>aA.bI _) _) fun _=>aB.b0 (aB.exp hE _) (aA.exp hE _ _) fun _=>aB.bI _
theorem aB.c1f (op:Int):aB l low (a0K l ex op):=by unfold a0K;exact aB.bind (m:=1) (aB.exp hE _) (aA.exp hE _ _) fun _=>aB.b0 (hx 0) (ax 0) fun _=>aB.b0 (aB.exp hE _) (aA.exp hE _ _) fun _=>aB.bI _
theorem aB.c9U:aB l (low+1) (a2P kw andP rdP l ex):=by
 unfold a2P;refine aB.b0 (aB.word hE) (aA.word hE) fun _=>aB.b0 (aB.skip _) (aA.skip hE _) fun b=>aB.b0 (m:=0) (aB.ite (aB.b0 (aB.typ hE hB hN) (aA.typ hE hB.pred) fun _=>aB.bI _) (aB.bI _)) (aA.ite (((aA.typ hE hB.pred).le (by omega)).bl fun _=>aA.bI _) (aA.bI _)) fun _=>?_
 exact aB.b0 (aB.exp hE _) (aA.exp hE _ _) fun _=>aB.b0 (hx 0) (ax 0) fun _=>aB.b0 (aB.exp hE _) (aA.exp hE _ _) fun _=>aB.b0 (hx 0) (ax 0) fun _=>aB.bI _
theorem aB.b5R:aB l (low+1) (vE kw l ex):=by
 unfold vE;have aw:aA l 0 (fun i=>if aQ l i [40] then gD kw l i else .ok [] i:bE (List Nm)):=fun i b j hi h=>by
  simp only at h;split at h
  ·exact ((aA.words hE).le (by omega)) _ _ _ hi h
  ·cases h;omega
 have nw:aB l (low+1) (fun i=>if aQ l i [40] then gD kw l i else .ok [] i:bE (List Nm)):=fun i n e h1 h2 h=>by
  simp only at h;split at h
  ·exact aB.words hE (low:=low+1) i n e h1 h2 h
  ·cases h
 refine aB.b0 (hx 0) (ax 0) fun _=>aB.b0 (aB.exp hE _) (aA.exp hE _ _) fun _=>aB.b0 (m:=0) (aB.list hE (fun a=>?_) (fun a=>?_) _) (aA.list hE (fun a=>?_) _) fun _=>aB.b0 (aB.exp hE _) (aA.exp hE _ _) fun _=>aB.bI _
 ·exact aB.b0 (aB.title hE) (aA.title hE) fun _=>aB.b0 nw aw fun _=>aB.b0 (aB.exp hE _) (aA.exp hE _ _) fun _=>aB.b0 (hx 0) (ax 0) fun _=>aB.bI _
 all_goals exact ((aA.title hE).le (by omega)).bl fun _=>aw.bl fun _=>((aA.exp hE _ _).le (by omega)).bl fun _=>((ax 0).le (by omega)).bl fun _=>aA.bI _
theorem aB.c9V:aB l (low+1) (a2Q kw andP rdP l ex):=by
 unfold a2Q;refine aB.b0 (aB.exp hE _) (aA.exp hE _ _) fun _=>aB.b0 (m:=0) (aB.list hE (fun a=>?_) (fun a=>?_) _) (aA.list hE (fun a=>?_) _) fun _=>aB.b0 (aB.exp hE _) (aA.exp hE _ _) fun _=>aB.b0 (hx 0) (ax 0) fun _=>aB.bI _
 ·exact aB.b0 (aB.word hE) (aA.word hE) fun _=>aB.b0 (aB.skip _) (aA.skip hE _) fun _=>aB.b0 (m:=0) (aB.ite (aB.typ hE hB hN) (aB.bI _)) (aA.ite ((aA.typ hE hB.pred).le (by omega)) (aA.bI _)) fun _=>aB.bI _
 all_goals exact ((aA.word hE).le (by omega)).bl fun _=>(aA.skip hE _).bl fun _=>aA.bl (aA.ite ((aA.typ hE hB.pred).le (by omega)) (aA.bI _)) fun _=>aA.bI _
theorem aB.b1x:aB l low (rU kw andP rdP l ex):=by
 unfold rU;refine aB.bind (m:=1) (aB.exp hE _) (aA.exp hE _ _) fun _=>fun i n e h1 h2 h=>?_
 split at h
 ·cases h
 ·exact (aB.b0 (hx 0) (ax 0) fun _=>aB.b0 (aB.skip _) (aA.skip hE _) fun _=>aB.b0 (m:=0) (aB.ite (aB.b0 (aB.typ hE hB hN) (aA.typ (kw:=kw) (andP:=andP) hE hB.pred) fun _=>aB.bI _) (aB.bI _)) (aA.ite (((aA.typ hE hB.pred).le (by omega)).bl fun _=>aA.bI _) (aA.bI _)) fun _=>aB.b0 (aB.exp hE _) (aA.exp hE _ _) fun _=>aB.bI _:aB l (low+1) _) i n e h1 h2 h
theorem aB.c1g:aB l low (yV kw andP rdP l ex):=fun i n e h1 h2 h=>by
 unfold yV at h;split at h
 ·cases h
 split at h
 ·cases h
 split at h
 ·cases h
 split at h
 ·rename_i hs;exact aB.c1f hE hB hN hx ax 22 (i+1) n e (by omega) (aF hE h2 hs) h
 split at h
 ·rename_i hs;exact aB.c1f hE hB hN hx ax 23 (i+1) n e (by omega) (aF hE h2 hs) h
 split at h
 ·rename_i hs;exact (aB.b0 (aB.exp hE _) (aA.exp hE _ _) fun _=>aB.b0 (hx 0) (ax 0) fun _=>aB.b0 (aB.exp hE _) (aA.exp hE _ _) fun _=>aB.b0 (hx 0) (ax 0) fun _=>aB.b0 (aB.exp hE _) (aA.exp hE _ _) fun _=>aB.bI _:aB l (low+1) _) (i+1) n e (by omega) (aF hE h2 hs) h
 split at h
 ·rename_i hs;have hn:i+1<l.length:=pN hE h2 (by unfold pF at hs;simp only [d3H,decide_eq_true_eq] at hs;omega);split at h
  ·cases h
  ·exact (aB.b0 (aB.types hE hB hN) (aA.types hE hB.pred) fun _=>aB.b0 (aB.mL hE hB hN hx ax) (aA.mL hE ax) fun _=>aB.bI _:aB l low _) (i+1) n e (by omega) hn h
 split at h
 ·rename_i hs;have hn:i+1<l.length:=pN hE h2 (by unfold pY at hs;simp only [decide_eq_true_eq] at hs;omega);refine (aB.b0 (aB.types hE hB hN) (aA.types hE hB.pred) fun _=>aB.b0 (m:=0) (fun i n e h1 h2 h=>?_) (fun i b j hi h=>?_) fun _=>aB.bI _:aB l low _) (i+1) n e (by omega) hn h
  ·split at h
   ·exact aB.mL hE hB hN hx ax i n e h1 h2 h
   ·cases h
  ·split at h
   ·exact ((aA.mL hE ax).le (by omega)) _ _ _ hi h
   ·cases h;omega
 ·exact aB.b1x hE hB hN hx ax i n e h1 h2 h
theorem aB.unG:aB l low (a3L kw andP rdP l ex):=fun i n e h1 h2 h=>by
 unfold a3L at h;split at h
 ·rename_i hs;exact (aB.b0 (hx 7) (ax 7) fun _=>aB.bI _:aB l (low+1) _) (i+1) n e (by omega) (aF hE h2 hs) h
 ·exact aB.c1g hE hB hN hx ax i n e h1 h2 h
omit hx ax hB hN in
theorem aB.chain {ops:List (Nm×Int)}{one:bE gC}(h0:aB l low one)(a0:aA l 0 one):∀(g:Nat) (e0:gC) (i:Nat) (n e:Int),low≤i→i<l.length→l.length<g+i→eW l ops one g e0 i= .bad n e→e≠0
 |0,e0,i,n,e,_,h2,h3,_=>by omega
 |g+1,e0,i,n,e,h1,h2,h3,h=>by
  unfold eW at h;split at h
  ·cases h
  ·rename_i p hp;have hs:aQ l i p.1=true:=by simpa using List.find?_some hp
   have hn:=aF hE h2 hs;split at h
   ·rename_i n' e' hb;cases h;exact h0 (i+1) n e (by omega) hn hb
   ·rename_i x j hb;have:=a0 (i+1) x j hn hb;exact aB.chain h0 a0 g _ j n e (by omega) this.2 (by omega) h
omit hx ax hB hN in
theorem aB.lvl {ops:List (Nm×Int)}{one:bE gC}(h0:aB l low one)(a1:aA l 1 one):aB l low (zW l ops one):=by unfold zW;exact aB.b0 h0 a1 fun e0=>fun i n e h1 h2 h=>aB.chain hE h0 (a1.le (by omega)) _ e0 i n e h1 h2 (by omega) h
theorem aB.a5W:aB l low (kM kw andP rdP l ex):=aB.lvl hE (aB.lvl hE (aB.unG hE hB hN hx ax) (aA.unG hE ax hB.pred)) (aA.c1h hE ax hB.pred)
theorem aB.a7v:aB l low (a2R kw andP rdP l ex):=by
 unfold a2R;have hs:aB l low (kM kw andP rdP l ex):=aB.a5W hE hB hN hx ax;have ha:aA l 1 (kM kw andP rdP l ex):=aA.a5W hE ax hB.pred;have one:∀(f:gC→gC) (i:Nat) (n e:Int) (w:Nm),low≤i→i<l.length→aQ l i w=true→(kM kw andP rdP l ex >>=fun x=>pure (f x)) (i+1)= .bad n e→e≠0:=fun f i n e w h1 h2 hw h=>(aB.b0 hs ha fun _=>aB.bI _:aB l low _) (i+1) n e (by omega) (aF hE h2 hw) h
 refine aB.b0 hs ha fun e0=>fun i n e h1 h2 h=>?_
 split at h
 ·rename_i hw;exact one _ i n e _ h1 h2 hw h
 split at h
 ·rename_i hw;exact one _ i n e _ h1 h2 hw h
 split at h
 ·rename_i hw;exact one _ i n e _ h1 h2 hw h
 split at h
 ·rename_i hw;exact one _ i n e _ h1 h2 hw h
 split at h
 ·rename_i hw;exact one _ i n e _ h1 h2 hw h
 split at h
 ·rename_i hw;exact one _ i n e _ h1 h2 hw h
 ·cases h
theorem aB.b1y:aB l low (yW kw andP rdP l ex):=fun i n e h1 h2 h=>by
 unfold yW at h;split at h
 ·rename_i hs;exact (aB.b0 (hx 3) (ax 3) fun _=>aB.bI _:aB l (low+1) _) (i+1) n e (by omega) (aF hE h2 hs) h
 ·exact aB.a7v hE hB hN hx ax i n e h1 h2 h
theorem aB.orG:aB l low (b3M kw andP rdP l ex):=aB.lvl hE (aB.lvl hE (aB.b1y hE hB hN hx ax) (aA.b1y hE ax hB.pred)) (aA.lvl hE (aA.b1y hE ax hB.pred))
theorem aB.exG:aB l low (a7t kw andP rdP l ex):=fun i n e h1 h2 h=>by
 unfold a7t at h;split at h
 ·rename_i hs;exact aB.c9U hE hB hN hx ax (i+1) n e (by omega) (aF hE h2 hs) h
 split at h
 ·rename_i hs;exact (aB.b0 (hx 0) (ax 0) fun _=>aB.b0 (aB.exp hE _) (aA.exp hE _ _) fun _=>aB.b0 (hx 0) (ax 0) fun _=>aB.b0 (aB.exp hE _) (aA.exp hE _ _) fun _=>aB.b0 (hx 0) (ax 0) fun _=>aB.bI _:aB l (low+1) _) (i+1) n e (by omega) (aF hE h2 hs) h
 split at h
 ·rename_i hs;exact aB.b5R hE hB hN hx ax (i+1) n e (by omega) (aF hE h2 hs) h
 split at h
 ·rename_i hs;exact aB.c9V hE hB hN hx ax (i+1) n e (by omega) (aF hE h2 hs) h
 split at h
 ·rename_i hs;exact (aB.b0 (aB.word hE) (aA.word hE) fun _=>aB.b0 ((aB.mL hE hB hN hx ax).up (by omega)) (aA.mL hE ax) fun _=>aB.b0 (aB.exp hE _) (aA.exp hE _ _) fun _=>aB.b0 (hx 0) (ax 0) fun _=>aB.bI _:aB l (low+1) _) (i+1) n e (by omega) (aF hE h2 hs) h
 ·exact aB.orG hE hB hN hx ax i n e h1 h2 h
end
theorem aB.exF:∀(n:Nat) (low:Nat),l.length<n+low→∀k,aB l low (vF kw andP rdP l n k)
 |0,low,h,k=>fun i n e h1 h2 h3=>by omega
 |n+1,low,h,k=>by
  have hx:=aB.exF n (low+1) (by omega);have ax:=aA.exF (kw:=kw) (andP:=andP) hE hB.pred n;unfold vF;split
  ·exact aB.unG hE hB hN hx ax
  ·split
   ·exact aB.b1y hE hB hN hx ax
   ·exact aB.exG hE hB hN hx ax
theorem aB.expr:aB l low (a2S kw andP rdP l):=aB.exF hE hB hN _ low (by omega) 0
end
end
end
section
section
variable {kw:Nm→Bool} {l:List Tok} {low m:Nat} {α β:Type}
variable {andP:Pr→Pr→Pr} {rdP:List Tok→Nat→Nat→kJ Pr} (hE:sY l) (hB:vI rdP l) (hN:∀i e n x,i<l.length→rdP l i e= .bad n x→x≠0)
include hE
theorem aB.vC:aB l low (sH kw l):=by unfold sH;exact aB.list hE (fun a=>aB.b0 (aB.title hE) (aA.title hE) fun _=>aB.b0 (aB.word hE) (aA.word hE) fun _=>aB.bI _) (fun a=>((aA.title hE).le (by omega)).bl fun _=>((aA.word hE).le (by omega)).bl fun _=>aA.bI _) _
theorem b0S (a:List Nm)(i:Nat)(b:List Nm)(j:Nat)(hi:i<l.length)(h:(do let w ← cA kw l;pure (a++[w]):bE (List Nm)) i= .ok b j):i+1≤j∧j<l.length:=((aA.word hE).bl fun _=>aA.bI _:aA l 1 _) i b j hi h
theorem aB.head (mode:Int):aB l low (yX kw l mode):=by
 unfold yX;refine aB.b0 (aB.word hE) (aA.word hE) fun nm=>aB.b0 (m:=0) (fun i n e h1 h2 h=>?_) (fun i a j hi h=>?_) fun _=>aB.bI _
 ·split at h
  ·split at h
   ·cases h
   ·exact aB.words hE (low:=low) i n e h1 h2 h
  ·cases h
 ·split at h
  ·rename_i hs;have h1:=aF hE hi hs;split at h
   ·rename_i hf;have h2:=pN hE h1 (vH hE hf);cases h;omega
   ·exact ((aA.words hE).le (by omega)) _ _ _ hi h
  ·cases h;omega
include hB hN
theorem aB.bound:aB l low (sI kw rdP l):=by unfold sI;exact aB.b0 (aB.word hE) (aA.word hE) fun _=>aB.b0 (aB.exp hE _) (aA.exp hE _ _) fun _=>aB.b0 (aB.vars hE _) (aA.vars hE _) fun _=>aB.b0 (aB.exp hE _) (aA.exp hE _ _) fun _=>aB.b0 (aB.pred hN) hB.pred fun _=>aB.b0 (aB.exp hE _) (aA.exp hE _ _) fun _=>aB.b0 (aB.pred hN) hB.pred fun _=>aB.b0 (aB.exp hE _) (aA.exp hE _ _) fun _=>aB.bI _
theorem aB.con:aB l low (a5B kw andP rdP l):=by
 unfold a5B;have n1:∀out:List Nm×List Ty,aB l low (do
   let w ← cA kw l
   aV l [[58]]
   let t ← gW kw andP rdP l
   pure (out.1++[w],out.2++[t]):bE (List Nm×List Ty)):=fun out=>aB.b0 (aB.word hE) (aA.word hE) fun _=>aB.b0 (aB.exp hE _) (aA.exp hE _ _) fun _=>aB.b0 (aB.typ hE hB hN) (aA.typ hE hB.pred) fun _=>aB.bI _
 have a1:∀out:List Nm×List Ty,aA l 0 (do
   let w ← cA kw l
   aV l [[58]]
   let t ← gW kw andP rdP l
   pure (out.1++[w],out.2++[t]):bE (List Nm×List Ty)):=fun out=>((aA.word hE).le (by omega)).bl fun _=>((aA.exp hE _ _).le (by omega)).bl fun _=>((aA.typ hE hB.pred).le (by omega)).bl fun _=>aA.bI _
 exact aB.b0 (aB.title hE) (aA.title hE) fun _=>aB.b0 (aB.skip _) (aA.skip hE _) fun _=>aB.ite (aB.b0 (m:=0) (aB.list hE n1 a1 _) (aA.list hE a1 _) fun _=>aB.b0 (aB.exp hE _) (aA.exp hE _ _) fun _=>aB.bI _) (aB.bI _)
theorem aB.data:aB l low (yZ kw andP rdP l):=by
 unfold yZ;refine aB.b0 (aB.title hE) (aA.title hE) fun _=>aB.b0 (m:=0) (aB.many (fun a=>aB.b0 (aB.word hE) (aA.word hE) fun _=>aB.bI _) (fun a i b j hi _ h=>b0S hE a i b j hi h) _) (aA.many (fun a=>((aA.word hE).le (by omega)).bl fun _=>aA.bI _) _) fun _=>aB.b0 (aB.skip _) (aA.skip hE _) fun _=>?_
 refine aB.b0 (m:=0) (aB.ite (aB.b0 (aB.vars hE _) (aA.vars hE _) fun _=>aB.b0 (aB.exp hE _) (aA.exp hE _ _) fun _=>aB.bI _) (aB.bI _)) (aA.ite (((aA.vars hE _).le (by omega)).bl fun _=>((aA.exp hE _ _).le (by omega)).bl fun _=>aA.bI _) (aA.bI _)) fun _=>aB.b0 (aB.exp hE _) (aA.exp hE _ _) fun _=>?_
 exact aB.b0 (m:=0) (aB.list hE (fun a=>aB.b0 (aB.con hE hB hN) (aA.con hE hB.pred) fun _=>aB.bI _) (fun a=>((aA.con hE hB.pred).le (by omega)).bl fun _=>aA.bI _) _) (aA.list hE (fun a=>((aA.con hE hB.pred).le (by omega)).bl fun _=>aA.bI _) _) fun _=>aB.bI _
theorem aB.cls:aB l low (tW kw andP rdP l):=by
 unfold tW;have n1:∀out:List (Nm×Ty),aB l low (do
   let w ← cA kw l
   aV l [[58]]
   let t ← gW kw andP rdP l
   pure (out++[(w,t)]):bE (List (Nm×Ty))):=fun out=>aB.b0 (aB.word hE) (aA.word hE) fun _=>aB.b0 (aB.exp hE _) (aA.exp hE _ _) fun _=>aB.b0 (aB.typ hE hB hN) (aA.typ hE hB.pred) fun _=>aB.bI _
 have a1:∀out:List (Nm×Ty),aA l 0 (do
   let w ← cA kw l
   aV l [[58]]
   let t ← gW kw andP rdP l
   pure (out++[(w,t)]):bE (List (Nm×Ty))):=fun out=>((aA.word hE).le (by omega)).bl fun _=>((aA.exp hE _ _).le (by omega)).bl fun _=>((aA.typ hE hB.pred).le (by omega)).bl fun _=>aA.bI _
 exact aB.b0 (aB.title hE) (aA.title hE) fun _=>aB.b0 (aB.word hE) (aA.word hE) fun _=>aB.b0 (aB.exp hE _) (aA.exp hE _ _) fun _=>aB.b0 (m:=0) (aB.list hE n1 a1 _) (aA.list hE a1 _) fun _=>aB.bI _
theorem aB.c1i:aB l low (a0M kw rdP l):=by
 unfold a0M;have aw:aA l 0 (fun i=>if aQ l i [40] then gD kw l i else .ok [] i:bE (List Nm)):=fun i b j hi h=>by
  simp only at h;split at h
  ·exact ((aA.words hE).le (by omega)) _ _ _ hi h
  ·cases h;omega
 have nw:aB l low (fun i=>if aQ l i [40] then gD kw l i else .ok [] i:bE (List Nm)):=fun i n e h1 h2 h=>by
  simp only at h;split at h
  ·exact aB.words hE (low:=low) i n e h1 h2 h
  ·cases h
 refine aB.b0 (aB.word hE) (aA.word hE) fun _=>aB.b0 (aB.exp hE _) (aA.exp hE _ _) fun _=>aB.b0 (aB.title hE) (aA.title hE) fun _=>aB.b0 (aB.exp hE _) (aA.exp hE _ _) fun _=>aB.b0 (aB.sort hE) (aA.sort hE) fun _=>aB.b0 (aB.exp hE _) (aA.exp hE _ _) fun _=>?_
 refine aB.b0 (m:=0) (aB.list hE (fun a=>?_) (fun a=>?_) _) (aA.list hE (fun a=>?_) _) fun _=>aB.b0 (aB.exp hE _) (aA.exp hE _ _) fun _=>aB.b0 (aB.skip _) (aA.skip hE _) fun _=>aB.b0 (m:=0) (aB.ite (aB.pred hN) (aB.bI _)) (aA.ite hB.pred (aA.bI _)) fun _=>aB.bI _
 ·exact aB.b0 (aB.title hE) (aA.title hE) fun _=>aB.b0 nw aw fun _=>aB.b0 (aB.exp hE _) (aA.exp hE _ _) fun _=>aB.b0 (aB.pred hN) hB.pred fun _=>aB.bI _
 all_goals exact ((aA.title hE).le (by omega)).bl fun _=>aw.bl fun _=>((aA.exp hE _ _).le (by omega)).bl fun _=>hB.pred.bl fun _=>aA.bI _
theorem aB.c1j:aB l low (a0N kw rdP l):=by unfold a0N;exact aB.b0 (aB.word hE) (aA.word hE) fun _=>aB.b0 (aB.exp hE _) (aA.exp hE _ _) fun _=>aB.b0 (aB.vars hE _) (aA.vars hE _) fun _=>aB.b0 (aB.exp hE _) (aA.exp hE _ _) fun _=>aB.b0 (aB.pred hN) hB.pred fun _=>aB.bI _
theorem aB.body (d:jJ):aB l low (yY kw andP rdP l d):=by unfold yY;exact aB.b0 (aB.exp hE _) (aA.exp hE _ _) fun _=>aB.b0 (aB.expr hE hB hN) (aA.expr hE hB.pred) fun _=>aB.bI _
theorem aB.sig:aB l low (zX kw andP rdP l):=by
 unfold zX;refine aB.b0 (aB.skip _) (aA.skip hE _) fun b=>aB.b0 (m:=0) (aB.ite (aB.b0 (aB.word hE) (aA.word hE) fun _=>aB.b0 (m:=0) (aB.many (fun a=>aB.b0 (aB.word hE) (aA.word hE) fun _=>aB.bI _) (fun a i b j hi _ h=>b0S hE a i b j hi h) _) (aA.many (fun a=>((aA.word hE).le (by omega)).bl fun _=>aA.bI _) _) fun _=>aB.b0 (aB.exp hE _) (aA.exp hE _ _) fun _=>aB.bI _) (aB.bI _)) (aA.ite (((aA.word hE).le (by omega)).bl fun _=>(aA.many (fun a=>((aA.word hE).le (by omega)).bl fun _=>aA.bI _) _).bl fun _=>((aA.exp hE _ _).le (by omega)).bl fun _=>aA.bI _) (aA.bI _)) fun _=>?_
 refine aB.b0 (aB.skip _) (aA.skip hE _) fun b=>aB.b0 (m:=0) (aB.ite (aB.b0 (aB.vC hE) (aA.vC hE) fun _=>aB.b0 (aB.exp hE _) (aA.exp hE _ _) fun _=>aB.bI _) (aB.bI _)) (aA.ite (((aA.vC hE).le (by omega)).bl fun _=>((aA.exp hE _ _).le (by omega)).bl fun _=>aA.bI _) (aA.bI _)) fun _=>?_
 refine aB.b0 (aB.skip _) (aA.skip hE _) fun b=>aB.b0 (m:=0) (aB.ite (aB.b0 (aB.vars hE _) (aA.vars hE _) fun _=>aB.b0 (aB.exp hE _) (aA.exp hE _ _) fun _=>aB.bI _) (aB.bI _)) (aA.ite (((aA.vars hE _).le (by omega)).bl fun _=>((aA.exp hE _ _).le (by omega)).bl fun _=>aA.bI _) (aA.bI _)) fun _=>?_
 refine aB.b0 (m:=0) (aB.many (fun a=>aB.b0 (aB.exp hE _) (aA.exp hE _ _) fun _=>aB.b0 (aB.bound hE hB hN) (aA.bound hE hB.pred) fun _=>aB.bI _) (fun a i b j hi _ h=>((aA.exp hE _ _).bl fun _=>((aA.bound hE hB.pred).le (by omega)).bl fun _=>aA.bI _:aA l 1 _) i b j hi h) _) (aA.many (fun a=>((aA.exp hE _ _).le (by omega)).bl fun _=>((aA.bound hE hB.pred).le (by omega)).bl fun _=>aA.bI _) _) fun _=>?_
 have am:∀(i0:Nat) (a:List Pr),aA l 0 (do
  let p ← (fun j=>rdP l j (sX l (l.length+1) 0 i0):bE Pr)
  pure (a++[p]):bE (List Pr)):=fun i0 a=>aA.bl (m:=0) (fun i' p j' hi' h'=>by have:=hB _ _ _ _ hi' h';omega) fun _=>aA.bI _
 have nm:∀(i0:Nat) (a:List Pr),aB l low (do
  let p ← (fun j=>rdP l j (sX l (l.length+1) 0 i0):bE Pr)
  pure (a++[p]):bE (List Pr)):=fun i0 a=>aB.b0 (m:=0) (fun i' n e _ h2 h=>hN _ _ n e h2 h) (fun i' p j' hi' h'=>by have:=hB _ _ _ _ hi' h';omega) fun _=>aB.bI _
 refine aB.b0 (aB.typ hE hB hN) (aA.typ hE hB.pred) fun _=>aB.b0 (aB.skip _) (aA.skip hE _) fun b=>aB.b0 (m:=0) (aB.ite (fun i n e h1 h2 h=>?_) (aB.bI _)) (aA.ite (fun i a j hi h=>?_) (aA.bI _)) fun _=>aB.bI _
 ·exact aB.list hE (nm i) (am i) _ i n e h1 h2 h
 ·exact aA.list hE (am i) _ i a j hi h
theorem aB.defn:aB l low (vG kw andP rdP l):=fun i n e h1 h2 h=>by
 unfold vG at h;have asig:aA l 1 (zX kw andP rdP l):=aA.sig hE hB;split at h
 ·rename_i hs;refine (aB.b0 (aB.head hE _) (aA.head hE _) fun _=>aB.b0 (aB.skip _) (aA.skip hE _) fun _=>aB.b0 (m:=0) (aB.ite (aB.b0 (aB.sig hE hB hN) asig fun _=>aB.bI _) (aB.bI _)) (aA.ite ((asig.le (by omega:0≤1)).bl fun _=>aA.bI _) (aA.bI _)) fun _=>aB.body hE hB hN _:aB l low _) (i+1) n e (by omega) (aF hE h2 hs) h
 split at h
 ·rename_i hs;exact (aB.b0 (aB.head hE _) (aA.head hE _) fun _=>aB.b0 (aB.exp hE _) (aA.exp hE _ _) fun _=>aB.b0 (aB.sig hE hB hN) asig fun _=>aB.bI _:aB l low _) (i+1) n e (by omega) (aF hE h2 hs) h
 split at h
 ·rename_i hs;exact (aB.b0 (aB.head hE _) (aA.head hE _) fun _=>aB.b0 (aB.exp hE _) (aA.exp hE _ _) fun _=>aB.b0 (aB.sig hE hB hN) asig fun _=>aB.body hE hB hN _:aB l low _) (i+1) n e (by omega) (aF hE h2 hs) h
 ·cases h
theorem aB.inst:aB l low (a0L kw andP rdP l):=by
 unfold a0L;have n1:∀ds:List jJ,aB l low (do
  let d ← vG kw andP rdP l
  aV l [[59]]
  pure (ds++[d.getD ⟨[],[],a0c,0,false,a5V⟩]):bE (List jJ)):=fun ds=>aB.b0 (m:=0) (aB.defn hE hB hN) (aA.b5S hE hB) fun _=>aB.b0 (aB.exp hE _) (aA.exp hE _ _) fun _=>aB.bI _
 have a1:∀ds:List jJ,aA l 1 (do
  let d ← vG kw andP rdP l
  aV l [[59]]
  pure (ds++[d.getD ⟨[],[],a0c,0,false,a5V⟩]):bE (List jJ)):=fun ds=>aA.br (aA.b5S hE hB) fun _=>(aA.exp hE _ _).bl fun _=>aA.bI _
 refine aB.b0 (aB.title hE) (aA.title hE) fun _=>aB.b0 (aB.zA hE hB hN (aB.typ hE hB hN) (aA.typ hE hB.pred)) (aA.zA hE ((aA.typ hE hB.pred).le (by omega)) hB.pred) fun _=>aB.b0 (aB.skip _) (aA.skip hE _) fun _=>aB.b0 (m:=0) (aB.ite (aB.vC hE) (aB.bI _)) (aA.ite ((aA.vC hE).le (by omega)) (aA.bI _)) fun _=>aB.b0 (aB.exp hE _) (aA.exp hE _ _) fun _=>?_
 exact aB.b0 (m:=0) (aB.many n1 (fun a i b j hi _ h=>a1 a i b j hi h) _) (aA.many (fun a=>(a1 a).le (by omega)) _) fun _=>aB.b0 (aB.exp hE _) (aA.exp hE _ _) fun _=>aB.bI _
theorem aB.decl (m:jK):aB l low (rV kw andP rdP l m):=fun i n e h1 h2 h=>by
 unfold rV at h;split at h
 ·rename_i hs;exact (aB.b0 (aB.data hE hB hN) (aA.data hE hB.pred) fun _=>aB.bI _:aB l low _) (i+1) n e (by omega) (aF hE h2 hs) h
 split at h
 ·rename_i hs;exact (aB.b0 (aB.cls hE hB hN) (aA.cls hE hB.pred) fun _=>aB.bI _:aB l low _) (i+1) n e (by omega) (aF hE h2 hs) h
 split at h
 ·rename_i hs;exact (aB.b0 (aB.inst hE hB hN) (aA.inst hE hB) fun _=>aB.bI _:aB l low _) (i+1) n e (by omega) (aF hE h2 hs) h
 split at h
 ·rename_i hs;exact (aB.b0 (aB.c1i hE hB hN) (aA.c1i hE hB.pred) fun _=>aB.bI _:aB l low _) (i+1) n e (by omega) (aF hE h2 hs) h
 split at h
 ·rename_i hs;exact (aB.b0 (aB.c1j hE hB hN) (aA.c1j hE hB.pred) fun _=>aB.bI _:aB l low _) (i+1) n e (by omega) (aF hE h2 hs) h
 refine (aB.b0 (m:=0) (aB.defn hE hB hN) (aA.b5S hE hB) fun d=>?_:aB l low _) i n e h1 h2 h;cases d with
 |none=>exact aB.failed
 |some d=>exact aB.bI _
theorem aB.mod:aB l low (a7u kw andP rdP l):=by
 unfold a7u;have n1:∀m:jK,aB l low (do
  let m ← rV kw andP rdP l m
  aV l [[59]]
  pure m:bE jK):=fun m=>aB.b0 (aB.decl hE hB hN m) (aA.decl hE hB m) fun _=>aB.b0 (aB.exp hE _) (aA.exp hE _ _) fun _=>aB.bI _
 have a1:∀m:jK,aA l 1 (do
  let m ← rV kw andP rdP l m
  aV l [[59]]
  pure m:bE jK):=fun m=>(aA.decl hE hB m).bl fun _=>((aA.exp hE _ _).le (by omega)).bl fun _=>aA.bI _
 exact aB.many n1 (fun a i b j hi _ h=>a1 a i b j hi h) _
end
end
section
open Go Go.VM
variable {G:GT}
theorem xS {α:Type}(hG:G 1=some cX)(hS:G 0=some sL)(C:α→List D)(a0:α){F:FuncId}(he:VM.Enters Tryz.prog F)(x:List Tok→bE α)(s:List UInt8)(hs:s.length≤900000000)(hc:∀l:List Tok,jX G rdQ l→(∀i, -9223372036854775807≤(aZ l i).n∧(aZ l i).n≤9223372036854775807)→0<l.length→jG G F [.ptr 100000 0,.ptr 100001 0] [(100001,.cells ((C a0).map .d))] [] l 0 (x l 0) (fun _=> .cF []) fun a=>[(100001,.cells ((C a).map .d))])(ha:∀(l:List Tok) a j,sY l→vI rdQ l→x l 0= .ok a j→j<l.length):
  match dK x s with
  | .ok a _=>CH Tryz.prog G 32 ⟨[.d (.str s),.xL F [.ptr 100001 0]],[(100001,.cells ((C a0).map .d))],[]⟩ ⟨[.cF [.int .i64 0,.int .i64 0]],[(100001,.cells ((C a).map .d))],[]⟩
  | .bad n e=>CHd Tryz.prog G 32 ⟨[.d (.str s),.xL F [.ptr 100001 0]],[(100001,.cells ((C a0).map .d))],[]⟩ (.cF [.int .i64 n,.int .i64 e]):=by
 have hlx:=a9i hS s hs;unfold dK;by_cases hl:40000<s.length
 ·rw [if_pos hl] at hlx ⊢;exact a8H _ F s 0 7 (by decide) hlx
 ·rw [if_neg hl] at hlx ⊢;cases hr:gQ jS s 0 1 false with
  |error n=>rw [hr] at hlx;exact a8H _ F s n 14 (by decide) hlx
  |ok l=>
   rw [hr] at hlx;have hV:jX G rdQ l:=b0R hG hr (by omega);have hN:=b9H hr;have hpos:0<l.length:=List.length_pos_iff.2 hV.fin.1;have hcl:=hc l hV hN hpos;simp only;cases hx:x l 0 with
   |bad n e=>rw [hx] at hcl;exact c2K hV C a0 n e he hlx hcl
   |ok a j=>
    rw [hx] at hcl;have hj:=ha l a j hV.fin hV.tM hx;simp only;cases hend:xU l j with
    |bad n e=>exact b9M hV C a0 a j n e he hlx hcl hj hend
    |ok u k=>
     have hk:xU l j= .ok () j:=by
      unfold xU at hend ⊢;split at hend
      ·rename_i h0;rw [if_pos h0]
      ·unfold dQ at hend;cases hend
     exact c6K hV C a0 a j he hlx hcl hj hk
theorem a1q {α:Type}{x:List Tok→bE α}{s:List UInt8}(h:∀(l:List Tok) n e,sY l→vI rdQ l→0<l.length→x l 0= .bad n e→e≠0){n e:Int}(hb:dK x s= .bad n e):e≠0:=by
 unfold dK at hb;split at hb
 ·cases hb;decide
 ·split at hb
  ·cases hb;decide
  ·rename_i l hl;have hE:=b2x (tU s 0 1 false l hl);have hpos:0<l.length:=List.length_pos_iff.2 hE.1;have hfin:sY l:=by
    refine ⟨hE.1,hE.2 _ ?_⟩;unfold aZ;rw [if_pos (by omega),List.getD_eq_getElem?_getD,d3L (by omega)]
    rfl
   split at hb
   ·rename_i n' e' hx;cases hb;exact h l _ _ hfin (fun e i p j hi hx=>b7H hE.2 e i p j hi hx) hpos hx
   ·rename_i a j hx;split at hb
    ·rename_i n' e' he;cases hb;unfold xU at he;split at he
     ·cases he
     ·unfold dQ at he;cases he;decide
    ·cases hb
theorem a8K (l:List Tok):∀i e n x,i<l.length→rdQ l i e= .bad n x→x≠0:=fun i e n x _ h=>by
 unfold rdQ at h;split at h
 ·cases h;decide
 ·split at h
  ·cases h
  ·rename_i hc;cases h;exact hc
abbrev moN:List D:=[.aI,.aI,.aI,.aI,.aI,.aI]
def moC:Option jK→List D
 |none=>moN
 |some m=>a2l m
def a3l {α:Type}:kJ α→kJ (Option α)
 | .ok a j=> .ok (some a) j
 | .bad n e=> .bad n e
section
variable {rdP:List Tok→Nat→Nat→kJ Pr} {l:List Tok} (hV:jX G rdP l) (hN:∀i, -9223372036854775807≤(aZ l i).n∧(aZ l i).n≤9223372036854775807)
include hV hN
theorem a8L (i:Nat)(hi:i<l.length):jG G 40 [.ptr 100000 0,.ptr 100001 0] [(100001,.cells ((moC none).map .d))] [] l i (a3l (a7u bD bW rdP l i)) (fun _=> .cF []) fun a=>[(100001,.cells ((moC a).map .d))]:=by
 have h:=a9C hV hN i hi;cases hr:a7u bD bW rdP l i with
 |ok m j=>
  rw [hr] at h;intro base R μ args w hrel;refine (h base R μ args w (hrel.xB ⟨by simp [moC],by simp [tA,moC],by simp [moC],by simp [aT,moC,tA,getKey]⟩)).mono ?_
  rintro e w' ⟨v,R',μ',h1,h2,h3⟩;exact ⟨v,R',μ',h1,h2.xB ⟨by simp [moC,a2l],by simp [tA,moC,a2l],by simp [moC,a2l],by simp [aT,moC,a2l]⟩,h3⟩
 |bad n e=>rw [hr] at h;intro base R μ args w hrel;exact h base R μ args w (hrel.xB ⟨by simp [moC],by simp [tA,moC],by simp [moC],by simp [aT,moC,tA,getKey]⟩)
end
end
section
abbrev tyM (l:List Tok):bE Ty:=gW bD bW rdQ l
abbrev exM (l:List Tok):bE gC:=a2S bD bW rdQ l
abbrev moQ (l:List Tok):bE jK:=a7u bD bW rdQ l
def a0i {α:Type}(z:α):kJ α→α
 | .ok a _=>a
 | .bad _ _=>z
def a0j {α:Type}:kJ α→Int
 | .ok _ _=>0
 | .bad _ e=>e
def b9N {α:Type}:kJ α→Int
 | .ok _ _=>0
 | .bad n _=>n
end
section
open Go Go.VM
variable {G:GT}
theorem oP:VM.Enters Tryz.prog 17:=VM.Enters.mk Tryz.func17 rfl
theorem dY.mkd {P:Program}{q ro:Bool}{ls:List (Option VM.Loc)}{f:FuncId}{s0:St}{r:DV}{st:St}{«d3F» :List DV}{dst:Option Tmp}{all:Array Oper}{ops:List Oper}{k:List KI}{Q:Exit→St→Prop}{rest:List (TypeId×List VM.Loc)}(he:VM.Enters P f)(hch:CHd P G f s0 r)(K:List (Nat×Nat))(H':List (Nat×aR))(hfit:aJ K s0 .undef s0.H=true)(hargs:WkT «d3F» (aM K s0.tmps))(hH:WkH st.H (cE K s0.H))(gU:qF st st.own (s0.own.map (kI K ls))=some rest)(harg:tE st.tmps.length ls s0.own=true)(hK:∀k o,getKey k H'=some o→getKey k st.H=some o∧∀p∈s0.H,k≠rk K p.1)(h:VK P G (.ops q all ops::k) .normal ⟨oH dst r st.tmps,H',[]⟩ Q)(hro:ro=false:=by kernel_rfl):dY P G q ro f «d3F» ls dst all ops k st Q:=dY.mk' ⟨_,⟨he,jQ.d0D hch K H' hfit hargs hH gU harg hK⟩,h⟩ hro
theorem sM (hG:G 1=some cX)(hS:G 0=some sL)(s:List UInt8)(hs:s.length≤900000000):CS Tryz.prog G 17 [.str s] (.cF [.agg (tyD (a0i rR (dK tyM s))),.int .i64 (a0j (dK tyM s))]) none:=by
 have hrd:=xS hG hS (C:=tyD) rR a4U tyM s hs (fun l hV hN hp=>b4I hV rR 0 hp) (fun l a j hE hB hx=>((aA.typ hE hB.pred) 0 a j (List.length_pos_iff.2 hE.1) hx).2);have hnz:∀n e,dK tyM s= .bad n e→e≠0:=fun n e h=>a1q (fun l n e hE hB hp h=>aB.typ (low:=0) hE hB (a8K l) 0 n e (Nat.zero_le _) hp h) h
 cases hr:dK tyM s with
 |ok t j=>
  rw [hr] at hrd;refine CS.bB Tryz.func17 rfl Tryz.ntmps17 rfl ?_
  simp;refine dY.mk gJ hrd [(100001,4)] ?_ ?_ ?_ rfl rfl ?_ (rest:=[])
  ·simp [aJ,aP,aL,aK,aT,getKey]
  ·simp [aM,aW,rk]
  ·simp [aM,aW,rk,cE,cL,rR,kC,strs]
  ·simp [aU,aM,aW,rk,cE,cL,bH,eM,dZ,dC,a0i,a0j]
 |bad n e=>
  rw [hr] at hrd;have he:=hnz n e hr;refine CS.bB Tryz.func17 rfl Tryz.ntmps17 rfl ?_
  simp;refine dY.mkd gJ hrd [(100001,4)] [(2,.cells [.d (.int .i64 0),.d (.str []),.d .aI,.d .aI,.d (.int .i64 0),.d (.str []),.d (.int .i64 0),.d .aI,.d .aI])] ?_ ?_ ?_ rfl rfl ?_ ?_ (rest:=[])
  ·simp [aJ,aP,aL,aK,aT,getKey]
  ·simp [aM,aW,rk]
  ·simp [aM,aW,rk,cE,cL,rR,kC,strs]
  ·intro k o hk;simp only [getKey] at hk;split at hk
   ·rename_i h2;subst h2;exact ⟨by simpa [getKey] using hk,by simp [rk]⟩
   ·cases hk
  ·simp [a0i,a0j,he,rR,kC,strs]
theorem kR:VM.Enters Tryz.prog 14:=VM.Enters.mk Tryz.func14 rfl
theorem mQ (hG:G 1=some cX)(hS:G 0=some sL)(s:List UInt8)(hs:s.length≤900000000):CS Tryz.prog G 14 [.str s] (.cF [.agg (vO (a0i a0c (dK exM s))),.int .i64 (a0j (dK exM s))]) none:=by
 have hrd:=xS hG hS (C:=vO) a0c a4T exM s hs (fun l hV hN hp=>b4J hV hN a0c 0 hp) (fun l a j hE hB hx=>((aA.exF hE hB.pred _ 0) 0 a j (List.length_pos_iff.2 hE.1) hx).2);have hnz:∀n e,dK exM s= .bad n e→e≠0:=fun n e h=>a1q (fun l n e hE hB hp h=>aB.expr (low:=0) hE hB (a8K l) 0 n e (Nat.zero_le _) hp h) h
 cases hr:dK exM s with
 |ok t j=>
  rw [hr] at hrd;refine CS.bB Tryz.func14 rfl Tryz.ntmps14 rfl ?_
  simp;refine dY.mk gJ hrd [(100001,4)] ?_ ?_ ?_ rfl rfl ?_ (rest:=[])
  ·simp [aJ,aP,aL,aK,aT,getKey]
  ·simp [aM,aW,rk]
  ·simp [aM,aW,rk,cE,cL,a0c,vO,strs]
  ·simp [aU,aM,aW,rk,cE,cL,bH,eM,dZ,dC,a0i,a0j]
 |bad n e=>
  rw [hr] at hrd;have he:=hnz n e hr;refine CS.bB Tryz.func14 rfl Tryz.ntmps14 rfl ?_
  simp;refine dY.mkd gJ hrd [(100001,4)] [(2,.cells [.d (.int .i64 0),.d (.str []),.d (.int .i64 0),.d .aI,.d .aI,.d .aI,.d .aI])] ?_ ?_ ?_ rfl rfl ?_ ?_ (rest:=[])
  ·simp [aJ,aP,aL,aK,aT,getKey]
  ·simp [aM,aW,rk]
  ·simp [aM,aW,rk,cE,cL,a0c,vO,strs]
  ·intro k o hk;simp only [getKey] at hk;split at hk
   ·rename_i h2;subst h2;exact ⟨by simpa [getKey] using hk,by simp [rk]⟩
   ·cases hk
  ·simp [a0i,a0j,he,a0c,vO,strs]
theorem c2M {l:List Tok}(hE:sY l)(hB:vI rdQ l):aA l 0 (xJ rdQ l):=aA.bl (aA.b5S hE hB) fun d=>by
 cases d with
 |none=>exact aA.failed
 |some d=>exact (aA.skip hE _).bl fun _=>aA.bI _
theorem c6L {l:List Tok}(hE:sY l)(hB:vI rdQ l):aB l 0 (xJ rdQ l):=aB.b0 (m:=0) (aB.defn hE hB (a8K l)) (aA.b5S hE hB) fun d=>by
 cases d with
 |none=>exact aB.failed
 |some d=>exact aB.b0 (aB.skip _) (aA.skip hE _) fun _=>aB.bI _
theorem a9G:VM.Enters Tryz.prog 27:=VM.Enters.mk Tryz.func27 rfl
theorem b2A (hG:G 1=some cX)(hS:G 0=some sL)(s:List UInt8)(hs:s.length≤900000000):CS Tryz.prog G 27 [.str s] (.cF [.agg (a6f (a0i a6g (dK (xJ rdQ) s))),.int .i64 (a0j (dK (xJ rdQ) s))]) none:=by
 have hrd:=xS hG hS (C:=a6f) a6g a6j (xJ rdQ) s hs (fun l hV hN hp=>b6C hV hN a6g 0 hp) (fun l a j hE hB hx=>((c2M hE hB) 0 a j (List.length_pos_iff.2 hE.1) hx).2);have hnz:∀n e,dK (xJ rdQ) s= .bad n e→e≠0:=fun n e h=>a1q (fun l n e hE hB hp h=>c6L hE hB 0 n e (Nat.zero_le _) hp h) h
 cases hr:dK (xJ rdQ) s with
 |ok t j=>
  rw [hr] at hrd;refine CS.bB Tryz.func27 rfl Tryz.ntmps27 rfl ?_
  simp;refine dY.mk gJ hrd [(100001,4)] ?_ ?_ ?_ rfl rfl ?_ (rest:=[])
  ·simp [aJ,aP,aL,aK,aT,getKey]
  ·simp [aM,aW,rk]
  ·simp [aM,aW,rk,cE,cL,a6g,a6f,b2i,a5V,rR,kC,a0c,dE,strs]
  ·simp [aU,aM,aW,rk,cE,cL,bH,eM,dZ,dC,a0i,a0j]
 |bad n e=>
  rw [hr] at hrd;have he:=hnz n e hr;refine CS.bB Tryz.func27 rfl Tryz.ntmps27 rfl ?_
  simp;refine dY.mkd gJ hrd [(100001,4)] [(2,.cells [.d (.str []),.d .aI,.d (.int .i64 0),.d (.str []),.d (.int .i64 0),.d .aI,.d .aI,.d .aI,.d .aI,.d (.int .i64 0),.d (.bool false),.d .aI,.d .aI,.d .aI,.d .aI,.d (.int .i64 0),.d (.str []),.d .aI,.d .aI,.d (.int .i64 0),.d (.str []),.d (.int .i64 0),.d .aI,.d .aI,.d .aI])] ?_ ?_ ?_ rfl rfl ?_ ?_ (rest:=[])
  ·simp [aJ,aP,aL,aK,aT,getKey]
  ·simp [aM,aW,rk]
  ·simp [aM,aW,rk,cE,cL,a6g,a6f,b2i,a5V,rR,kC,a0c,dE,strs]
  ·intro k o hk;simp only [getKey] at hk;split at hk
   ·rename_i h2;subst h2;exact ⟨by simpa [getKey] using hk,by simp [rk]⟩
   ·cases hk
  ·simp [a0i,a0j,he,a6g,a6f,b2i,a5V,rR,kC,a0c,dE,strs]
theorem sC:VM.Enters Tryz.prog 21:=VM.Enters.mk Tryz.func21 rfl
abbrev d2S:jK:=⟨[],[],[],[],[],[]⟩
theorem b6P {α:Type}(x:List Tok→bE α)(s:List UInt8):dK (fun l=>(fun i=>a3l (x l i):bE (Option α))) s=a3l (dK x s):=by
 unfold dK;split
 ·rfl
 ·split
  ·rfl
  ·rename_i l hl;simp only;cases x l 0 with
   |bad n e=>rfl
   |ok a j=>simp only [a3l];cases xU l j<;>rfl
theorem tL (hG:G 1=some cX)(hS:G 0=some sL)(s:List UInt8)(hs:s.length≤900000000):CS Tryz.prog G 21 [.str s] (.cF [.agg (a2l (a0i d2S (dK moQ s))),.int .i64 (b9N (dK moQ s)),.int .i64 (a0j (dK moQ s))]) none:=by
 have hrd:=xS hG hS (C:=moC) none a3h (fun l=>(fun i=>a3l (moQ l i):bE (Option jK))) s hs (fun l hV hN hp=>a8L hV hN 0 hp) (fun l a j hE hB hx=>by
  cases hm:moQ l 0 with
  |bad n e=>simp [hm,a3l] at hx
  |ok m k=>simp only [hm,a3l] at hx;cases hx;have tM:aA l 0 (moQ l):=aA.many (fun m=>(aA.decl hE hB m).le (by omega) |>.bl fun _=>((aA.exp hE _ _).le (by omega)).bl fun _=>aA.bI _) _;exact (tM 0 _ _ (List.length_pos_iff.2 hE.1) hm).2)
 rw [b6P] at hrd;have hnz:∀n e,dK moQ s= .bad n e→e≠0:=fun n e h=>a1q (fun l n e hE hB hp h=>aB.mod (low:=0) hE hB (a8K l) 0 n e (Nat.zero_le _) hp h) h
 cases hr:dK moQ s with
 |ok t j=>
  rw [hr] at hrd;refine CS.bB Tryz.func21 rfl Tryz.ntmps21 rfl ?_
  simp;refine dY.mk gJ hrd [(100001,5)] ?_ ?_ ?_ rfl rfl ?_ (rest:=[])
  ·simp [aJ,aP,aL,aK,aT,getKey,moC,a2l]
  ·simp [aM,aW,rk]
  ·simp [aM,aW,rk,cE,cL,moC]
  ·simp [aU,aM,aW,rk,cE,cL,bH,eM,dZ,dC,a0i,a0j,b9N,moC,a2l]
 |bad n e=>
  rw [hr] at hrd;have he:=hnz n e hr;refine CS.bB Tryz.func21 rfl Tryz.ntmps21 rfl ?_
  simp;refine dY.mkd gJ hrd [(100001,5)] [(2,.cells [.d .aI,.d .aI,.d .aI,.d .aI,.d .aI,.d .aI])] ?_ ?_ ?_ rfl rfl ?_ ?_ (rest:=[])
  ·simp [aJ,aP,aL,aK,aT,getKey,moC]
  ·simp [aM,aW,rk]
  ·simp [aM,aW,rk,cE,cL,moC]
  ·intro k o hk;simp only [getKey] at hk;split at hk
   ·rename_i h2;subst h2;exact ⟨by simpa [getKey] using hk,by simp [rk]⟩
   ·cases hk
  ·simp [a0i,a0j,b9N,he,a2l]
end
section
open Go Go.VM
variable {G:GT}
mutual
theorem b0U:∀p:Pr,a1W p p=true
 |⟨op,nm,n,l⟩=>by simp [a1W,a8M l]
theorem a8M:∀l:List Pr,qK l l=true
 |[]=>by simp [qK]
 |a::r=>by simp [qK,b0U a,a8M r]
end
end
section
open Go Go.VM
def G0:GT:=fun g=>if g=1 then some cX else if g=0 then some sL else none
theorem vV:G0 1=some cX:=rfl
theorem wZ:G0 0=some sL:=rfl
abbrev num (n:Int):gC:=⟨1,[],n,[],[],[],[]⟩
abbrev var (c:UInt8):gC:=⟨3,[c],0,[],[],[],[]⟩
theorem ex1:dK exM [49,32,45,32,50,32,45,32,51]= .ok (jF 11 [jF 11 [num 1,num 2],num 3]) 5:=by kernel_rfl
theorem ex2:dK exM [40,45,51,41]= .ok (num (-3)) 4:=by kernel_rfl
theorem ex3:dK exM [45,32,51]= .ok (jF 15 [num 3]) 2:=by kernel_rfl
theorem ex4:dK exM [102,32,40,40,45,51,41,41]= .ok ({ jF 5 [num (-3)] with name:=[102] }) 7:=by kernel_rfl
theorem ex5:dK exM [40,97,32,60,32,98,41,32,61,61,32,99]= .ok (jF 16 [jF 17 [var 97,var 98],var 99]) 7:=by kernel_rfl
theorem ex6:dK exM [97,32,60,32,98,32,60,32,99]= .bad 1 14:=by kernel_rfl
abbrev exT:Ty:=⟨6,[],[psT 1 [],⟨1,[],[],[],⟨12,[],0,[⟨3,[120],0,[]⟩,⟨3,[118],0,[]⟩]⟩,[]⟩,⟨4,[76,105,115,116],[psT 1 []],[],kC,[⟨12,[],0,[⟨1,[],0,[]⟩,⟨3,[118],0,[]⟩]⟩]⟩],[[120],[121]],kC,[]⟩
theorem ex8:dK tyM [40,73,110,116,44,32,73,110,116,41]= .bad 1 14:=by kernel_rfl
theorem ex9:dK moQ [100,101,102,32,102,32,40,120,41,32,61,32,120,32,43,10,59]= .bad 2 14:=by kernel_rfl
theorem d2T:dK moQ [100,101,102,32,102,32,40,120,41,32,61,32,63]= .bad 1 14:=by kernel_rfl
def d2m:kJ jK→Bool
 | .ok m _=>match m.a7q,m.a7r,m.defs with
  |[d],[me],[df]=>decide (d.cons.length=2)&&decide (me.cases.length=2)&&decide (df.sig.b1w.length=1)&&decide (df.body.op=8)
  |_,_,_=>false
 | .bad _ _=>false
def d2n:kJ jJ→Bool
 | .ok d _=>decide (d.mode=1)&&d.typed
 | .bad _ _=>false
abbrev txM:List UInt8:=[100,97,116,97,32,76,105,115,116,32,61,32,78,105,108,32,124,32,67,111,110,115,32,40,120,32,58,32,73,110,116,44,32,114,101,115,116,32,58,32,76,105,115,116,41,59,32,109,101,97,115,117,114,101,32,108,101,110,32,58,32,76,105,115,116,32,45,62,32,73,110,116,32,123,32,78,105,108,32,61,32,48,59,32,67,111,110,115,32,40,120,44,32,114,101,115,116,41,32,61,32,49,32,43,32,108,101,110,40,114,101,115,116,41,32,125,32,105,110,118,97,114,105,97,110,116,32,48,32,60,61,32,118,59,32,100,101,102,32,100,111,119,110,32,40,110,41,32,58,32,40,110,32,58,32,123,118,32,58,32,73,110,116,32,124,32,48,32,60,61,32,118,125,41,32,45,62,32,73,110,116,32,109,101,116,114,105,99,32,110,32,61,32,105,102,32,110,32,61,61,32,48,32,116,104,101,110,32,48,32,101,108,115,101,32,100,111,119,110,32,40,110,32,45,32,49,41,59]
abbrev txD:List UInt8:=[97,115,115,117,109,101,32,114,101,97,100,32,40,120,41,32,58,32,40,120,32,58,32,73,110,116,41,32,45,62,32,123,118,32,58,32,73,110,116,32,124,32,120,32,60,61,32,118,125]
abbrev txT:List UInt8:=[40,120,32,58,32,73,110,116,44,32,121,32,58,32,123,118,32,58,32,73,110,116,32,124,32,120,32,60,32,118,125,41,32,45,62,32,76,105,115,116,32,73,110,116,32,60,118,46,32,48,32,60,32,118,62]
theorem ex7:dK tyM txT= .ok exT 27:=by kernel_rfl
theorem d2W:d2m (dK moQ txM)=true:=by kernel_rfl
theorem d2X:d2n (dK (xJ rdQ) txD)=true:=by kernel_rfl
theorem d2o:∃m j d me df,dK moQ txM= .ok m j∧m.a7q=[d]∧m.a7r=[me]∧m.defs=[df]∧d.cons.length=2∧me.cases.length=2∧df.sig.b1w.length=1∧df.body.op=8:=by
 have h:=d2W;unfold d2m at h;split at h
 ·rename_i m j hm;split at h
  ·rename_i d me df h1 h2 h3;simp only [d3H,decide_eq_true_eq] at h;exact ⟨m,j,d,me,df,hm,h1,h2,h3,h.1.1.1,h.1.1.2,h.1.2,h.2⟩
  ·cases h
 ·cases h
theorem d2p:∃d j,dK (xJ rdQ) txD= .ok d j∧d.mode=1∧d.typed=true:=by
 have h:=d2X;unfold d2n at h;split at h
 ·rename_i d j hd;simp only [d3H,decide_eq_true_eq] at h;exact ⟨d,j,hd,h.1,h.2⟩
 ·cases h
end
section
open Go Go.VM
theorem xK:VM.Enters Tryz.prog 13:=VM.Enters.mk Tryz.func13 rfl
theorem zM:CS Tryz.prog G0 13 [] (.d (.bool true)) none:=by
 have h1:=mQ (G:=G0) vV wZ [49,32,45,32,50,32,45,32,51] (by decide);have h2:=mQ (G:=G0) vV wZ [40,45,51,41] (by decide);have h3:=mQ (G:=G0) vV wZ [45,32,51] (by decide);have h4:=mQ (G:=G0) vV wZ [102,32,40,40,45,51,41,41] (by decide);have h5:=sM (G:=G0) vV wZ txT (by decide);have h6:=sM (G:=G0) vV wZ [40,73,110,116,44,32,73,110,116,41] (by decide);have h7:=tL (G:=G0) vV wZ [100,101,102,32,102,32,40,120,41,32,61,32,120,32,43,10,59] (by decide);have h8:=tL (G:=G0) vV wZ [100,101,102,32,102,32,40,120,41,32,61,32,63] (by decide);have h9:=mQ (G:=G0) vV wZ [97,32,60,32,98,32,60,32,99] (by decide);have h10:=mQ (G:=G0) vV wZ [40,97,32,60,32,98,41,32,61,61,32,99] (by decide);have h11:=tL (G:=G0) vV wZ txM (by decide);have h12:=b2A (G:=G0) vV wZ txD (by decide);obtain ⟨m,jm,d,me,df,e11,m1,m2,m3,m4,m5,m6,m7⟩:=d2o;obtain ⟨dd,jd,e12,d1,d2⟩:=d2p;rw [ex1] at h1;rw [ex2] at h2;rw [ex3] at h3;rw [ex4] at h4;rw [ex7] at h5;rw [ex8] at h6;rw [ex9] at h7;rw [d2T] at h8;rw [ex6] at h9;rw [ex5] at h10;rw [e11] at h11;rw [e12] at h12;obtain ⟨md,mc,mi,mm,mq,mf⟩:=m;simp only at m1 m2 m3;subst m1 m2 m3;simp [a0i,a0j,b9N,jF,dE] at h1 h2 h3 h4 h9 h10;simp [a0i,a0j,b9N,psT,cJ,eB,rR,kC,strs] at h5 h6;simp [a0i,a0j,b9N,a2l] at h7 h8 h11;simp [a0i,a0j,d1,d2] at h12;have k1:=dE ⟨11,[],0,[num 1,num 2],[],[],[]⟩;have k2:=dE (num (-3));have k3:=fun t=>cJ t
 refine CS.bB Tryz.func13 rfl Tryz.ntmps13 rfl ?_
 simp;refine aG.mk kR h1 ?_
 simp;refine aG.mk kR h2 ?_
 simp;refine aG.mk kR h3 ?_
 simp;refine aG.mk kR h4 ?_
 simp;refine aG.mk oP h5 ?_
 simp;refine aG.mk oP h6 ?_
 simp;refine aG.mk sC h7 ?_
 simp;refine aG.mk sC h8 ?_
 simp;refine aG.mk kR h9 ?_
 simp;refine aG.mk kR h10 ?_
 simp (maxSteps:=1000000) [k1,k2];refine aG.mk sC h11 ?_
 simp;refine aG.mk a9G h12 ?_
 simp (maxSteps:=1000000) [a7x,b3Q,b1z,c5R,dE,m4,m5,m6,m7,d1,d2]
end
section
abbrev eTk (ln:Int):Tok:=⟨0,[],0,ln⟩
section
variable {num:List UInt8→Int×Bool}
theorem c2N {l:List Tok}{ln:Int}(h:OkT num l ln):∃l0 ln',l=l0++[eTk ln']∧∀t∈l0,t.kind≠0:=by
 induction h with
 |fin ln l hl=>exact ⟨[],l,rfl,fun t ht=>by cases ht⟩
 |cons t r ln h1 h2 h3 ih=>
  obtain ⟨l0,ln',e,h0⟩:=ih;refine ⟨t::l0,ln',by rw [e];rfl,fun u hu=>?_⟩;rcases List.mem_cons.1 hu with rfl|hu
  ·have:=b5Q (num:=num) (s:=u.text) (by rw [h2]);rw [h2] at this;simp only at this;omega
  ·exact h0 u hu
end
end
section
open Go Go.VM
variable {G:GT}
def hasB (c:UInt8)(s:List UInt8):Bool:=s.any fun b=>decide (b=c)
theorem b7J {c:UInt8}{s:List UInt8}(h:∀b∈s,b≠c):hasB c s=false:=by unfold hasB;rw [List.any_eq_false];intro b hb;simpa using h b hb
theorem b7K {c:UInt8}{s:List UInt8}{i:Nat}(hi:i<s.length)(h:s[i]=c):hasB c s=true:=by unfold hasB;rw [List.any_eq_true];exact ⟨s[i],List.getElem_mem hi,by simpa using h⟩
theorem c2O (s:List UInt8)(hl:s.length≤900000000):CS Tryz.prog G 11 [.str s] (.d (.bool (hasB 35 s))) none:=by
 refine CS.bB (Tryz.func11) rfl (Tryz.ntmps11) rfl ?_
 simp;refine SW.jV (ι:={ i:Nat // i≤s.length∧∀b∈s.take i,b≠35 }) (fun i=>[(3,.d (.int .i64 i.1))]) (fun _=>[]) (fun _=>[]) (fun i=>s.length-i.1) ⟨0,by simp⟩ (by simp) ?_
 rintro ⟨i,hi,hn⟩
 try simp only at hi hn
 by_cases hlt:i<s.length
 ·have hw:=bO (show i<9223372036854775807 by omega);have cc:=a4I s[i] 35 (by omega);simp at cc;by_cases hc:s[i]=35
  ·have e:=cc.2 hc;simp [hlt,e,b7K hlt hc]
  ·have e: ¬s[i].toNat=35:=fun h=>hc (cc.1 h)
   simp [hlt,e];refine bN.mk ⟨i+1,hlt,fun b hb=>?_⟩ (by simp [hw]) (by simp;omega);rw [d3W hlt] at hb;rcases List.mem_append.1 hb with hb|hb
   ·exact hn b hb
   ·simp at hb;rw [hb];exact hc
 ·have hie:i=s.length:=by omega
  subst hie;rw [List.take_length] at hn;simp [b7J hn]
theorem a9H (s:List UInt8)(hl:s.length≤900000000):CS Tryz.prog G 20 [.str s] (.d (.bool (hasB 125 s))) none:=by
 refine CS.bB (Tryz.func20) rfl (Tryz.ntmps20) rfl ?_
 simp;refine SW.jV (ι:={ i:Nat // i≤s.length∧∀b∈s.take i,b≠125 }) (fun i=>[(3,.d (.int .i64 i.1))]) (fun _=>[]) (fun _=>[]) (fun i=>s.length-i.1) ⟨0,by simp⟩ (by simp) ?_
 rintro ⟨i,hi,hn⟩
 try simp only at hi hn
 by_cases hlt:i<s.length
 ·have hw:=bO (show i<9223372036854775807 by omega);have cc:=a4I s[i] 125 (by omega);simp at cc;by_cases hc:s[i]=125
  ·have e:=cc.2 hc;simp [hlt,e,b7K hlt hc]
  ·have e: ¬s[i].toNat=125:=fun h=>hc (cc.1 h)
   simp [hlt,e];refine bN.mk ⟨i+1,hlt,fun b hb=>?_⟩ (by simp [hw]) (by simp;omega);rw [d3W hlt] at hb;rcases List.mem_append.1 hb with hb|hb
   ·exact hn b hb
   ·simp at hb;rw [hb];exact hc
 ·have hie:i=s.length:=by omega
  subst hie;rw [List.take_length] at hn;simp [b7J hn]
theorem a8N:VM.Enters Tryz.prog 20:=VM.Enters.mk Tryz.func20 rfl
end
section
section
variable {kw:Nm→Bool} {andP:Pr→Pr→Pr} {rdP:List Tok→Nat→Nat→kJ Pr} {l l':List Tok} {N d:Nat} {u:Nm}
variable {ex ex':Nat→bE gC} {i j k:Nat} {a e:gC}
theorem c2P {s:Nm}{v:Unit}(h:aV l [s] i= .ok v j):aQ l i s=true∧j=i+1:=by
 have h:(if aQ l i s=true then aV l [] (i+1) else dQ l i)= .ok v j:=h;split at h
 ·cases h;exact ⟨by assumption,rfl⟩
 ·unfold dQ at h;cases h
end
end
section
open Go Go.VM
def TL:List TypeId:=[5,9,37,39,199,257,260,261]
theorem b6Q:wI Tryz.prog TL=true:=by kernel_rfl
theorem qM:laidOutB Tryz.prog=true:=by kernel_rfl
theorem hmr:mapsRowed Tryz.prog=true:=by kernel_rfl
theorem hsf:((List.range Tryz.prog.types.size).all fun t=>match Tryz.prog.underlying t with|some (.slice e)=>decide (0<Tryz.prog.cellsOf e)|_=>true)=true:=by kernel_rfl
theorem gU:ownKnob Tryz.prog.godebug=none:=by kernel_rfl
theorem tu9:Tryz.prog.underlying 9=some .string:=by kernel_rfl
theorem d2Y:Tryz.prog.underlying 37=some (.int .u16):=by kernel_rfl
end
section
open Go Go.VM
theorem a8O {P:Program}{G:GT}{q:Bool}{x:VM.Out}{c:Prop}[Decidable c]{dst:Option Tmp}{all:Array Oper}{rest:List Oper}{k:List KI}{Q:Exit→St→Prop}(hc:c)(h:a5o P G q (some x) dst all rest k Q):a5o P G q (if c then some x else none) dst all rest k Q:=by rw [if_pos hc];exact h
end
section
open Go Go.VM
theorem d0F {s:List UInt8}{n e:Int}(h:dK tyM s= .bad n e):e≠0:=a1q (fun l n e hE hB hp h=>aB.typ (low:=0) hE hB (a8K l) 0 n e (Nat.zero_le _) hp h) h
end
section
theorem uH {num:List UInt8→Int×Bool}:∀(s:List UInt8) (k:Nat) (ln:Int) (cm:Bool) (l:List Tok),gQ num s k ln cm= .ok l→∀t∈l,∀b∈t.text,b∈s
 |[],k,ln,cm,l,h=>by simp [gQ] at h;rw [← h];simp
 |c::r,k+1,ln,cm,l,h=>by rw [gQ] at h;intro t ht b hb;exact .tail _ (uH r k ln cm l h t ht b hb)
 |c::r,0,ln,cm,l,h=>by
  rw [gQ] at h;intro t ht b hb;split at h
  ·exact .tail _ (uH r 0 _ _ l h t ht b hb)
  ·split at h
   ·exact .tail _ (uH r 0 _ _ l h t ht b hb)
   ·split at h
    ·exact .tail _ (uH r 0 _ _ l h t ht b hb)
    ·split at h
     ·rename_i hf;split at h
      ·rename_i l2 hl2;cases h;rcases List.mem_cons.1 ht with rfl|ht
       ·exact (a3H hf).2.1.subset hb
       ·exact .tail _ (uH r _ _ _ l2 hl2 t ht b hb)
      ·cases h
     ·cases h
abbrev b5a:List UInt8:=[123,118,32,58,32,73,110,116,32,124,32]
abbrev qN (ln:Int):List Tok:=[⟨4,[123],0,ln⟩,⟨1,[118],0,ln⟩,⟨4,[58],0,ln⟩,⟨2,[73,110,116],0,ln⟩,⟨4,[124],0,ln⟩]
theorem b7L {ln:Int}{r:List UInt8}:Lx jS ln b5a (qN ln) r:=by
 refine Lx.app (t:=[123]) (k:=[⟨4,[123],0,ln⟩]) (Lx.tok rfl) ?_
 refine Lx.app (t:=[118]) (k:=[⟨1,[118],0,ln⟩]) (Lx.tok rfl) ?_
 refine Lx.app (t:=[32]) (k:=[]) Lx.sp ?_
 refine Lx.app (t:=[58]) (k:=[⟨4,[58],0,ln⟩]) (Lx.tok rfl) ?_
 refine Lx.app (t:=[32]) (k:=[]) Lx.sp ?_
 refine Lx.app (t:=[73,110,116]) (k:=[⟨2,[73,110,116],0,ln⟩]) (Lx.tok rfl) ?_
 refine Lx.app (t:=[32]) (k:=[]) Lx.sp ?_
 refine Lx.app (t:=[124]) (k:=[⟨4,[124],0,ln⟩]) (Lx.tok rfl) ?_
 exact Lx.sp
abbrev leP (n:Int):Pr:=⟨13,[],0,[⟨1,[],n,[]⟩,⟨3,[118],0,[]⟩]⟩
abbrev leK (d:List UInt8)(n ln:Int):List Tok:=[⟨3,d,n,ln⟩,⟨4,[60,61],0,ln⟩,⟨1,[118],0,ln⟩,⟨4,[125],0,ln⟩,⟨0,[],0,ln⟩]
theorem c6M (n:Int)(d:List UInt8)(ln:Int):a2w (leK d n ln)=some (leP n,3):=by rfl
theorem c6N:d2i jS Lib.decDigits:=fun n hn=>by
 obtain ⟨h1,h2,h3,_⟩:=c9R n;refine ⟨h1,fun b hb=>?_,?_⟩
 ·have:=mJ.1 (h2 b hb);simp only [dgU,decide_eq_true_eq];exact this
 ·unfold jS;rw [h3,if_pos hn]
section
variable {ln:Int} {r:List Tok}
theorem c2Q:kK bD (qN ln++r) 0= .ok none 0:=rfl
theorem d0G:pY (aZ (qN ln++r) 0)=false:=rfl
theorem d0H:aQ (qN ln++r) 0 [123]=true:=rfl
theorem c6O:aV (qN ln++r) [[123],[118],[58]] 0= .ok () 3:=rfl
theorem c6P (m:Nat):rT bD bW rdQ (qN ln++r) (m+1) 3= .ok (psT 1 []) 4:=rfl
theorem c6Q:aV (qN ln++r) [[124]] 4= .ok () 5:=rfl
theorem b7M:tyM (qN ln++r) 0=(do let p ← jM rdQ (qN ln++r);aV (qN ln++r) [[125]];pure ⟨1,[],[],[],p,[]⟩:bE Ty) 5:=by
 obtain ⟨m,hm⟩:∃m,(qN ln++r).length+2=m+2:=⟨_,rfl⟩
 show rT bD bW rdQ (qN ln++r) ((qN ln++r).length+2) 0=_
 rw [hm]
 show vD bD bW rdQ (qN ln++r) (rT bD bW rdQ (qN ln++r) (m+1)) 0=_
 unfold vD;rw [bQ c2Q]
 show (if pY (aZ (qN ln++r) 0)=true then _ else if aQ (qN ln++r) 0 [123]=true then tF bW rdQ (qN ln++r) (rT bD bW rdQ (qN ln++r) (m+1)) 0 else _)=_
 rw [d0G,if_neg (by decide),d0H,if_pos rfl];unfold tF;rw [bQ c6O,bQ (c6P m)];rw [if_neg (by decide)];rw [bQ c6Q]
 rfl
end
theorem d0I {n:Nat}(h:n≤65535):a4M (leP n)=0:=by
 have h1:a1e ⟨3,[118],0,[]⟩=0:=by decide
 have h2:a1e ⟨1,[],n,[]⟩=0:=by simp [a1e,a1d,vM,a4f,oM,tN,inB];omega
 have h3:a1e (leP n)=0:=by simp [a1e,a1d,vM,a4f,oM,tN]
 simp [a4M,a9l,cW,dG,a5Y,oL,xZ,jY,xG,h1,h2,h3]
theorem d0J {n:Nat}(h:n≤65535):∃j,dK tyM (b5a++(Lib.decDigits n++[32,60,61,32,118,125]))= .ok ⟨1,[],[],[],leP n,[]⟩ j:=by
 have hl:gQ jS (b5a++(Lib.decDigits n++[32,60,61,32,118,125])) 0 1 false= .ok (qN 1++leK (Lib.decDigits n) n 1):=by
  obtain ⟨h1,h2,h3⟩:=c6N n (by omega);obtain ⟨c,s,hd⟩:∃c s,Lib.decDigits n=c::s:=by
   cases hx:Lib.decDigits n with
   |nil=>exact absurd hx h1
   |cons c s=>exact ⟨c,s,rfl⟩
  have hx:=(b7L (ln:=1) (r:=Lib.decDigits n++[32,60,61,32,118,125]));have hn:Lx jS 1 (Lib.decDigits n) [⟨3,Lib.decDigits n,n,1⟩] [32,60,61,32,118,125]:=by
   have:=Lx.nmb (num:=jS) (ln:=1) (r:=[32,60,61,32,118,125]) hd h2 (fun b hb=>by simp at hb;subst hb;decide) (by rw [h3])
   rwa [h3] at this
  have he:gQ jS [32,60,61,32,118,125] 0 1 false= .ok [⟨4,[60,61],0,1⟩,⟨1,[118],0,1⟩,⟨4,[125],0,1⟩,⟨0,[],0,1⟩]:=by rfl
  unfold Lx at hx hn;rw [hx,hn,he]
  rfl
 have hlen:=a4E 19 n (by omega);refine ⟨9,c2E (l:=qN 1++leK (Lib.decDigits n) n 1) (by simp;omega) hl ?_ rfl⟩;rw [b7M];have hp:jM rdQ (qN 1++leK (Lib.decDigits n) n 1) 5= .ok (leP n) 8:=by
  show rdQ _ 5 10=_
  unfold rdQ;have e:a2w (((qN 1++leK (Lib.decDigits n) n 1).take 10).drop (min 5 10))=some (leP n,3):=c6M n (Lib.decDigits n) 1;rw [e];simp only [];rw [if_pos (d0I h)]
 rw [bQ hp]
 rfl
theorem c6R {s:List UInt8}{t:Ty}{j:Nat}(h:dK tyM (b5a++s)= .ok t j):(125:UInt8)∈s:=by
 obtain ⟨_,l,hl,hx,_⟩:=b9G h;have h1:=(b7L (ln:=1) (r:=s));unfold Lx at h1;rw [h1] at hl;cases hl2:gQ jS s 0 1 false with
 |error e=>rw [hl2] at hl;cases hl
 |ok r=>
  rw [hl2] at hl;cases hl;rw [b7M] at hx;obtain ⟨p,k,hp,hx⟩:=bT hx;obtain ⟨u,m,he,hx⟩:=bT hx;have hl':gQ jS (b5a++s) 0 1 false= .ok (qN 1++r):=by rw [h1,hl2];rfl
  have hV:jX G0 rdQ (qN 1++r):=b0R vV hl' (by omega);have hk:=hV.tM.pred 5 p k (by
   cases r with
   |nil=>obtain ⟨l0,ln',e,_⟩:=c2N (tU s 0 1 false [] hl2);simp at e
   |cons a r=>simp) hp
  have h2:=(c2P he).1;have hlt:k<(qN 1++r).length:=by omega
  have h5:5≤k:=by omega
  unfold aQ jL at h2;have ht:(aZ (qN 1++r) k).text=[125]:=by simp only [d3H,decide_eq_true_eq] at h2;exact h2.2
  have hm:aZ (qN 1++r) k∈r:=by
   unfold aZ;rw [if_pos hlt,List.getD_eq_getElem?_getD,d3P (by simpa using h5)];rw [List.length_append] at hlt;have h5':(qN 1).length=5:=rfl;have:k-(qN 1).length<r.length:=by omega
   rw [d3L this];exact List.getElem_mem this
  exact uH s 0 1 false r hl2 _ hm 125 (by rw [ht];simp)
end
section
open Go Go.VM
theorem b6R {n:Nat}(h:n<10):n=0∨n=1∨n=2∨n=3∨n=4∨n=5∨n=6∨n=7∨n=8∨n=9:=by omega
theorem vW:VM.Enters Tryz.prog 18:=VM.Enters.mk Tryz.func18 rfl
theorem a9I:∀n:Nat,n≤1000000000→CS Tryz.prog G0 18 [.int .i64 n] (.d (.str (Lib.decDigits n))) none:=by
 intro n
 induction n using Nat.strongRecOn with
 |ind n ih=>
  intro hn;have hd:=a4E 19 n (by omega);by_cases h:n<10
  ·rw [a0J h];refine CS.bB Tryz.func18 rfl Tryz.ntmps18 rfl ?_
   rcases b6R h with e|e|e|e|e|e|e|e|e|e<;>subst e<;>simp [show IntKind.i64.wrap 1=1 from wrap64 (by omega),show IntKind.i64.wrap 2=2 from wrap64 (by omega),show IntKind.i64.wrap 3=3 from wrap64 (by omega),show IntKind.i64.wrap 4=4 from wrap64 (by omega),show IntKind.i64.wrap 5=5 from wrap64 (by omega),show IntKind.i64.wrap 6=6 from wrap64 (by omega),show IntKind.i64.wrap 7=7 from wrap64 (by omega),show IntKind.i64.wrap 8=8 from wrap64 (by omega),show IntKind.i64.wrap 9=9 from wrap64 (by omega),show IntKind.i64.wrap 10=10 from wrap64 (by omega)]
  ·have h1:=ih (n/10) (by omega) (by omega);have h2:=ih (n%10) (by omega) (by omega);have hd1:=a4E 19 (n/10) (by omega);have hd2:=a4E 19 (n%10) (by omega);have w1:IntKind.i64.wrap ((n/10:Nat):Int)=((n/10:Nat):Int):=wrap64 (by omega);have hs:=b1r h;have hsm:Lib.decDigits (n%10)=[UInt8.ofNat (48+n%10)]:=a0J (by omega);have hlt: ¬((n:Int)<10):=by omega
   refine CS.bB Tryz.func18 rfl Tryz.ntmps18 rfl ?_
   have w1':IntKind.i64.wrap ((n:Int)/10)=((n/10:Nat):Int):=by rw [wrap64 (by omega)];omega
   have e2':(n:Int)%10=((n%10:Nat):Int):=by omega
   rw [← w1'] at h1;rw [← e2'] at h2;simp [hlt];refine aG.mk vW h1 ?_
   simp;refine aG.mk vW h2 ?_
   simp;refine dH (by omega) ?_
   simp [hs,hsm]
theorem a4r (k:Nat)(hk:k≤65535)(s:List UInt8)(hs:s.length≤100000000):CS Tryz.prog G0 4 [.int .u16 k,.str s] (.d (.bool true)) none:=by
 by_cases b1:40<s.length
 ·have e1:(40:Int)<s.length:=by omega
  refine CS.bB Tryz.func4 rfl Tryz.ntmps4 rfl ?_
  simp [e1,b1];refine aG.mk xK (zM ) ?_
  simp
 have e1: ¬(40:Int)<s.length:=by omega
 have hlen:=a4E 19 k (by omega);have hdg:=a9I k (by omega);have hcl:=a9H (G:=G0) s (by omega);have px:=sM (G:=G0) vV wZ (b5a++(Lib.decDigits k++[32,60,61,32,118,125])) (by simp;omega);have py:=sM (G:=G0) vV wZ (b5a++s) (by simp;omega);obtain ⟨j,hj⟩:=d0J hk;rw [hj] at px;obtain ⟨rb,hrb⟩:∃r,dK tyM (b5a++s)=r:=⟨_,rfl⟩;rw [hrb] at py;have hw:IntKind.i64.wrap (k:Int)=k:=wrap64 (by omega);have hsm:=b6g (G:=G0) (leP k) (leP k) (by simp [cW,dG]);rw [b0U] at hsm;refine CS.bB Tryz.func4 rfl Tryz.ntmps4 rfl ?_
 simp [e1,b1,hw];refine aG.mk vW hdg ?_
 simp
 repeat (refine a8O (by first|omega|(simp;omega)) ?_;simp)
 simp [a0i,a0j] at px;refine aG.mk oP px ?_
 simp
 repeat (refine a8O (by first|omega|(simp;omega)) ?_;simp)
 simp [a0i,a0j] at py;cases rb with
 |bad n e=>
  have hz:=d0F hrb;simp at py;refine aG.mk oP py ?_
  simp [hz,hw];refine aG.mk a0Z (CS.args hsm (by simp)) ?_
  simp [hz];refine aG.mk xK (zM ) ?_
  simp
 |ok t jt=>
  have h5:hasB 125 s=true:=by have:=c6R hrb;simp only [hasB,List.any_eq_true,decide_eq_true_eq];exact ⟨125,this,rfl⟩
  rw [h5] at hcl;simp at py;refine aG.mk oP py ?_
  simp [hw];refine aG.mk a0Z (CS.args hsm (by simp)) ?_
  simp;refine aG.mk a8N hcl ?_
  simp;refine aG.mk xK (zM ) ?_
  simp
theorem a8P (xs:List D)(h:a3E Tryz.prog [37,9] xs)(hsz:szL xs≤1048576):CS Tryz.prog G0 4 xs (.d (.bool true)) none:=by
 match xs,h with
 |[a,b],⟨h1,h2,_⟩=>
  obtain ⟨s,rfl,_⟩:=b8t tu9 h2;obtain ⟨n,rfl,hn⟩:=b8u d2Y h1;simp only [szL,szD] at hsz;have hn':0≤n∧n≤65535:=by
   have a1:IntKind.u16.min=0:=by decide
   have a2:IntKind.u16.max=65535:=by decide
   simp [Lit.wf,a1,a2] at hn;omega
  obtain ⟨k,rfl⟩:=Int.eq_ofNat_of_zero_le hn'.1;exact a4r k (by omega) s (by omega)
end
end Go.Proofs.YtjpodcmhcenjjaaGreatDoor
