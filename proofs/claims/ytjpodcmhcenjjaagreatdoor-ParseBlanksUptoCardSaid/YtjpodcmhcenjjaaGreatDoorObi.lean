/- Lemmas that the law of this claim needs (PsK PsL PsM PsR PsS PsN PsU PsO). No condition. -/
import Derived.Test.YtjpodcmhcenjjaaGreatDoorOba
import Derived.Test.YtjpodcmhcenjjaaGreatDoorObh
set_option linter.unusedVariables false
set_option linter.unusedSimpArgs false
set_option linter.unusedSectionVars false
set_option maxRecDepth 100000
set_option maxHeartbeats 64000000
open Go.Proofs.Tryz
namespace Go.Proofs.YtjpodcmhcenjjaaGreatDoor
section
open Go Go.VM
variable {G:GT}
theorem c2E:VM.Enters prog 78:=.mk func78 rfl
theorem b7i:VM.Enters prog 130:=.mk func130 rfl
theorem b7j:VM.Enters prog 131:=.mk func131 rfl
section
variable {aG:List Tok->Nat->Nat->kX Pr} {l:List Tok} (hV:kU G aG l)
include hV
def a0i(out:List Nm×List Ty):List (Nat×aW):=[(100001,.cells [.d (.int .i64 6),.d (.str []),.d (.sl (out.2.map tyC)),.d (.sl (strs out.1)),.d (.int .i64 0),.d (.str []),.d (.int .i64 0),.d (.sl []),.d (.sl [])]),(100002,.cells [.ptr 100000 0])]
abbrev e0u:List (TypeId×List VM.Loc):=[(45,[.c 100001 2]),(9,[.c 100001 3])]
abbrev a4k(l:List Tok)(ty:bB Ty)(out:List Nm×List Ty):bB (List Nm×List Ty):=do
 let w <- bS aX l
 aV l [[58]]
 let t <- ty
 pure (out.1++[w],out.2++[t])
abbrev a2S(ty:bB Ty)(out:List Nm×List Ty):bB (List Nm×List Ty):=do
 let t <- ty
 pure (out.1,out.2++[t])
theorem rI{α:Type}{c:Nm}{one:α->bB α}(I:α->Nat->Prop)(h1:∀a i b j,i<l.length->I a i->one a i=.ok b j->I b j/\j<l.length)(hm:∀a i,I a i->I a (i+1)):∀(g:Nat) (a:α) (i:Nat) (b:α) (j:Nat),i<l.length->I a i->jN l c one g a i=.ok b j->I b j/\j<l.length
 |0,a,i,b,j,_,_,h=>by unfold jN at h;cases h
 |g+1,a,i,b,j,hi,ha,h=>by
  unfold jN at h;split at h
  .cases h
  .rename_i b' j' ho;have k1:=h1 a i b' j' hi ha ho;split at h
   .rename_i hs;exact rI I h1 hm g b' (j'+1) b j (aF hV.fin k1.2 hs) (hm _ _ k1.1) h
   .cases h;exact k1
theorem c0i:zU l K3 [.ptr 100001 0,.ptr 100002 0] a0i e0u:=by
 constructor
 all_goals intros
 all_goals first
  |rfl
  |simp[a0i,aK,aP,aM,aL,bA,getKey,aO,bD,cI,rk,cQ,bO, *]
omit hV in
theorem b5C{ty:bB Ty}(a:List Nm×List Ty)(i:Nat)(b:List Nm×List Ty)(j:Nat)(h:a4k l ty a i=.ok b j):b.1.length=a.1.length+1/\b.2.length=a.2.length+1:=by
 simp only[a4k,hZ]at h
 repeat' split at h
 all_goals first|cases h|skip
 all_goals simp
omit hV in
theorem c6e{ty:bB Ty}(a:List Nm×List Ty)(i:Nat)(b:List Nm×List Ty)(j:Nat)(h:a2S ty a i=.ok b j):b.1=a.1/\b.2.length=a.2.length+1:=by
 simp only[a2S,hZ]at h
 repeat' split at h
 all_goals first|cases h|skip
 all_goals simp
section
variable {ty:bB Ty} {low:Nat} (mN:∀i,low<=i->i<l.length->pW G 39 [] l i (ty i) b0u) (oV:aA l 1 ty)
include mN oV
theorem c2F(out:List Nm×List Ty)(i:Nat)(oE:low<=i)(hi:i<l.length)(rN:out.1.length<=i/\out.2.length<=i):kZ G 130 [.ptr 100001 0,.ptr 100002 0] (a0i out) e0u l i (a4k l ty out i) (λ_=>.cJ []) a0i:=by
 have hl:=hV.len;obtain⟨j0,rfl⟩:∃j0,j0=i:=⟨_,rfl⟩;have p0:j0<=j0/\j0<l.length:=⟨f3d _,hi⟩;refine kZ.cP func130 rfl ntmps130 rfl (by simp) ?_;intro Q Q0;simp[a0i];refine kN [0] 3 [2] (.op 1 (.call [4,5,6,7] .none) (.call [1,4,5,6,7] .none)) (gL (bS aX l j0)) (by kernel_rfl) (by kernel_rfl) ?_;simp;refine⟨?_,?_⟩
 all_goals
  refine oF Q0 p0 cL (cZ hV.kw l j0 p0.2 (by omega)) (aA.word hV.fin) λw j1 x1 Q1 p1=>cT.mk ?_;simp;refine eE (by omega) ?_;simp;refine dD Q1 p1 hV.fin λu2 j2 x2 Q2 p2=>?_;simp;refine dI 6 (t:=28) (e:=45) (T:=45) (s:=13) (z:=17) (r:=18) (p:=19) (q:=16) (x:=15) (b:=20) (y:=0) (fd:=2) [0] 3 [2] (a3g 1 4 5) (gL (ty j2)) rfl rfl rfl rfl rfl (by kernel_rfl) (by kernel_rfl) rfl ?_;simp
  repeat' apply And.intro
  all_goals
   refine oF Q2 p2 cK ((mN j2 (by omega) p2.2)) (oV) λt j3 x3 Q3 p3=>cT.mk ?_;simp;refine⟨_,_,_,_,_,_,_,_,_,by simp,rfl,rfl,?_,rfl,rfl,?_,by simp,rfl,rfl,rfl,rfl,by decide,rfl,?_⟩
   .intro c hc
    first
     |(obtain⟨y,_,rfl⟩:=List.mem_map.1 hc
       rw[cM]
       rfl)
     |(simp only[f2U]at hc
       subst hc
       rfl)
   .simp<;>omega
   exact Q3.ok _ j3 .normal _ rfl (.inl rfl) (by simp[a0i,cM,a1L])
theorem c2G(out:List Nm×List Ty)(i:Nat)(oE:low<=i)(hi:i<l.length)(rN:out.1.length<=i/\out.2.length<=i):kZ G 131 [.ptr 100001 0,.ptr 100002 0] (a0i out) e0u l i (a2S ty out i) (λ_=>.cJ []) a0i:=by
 have hl:=hV.len;obtain⟨j2,rfl⟩:∃j2,j2=i:=⟨_,rfl⟩;have p2:j2<=j2/\j2<l.length:=⟨f3d _,hi⟩;refine kZ.cP func131 rfl ntmps131 rfl (by simp) ?_;intro Q Q2;simp[a0i];refine dI 6 (t:=28) (e:=45) (T:=45) (s:=3) (z:=7) (r:=8) (p:=9) (q:=6) (x:=5) (b:=10) (y:=0) (fd:=2) [0] 3 [2] (a3g 1 4 5) (gL (ty j2)) rfl rfl rfl rfl rfl (by kernel_rfl) (by kernel_rfl) rfl ?_;simp
 repeat' apply And.intro
 all_goals
  refine oF Q2 p2 cK ((mN j2 (by omega) p2.2)) (oV) λt j3 x3 Q3 p3=>cT.mk ?_;simp;refine⟨_,_,_,_,_,_,_,_,_,by simp,rfl,rfl,?_,rfl,rfl,?_,by simp,rfl,rfl,rfl,rfl,by decide,rfl,?_⟩
  .intro c hc
   first
    |(obtain⟨y,_,rfl⟩:=List.mem_map.1 hc
      rw[cM]
      rfl)
    |(simp only[f2U]at hc
      subst hc
      rfl)
  .simp<;>omega
  exact Q3.ok _ j3 .normal _ rfl (.inl rfl) (by simp[a0i,cM])
theorem a8R(out:List Nm×List Ty):aA l 1 (a4k l ty out):=(aA.word hV.fin).bl λ_=>((aA.exp hV.fin _ _).le (by omega)).bl λ_=>(oV.le (by omega)).bl λ_=>aA.aT _
omit hV in
theorem a4T(out:List Nm×List Ty):aA l 1 (a2S ty out):=oV.bl λ_=>aA.aT _
theorem b2B(a:List Nm×List Ty)(i:Nat)(b:List Nm×List Ty)(j:Nat)(hi:i<l.length)(h:a.1.length<=i/\a.2.length<=i)(hx:a4k l ty a i=.ok b j):(b.1.length<=j/\b.2.length<=j)/\j<l.length:=by have h1:=a8R hV mN oV a i b j hi hx;have h2:=b5C a i b j hx;omega
omit hV in
theorem a6z(a:List Nm×List Ty)(i:Nat)(b:List Nm×List Ty)(j:Nat)(hi:i<l.length)(h:a.1.length<=i/\a.2.length<=i)(hx:a2S ty a i=.ok b j):(b.1.length<=j/\b.2.length<=j)/\j<l.length:=by have h1:=a4T mN oV a i b j hi hx;have h2:=c6e a i b j hx;rw[h2.1];omega
theorem c6f(i:Nat)(oE:low<=i+1)(hi:i<l.length):pW G 78 [] l i (uF aX l ty i) b0u:=by
 have hl:=hV.len;obtain⟨j0,rfl⟩:∃j0,j0=i:=⟨_,rfl⟩;have p0:j0<=j0/\j0<l.length:=⟨f3d _,hi⟩;refine kZ.cP func78 rfl ntmps78 rfl (by simp) ?_;intro Q Q0;unfold uF at Q0;simp;refine dD Q0 p0 hV.fin λu1 j1 x1 Q1 p1=>?_;simp;have ht:=cF (G:=G) l j1 j1 0 (by omega) (by omega) (by intro e;subst e;simp at hi) (by omega);have ht1:=cF (G:=G) l j1 (j1+1) 1 (by omega) (by omega) (by intro e;subst e;simp at hi) (by omega);refine mA (ds:=[.int .i64 0]) bP ht ?_;simp;refine jC.mk jP (kT hV.kw (aR l j1)) ?_;have hK:∀(b:Bool),(mH aX (aR l j1)&&gF (aR l (j1+1)) [58])=b->((λi=>if mH aX (aR l i)&&gF (aR l (i+1)) [58] then gA l [44] (a4k l ty) ([],[]) i else gA l [44] (a2S ty) ([],[]) i:bB (List Nm×List Ty)) j1)=if b then gA l [44] (a4k l ty) ([],[]) j1 else gA l [44] (a2S ty) ([],[]) j1:=λb hb=>by simp only[hb]
 have e4b:=eI hV [44] (a4k l ty) (λout i=>out.1.length<=i/\out.2.length<=i) low b7i (c0i hV) (λa=>(a8R hV mN oV a).le (by omega)) (λa i tQ hi h=>c2F hV mN oV a i tQ hi h) (λa i b j hi h hx=>(b2B hV mN oV a i b j hi h hx).1) (λa i h=>by omega) ([],[]) j1 (by omega) p1.2 (by simp);have d7B:=eI hV [44] (a2S ty) (λout i=>out.1.length<=i/\out.2.length<=i) low b7j (c0i hV) (λa=>(a4T mN oV a).le (by omega)) (λa i tQ hi h=>c2G hV mN oV a i tQ hi h) (λa i b j hi h hx=>(a6z mN oV a i b j hi h hx).1) (λa i h=>by omega) ([],[]) j1 (by omega) p1.2 (by simp);cases hw:mH aX (aR l j1)with
 |false=>
  have hx:=hK false (by rw[hw];rfl);rw[if_neg (by decide)]at hx;simp;refine eF.mk (yJ dE d7B [(100000,100000),(100001,3),(100002,1)] (λa j hx=>?_) ?_ ?_ ?_ rfl rfl (λws j2 x2=>?_) (λn e wE=>Q1.fail (hx.trans wE) _))
  .simp[a0i,aK,aP,aM,aL,bA,getKey]
  .simp[a0i,aK,aP,aM,aL,bA,getKey]
  .simp[aO,bD,rk]
  .simp[a0i,aO,bD,rk,cI,cQ]
  .have Q2:=Q1.step (hx.trans x2);have p2:=aA.list hV.fin (λa=>a4T mN oV a) ([],[]) j1 ws j2 p1.2 x2;have hlen:ws.1.length<=50000/\ws.2.length<=50000:=by have:=rI hV (one:=a2S ty) (λa i=>a.1.length<=i/\a.2.length<=i) (a6z mN oV) (λa i h=>by omega) _ _ _ _ _ p1.2 (by simp) x2;omega
   simp[bE,a0i,aO,bD,rk,cI,cQ,bO,gP,eS,dQ];obtain⟨ns,ts⟩:=ws;simp only at Q2 hlen;refine dD Q2 p2 hV.fin λu3 j3 x3 Q3 p3=>?_;simp;by_cases hn:ns.length=0
   .have hn0:ns=[]:=List.eq_nil_of_length_eq_zero hn;subst hn0;by_cases h1:ts.length=1
    .obtain⟨t,rfl⟩:=List.length_eq_one_iff.1 h1;have hb:=jD (G:=G) l j3 [45,62] p3.2 (by omega);simp;refine mA (ds:=[.str [45,62]]) eO hb ?_;cases hs:aQ l j3 [45,62]with
     |false=>have Q3:=Q3.ifp (by simp[hs]);simp;exact Q3.ok _ j3 _ _ rfl (.inr rfl) (by simp[cM])
     |true=>
      have Q3:=Q3.ifn (by simp[hs]);simp;refine dD Q3 p3 hV.fin λu4 j4 x4 Q4 p4=>?_;simp;refine dI 6 (t:=28) (e:=45) (T:=45) (s:=48) (z:=52) (r:=53) (p:=54) (q:=51) (x:=50) (b:=55) (y:=3) (fd:=2) [0] 3 [2] (a3g 1 4 5) (gL (ty j4)) rfl rfl rfl rfl rfl (by kernel_rfl) (by kernel_rfl) rfl ?_;simp
      repeat' apply And.intro
      all_goals
       refine oF Q4 p4 cK ((mN j4 (by omega) p4.2)) (oV) λt5 j5 x5 Q5 p5=>cT.mk ?_;simp;refine⟨_,_,_,_,_,_,_,_,_,by simp,rfl,rfl,?_,rfl,rfl,?_,by simp,rfl,rfl,rfl,rfl,by decide,rfl,?_⟩
       .intro c hc
        first
         |(obtain⟨y,_,rfl⟩:=List.mem_map.1 hc
           rw[cM]
           rfl)
         |(simp only[f2U]at hc
           subst hc
           rfl)
       .simp<;>omega
       simp;exact Q5.ok _ j5 _ _ rfl (.inr rfl) (by simp[psT,mL,cM])
    .have Q3:=Q3.ifn (by simp[h1]);simp[h1];refine dD Q3 p3 hV.fin λu4 j4 x4 Q4 p4=>?_;simp;refine dI 6 (t:=28) (e:=45) (T:=45) (s:=48) (z:=52) (r:=53) (p:=54) (q:=51) (x:=50) (b:=55) (y:=3) (fd:=2) [0] 3 [2] (a3g 1 4 5) (gL (ty j4)) rfl rfl rfl rfl rfl (by kernel_rfl) (by kernel_rfl) rfl ?_;simp
     repeat' apply And.intro
     all_goals
      refine oF Q4 p4 cK ((mN j4 (by omega) p4.2)) (oV) λt5 j5 x5 Q5 p5=>cT.mk ?_;simp;refine⟨_,_,_,_,_,_,_,_,_,by simp,rfl,rfl,?_,rfl,rfl,?_,by simp,rfl,rfl,rfl,rfl,by decide,rfl,?_⟩
      .intro c hc
       first
        |(obtain⟨y,_,rfl⟩:=List.mem_map.1 hc
          rw[cM]
          rfl)
        |(simp only[f2U]at hc
          subst hc
          rfl)
      .simp<;>omega
      simp;exact Q5.ok _ j5 _ _ rfl (.inr rfl) (by simp[psT,mL,cM])
   .have Q3:=Q3.ifn (by simp[hn]);have hn': ¬(ns.length:Int)=0:=by omega
    have hn2: ¬ns=[]:=λe=>hn (by rw[e];rfl);simp[hn,hn',hn2];refine dD Q3 p3 hV.fin λu4 j4 x4 Q4 p4=>?_;simp;refine dI 6 (t:=28) (e:=45) (T:=45) (s:=48) (z:=52) (r:=53) (p:=54) (q:=51) (x:=50) (b:=55) (y:=3) (fd:=2) [0] 3 [2] (a3g 1 4 5) (gL (ty j4)) rfl rfl rfl rfl rfl (by kernel_rfl) (by kernel_rfl) rfl ?_;simp
    repeat' apply And.intro
    all_goals
     refine oF Q4 p4 cK ((mN j4 (by omega) p4.2)) (oV) λt5 j5 x5 Q5 p5=>cT.mk ?_;simp;refine⟨_,_,_,_,_,_,_,_,_,by simp,rfl,rfl,?_,rfl,rfl,?_,by simp,rfl,rfl,rfl,rfl,by decide,rfl,?_⟩
     .intro c hc
      first
       |(obtain⟨y,_,rfl⟩:=List.mem_map.1 hc
         rw[cM]
         rfl)
       |(simp only[f2U]at hc
         subst hc
         rfl)
     .simp<;>omega
     simp;exact Q5.ok _ j5 _ _ rfl (.inr rfl) (by simp[psT,mL,cM])
 |true=>
  simp;refine mA (ds:=[.int .i64 1]) bP ht1 ?_;simp;refine jC.mk kE (mI (aR l (j1+1)) [58]) ?_;cases hf:gF (aR l (j1+1)) [58]with
  |false=>
   have hx:=hK false (by rw[hw,hf];rfl);rw[if_neg (by decide)]at hx;simp;refine eF.mk (yJ dE d7B [(100000,100000),(100001,3),(100002,1)] (λa j hx=>?_) ?_ ?_ ?_ rfl rfl (λws j2 x2=>?_) (λn e wE=>Q1.fail (hx.trans wE) _))
   .simp[a0i,aK,aP,aM,aL,bA,getKey]
   .simp[a0i,aK,aP,aM,aL,bA,getKey]
   .simp[aO,bD,rk]
   .simp[a0i,aO,bD,rk,cI,cQ]
   .have Q2:=Q1.step (hx.trans x2);have p2:=aA.list hV.fin (λa=>a4T mN oV a) ([],[]) j1 ws j2 p1.2 x2;have hlen:ws.1.length<=50000/\ws.2.length<=50000:=by have:=rI hV (one:=a2S ty) (λa i=>a.1.length<=i/\a.2.length<=i) (a6z mN oV) (λa i h=>by omega) _ _ _ _ _ p1.2 (by simp) x2;omega
    simp[bE,a0i,aO,bD,rk,cI,cQ,bO,gP,eS,dQ];obtain⟨ns,ts⟩:=ws;simp only at Q2 hlen;refine dD Q2 p2 hV.fin λu3 j3 x3 Q3 p3=>?_;simp;by_cases hn:ns.length=0
    .have hn0:ns=[]:=List.eq_nil_of_length_eq_zero hn;subst hn0;by_cases h1:ts.length=1
     .obtain⟨t,rfl⟩:=List.length_eq_one_iff.1 h1;have hb:=jD (G:=G) l j3 [45,62] p3.2 (by omega);simp;refine mA (ds:=[.str [45,62]]) eO hb ?_;cases hs:aQ l j3 [45,62]with
      |false=>have Q3:=Q3.ifp (by simp[hs]);simp;exact Q3.ok _ j3 _ _ rfl (.inr rfl) (by simp[cM])
      |true=>
       have Q3:=Q3.ifn (by simp[hs]);simp;refine dD Q3 p3 hV.fin λu4 j4 x4 Q4 p4=>?_;simp;refine dI 6 (t:=28) (e:=45) (T:=45) (s:=48) (z:=52) (r:=53) (p:=54) (q:=51) (x:=50) (b:=55) (y:=3) (fd:=2) [0] 3 [2] (a3g 1 4 5) (gL (ty j4)) rfl rfl rfl rfl rfl (by kernel_rfl) (by kernel_rfl) rfl ?_;simp
       repeat' apply And.intro
       all_goals
        refine oF Q4 p4 cK ((mN j4 (by omega) p4.2)) (oV) λt5 j5 x5 Q5 p5=>cT.mk ?_;simp;refine⟨_,_,_,_,_,_,_,_,_,by simp,rfl,rfl,?_,rfl,rfl,?_,by simp,rfl,rfl,rfl,rfl,by decide,rfl,?_⟩
        .intro c hc
         first
          |(obtain⟨y,_,rfl⟩:=List.mem_map.1 hc
            rw[cM]
            rfl)
          |(simp only[f2U]at hc
            subst hc
            rfl)
        .simp<;>omega
        simp;exact Q5.ok _ j5 _ _ rfl (.inr rfl) (by simp[psT,mL,cM])
     .have Q3:=Q3.ifn (by simp[h1]);simp[h1];refine dD Q3 p3 hV.fin λu4 j4 x4 Q4 p4=>?_;simp;refine dI 6 (t:=28) (e:=45) (T:=45) (s:=48) (z:=52) (r:=53) (p:=54) (q:=51) (x:=50) (b:=55) (y:=3) (fd:=2) [0] 3 [2] (a3g 1 4 5) (gL (ty j4)) rfl rfl rfl rfl rfl (by kernel_rfl) (by kernel_rfl) rfl ?_;simp
      repeat' apply And.intro
      all_goals
       refine oF Q4 p4 cK ((mN j4 (by omega) p4.2)) (oV) λt5 j5 x5 Q5 p5=>cT.mk ?_;simp;refine⟨_,_,_,_,_,_,_,_,_,by simp,rfl,rfl,?_,rfl,rfl,?_,by simp,rfl,rfl,rfl,rfl,by decide,rfl,?_⟩
       .intro c hc
        first
         |(obtain⟨y,_,rfl⟩:=List.mem_map.1 hc
           rw[cM]
           rfl)
         |(simp only[f2U]at hc
           subst hc
           rfl)
       .simp<;>omega
       simp;exact Q5.ok _ j5 _ _ rfl (.inr rfl) (by simp[psT,mL,cM])
    .have Q3:=Q3.ifn (by simp[hn]);have hn': ¬(ns.length:Int)=0:=by omega
     have hn2: ¬ns=[]:=λe=>hn (by rw[e];rfl);simp[hn,hn',hn2];refine dD Q3 p3 hV.fin λu4 j4 x4 Q4 p4=>?_;simp;refine dI 6 (t:=28) (e:=45) (T:=45) (s:=48) (z:=52) (r:=53) (p:=54) (q:=51) (x:=50) (b:=55) (y:=3) (fd:=2) [0] 3 [2] (a3g 1 4 5) (gL (ty j4)) rfl rfl rfl rfl rfl (by kernel_rfl) (by kernel_rfl) rfl ?_;simp
     repeat' apply And.intro
     all_goals
      refine oF Q4 p4 cK ((mN j4 (by omega) p4.2)) (oV) λt5 j5 x5 Q5 p5=>cT.mk ?_;simp;refine⟨_,_,_,_,_,_,_,_,_,by simp,rfl,rfl,?_,rfl,rfl,?_,by simp,rfl,rfl,rfl,rfl,by decide,rfl,?_⟩
      .intro c hc
       first
        |(obtain⟨y,_,rfl⟩:=List.mem_map.1 hc
          rw[cM]
          rfl)
        |(simp only[f2U]at hc
          subst hc
          rfl)
      .simp<;>omega
      simp;exact Q5.ok _ j5 _ _ rfl (.inr rfl) (by simp[psT,mL,cM])
  |true=>
   have hx:=hK true (by rw[hw,hf];rfl);rw[if_pos rfl]at hx;simp;refine eF.mk (yJ dE e4b [(100000,100000),(100001,3),(100002,1)] (λa j hx=>?_) ?_ ?_ ?_ rfl rfl (λws j2 x2=>?_) (λn e wE=>Q1.fail (hx.trans wE) _))
   .simp[a0i,aK,aP,aM,aL,bA,getKey]
   .simp[a0i,aK,aP,aM,aL,bA,getKey]
   .simp[aO,bD,rk]
   .simp[a0i,aO,bD,rk,cI,cQ]
   .have Q2:=Q1.step (hx.trans x2);have p2:=aA.list hV.fin (λa=>a8R hV mN oV a) ([],[]) j1 ws j2 p1.2 x2;have hlen:ws.1.length<=50000/\ws.2.length<=50000:=by have:=rI hV (one:=a4k l ty) (λa i=>a.1.length<=i/\a.2.length<=i) (b2B hV mN oV) (λa i h=>by omega) _ _ _ _ _ p1.2 (by simp) x2;omega
    simp[bE,a0i,aO,bD,rk,cI,cQ,bO,gP,eS,dQ];obtain⟨ns,ts⟩:=ws;simp only at Q2 hlen;refine dD Q2 p2 hV.fin λu3 j3 x3 Q3 p3=>?_;simp;by_cases hn:ns.length=0
    .have hn0:ns=[]:=List.eq_nil_of_length_eq_zero hn;subst hn0;by_cases h1:ts.length=1
     .obtain⟨t,rfl⟩:=List.length_eq_one_iff.1 h1;have hb:=jD (G:=G) l j3 [45,62] p3.2 (by omega);simp;refine mA (ds:=[.str [45,62]]) eO hb ?_;cases hs:aQ l j3 [45,62]with
      |false=>have Q3:=Q3.ifp (by simp[hs]);simp;exact Q3.ok _ j3 _ _ rfl (.inr rfl) (by simp[cM])
      |true=>
       have Q3:=Q3.ifn (by simp[hs]);simp;refine dD Q3 p3 hV.fin λu4 j4 x4 Q4 p4=>?_;simp;refine dI 6 (t:=28) (e:=45) (T:=45) (s:=48) (z:=52) (r:=53) (p:=54) (q:=51) (x:=50) (b:=55) (y:=3) (fd:=2) [0] 3 [2] (a3g 1 4 5) (gL (ty j4)) rfl rfl rfl rfl rfl (by kernel_rfl) (by kernel_rfl) rfl ?_;simp
       repeat' apply And.intro
       all_goals
        refine oF Q4 p4 cK ((mN j4 (by omega) p4.2)) (oV) λt5 j5 x5 Q5 p5=>cT.mk ?_;simp;refine⟨_,_,_,_,_,_,_,_,_,by simp,rfl,rfl,?_,rfl,rfl,?_,by simp,rfl,rfl,rfl,rfl,by decide,rfl,?_⟩
        .intro c hc
         first
          |(obtain⟨y,_,rfl⟩:=List.mem_map.1 hc
            rw[cM]
            rfl)
          |(simp only[f2U]at hc
            subst hc
            rfl)
        .simp<;>omega
        simp;exact Q5.ok _ j5 _ _ rfl (.inr rfl) (by simp[psT,mL,cM])
     .have Q3:=Q3.ifn (by simp[h1]);simp[h1];refine dD Q3 p3 hV.fin λu4 j4 x4 Q4 p4=>?_;simp;refine dI 6 (t:=28) (e:=45) (T:=45) (s:=48) (z:=52) (r:=53) (p:=54) (q:=51) (x:=50) (b:=55) (y:=3) (fd:=2) [0] 3 [2] (a3g 1 4 5) (gL (ty j4)) rfl rfl rfl rfl rfl (by kernel_rfl) (by kernel_rfl) rfl ?_;simp
      repeat' apply And.intro
      all_goals
       refine oF Q4 p4 cK ((mN j4 (by omega) p4.2)) (oV) λt5 j5 x5 Q5 p5=>cT.mk ?_;simp;refine⟨_,_,_,_,_,_,_,_,_,by simp,rfl,rfl,?_,rfl,rfl,?_,by simp,rfl,rfl,rfl,rfl,by decide,rfl,?_⟩
       .intro c hc
        first
         |(obtain⟨y,_,rfl⟩:=List.mem_map.1 hc
           rw[cM]
           rfl)
         |(simp only[f2U]at hc
           subst hc
           rfl)
       .simp<;>omega
       simp;exact Q5.ok _ j5 _ _ rfl (.inr rfl) (by simp[psT,mL,cM])
    .have Q3:=Q3.ifn (by simp[hn]);have hn': ¬(ns.length:Int)=0:=by omega
     have hn2: ¬ns=[]:=λe=>hn (by rw[e];rfl);simp[hn,hn',hn2];refine dD Q3 p3 hV.fin λu4 j4 x4 Q4 p4=>?_;simp;refine dI 6 (t:=28) (e:=45) (T:=45) (s:=48) (z:=52) (r:=53) (p:=54) (q:=51) (x:=50) (b:=55) (y:=3) (fd:=2) [0] 3 [2] (a3g 1 4 5) (gL (ty j4)) rfl rfl rfl rfl rfl (by kernel_rfl) (by kernel_rfl) rfl ?_;simp
     repeat' apply And.intro
     all_goals
      refine oF Q4 p4 cK ((mN j4 (by omega) p4.2)) (oV) λt5 j5 x5 Q5 p5=>cT.mk ?_;simp;refine⟨_,_,_,_,_,_,_,_,_,by simp,rfl,rfl,?_,rfl,rfl,?_,by simp,rfl,rfl,rfl,rfl,by decide,rfl,?_⟩
      .intro c hc
       first
        |(obtain⟨y,_,rfl⟩:=List.mem_map.1 hc
          rw[cM]
          rfl)
        |(simp only[f2U]at hc
          subst hc
          rfl)
      .simp<;>omega
      simp;exact Q5.ok _ j5 _ _ rfl (.inr rfl) (by simp[psT,mL,cM])
end
end
end
section
open Go Go.VM
variable {G:GT}
theorem xR:VM.Enters prog 272:=.mk func272 rfl
theorem a7S:VM.Enters prog 282:=.mk func282 rfl
section
variable {aG:List Tok->Nat->Nat->kX Pr} {l:List Tok} (hV:kU G aG l)
include hV
section
variable {ty:bB Ty} {low:Nat} (mN:∀i,low<=i->i<l.length->pW G 39 [] l i (ty i) b0u) (oV:aA l 1 ty) (ity:∀i t j,i<l.length->ty i=.ok t j->TyI t i j)
include mN oV ity
theorem c6g(i:Nat)(oE:low<=i+1)(hi:i<l.length):pW G 39 [] l i (uG aX bI aG l ty i) b0u:=by
 have hl:=hV.len;obtain⟨j0,rfl⟩:∃j0,j0=i:=⟨_,rfl⟩;have p0:j0<=j0/\j0<l.length:=⟨f3d _,hi⟩;have ht:=cF (G:=G) l j0 j0 0 (by omega) (by omega) (by intro e;subst e;simp at hi) (by omega);refine kZ.cP func39 rfl ntmps39 rfl (by simp) ?_;intro Q Q0;unfold uG at Q0;simp;refine qI Q0 p0 b0c (b2z hV j0 hi) (aA.base hV.fin) λo j1 x1 Q1 p1=>?_;cases o with
 |some t=>obtain⟨op,nm,args,ns,p,ps⟩:=t;simp;exact Q1.ok _ j1 _ _ rfl (.inr rfl) (by simp)
 |none=>
 have hj:=tK x1;subst hj;simp only at Q1;simp[sF,mL];refine mA (ds:=[.int .i64 0]) bP ht ?_;cases hti:sM (aR l j1)with
 |true=>
  rw[hti,if_pos rfl]at Q1;have hk:(aR l j1).kind=2:=by simpa[sM]using hti
  generalize aR l j1=T at hk|-;obtain⟨k,x,n,ln⟩:=T;simp only at hk;subst hk;simp[cH];refine rdX (ds:=[]) c0f (c2D hV mN (oV.le (by omega)) ity j1 oE p1.2) (λt j h=>?_) (λn e h=>Q1.bad n e _ h);simp;exact Q1.ok t j _ _ h (.inr rfl) (by simp)
 |false=>
  rw[hti,if_neg (by decide)]at Q1;have hk: ¬(aR l j1).kind=2:=by simpa[sM]using hti
  generalize aR l j1=T at hk|-;obtain⟨k,x,n,ln⟩:=T;simp only at hk;simp[cH,hk];have hb:=jD (G:=G) l j1 [123] p1.2 (by omega);refine mA (ds:=[.str [123]]) eO hb ?_;cases hs:aQ l j1 [123]with
  |true=>rw[hs,if_pos rfl]at Q1;simp;refine rdX (ds:=[]) a4j (a5J hV mN (oV.le (by omega)) ity j1 oE p1.2) (λt j h=>?_) (λn e h=>Q1.bad n e _ h);simp;exact Q1.ok t j _ _ h (.inr rfl) (by simp)
  |false=>rw[hs,if_neg (by decide)]at Q1;simp;refine rdX (ds:=[]) c2E (c6f hV mN oV j1 oE p1.2) (λt j h=>?_) (λn e h=>Q1.bad n e _ h);simp;exact Q1.ok t j _ _ h (.inr rfl) (by simp)
end
theorem b2C(op:Int)(nm:Nm)(args:List Ty)(ns:List Nm)(ps:List Pr){i j:Nat}(h:i<=j):TyI ⟨op,nm,args,ns,mL,ps⟩ i j:=by refine⟨λ_=>rfl,?_⟩;simp[mL,cB,dT];omega
theorem c4i{p q:Pr}{s r:Pr×Bool}(hp:p.op≠0)(hs:s.1.op≠0)(h:b4n p s=some r):r.1.op≠0:=by
 unfold b4n at h;split at h
 .cases h;exact hs
 split at h
 .cases h
 split at h
 .cases h;simp
 .cases h;exact hp
theorem b7k(b:Bool):(a4g b).op≠0:=by cases b<;>simp[a4g,c2z,d4R]
theorem d4Y{a b:Pr}(ha:a.op≠0)(hb:b.op≠0):(bI a b).op≠0:=by
 unfold bI b2x;cases h1:b4n a (a4g true,false)with
 |none=>exact b7k hV false
 |some s=>
  have k1:=c4i hV (q:=a) ha (b7k hV true) h1;simp only[b2x];cases h2:b4n b s with
  |none=>exact b7k hV false
  |some r=>exact c4i hV (q:=b) hb k1 h2
theorem c9w{a b:Pr}:cB (bI a b)<=cB a+cB b+1:=by
 have pos:∀p:Pr,1<=cB p:=λp=>by cases p;simp[cB]
 have ha:=pos a;have hb:=pos b;unfold bI b2x;cases h1:b4n a (a4g true,false)with
 |none=>simp only[b2y];omega
 |some s=>
  have k1:cB s.1<=cB a/\(s.2=false->cB s.1=1):=by
   unfold b4n at h1;split at h1
   .cases h1;simp only[b2y];exact⟨ha,λ_=>trivial⟩
   split at h1
   .cases h1
   simp only[Bool.false_eq_true,if_false,f2T]at h1;subst h1;exact⟨f3d _,λh=>by cases h⟩
  simp only[b2x];cases h2:b4n b s with
  |none=>simp only[b2y];omega
  |some r=>
   simp only;unfold b4n at h2;split at h2
   .cases h2;omega
   split at h2
   .cases h2
   split at h2
   .cases h2;simp only[c9v];omega
   .cases h2;simp only;omega
omit hV in
theorem bG{α β:Type}{x:bB α}{f:α->bB β}{i j:Nat}{b:β}(h:(x >>=f) i=.ok b j):∃a k,x i=.ok a k/\f a k=.ok b j:=by
 rw[hZ]at h;cases hx:x i with
 |bad n e=>rw[hx]at h;cases h
 |ok a k=>rw[hx]at h;exact⟨a,k,rfl,h⟩
theorem c6h{ty:bB Ty}(i:Nat)(t:Ty)(j:Nat)(h:qP aX bI aG l ty i=.ok t j):t.pred=mL:=by
 unfold qP at h;obtain⟨nm,k1,_,h⟩:=bG h;obtain⟨args,k2,_,h⟩:=bG h;obtain⟨b,k3,_,h⟩:=bG h;cases b with
 |true=>rw[if_pos rfl]at h;obtain⟨ps,k4,_,h⟩:=bG h;obtain⟨_,k5,_,h⟩:=bG h;cases h;rfl
 |false=>rw[if_neg (by decide)]at h;cases h;rfl
theorem c0j{ty:bB Ty}(oV:aA l 1 ty)(ity:∀i t j,i<l.length->ty i=.ok t j->TyI t i j)(i:Nat)(t:Ty)(j:Nat)(hi:i<l.length)(h:tB bI aG l ty i=.ok t j):TyI t i j:=by
 unfold tB at h;obtain⟨_,k1,h1,h⟩:=bG h;obtain⟨t1,k2,h2,h⟩:=bG h;have a1:=aA.exp hV.fin _ _ i _ k1 hi h1;have a2:=oV k1 t1 k2 a1.2 h2;have i2:=ity k1 t1 k2 a1.2 h2;split at h
 .unfold dU at h;cases h
 obtain⟨_,k3,h3,h⟩:=bG h;obtain⟨p,k4,h4,h⟩:=bG h;obtain⟨_,k5,h5,h⟩:=bG h;have a3:=aA.exp hV.fin _ _ k2 _ k3 a2.2 h3;have a4:=hV.oB.pred k3 p k4 a3.2 h4;have a5:=aA.exp hV.fin _ _ k4 _ k5 a4.2 h5;have hp:=hV.nod k3 _ p k4 a3.2 h4;cases h;unfold TyI at i2|-;simp only;by_cases hz:t1.pred.op=0
 .rw[if_pos hz];exact⟨λh=>(hp.2 h).elim,by omega⟩
 .rw[if_neg hz];have hn:=c9w hV (a:=t1.pred) (b:=p);exact⟨λh=>(d4Y hV hz hp.2 h).elim,by omega⟩
theorem c9x{ty:bB Ty}(oV:aA l 1 ty)(ity:∀i t j,i<l.length->ty i=.ok t j->TyI t i j)(i:Nat)(t:Ty)(j:Nat)(hi:i<l.length)(h:uF aX l ty i=.ok t j):TyI t i j:=by
 have a2r:=aA.c5F (kw:=aX) hV.fin (oV.le (by omega)) hV.oB.pred i t j hi h;unfold uF at h;obtain⟨_,k1,h1,h⟩:=bG h;obtain⟨⟨ns,ts⟩,k2,h2,h⟩:=bG h;obtain⟨_,k3,h3,h⟩:=bG h;have a1:=aA.exp hV.fin _ _ i _ k1 hi h1;simp only at h2 h3 h;have hI:∀(x:bB (List Nm×List Ty)),(∀(I:List Nm×List Ty->Nat->Prop),I ([],[]) k1->(∀a p b q,p<l.length->k1<=p->I a p->(a4k l ty a p=.ok b q\/a2S ty a p=.ok b q)->I b q/\q<l.length/\k1<=q)->(∀a p,I a p->I a (p+1))->x k1=.ok (ns,ts) k2->I (ns,ts) k2/\k2<l.length)->x k1=.ok (ns,ts) k2->(∀t∈ts,(t.pred.op=0->t.pred=a8O)/\cB t.pred+k1<=k2+1)/\k2<l.length:=λx hx wE=>by
  refine hx (λa p=>∀t∈a.2,(t.pred.op=0->t.pred=a8O)/\cB t.pred+k1<=p+1) (by simp) (λa p b q hp hk ha hab=>?_) (λa p ha t ht=>by have:=ha t ht;exact⟨this.1,by omega⟩) wE;have key:∀t q',∀p',p<=p'->p'<l.length->ty p'=.ok t q'->(t.pred.op=0->t.pred=a8O)/\cB t.pred+k1<=q'+1/\q'<l.length/\p<=q':=λt q' p' h1 h2 h3=>by have b1:=ity p' t q' h2 h3;have b2:=oV p' t q' h2 h3;exact⟨b1.1,by have:=b1.2;omega,b2.2,by omega⟩
  rcases hab with hab|hab
  .obtain⟨w,m1,e1,hab⟩:=bG hab;obtain⟨_,m2,e2,hab⟩:=bG hab;obtain⟨t',m3,e3,hab⟩:=bG hab;have c1:=aA.word (kw:=aX) hV.fin p w m1 hp e1;have c2:=aA.exp hV.fin _ _ m1 _ m2 c1.2 e2;have c3:=key t' m3 m2 (by omega) c2.2 e3;cases hab;refine⟨λt ht=>?_,c3.2.2.1,by omega⟩;simp only[List.mem_append,f2U]at ht;rcases ht with ht|rfl
   .have:=ha t ht;exact⟨this.1,by omega⟩
   .exact⟨c3.1,c3.2.1⟩
  .obtain⟨t',m3,e3,hab⟩:=bG hab;have c3:=key t' m3 p (f3d _) hp e3;cases hab;refine⟨λt ht=>?_,c3.2.2.1,by omega⟩;simp only[List.mem_append,f2U]at ht;rcases ht with ht|rfl
   .have:=ha t ht;exact⟨this.1,by omega⟩
   .exact⟨c3.1,c3.2.1⟩
 have hA:(∀t∈ts,(t.pred.op=0->t.pred=a8O)/\cB t.pred+k1<=k2+1)/\k2<l.length:=by
  split at h2
  .refine hI _ (λI h0 hs hm hx=>?_) h2;have:=rI hV (one:=a4k l ty) (λa p=>k1<=p/\I a p) (λa p b q hp ha hab=>by have:=hs a p b q hp ha.1 ha.2 (.inl hab);exact⟨⟨this.2.2,this.1⟩,this.2.1⟩) (λa p h=>⟨by omega,hm a p h.2⟩) _ _ _ _ _ a1.2 ⟨f3d _,h0⟩ hx
   exact⟨this.1.2,this.2⟩
  .refine hI _ (λI h0 hs hm hx=>?_) h2;have:=rI hV (one:=a2S ty) (λa p=>k1<=p/\I a p) (λa p b q hp ha hab=>by have:=hs a p b q hp ha.1 ha.2 (.inr hab);exact⟨⟨this.2.2,this.1⟩,this.2.1⟩) (λa p h=>⟨by omega,hm a p h.2⟩) _ _ _ _ _ a1.2 ⟨f3d _,h0⟩ hx
   exact⟨this.1.2,this.2⟩
 have a3:=aA.exp hV.fin _ _ k2 _ k3 hA.2 h3;split at h
 .rename_i hc;simp only[f2N,decide_eq_true_eq]at hc;obtain⟨t',rfl⟩:=List.length_eq_one_iff.1 hc.1.2;cases h;have:=hA.1 t' (by simp);simp only[List.headD_cons];exact⟨this.1,by omega⟩
 .obtain⟨_,k4,h4,h⟩:=bG h;obtain⟨t',k5,h5,h⟩:=bG h;cases h;exact b2C hV _ _ _ _ _ (by omega)
theorem c9y{ty:bB Ty}(oV:aA l 1 ty)(ity:∀i t j,i<l.length->ty i=.ok t j->TyI t i j)(i:Nat)(t:Ty)(j:Nat)(hi:i<l.length)(h:uG aX bI aG l ty i=.ok t j):TyI t i j:=by
 have a2r:=aA.c5G (kw:=aX) (andP:=bI) hV.fin (oV.le (by omega)) hV.oB.pred i t j hi h;unfold uG at h;rw[hZ]at h;cases hb:gS aX l i with
 |bad n e=>rw[hb]at h;cases h
 |ok o k=>
  rw[hb]at h;cases o with
  |some t'=>
   simp only[gR]at h;cases h;unfold gS at hb
   repeat' split at hb
   all_goals first|(cases hb;exact b2C hV _ _ _ _ _ (by omega))|cases hb
  |none=>
   have:=tK hb;subst this;simp only at h;split at h
   .have hp:=c6h hV _ t j h;obtain⟨op,nm,args,ns,p,ps⟩:=t;simp only at hp;subst hp;exact b2C hV _ _ _ _ _ (by omega)
   .split at h
    .exact c0j hV oV ity _ t j hi h
    .exact c9x hV oV ity _ t j hi h
theorem a4l:∀n i t j,i<l.length->vO aX bI aG l n i=.ok t j->TyI t i j
 |0,i,t,j,_,h=>by unfold vO at h;cases h
 |n+1,i,t,j,hi,h=>c9y hV (aA.b0q hV.fin hV.oB.pred n) (a4l n) i t j hi h
theorem b2D:∀n i,i<l.length->l.length<n+i->pW G 39 [] l i (vO aX bI aG l n i) b0u
 |0,i,hi,h=>by omega
 |n+1,i,hi,h=>c6g hV (ty:=vO aX bI aG l n) (low:=i+1) (λi' h1 h2=>b2D n i' h2 (by omega)) (aA.b0q hV.fin hV.oB.pred n) (a4l hV n) i (f3d _) hi
theorem mJ(i:Nat)(hi:i<l.length):pW G 39 [] l i (dW aX bI aG l i) b0u:=b2D hV _ i hi (by omega)
theorem gY:aA l 1 (dW aX bI aG l):=aA.typ hV.fin hV.oB.pred
theorem c6i(i:Nat)(t:Ty)(j:Nat)(hi:i<l.length)(h:dW aX bI aG l i=.ok t j):TyI t i j:=a4l hV _ i t j hi h
theorem b7l(i:Nat)(hi:i<l.length):pW G 124 [] l i (gT aX bI aG l (dW aX bI aG l) i) b0u:=b0e hV (low:=0) (λi _ h=>mJ hV i h) ((gY hV).le (by omega)) (c6i hV) i (by omega) hi
def a1h(out:List Ty):List (Nat×aW):=[(100001,.cells [.d (.sl (out.map tyC))]),(100002,.cells [.ptr 100000 0])]
abbrev c9z:List (TypeId×List VM.Loc):=[(45,[.c 100001 0])]
abbrev b7m(aG:List Tok->Nat->Nat->kX Pr)(l:List Tok)(out:List Ty):bB (List Ty):=do let t <- dW aX bI aG l;pure (out++[t])
theorem c2H:zU l K3 [.ptr 100001 0,.ptr 100002 0] a1h c9z:=by
 constructor
 all_goals intros
 all_goals first
  |rfl
  |simp[a1h,aK,aP,aM,aL,bA,getKey,aO,bD,cI,rk,cQ,bO, *]
theorem b2E(out:List Ty):aA l 1 (b7m aG l out):=(gY hV).bl λ_=>aA.aT _
theorem c0k(a:List Ty)(i:Nat)(b:List Ty)(j:Nat)(hi:i<l.length)(h:a.length<=i)(hx:b7m aG l a i=.ok b j):b.length<=j:=by obtain⟨t,k,h1,h2⟩:=bG hx;have:=gY hV i t k hi h1;cases h2;simp;omega
theorem b0w(out:List Ty)(i:Nat)(hi:i<l.length)(rN:out.length<=i):kZ G 282 [.ptr 100001 0,.ptr 100002 0] (a1h out) c9z l i (b7m aG l out i) (λ_=>.cJ []) a1h:=by
 have hl:=hV.len;obtain⟨j0,rfl⟩:∃j0,j0=i:=⟨_,rfl⟩;have p0:j0<=j0/\j0<l.length:=⟨f3d _,hi⟩;refine kZ.cP func282 rfl ntmps282 rfl (by simp) ?_;intro Q Q0;simp[a1h];refine a7L 5 (t:=28) (e:=45) (s:=2) (z:=6) (r:=7) (p:=8) (q:=5) (x:=4) (b:=0) [] 2 [1] (a3g 0 3 4) (gL (dW aX bI aG l j0)) rfl rfl rfl rfl (by kernel_rfl) (by kernel_rfl) rfl ?_;simp
 repeat' apply And.intro
 all_goals
  refine oF Q0 p0 cK ((mJ hV j0 p0.2)) (gY hV) λt j1 x1 Q1 p1=>cT.mk ?_;simp;refine⟨_,_,_,_,_,by simp,rfl,rfl,?_,rfl,rfl,?_,by simp,rfl,rfl,rfl,?_⟩
  .intro c hc
   first
    |(obtain⟨y,_,rfl⟩:=List.mem_map.1 hc
      rw[cM]
      rfl)
    |(simp only[f2U]at hc
      subst hc
      rfl)
  .simp<;>omega
  exact Q1.ok _ j1 .normal _ rfl (.inl rfl) (by simp[a1h,cM])
theorem zV(i:Nat)(hi:i<l.length):pW G 272 [] l i (qQ aX bI aG l i) (λts=>.d (.sl (ts.map tyC))):=by
 have hl:=hV.len;obtain⟨j0,rfl⟩:∃j0,j0=i:=⟨_,rfl⟩;have p0:j0<=j0/\j0<l.length:=⟨f3d _,hi⟩;refine kZ.cP func272 rfl ntmps272 rfl (by simp) ?_;intro Q Q0;unfold qQ at Q0;simp;cases hs:aQ l j0 [91]with
 |false=>have Q1:=Q0.step (jF hs);rw[if_neg (by decide)]at Q1;refine vX hs p0 ?_;simp;exact Q1.ok _ j0 _ _ rfl (.inr rfl) (by simp)
 |true=>
  have Q1:=Q0.step (jE hs);rw[if_pos rfl]at Q1;refine yT hs p0 hV.fin λp1=>?_;obtain⟨j1,sR⟩:∃j1,j0+1=j1:=⟨_,rfl⟩;rw[sR]at Q1 p1|-;simp;have gO:=eI hV [44] (b7m aG l) (λout i=>out.length<=i) 0 a7S (c2H hV) (λa=>(b2E hV a).le (by omega)) (λa i _ hi h=>b0w hV a i hi h) (c0k hV) (λa i h=>by omega) [] j1 (by omega) p1.2 (by simp);refine eF.mk (yJ dE gO [(100000,100000),(100001,3),(100002,1)] (λa j hx=>?_) ?_ ?_ ?_ rfl rfl (λws j2 x2=>?_) (λn e wE=>Q1.fail wE _))
  .simp[a1h,aK,aP,aM,aL,bA,getKey]
  .simp[a1h,aK,aP,aM,aL,bA,getKey]
  .simp[aO,bD,rk]
  .simp[a1h,aO,bD,rk,cI,cQ]
  .have Q2:=Q1.step x2;have p2:=aA.list hV.fin (b2E hV) [] j1 ws j2 p1.2 x2;simp[bE,a1h,aO,bD,rk,cI,cQ,bO,gP,eS,dQ];refine dD Q2 p2 hV.fin λu3 j3 x3 Q3 p3=>?_;simp;exact Q3.ok _ j3 _ _ rfl (.inr rfl) (by simp)
end
end
section
open Go Go.VM
variable {G:GT}
abbrev xS(e:eM):List D:=[.int .i64 e.op,.str e.name,.int .i64 e.n,.sl (e.kids.map a1G),.sl (e.params.map a2j),.sl (e.alts.map b0r),.sl (e.types.map tyC)]
abbrev sO:eM->DV:=λe=>.d (.agg (xS e))
@[simp] theorem e5w(o:Int)(ks:List eM):(dG o ks).op=o:=rfl
@[simp] theorem e2a(o:Int)(ks:List eM):(dG o ks).name=[]:=rfl
@[simp] theorem e7J(o:Int)(ks:List eM):(dG o ks).n=0:=rfl
@[simp] theorem e2b(o:Int)(ks:List eM):(dG o ks).kids=ks:=rfl
@[simp] theorem d7C(o:Int)(ks:List eM):(dG o ks).params=[]:=rfl
@[simp] theorem e2c(o:Int)(ks:List eM):(dG o ks).alts=[]:=rfl
@[simp] theorem e0v(o:Int)(ks:List eM):(dG o ks).types=[]:=rfl
theorem cC:VM.Enters prog 68:=.mk func68 rfl
theorem bX:VM.Enters prog 34:=.mk func34 rfl
theorem a6A:VM.Enters prog 168:=.mk func168 rfl
theorem uP:VM.Enters prog 247:=.mk func247 rfl
theorem a0N:VM.Enters prog 72:=.mk func72 rfl
theorem b4p:VM.Enters prog 121:=.mk func121 rfl
theorem c2I:VM.Enters prog 67:=.mk func67 rfl
theorem b2F:VM.Enters prog 271:=.mk func271 rfl
theorem a4m(o:Int)(ks:List eM):CS prog G 68 [.int .i64 o,.sl (ks.map a1G)] (.d (.agg (xS (dG o ks)))) none:=by refine CS.res (r':=.d (.agg [.int .i64 o,.str [],.int .i64 0,.sl (ks.map a1G),.aJ,.aJ,.aJ])) ?_ (by simp);refine CS.aZ func68 rfl ntmps68 rfl ?_;simp
theorem c6j(o:Int)(a:eM):CS prog G 68 [.int .i64 o,.sl [xS a]] (.d (.agg [.int .i64 o,.str [],.int .i64 0,.sl [a1G a],.aJ,.aJ,.aJ])) none:=by rw[dL];refine CS.aZ func68 rfl ntmps68 rfl ?_;simp
theorem a4U(o:Int)(a:eM):CS prog G 68 [.int .i64 o,.sl [xS a]] (.d (.agg (xS (dG o [a])))) none:=by
 have:=a4m (G:=G) o [a]
 rwa[List.map_cons,List.map_nil,dL]at this
theorem jZ(o:Int)(a b:eM):CS prog G 68 [.int .i64 o,.sl [xS a,xS b]] (.d (.agg (xS (dG o [a,b])))) none:=by
 have:=a4m (G:=G) o [a,b]
 rwa[List.map_cons,List.map_cons,List.map_nil,dL a,dL b]at this
theorem c6k(o:Int)(a b c:eM):CS prog G 68 [.int .i64 o,.sl [xS a,xS b,xS c]] (.d (.agg (xS (dG o [a,b,c])))) none:=by
 have:=a4m (G:=G) o [a,b,c]
 rwa[List.map_cons,List.map_cons,List.map_cons,List.map_nil,dL a,dL b,dL c]at this
theorem c0l{α β γ:Type}(x:bB α)(f:α->bB β)(g:β->bB γ)(i:Nat):((x >>=f) >>=g) i=(x >>=λa=>f a >>=g) i:=by
 rw[hZ,hZ,hZ];cases x i with
 |ok a j=>simp only[hZ]
 |bad n e=>rfl
theorem qT.assoc{α β γ:Type}{Q:Exit->St->Prop}{rs:List ResultVar}{l:List Tok}{enc:γ->DV}{Y:γ->List (Nat×aW)}{own:List (TypeId×List VM.Loc)}{x:bB α}{f:α->bB β}{g:β->bB γ}{i:Nat}(h:qT Q rs l enc Y own (((x >>=f) >>=g) i)):qT Q rs l enc Y own ((x >>=λa=>f a >>=g) i):=by rwa[c0l]at h
theorem CH.drop{P:Program}{f:FuncId}{s0:St}{d:DV}{H1:List (Nat×aW)}{dZ:List (TypeId×List VM.Loc)}(h:CH P G f s0 ⟨[d],H1,dZ⟩):CH P G f s0 ⟨[d],H1,[]⟩:=λbase R μ args w hr=>(h base R μ args w hr).mono λe w' ⟨v,R',μ',he,eK,hs⟩=>⟨v,R',μ',he,⟨eK.defers,eK.size,eK.tmps,eK.gM,eK.inj,λc hc=>(by cases hc),by obtain⟨vs,pF⟩:=eK.own;obtain⟨vs',yA,_⟩:=a3G eK [] dZ vs ⟨pF.len,pF.one,pF.apart⟩ rfl;exact⟨vs',yA.len,λi c v hc hv=>⟨(yA.one i c v hc hv).dF,(yA.one i c v hc hv).own,(yA.one i c v hc hv).keys⟩,yA.apart⟩,eK.tP,eK.pE,eK.base,eK.pass⟩,hs⟩
abbrev RdO(G:GT){α:Type}(f:FuncId)(ds:List D)(l:List Tok)(i:Nat)(e:TypeId)(r:kX α)(enc:α->DV):Prop:=CX prog G f ⟨.ptr 100000 0::ds.map .d,rH l i,[]⟩ (rdE l enc (λ_=>[]) [(e,[.t 0])] r)
theorem RdO.m{α:Type}{f:FuncId}{ds:List D}{l:List Tok}{i:Nat}{e:TypeId}{r:kX α}{enc:α->DV}(h:RdO G f ds l i e r enc):pW G f ds l i r enc:=by
 cases r with
 |ok a j=>exact CH.drop h
 |bad n x=>exact h
section
variable {β:Type} {Q:Exit->St->Prop} {rs:List ResultVar} {l:List Tok} {i:Nat} {enc:β->DV} {e:TypeId} {r:kX β}
theorem RdO.cP{f:FuncId}{fn:Func}{c:Code}{k:Nat}{ds:List D}(hf:prog.funcs[f]? =some fn)(hb:fn.body=some c)(hn:fn.ntmps=k)(hrs:fn.results.toList=rs)(h:∀Q:Exit->St->Prop,qT Q rs l enc (λ_=>[]) [(e,[.t 0])] r->XK prog G [.code c] .normal ⟨.ptr 100000 0::ds.map .d++List.replicate (k-(.ptr 100000 0::ds.map .d:List DV).length) (.cJ []),rH l i,[]⟩ Q):RdO G f ds l i e r enc:=by
 refine CX.b6N hf hb hn hrs rfl λQ h1 h2=>SW.xk (h Q ⟨λa j e s hr he hs=>?_,λn e s hr=>?_⟩)
 .subst hr;exact h1 _ _ _ e s rfl he hs
 .subst hr;exact h2 _ s rfl
end
section
variable {aG:List Tok->Nat->Nat->kX Pr} {l:List Tok} (hV:kU G aG l)
include hV
section
variable {ex:Nat->bB eM} {low:Nat} (hex:∀i,low<=i->i<l.length->pW G 34 [] l i (ex 0 i) sO) (kV:∀k,aA l 1 (ex k))
include hex kV
def a5M(out:List eM):List (Nat×aW):=[(100001,.cells [.d (.sl (out.map a1G))]),(100002,.cells [.ptr 100000 0])]
abbrev d7D:List (TypeId×List VM.Loc):=[(30,[.c 100001 0])]
abbrev c0m(ex:Nat->bB eM)(out:List eM):bB (List eM):=do let e <- ex 0;pure (out++[e])
omit hex kV in
theorem c6l:zU l K3 [.ptr 100001 0,.ptr 100002 0] a5M d7D:=by
 constructor
 all_goals intros
 all_goals first
  |rfl
  |simp[a5M,aK,aP,aM,aL,bA,getKey,aO,bD,cI,rk,cQ,bO, *]
omit hex in
theorem a8S(out:List eM):aA l 1 (c0m ex out):=(kV 0).bl λ_=>aA.aT _
omit hex in
theorem b2G(a:List eM)(i:Nat)(b:List eM)(j:Nat)(hi:i<l.length)(h:a.length<=i)(hx:c0m ex a i=.ok b j):b.length<=j:=by obtain⟨t,k,h1,h2⟩:=bG hx;have:=kV 0 i t k hi h1;cases h2;simp;omega
theorem c0n(out:List eM)(i:Nat)(oE:low<=i)(hi:i<l.length)(rN:out.length<=i):kZ G 121 [.ptr 100001 0,.ptr 100002 0] (a5M out) d7D l i (c0m ex out i) (λ_=>.cJ []) a5M:=by
 have hl:=hV.len;obtain⟨j0,rfl⟩:∃j0,j0=i:=⟨_,rfl⟩;have p0:j0<=j0/\j0<l.length:=⟨f3d _,hi⟩;refine kZ.cP func121 rfl ntmps121 rfl (by simp) ?_;intro Q Q0;simp[a5M];refine a7L 5 (t:=25) (e:=30) (s:=2) (z:=6) (r:=7) (p:=8) (q:=5) (x:=4) (b:=0) [] 2 [1] (a3g 0 3 4) (gL (ex 0 j0)) rfl rfl rfl rfl (by kernel_rfl) (by kernel_rfl) rfl ?_;simp
 repeat' apply And.intro
 all_goals
  refine oF Q0 p0 bX ((hex j0 oE p0.2)) (kV 0) λt j1 x1 Q1 p1=>cT.mk ?_;simp;refine⟨_,_,_,_,_,by simp,rfl,rfl,?_,rfl,rfl,?_,by simp,rfl,rfl,rfl,?_⟩
  .intro c hc
   first
    |(obtain⟨y,_,rfl⟩:=List.mem_map.1 hc
      rw[dL]
      rfl)
    |(simp only[f2U]at hc
      subst hc
      rfl)
  .simp<;>omega
  exact Q1.ok _ j1 .normal _ rfl (.inl rfl) (by simp[a5M,dL])
theorem b2H(i:Nat)(oE:low<=i+1)(hi:i<l.length):RdO G 72 [] l i 30 (jJ l ex i) (λes=>.d (.sl (es.map a1G))):=by
 have hl:=hV.len;obtain⟨j0,rfl⟩:∃j0,j0=i:=⟨_,rfl⟩;have p0:j0<=j0/\j0<l.length:=⟨f3d _,hi⟩;refine RdO.cP func72 rfl ntmps72 rfl ?_;intro Q Q0;unfold jJ at Q0;simp;refine dD Q0 p0 hV.fin λu1 j1 x1 Q1 p1=>?_;simp;have gO:=eI hV [44] (c0m ex) (λout i=>out.length<=i) low b4p (c6l hV) (λa=>(a8S hV kV a).le (by omega)) (λa i tQ hi h=>c0n hV hex kV a i tQ hi h) (b2G hV kV) (λa i h=>by omega) [] j1 (by omega) p1.2 (by simp);refine eF.mk (yJ dE gO [(100000,100000),(100001,3),(100002,1)] (λa j hx=>?_) ?_ ?_ ?_ rfl rfl (λws j2 x2=>?_) (λn e wE=>Q1.fail wE _))
 .simp[a5M,aK,aP,aM,aL,bA,getKey]
 .simp[a5M,aK,aP,aM,aL,bA,getKey]
 .simp[aO,bD,rk]
 .simp[a5M,aO,bD,rk,cI,cQ]
 .have Q2:=Q1.step x2;have p2:=aA.list hV.fin (λa=>a8S hV kV a) [] j1 ws j2 p1.2 x2;simp[bE,a5M,aO,bD,rk,cI,cQ,bO,gP,eS,dQ];refine dD Q2 p2 hV.fin λu3 j3 x3 Q3 p3=>?_;simp;exact Q3.ok _ j3 _ _ rfl (.inr rfl) (by simp)
theorem a6B(i:Nat)(oE:low<=i+1)(hi:i<l.length):pW G 72 [] l i (jJ l ex i) (λes=>.d (.sl (es.map a1G))):=(b2H hV hex kV i oE hi).m
theorem b5D(op:Int)(i:Nat)(oE:low<=i+1)(hi:i<l.length):pW G 271 [.int .i64 op] l i (vP l ex op i) sO:=by have hl:=hV.len;obtain⟨j0,rfl⟩:∃j0,j0=i:=⟨_,rfl⟩;have p0:j0<=j0/\j0<l.length:=⟨f3d _,hi⟩;refine kZ.cP func271 rfl ntmps271 rfl (by simp) ?_;intro Q Q0;unfold vP at Q0;simp;refine dD Q0 p0 hV.fin λu1 j1 x1 Q1 p1=>?_;simp;refine qI Q1 p1 bX ((hex j1 (by omega) p1.2)) (kV 0) λe j2 x2 Q2 p2=>?_;simp;refine dD Q2 p2 hV.fin λu3 j3 x3 Q3 p3=>?_;simp;refine jC.mk cC (a4U op e) ?_;simp;exact Q3.ok _ j3 _ _ rfl (.inr rfl) (by simp)
theorem c6m(i:Nat)(oE:low<=i+1)(hi:i<l.length):pW G 67 [] l i (xK aX bI aG l ex i) sO:=by
 have hl:=hV.len;obtain⟨j0,rfl⟩:∃j0,j0=i:=⟨_,rfl⟩;have p0:j0<=j0/\j0<l.length:=⟨f3d _,hi⟩;refine kZ.cP func67 rfl ntmps67 rfl (by simp) ?_;intro Q Q0;unfold xK at Q0;simp;refine qI Q0 p0 cL (cZ hV.kw l j0 p0.2 (by omega)) (aA.word hV.fin) λnm j1 x1 Q1 p1=>?_;simp;cases hs:aQ l j1 [58]with
 |false=>
  have Q2:=Q1.step (jF hs);rw[if_neg (by decide)]at Q2;refine vX hs p1 ?_;simp;have Q1:=Q2.step (gR _ _);refine dD Q1 p1 hV.fin λu4 j4 x4 Q4 p4=>?_;simp;refine qI Q4 p4 bX ((hex j4 (by omega) p4.2)) (kV 0) λx j5 x5 Q5 p5=>?_;simp;refine dD Q5 p5 hV.fin λu6 j6 x6 Q6 p6=>?_;simp;refine kN [1] 2 [] (.op 0 (.call [3,4,5] .none) (.call [0,3,4,5] .none)) (gL (ex 0 j6)) (by kernel_rfl) (by kernel_rfl) ?_;simp;refine⟨?_,?_⟩
  all_goals
   refine oF Q6 p6 bX ((hex j6 (by omega) p6.2)) (kV 0) λy j7 x7 Q7 p7=>cT.mk ?_;simp;exact Q7.ok _ j7 _ _ rfl (.inr rfl) (by simp[dL,cM])
 |true=>
  have Q2:=Q1.step (jE hs);rw[if_pos rfl]at Q2;refine yT hs p1 hV.fin λp2=>?_;obtain⟨j2,tI⟩:∃j2,j1+1=j2:=⟨_,rfl⟩;rw[tI]at Q2 p2|-;simp;have Q2:=Q2.assoc;refine qI Q2 p2 cK ((mJ hV j2 p2.2)) (gY hV) λt j3 x3 Q3 p3=>?_;simp;have Q3:=Q3.step (gR _ _);refine dD Q3 p3 hV.fin λu4 j4 x4 Q4 p4=>?_;simp;refine qI Q4 p4 bX ((hex j4 (by omega) p4.2)) (kV 0) λx j5 x5 Q5 p5=>?_;simp;refine dD Q5 p5 hV.fin λu6 j6 x6 Q6 p6=>?_;simp;refine kN [1] 2 [] (.op 0 (.call [3,4,5] .none) (.call [0,3,4,5] .none)) (gL (ex 0 j6)) (by kernel_rfl) (by kernel_rfl) ?_;simp;refine⟨?_,?_⟩
  all_goals
   refine oF Q6 p6 bX ((hex j6 (by omega) p6.2)) (kV 0) λy j7 x7 Q7 p7=>cT.mk ?_;simp;exact Q7.ok _ j7 _ _ rfl (.inr rfl) (by simp[dL,cM])
end
end
end
section
open Go Go.VM
variable {G:GT}
theorem a7T:VM.Enters prog 136:=.mk func136 rfl
theorem b2I:VM.Enters prog 174:=.mk func174 rfl
theorem b7n:VM.Enters prog 152:=.mk func152 rfl
theorem b0x:VM.Enters prog 153:=.mk func153 rfl
abbrev e4d(b:pM):List D:=.str b.name::.sl (b.vars.map gG)::(prD b.hyp++prD b.goal)
theorem b7o(b:pM):b1U b=e4d b:=by
 rw[b1U,eH,eH]
 rfl
section
variable {aG:List Tok->Nat->Nat->kX Pr} {l:List Tok} (hV:kU G aG l)
include hV
def a1i(out:List zN):List (Nat×aW):=[(100001,.cells [.ptr 100000 0]),(100002,.cells [.d (.sl (out.map gG))])]
abbrev c9A:List (TypeId×List VM.Loc):=[(181,[.c 100002 0])]
abbrev b7p(l:List Tok)(out:List zN):bB (List zN):=do
 let c <- gI l
 let w <- bS aX l
 pure (out++[(c,w)])
theorem c2J:zU l K3 [.ptr 100001 0,.ptr 100002 0] a1i c9A:=by
 constructor
 all_goals intros
 all_goals first
  |rfl
  |simp[a1i,aK,aP,aM,aL,bA,getKey,aO,bD,cI,rk,cQ,bO, *]
theorem b2J(out:List zN):aA l 1 (b7p l out):=(aA.title hV.fin).bl λ_=>((aA.word hV.fin).le (by omega)).bl λ_=>aA.aT _
theorem c0o(a:List zN)(i:Nat)(b:List zN)(j:Nat)(hi:i<l.length)(h:a.length<=i)(hx:b7p l a i=.ok b j):b.length<=j:=by have h1:=b2J hV a i b j hi hx;obtain⟨_,_,_,hx⟩:=bG hx;obtain⟨_,_,_,hx⟩:=bG hx;cases hx;simp;omega
theorem b7q(out:List zN)(i:Nat)(hi:i<l.length)(rN:out.length<=i):kZ G 174 [.ptr 100001 0,.ptr 100002 0] (a1i out) c9A l i (b7p l out i) (λ_=>.cJ []) a1i:=by
 have hl:=hV.len;obtain⟨j0,rfl⟩:∃j0,j0=i:=⟨_,rfl⟩;have p0:j0<=j0/\j0<l.length:=⟨f3d _,hi⟩;refine kZ.cP func174 rfl ntmps174 rfl (by simp) ?_;intro Q Q0;simp[a1i];refine qI Q0 p0 gU (jQ l j0 p0.2 (by omega)) (aA.title hV.fin) λc j1 x1 Q1 p1=>?_;simp;refine kN [1] 3 [2] (.op 0 (.call [4,5,6,7] .none) (.call [0,4,5,6,7] .none)) (gL (bS aX l j1)) (by kernel_rfl) (by kernel_rfl) ?_;simp;refine⟨?_,?_⟩
 all_goals
  refine oF Q1 p1 cL (cZ hV.kw l j1 p1.2 (by omega)) (aA.word hV.fin) λw j2 x2 Q2 p2=>cT.mk ?_;simp;refine eE (by first|omega|(simp[gG];omega)) ?_;simp;exact Q2.ok _ j2 _ _ rfl (.inl rfl) (by simp[a1i,a4S hV])
theorem b0f(i:Nat)(hi:i<l.length):pW G 136 [] l i (pN aX l i) (λws=>.d (.sl (ws.map gG))):=by
 have hl:=hV.len;refine kZ.cP func136 rfl ntmps136 rfl (by simp) ?_;intro Q Q0;unfold pN at Q0;simp;have gO:=eI hV [44] (b7p l) (λout i=>out.length<=i) 0 b2I (c2J hV) (λa=>(b2J hV a).le (by omega)) (λa i _ hi h=>b7q hV a i hi h) (c0o hV) (λa i h=>by omega) [] i (by omega) hi (by simp);refine eF.mk (yJ dE gO [(100000,100000),(100001,1),(100002,3)] (λa j hx=>?_) ?_ ?_ ?_ rfl rfl (λws j2 wE=>?_) (λn e wE=>Q0.bad n e _ wE))
 .simp[a1i,aK,aP,aM,aL,bA,getKey]
 .simp[a1i,aK,aP,aM,aL,bA,getKey]
 .simp[aO,bD,rk]
 .simp[a1i,aO,bD,rk,cI,cQ]
 .simp[bE,a1i,aO,bD,rk,cI,cQ,bO,gP,eS,dQ];exact Q0.ok _ j2 _ _ wE (.inr rfl) (by simp)
theorem c0p(i:Nat)(hi:i<l.length):pW G 152 [] l i (pO aX aG l i) (λb=>.d (.agg (e4d b))):=by have hl:=hV.len;obtain⟨j0,rfl⟩:∃j0,j0=i:=⟨_,rfl⟩;have p0:j0<=j0/\j0<l.length:=⟨f3d _,hi⟩;refine kZ.cP func152 rfl ntmps152 rfl (by simp) ?_;intro Q Q0;unfold pO at Q0;simp;refine qI Q0 p0 cL (cZ hV.kw l j0 p0.2 (by omega)) (aA.word hV.fin) λnm j1 x1 Q1 p1=>?_;simp;refine dD Q1 p1 hV.fin λu2 j2 x2 Q2 p2=>?_;simp;refine qI Q2 p2 a0L ((a2s hV false j2 p2.2)) ((aA.vars hV.fin false)) λvs j3 x3 Q3 p3=>?_;simp;refine dD Q3 p3 hV.fin λu4 j4 x4 Q4 p4=>?_;simp;refine qI Q4 p4 pB (rF hV j4 p4.2) (hV.oB.pred) λp j5 x5 Q5 p5=>?_;simp;refine dD Q5 p5 hV.fin λu6 j6 x6 Q6 p6=>?_;simp;refine qI Q6 p6 pB (rF hV j6 p6.2) (hV.oB.pred) λq j7 x7 Q7 p7=>?_;simp;refine dD Q7 p7 hV.fin λu8 j8 x8 Q8 p8=>?_;simp;exact Q8.ok _ j8 _ _ rfl (.inr rfl) (by simp)
omit hV in
theorem a4n(t:Tok):(cH t).length=4:=rfl
theorem e0x{g:Nat}{d:Int}{i:Nat}(hi:i<l.length)(h:gF (aR l i) [40]=true):tR l (g+1) d i=tR l g (d+1) (i+1):=by rw[tR,if_pos hi,if_pos h]
theorem e0y{g:Nat}{d:Int}{i:Nat}(hi:i<l.length)(h0:gF (aR l i) [40]=false)(h:gF (aR l i) [41]=true):tR l (g+1) d i=tR l g (d-1) (i+1):=by rw[tR,if_pos hi,if_neg (by rw[h0];decide),if_pos h]
theorem e0z{g:Nat}{d:Int}{i:Nat}(hi:i<l.length)(h0:gF (aR l i) [40]=false)(h1:gF (aR l i) [41]=false):tR l (g+1) d i=if gF (aR l i) [61]&&decide (d<=0) then i else tR l g d (i+1):=by rw[tR,if_pos hi,if_neg (by rw[h0];decide),if_neg (by rw[h1];decide)]
theorem e0A{g:Nat}{d:Int}{i:Nat}(hi: ¬i<l.length):tR l (g+1) d i=l.length:=by rw[tR,if_neg hi]
theorem b0P:∀(g:Nat) (d:Int) (i:Nat),tR l g d i<=l.length
 |0,d,i=>by unfold tR;omega
 |g+1,d,i=>by
  unfold tR;split
  .split
   .exact b0P g _ _
   .split
    .exact b0P g _ _
    .split
     .omega
     .exact b0P g _ _
  .omega
theorem b2K(i:Nat)(hi:i<l.length):CH prog G 153 ⟨[.ptr 100000 0],rH l i,[]⟩ ⟨[.d (.int .i64 (tR l (l.length+1) 0 i))],rH l i,[]⟩:=by
 have hl:=hV.len;generalize hR:tR l (l.length+1) 0 i=R;refine CH.aZ func153 rfl ntmps153 rfl (by simp) ?_;simp;refine SW.eL (ι:={x:Int×Nat×Nat//i<=x.2.1/\x.2.1<=l.length/\l.length<x.2.2+x.2.1/\(-(x.2.1:Int)<=x.1/\x.1<=x.2.1)/\tR l x.2.2 x.1 x.2.1=R}) (λx=>[(3,.d (.int .i64 x.1.1)),(4,.d (.int .i64 x.1.2.1))]) (λ_=>rH l i) (λ_=>[]) (λx=>l.length-x.1.2.1) ⟨(0,i,l.length+1),f3d _,by simp only;omega,by simp only;omega,by simp only;omega,hR⟩ (by simp) ?_;rintro⟨⟨d,k,g⟩,h1,h2,h3,h4,hp⟩;simp only at h1 h2 h3 h4 hp;obtain⟨g,rfl⟩:∃k,g=k+1:=⟨g-1,by omega⟩;by_cases hk:k<l.length
 .have hT:aR l k=l[k]:=by simp[aR,hk]
  have hw:=bC (show k<9223372036854775807 by omega);have hd1:IntKind.i64.wrap (d+1)=d+1:=wrap64 (by omega);have hd2:IntKind.i64.wrap (d-1)=d-1:=wrap64 (by omega);simp[hk,a4n];refine aE.mk kE (mI l[k] [40]) ?_;cases e1:gF l[k] [40]with
  |true=>rw[e0x hV hk (by rw[hT];exact e1)]at hp;simp[hd1,hw];exact bJ.mk ⟨(d+1,k+1,g),by simp only;omega,by simp only;omega,by simp only;omega,by simp only;omega,hp⟩ (by simp) (by simp;omega)
  |false=>
   simp[hk,a4n];refine aE.mk kE (mI l[k] [41]) ?_;cases e2:gF l[k] [41]with
   |true=>rw[e0y hV hk (by rw[hT];exact e1) (by rw[hT];exact e2)]at hp;simp[hd2,hw];exact bJ.mk ⟨(d-1,k+1,g),by simp only;omega,by simp only;omega,by simp only;omega,by simp only;omega,hp⟩ (by simp) (by simp;omega)
   |false=>
    rw[e0z hV hk (by rw[hT];exact e1) (by rw[hT];exact e2),hT]at hp;simp[hk,a4n];refine aE.mk kE (mI l[k] [61]) ?_;cases e3:gF l[k] [61]with
    |true=>
     by_cases hd:d<=0
     .rw[e3,if_pos (by simp[hd])]at hp;subst hp;simp[hd]
     .rw[e3,if_neg (by simp[hd])]at hp;simp[hd,hw];exact bJ.mk ⟨(d,k+1,g),by simp only;omega,by simp only;omega,by simp only;omega,by simp only;omega,hp⟩ (by simp) (by simp;omega)
    |false=>rw[e3,if_neg (by simp)]at hp;simp[hw];exact bJ.mk ⟨(d,k+1,g),by simp only;omega,by simp only;omega,by simp only;omega,by simp only;omega,hp⟩ (by simp) (by simp;omega)
 .rw[e0A hV hk]at hp;subst hp;simp[hk,a4n]
end
end
section
open Go Go.VM
variable {G:GT}
theorem a6C:VM.Enters prog 108:=.mk func108 rfl
theorem b7r:VM.Enters prog 154:=.mk func154 rfl
theorem SW.c0q{P:Program}{α:Type}{b c:Code}{st:St}{Q:Exit->St->Prop}(r:kX α)(st':α->Nat->St)(h1:SW P G b st λe s=>match e with
  | .normal=>∃v j,r=.ok v j/\yF s (st' v j)
  |e=>Q e s)(h2:∀v j,r=.ok v j->SW P G c (st' v j) Q):SW P G (.seq b c) st Q:=SW.qH (SW.mono (λe s h=>by
 cases e with
 |normal=>obtain⟨v,j,hr,hw⟩:=h;exact SW.a0X hw (h2 v j hr)
 |_=>exact h) h1)
structure zW (Q:Exit->St->Prop) {α:Type} (r0 r:kX α):Prop where
 eq:r0=r
 bad:∀n e s,r0=.bad n e->Q (.panic (yI (oA n e))) s
section
variable {α β:Type} {Q:Exit->St->Prop} {i j:Nat} {n e:Int} {a:α} {r0:kX β}
theorem zW.step{x:bB α}{f:α->bB β}(h:zW Q r0 ((x >>=f) i))(hx:x i=.ok a j):zW Q r0 (f a j):=⟨h.eq.trans (cU hx),h.bad⟩
theorem zW.fail{x:bB α}{f:α->bB β}(h:zW Q r0 ((x >>=f) i))(hx:x i=.bad n e)(s:St):Q (.panic (yI (oA n e))) s:=h.bad _ _ _ (h.eq.trans (hM hx))
end
theorem c6n{α β γ:Type}(x:bB α)(f:α->bB β)(g:β->bB γ):((x >>=f) >>=g)=(x >>=λa=>f a >>=g):=funext λi=>c0l x f g i
section
variable {aG:List Tok->Nat->Nat->kX Pr} {l:List Tok} (hV:kU G aG l)
include hV
abbrev b2L(s:a7u):List D:=.sl (strs s.vars)::.sl (s.oP.map gG)::.sl (s.abs.map gG)::.sl (s.bounds.map b1U)::(tyD s.type++[.sl (s.a6m.map oO)])
omit hV in
theorem d4Z(s:a7u):d4t s=b2L s:=by
 rw[d4t,cM]
 rfl
abbrev c4j(l:List Tok):bB (List Nm):=do
 let b <- dR l [102,111,114,97,108,108]
 if b then do
  let w <- bS aX l
  let ws <- mX l (λi=>mH aX (aR l i)) (xN l) [w]
  aV l [[46]]
  pure ws
 else pure []
abbrev c4k(l:List Tok):bB (List zN):=do
 let b <- dR l [119,104,101,114,101]
 if b then do
  let ns <- pN aX l
  aV l [[46]]
  pure ns
 else pure []
abbrev c4l(l:List Tok):bB (List zN):=do
 let b <- dR l [60]
 if b then do
  let ns <- qG aX l false
  aV l [[62],[46]]
  pure ns
 else pure []
abbrev c9B(aG:List Tok->Nat->Nat->kX Pr)(l:List Tok)(out:List pM):bB (List pM):=do
 aV l [[98,111,117,110,100]]
 let b <- pO aX aG l
 pure (out++[b])
abbrev c0r(aG:List Tok->Nat->Nat->kX Pr)(l:List Tok):bB (List pM):=mX l (λi=>aQ l i [98,111,117,110,100]) (c9B aG l) []
abbrev c6o(aG:List Tok->Nat->Nat->kX Pr)(l:List Tok)(E:Nat)(out:List Pr):bB (List Pr):=do
 let p <- (λj=>aG l j E:bB Pr)
 pure (out++[p])
abbrev d7E(aG:List Tok->Nat->Nat->kX Pr)(l:List Tok):bB (List Pr):=do
 let b <- dR l [109,101,116,114,105,99]
 if b then(λi=>gA l [44] (c6o aG l (tR l (l.length+1) 0 i)) [] i) else pure []
omit hV in
theorem c9C:wW aX bI aG l=(do
  let vs <- c4j l
  let ns <- c4k l
  let abs <- c4l l
  let bs <- c0r aG l
  let t <- dW aX bI aG l
  let ms <- d7E aG l
  pure ⟨vs,ns,abs,bs,t,ms⟩):=by
 unfold wW;simp only[c6n]
theorem c9D:aA l 0 (c4j l):=(aA.skip hV.fin _).bl λ_=>aA.ite (((aA.word hV.fin).le (by omega)).bl λ_=>(aA.many (λa=>((aA.word hV.fin).le (by omega)).bl λ_=>aA.aT _) _).bl λ_=>((aA.exp hV.fin _ _).le (by omega)).bl λ_=>aA.aT _) (aA.aT _)
theorem a4o:aA l 1 (pN aX l):=aA.oP hV.fin
theorem c9E:aA l 0 (c4k l):=(aA.skip hV.fin _).bl λ_=>aA.ite (((a4o hV).le (by omega)).bl λ_=>((aA.exp hV.fin _ _).le (by omega)).bl λ_=>aA.aT _) (aA.aT _)
theorem c9F:aA l 0 (c4l l):=(aA.skip hV.fin _).bl λ_=>aA.ite (((aA.vars hV.fin false).le (by omega)).bl λ_=>((aA.exp hV.fin _ _).le (by omega)).bl λ_=>aA.aT _) (aA.aT _)
theorem b0g:aA l 1 (pO aX aG l):=aA.bound hV.fin hV.oB.pred
theorem c9G(out:List pM):aA l 1 (c9B aG l out):=(aA.exp hV.fin _ _).bl λ_=>((b0g hV).le (by omega)).bl λ_=>aA.aT _
theorem c9H:aA l 0 (c0r aG l):=aA.many (λa=>(c9G hV a).le (by omega)) _
theorem b2M(E:Nat):aA l 0 (λj=>aG l j E:bB Pr):=λi p j hi hx=>hV.oB E i p j hi hx
theorem c9I(E:Nat)(out:List Pr):aA l 0 (c6o aG l E out):=(b2M hV E).bl λ_=>aA.aT _
theorem c6p(E:Nat)(a:List Pr)(i:Nat)(b:List Pr)(j:Nat)(hi:i<l.length)(h:a.length<=i)(hx:c6o aG l E a i=.ok b j):b.length<=j:=by
 obtain⟨p,k,h1,h2⟩:=bG hx;have h3:=(hV.nod i E p k hi h1).1;have pos:1<=cB p:=by cases p;simp[cB]
 cases h2;simp;omega
def b4q(vs:List Nm)(ns abs:List zN)(bs:List pM)(t:Ty)(E:Nat)(out:List Pr):List (Nat×aW):=[(100001,.cells (.d (.sl (strs vs))::.d (.sl (ns.map gG))::.d (.sl (abs.map gG))::.d (.sl (bs.map b1U))::((tyD t).map .d++[.d (.sl (out.map oO))]))),(100002,.cells [.ptr 100000 0]),(100003,.cells [.d (.int .i64 E)])]
abbrev e4f:List (TypeId×List VM.Loc):=[(43,[.c 100001 13])]
theorem c9J(vs:List Nm)(ns abs:List zN)(bs:List pM)(t:Ty)(E:Nat):zU l K4 [.ptr 100001 0,.ptr 100002 0,.ptr 100003 0] (b4q vs ns abs bs t E) e4f:=by
 constructor
 all_goals intros
 all_goals first
  |rfl
  |simp[b4q,aK,aP,aM,aL,bA,getKey,aO,bD,cI,rk,cQ,bO, *]
theorem c2K(vs:List Nm)(ns abs:List zN)(bs:List pM)(t:Ty)(E:Nat)(hE:E<=l.length)(out:List Pr)(i:Nat)(hi:i<l.length)(rN:out.length<=i):kZ G 154 [.ptr 100001 0,.ptr 100002 0,.ptr 100003 0] (b4q vs ns abs bs t E out) e4f l i (c6o aG l E out i) (λ_=>.cJ []) (b4q vs ns abs bs t E):=by
 have hl:=hV.len;obtain⟨j0,rfl⟩:∃j0,j0=i:=⟨_,rfl⟩;have p0:j0<=j0/\j0<l.length:=⟨f3d _,hi⟩;refine kZ.cP func154 rfl ntmps154 rfl (by simp) ?_;intro Q Q0;simp[b4q];refine dI 7 (t:=41) (e:=43) (T:=68) (s:=4) (z:=9) (r:=10) (p:=11) (q:=8) (x:=7) (b:=12) (y:=0) (fd:=5) [0] 4 [2,3] (a3g 1 5 6) (gL (aG l j0 E)) rfl rfl rfl rfl rfl (by kernel_rfl) (by kernel_rfl) rfl ?_;simp
 repeat' apply And.intro
 all_goals
  refine oF (x:=λj=>aG l j E) (i:=j0) Q0 p0 a5H ((hV.bef j0 E p0.2 hE)) ((b2M hV E)) λq j1 x1 Q1 p1=>cT.mk ?_;simp;refine⟨_,_,_,_,_,_,_,_,_,by simp,rfl,rfl,?_,rfl,rfl,?_,by simp,rfl,rfl,rfl,rfl,by decide,rfl,?_⟩
  .intro c hc
   first
    |(obtain⟨y,_,rfl⟩:=List.mem_map.1 hc
      rw[eH]
      rfl)
    |(simp only[f2U]at hc
      subst hc
      rfl)
  .simp<;>omega
  exact Q1.ok _ j1 .normal _ rfl (.inl rfl) (by simp[b4q,eH])
abbrev d5a:List DV:=[.d .aJ,.d .aJ,.d .aJ,.d .aJ,.d (.int .i64 0),.d (.str []),.d .aJ,.d .aJ,.d (.int .i64 0),.d (.str []),.d (.int .i64 0),.d .aJ,.d .aJ,.d .aJ]
abbrev d5b(l:List Tok)(a b c d:D)(j:Nat):St:=⟨.ptr 100000 0::.ptr 1 0::.ptr 2 0::.ptr 3 0::List.replicate 76 .undef,[(1,.cells [.ptr 100000 0]),(2,.cells d5a),(3,.cells [.d a,.d b,.d c,.d d,.d (.int .i64 0),.d (.str []),.d .aJ,.d .aJ,.d (.int .i64 0),.d (.str []),.d (.int .i64 0),.d .aJ,.d .aJ,.d .aJ]),(100000,rdO l j)],[]⟩
theorem c9K(v:Bool)(i:Nat)(xs:List zN)(j:Nat)(hi:i<l.length)(h:qG aX l v i=.ok xs j):xs.length<=j:=by unfold qG at h;exact(rI hV (one:=b5t l v) (λa p=>a.length<=p) (λa p b q hp ha hab=>by have h1:=a8N hV v a p b q hp hab;have h2:=b5u hV v a p b q hab;omega) (λa p h=>by omega) _ _ _ _ _ hi (by simp) h).1
theorem a8T(i:Nat)(hi:i<l.length):pW G 108 [] l i (wW aX bI aG l i) (λs=>.d (.agg (b2L s))):=by
 have hl:=hV.len;obtain⟨j0,rfl⟩:∃j0,j0=i:=⟨_,rfl⟩;have p0:j0<=j0/\j0<l.length:=⟨f3d _,hi⟩;refine kZ.a5w func108 rfl ntmps108 rfl (by simp) ?_;intro Q Q0;rw[c9C]at Q0;refine SW.qH (SW.xk ?_);simp;refine SW.qH (SW.xk ?_);simp;refine SW.c0q (c4j l j0) (λvs j=>d5b l (.sl (strs vs)) .aJ .aJ .aJ j) ?_ λvs j1 x1=>?_
 .skip
  have Q0:=zW.mk (Q:=Q) (r0:=c4j l j0) rfl λn e s h=>Q0.fail h s;refine SW.qH (SW.xk ?_);simp;cases hs:aQ l j0 [102,111,114,97,108,108]with
  |false=>have Q1:=Q0.step (jF hs);rw[if_neg (by decide)]at Q1;refine vX hs p0 ?_;simp;refine SW.a9U rfl (SW.xk ?_);simp;exact⟨_,_,Q1.eq,by simp[List.replicate]⟩
  |true=>
   have Q1:=Q0.step (jE hs);rw[if_pos rfl]at Q1;refine yT hs p0 hV.fin λp1=>?_;obtain⟨j1,sR⟩:∃j,j0+1=j:=⟨_,rfl⟩;rw[sR]at Q1 p1|-;simp;refine SW.a5D rfl (SW.xk ?_);simp;refine kN [0] 3 [2] (.op 1 (.call [4,5,6,7] .none) (.call [1,4,5,6,7] .none)) (gL (bS aX l j1)) (by kernel_rfl) (by kernel_rfl) ?_;simp;refine⟨?_,?_⟩
   all_goals
    refine rdZ cL (cZ hV.kw l j1 p1.2 (by omega)) (λw j2 x2=>?_) (λn e hx=>by first|exact Q1.fail hx _|(simp;exact Q1.fail hx _)|(simp;exact λs=>Q1.fail hx s));have Q2:=Q1.step x2;have p2:=aA.word hV.fin j1 w j2 p1.2 x2;refine cT.mk ?_;simp;refine SW.vB (ι:={x:List Nm×Nat×Nat//j2<=x.2.1/\x.2.1<l.length/\l.length<x.2.2+x.2.1/\x.1.length<=x.2.1/\cV (λi=>mH aX (aR l i)) (xN l) x.2.2 x.1 x.2.1=mX l (λi=>mH aX (aR l i)) (xN l) [w] j2}) (λ_=>[]) (λx=>[(1,.cells [.ptr 100000 0]),(2,.cells d5a),(3,.cells [.d (.sl (strs x.1.1)),.d .aJ,.d .aJ,.d .aJ,.d (.int .i64 0),.d (.str []),.d .aJ,.d .aJ,.d (.int .i64 0),.d (.str []),.d (.int .i64 0),.d .aJ,.d .aJ,.d .aJ]),(100000,rdO l x.1.2.1)]) (λ_=>[(9,[.c 3 0])]) (λx=>l.length-x.1.2.1) ⟨([w],j2,l.length+2),f3d _,p2.2,by simp only;omega,by simp only[List.length_singleton];omega,rfl⟩ (by simp[strs]) ?_;rintro⟨⟨out,j3,g⟩,hb,hj3,hg,ho,hp⟩;simp only at hb hj3 hg ho hp;obtain⟨g,rfl⟩:∃k,g=k+1:=⟨g-1,by omega⟩;have p3:j2<=j3/\j3<l.length:=⟨hb,hj3⟩;have ht:=cF (G:=G) l j3 j3 0 (by omega) (by omega) (by intro e;subst e;simp at hi) (by omega);simp;refine mA (i:=j3) (ds:=[.int .i64 0]) bP ht ?_;simp;refine jC.mk jP (kT hV.kw (aR l j3)) ?_;cases hc:mH aX (aR l j3)with
    |true=>
     simp;refine kN [0] 3 [2] (.op 1 (.call [4,5,6,7] .none) (.call [1,4,5,6,7] .none)) (gL (bS aX l j3)) (by kernel_rfl) (by kernel_rfl) ?_;simp;refine⟨?_,?_⟩
     all_goals
      refine rdZ (i:=j3) (ds:=[]) cL (cZ hV.kw l j3 hj3 (by omega)) (λw2 j4 x4=>?_) (λn e hx=>?_)
      .have p4:=aA.word (kw:=aX) hV.fin j3 w2 j4 hj3 x4;have h1:xN l out j3=.ok (out++[w2]) j4:=(cU x4).trans rfl;rw[vY hV hc h1]at hp;refine cT.mk ?_;simp;refine eE (by first|omega|(simp;omega)) ?_;simp;exact bJ.mk ⟨(out++[w2],j4,g),by simp only;omega,p4.2,by simp only;omega,by simp;omega,hp⟩ (by simp[a1L]) (by simp;omega)
      .have h1:xN l out j3=.bad n e:=hM hx;rw[qC hV hc h1]at hp;simp
       first|exact Q2.fail hp.symm _|exact λs=>Q2.fail hp.symm s
    |false=>rw[vZ hV hc]at hp;have Q3:=Q2.step hp.symm;simp;refine rdX (hw:=by simp[strs]) (ds:=[.sl (strs [[46]])]) jK (kO l [[46]] j3 p3.2 (by omega) hV.fin (by simp)) (λu4 j4 x4=>?_) (λn e hx=>by first|exact Q3.fail hx _|(simp;exact Q3.fail hx _)|(simp;exact λs=>Q3.fail hx s));have Q4:=Q3.step x4;have p4:=aA.exp hV.fin _ _ j3 u4 j4 p3.2 x4;simp;exact⟨_,_,Q4.eq,by simp[List.replicate]⟩
 have Q0:=Q0.step x1;have p1:=c9D hV j0 vs j1 p0.2 x1
 clear p0 x1
 have p0:j1<=j1/\j1<l.length:=⟨f3d _,p1.2⟩
 clear p1 hi
 obtain⟨j0,rfl⟩:∃j,j=j1:=⟨_,rfl⟩;refine SW.c0q (c4k l j0) (λns j=>d5b l (.sl (strs vs)) (.sl (ns.map gG)) .aJ .aJ j) ?_ λns j1 x1=>?_
 .skip
  have Q0:=zW.mk (Q:=Q) (r0:=c4k l j0) rfl λn e s h=>Q0.fail h s;refine SW.qH (SW.xk ?_);simp[List.replicate];cases hs:aQ l j0 [119,104,101,114,101]with
  |false=>have Q1:=Q0.step (jF hs);rw[if_neg (by decide)]at Q1;refine vX hs p0 ?_;simp;refine SW.a9U rfl (SW.xk ?_);simp;exact⟨_,_,Q1.eq,by simp[List.replicate]⟩
  |true=>have Q1:=Q0.step (jE hs);rw[if_pos rfl]at Q1;refine yT hs p0 hV.fin λp1=>?_;obtain⟨j1,sR⟩:∃j,j0+1=j:=⟨_,rfl⟩;rw[sR]at Q1 p1|-;simp;refine SW.a5D rfl (SW.xk ?_);simp;refine rdX a7T ((b0f hV j1 p1.2)) (λns j2 x2=>?_) (λn e hx=>by first|exact Q1.fail hx _|(simp;exact Q1.fail hx _)|(simp;exact λs=>Q1.fail hx s));have Q2:=Q1.step x2;have p2:=a4o hV j1 ns j2 p1.2 x2;simp;refine rdX (hw:=by simp[strs]) (ds:=[.sl (strs [[46]])]) jK (kO l [[46]] j2 p2.2 (by omega) hV.fin (by simp)) (λu3 j3 x3=>?_) (λn e hx=>by first|exact Q2.fail hx _|(simp;exact Q2.fail hx _)|(simp;exact λs=>Q2.fail hx s));have Q3:=Q2.step x3;have p3:=aA.exp hV.fin _ _ j2 u3 j3 p2.2 x3;simp;exact⟨_,_,Q3.eq,by simp[List.replicate]⟩
 have Q0:=Q0.step x1;have p1:=c9E hV j0 ns j1 p0.2 x1
 clear p0 x1
 have p0:j1<=j1/\j1<l.length:=⟨f3d _,p1.2⟩
 clear p1
 obtain⟨j0,rfl⟩:∃j,j=j1:=⟨_,rfl⟩;refine SW.c0q (c4l l j0) (λabs j=>d5b l (.sl (strs vs)) (.sl (ns.map gG)) (.sl (abs.map gG)) .aJ j) ?_ λabs j1 x1=>?_
 .skip
  have Q0:=zW.mk (Q:=Q) (r0:=c4l l j0) rfl λn e s h=>Q0.fail h s;refine SW.qH (SW.xk ?_);simp[List.replicate];cases hs:aQ l j0 [60]with
  |false=>have Q1:=Q0.step (jF hs);rw[if_neg (by decide)]at Q1;refine vX hs p0 ?_;simp;refine SW.a9U rfl (SW.xk ?_);simp;exact⟨_,_,Q1.eq,by simp[List.replicate]⟩
  |true=>
   have Q1:=Q0.step (jE hs);rw[if_pos rfl]at Q1;refine yT hs p0 hV.fin λp1=>?_;obtain⟨j1,sR⟩:∃j,j0+1=j:=⟨_,rfl⟩;rw[sR]at Q1 p1|-;simp;refine SW.a5D rfl (SW.xk ?_);simp;refine rdX a0L ((a2s hV false j1 p1.2)) (λxs j2 x2=>?_) (λn e hx=>by first|exact Q1.fail hx _|(simp;exact Q1.fail hx _)|(simp;exact λs=>Q1.fail hx s));have Q2:=Q1.step x2;have p2:=(aA.vars hV.fin false) j1 xs j2 p1.2 x2;have hxs:=c9K hV false j1 xs j2 p1.2 x2;simp;refine SW.vB (ι:={k:Nat//k<=xs.length}) (λk=>[(42,.d (.int .i64 k.1))]) (λk=>[(1,.cells [.ptr 100000 0]),(2,.cells d5a),(3,.cells [.d (.sl (strs vs)),.d (.sl (ns.map gG)),.d (.sl ((xs.take k.1).map gG)),.d .aJ,.d (.int .i64 0),.d (.str []),.d .aJ,.d .aJ,.d (.int .i64 0),.d (.str []),.d (.int .i64 0),.d .aJ,.d .aJ,.d .aJ]),(100000,rdO l j2)]) (λ_=>[(161,[.c 3 2])]) (λk=>xs.length-k.1) ⟨0,Nat.zero_le _⟩ (by simp) ?_;rintro⟨k,hk⟩;by_cases aI:k<xs.length
   .have hg:(xs.map gG)[k]? =some [.str xs[k].1,.str xs[k].2]:=by simp[aI,gG]
    have hw:=bC (show k<9223372036854775807 by omega);have htk:(xs.map gG).take (k+1)=(xs.map gG).take k++[[.str xs[k].1,.str xs[k].2]]:=by rw[f3c (by simpa using aI)];simp[gG]
    simp[aI,hg,gG];refine rX ⟨λx hx=>c9m hV xs x (List.mem_of_mem_take hx),by omega⟩ ?_;simp[hw];exact bJ.mk ⟨k+1,aI⟩ (by simp[htk]) (by simp;omega)
   .have htk:xs.take k=xs:=List.take_of_length_le (by omega);simp[aI,htk];refine rdX (hw:=by simp[strs]) (ds:=[.sl (strs [[62],[46]])]) jK (kO l [[62],[46]] j2 p2.2 (by omega) hV.fin (by simp)) (λu3 j3 x3=>?_) (λn e hx=>by first|exact Q2.fail hx _|(simp;exact Q2.fail hx _)|(simp;exact λs=>Q2.fail hx s));have Q3:=Q2.step x3;have p3:=aA.exp hV.fin _ _ j2 u3 j3 p2.2 x3;simp;exact⟨_,_,Q3.eq,by simp[List.replicate]⟩
 have Q0:=Q0.step x1;have p1:=c9F hV j0 abs j1 p0.2 x1
 clear p0 x1
 have p0:j1<=j1/\j1<l.length:=⟨f3d _,p1.2⟩
 clear p1
 obtain⟨j0,rfl⟩:∃j,j=j1:=⟨_,rfl⟩;refine SW.c0q (c0r aG l j0) (λbs j=>d5b l (.sl (strs vs)) (.sl (ns.map gG)) (.sl (abs.map gG)) (.sl (bs.map b1U)) j) ?_ λbs j1 x1=>?_
 .skip
  have Q0:=zW.mk (Q:=Q) (r0:=c0r aG l j0) rfl λn e s h=>Q0.fail h s;refine SW.xk ?_;simp[List.replicate];refine SW.vB (ι:={x:List pM×Nat×Nat//j0<=x.2.1/\x.2.1<l.length/\l.length<x.2.2+x.2.1/\x.1.length<=x.2.1/\cV (λi=>aQ l i [98,111,117,110,100]) (c9B aG l) x.2.2 x.1 x.2.1=c0r aG l j0}) (λ_=>[]) (λx=>[(1,.cells [.ptr 100000 0]),(2,.cells d5a),(3,.cells [.d (.sl (strs vs)),.d (.sl (ns.map gG)),.d (.sl (abs.map gG)),.d (.sl (x.1.1.map b1U)),.d (.int .i64 0),.d (.str []),.d .aJ,.d .aJ,.d (.int .i64 0),.d (.str []),.d (.int .i64 0),.d .aJ,.d .aJ,.d .aJ]),(100000,rdO l x.1.2.1)]) (λ_=>[(163,[.c 3 3])]) (λx=>l.length-x.1.2.1) ⟨([],j0,l.length+2),f3d _,p0.2,by simp only;omega,by simp,rfl⟩ (by simp) ?_;rintro⟨⟨out,j3,g⟩,hb,hj3,hg,ho,hp⟩;simp only at hb hj3 hg ho hp;obtain⟨g,rfl⟩:∃k,g=k+1:=⟨g-1,by omega⟩;have p3:j0<=j3/\j3<l.length:=⟨hb,hj3⟩;simp;cases hc:aQ l j3 [98,111,117,110,100]with
  |true=>
   have hn:=aF hV.fin hj3 hc;refine yT hc p3 hV.fin λp4=>?_;simp;refine kN [0] 3 [2] (.op 1 (.call [4,5,6,7] .none) (.call [1,4,5,6,7] .none)) (gL (pO aX aG l (j3+1))) (by kernel_rfl) (by kernel_rfl) ?_;simp;refine⟨?_,?_⟩
   all_goals
    refine rdZ (i:=j3+1) (ds:=[]) b7n (c0p hV (j3+1) hn) (λb j4 x4=>?_) (λn e hx=>?_)
    .have p4:=b0g hV (j3+1) b j4 hn x4;have h0:aV l [[98,111,117,110,100]] j3=.ok () (j3+1):=(b6X hc).trans rfl;have h1:c9B aG l out j3=.ok (out++[b]) j4:=(cU h0).trans ((cU x4).trans rfl);rw[vY hV hc h1]at hp;refine cT.mk ?_;simp;refine eE (by first|omega|exact⟨λx _=>by rw[b7o];rfl,by omega⟩|(simp;omega)) ?_;simp;exact bJ.mk ⟨(out++[b],j4,g),by simp only;omega,p4.2,by simp only;omega,by simp;omega,hp⟩ (by simp[b7o]) (by simp;omega)
    .have h0:aV l [[98,111,117,110,100]] j3=.ok () (j3+1):=(b6X hc).trans rfl;have h1:c9B aG l out j3=.bad n e:=(cU h0).trans (hM hx);rw[qC hV hc h1]at hp;simp
     first|exact Q0.bad _ _ _ hp.symm|exact λs=>Q0.bad _ _ s hp.symm
  |false=>rw[vZ hV hc]at hp;refine vX hc p3 ?_;simp;exact⟨_,_,hp.symm,by simp[List.replicate]⟩
 have Q1:=Q0.step x1;have p1:=c9H hV j0 bs j1 p0.2 x1;refine SW.xk ?_;simp[List.replicate];refine qI Q1 p1 cK ((mJ hV j1 p1.2)) (gY hV) λt j2 x2 Q2 p2=>?_;simp;cases hs:aQ l j2 [109,101,116,114,105,99]with
 |false=>have Q3:=Q2.step (a:=[]) (j:=j2) ((cU (jF hs)).trans rfl);refine vX hs p2 ?_;simp;exact Q3.ok _ j2 _ _ rfl (.inr rfl) (by simp)
 |true=>
  have e1:d7E aG l j2=gA l [44] (c6o aG l (tR l (l.length+1) 0 (j2+1))) [] (j2+1):=(cU (jE hs)).trans rfl;refine yT hs p2 hV.fin λp3=>?_;obtain⟨j3,hj3⟩:∃j,j2+1=j:=⟨_,rfl⟩;rw[hj3]at e1 p3|-;simp;have heq:=b2K hV j3 p3.2;have hE:=b0P hV (l.length+1) 0 j3;refine mA (ds:=[]) b0x heq ?_;generalize tR l (l.length+1) 0 j3=E at e1 hE|-;simp;have gO:=eI hV [44] (c6o aG l E) (λout i=>out.length<=i) 0 b7r (c9J hV vs ns abs bs t E) (λa=>c9I hV E a) (λa i _ hi h=>c2K hV vs ns abs bs t E hE a i hi h) (c6p hV E) (λa i h=>by omega) [] j3 (by omega) p3.2 (by simp);refine eF.mk (yJ dE gO [(100000,100000),(100001,3),(100002,1),(100003,6)] (λa j hx=>?_) ?_ ?_ ?_ rfl rfl (λms j4 x4=>?_) (λn e wE=>Q2.fail (e1.trans wE) _))
  .simp[b4q,aK,aP,aM,aL,bA,getKey]
  .simp[b4q,aK,aP,aM,aL,bA,getKey]
  .simp[aO,bD,rk]
  .simp[b4q,aO,bD,rk,cI,cQ]
  .have Q4:=Q2.step (e1.trans x4);simp[bE,b4q,aO,bD,rk,cI,cQ,bO,gP,eS,dQ];exact Q4.ok _ j4 _ _ rfl (.inr rfl) (by simp)
end
end
section
open Go Go.VM
variable {G:GT}
theorem b7s:VM.Enters prog 69:=.mk func69 rfl
theorem b2N:VM.Enters prog 115:=.mk func115 rfl
theorem b4r:VM.Enters prog 70:=.mk func70 rfl
theorem b0y:VM.Enters prog 118:=.mk func118 rfl
theorem a7U(a:Nm×List Nm×eM):b0r a=[.str a.1,.sl (strs a.2.1),.int .i64 a.2.2.op,.str a.2.2.name,.int .i64 a.2.2.n,.sl (a.2.2.kids.map a1G),.sl (a.2.2.params.map a2j),.sl (a.2.2.alts.map b0r),.sl (a.2.2.types.map tyC)]:=by rw[b0r,dL]
theorem a0O(p:Nm×Ty):a2j p=.str p.1::tyD p.2:=by rw[a2j,cM]
abbrev b2O:=Nm×List Nm×eM
section
variable {aG:List Tok->Nat->Nat->kX Pr} {l:List Tok} (hV:kU G aG l)
include hV
section
variable {ex:Nat->bB eM} {low:Nat} (hex:∀i,low<=i->i<l.length->pW G 34 [] l i (ex 0 i) sO) (kV:∀k,aA l 1 (ex k))
include hex kV
def zX(e:eM)(out:List b2O):List (Nat×aW):=[(100001,.cells [.ptr 100000 0]),(100002,.cells [.d (.int .i64 9),.d (.str []),.d (.int .i64 0),.d (.sl [a1G e]),.d (.sl []),.d (.sl (out.map b0r)),.d (.sl [])])]
abbrev c9L:List (TypeId×List VM.Loc):=[(91,[.c 100002 5])]
abbrev d5c(l:List Tok)(ex:Nat->bB eM)(out:List b2O):bB (List b2O):=do
 let c <- gI l
 let ns <- (λi=>if aQ l i [40] then dH aX l i else .ok [] i:bB (List Nm))
 aV l [[45,62]]
 let b <- ex 0
 pure (out++[(c,ns,b)])
omit hex kV in
theorem c2L(e:eM):zU l K3 [.ptr 100001 0,.ptr 100002 0] (zX e) c9L:=by
 constructor
 all_goals intros
 all_goals first
  |rfl
  |simp[zX,aK,aP,aM,aL,bA,getKey,aO,bD,cI,rk,cQ,bO, *]
omit hex in
theorem b2P(out:List b2O):aA l 1 (d5c l ex out):=by
 refine(aA.title hV.fin).bl λ_=>aA.bl (λi b j hi h=>?_) λ_=>((aA.exp hV.fin _ _).le (by omega)).bl λ_=>((kV 0).le (by omega)).bl λ_=>aA.aT _;split at h
 .exact((aA.words hV.fin).le (by omega)) _ _ _ hi h
 .cases h;omega
omit hex in
theorem c6q(a:List b2O)(i:Nat)(b:List b2O)(j:Nat)(hi:i<l.length)(h:a.length<=i)(hx:d5c l ex a i=.ok b j):b.length<=j:=by have h1:=b2P hV kV a i b j hi hx;obtain⟨_,_,_,hx⟩:=bG hx;obtain⟨_,_,_,hx⟩:=bG hx;obtain⟨_,_,_,hx⟩:=bG hx;obtain⟨_,_,_,hx⟩:=bG hx;cases hx;simp;omega
theorem b7t(e:eM)(out:List b2O)(i:Nat)(oE:low<=i)(hi:i<l.length)(rN:out.length<=i):kZ G 115 [.ptr 100001 0,.ptr 100002 0] (zX e out) c9L l i (d5c l ex out i) (λ_=>.cJ []) (zX e):=by
 have hl:=hV.len;obtain⟨j0,rfl⟩:∃j0,j0=i:=⟨_,rfl⟩;have p0:j0<=j0/\j0<l.length:=⟨f3d _,hi⟩;refine kZ.cP func115 rfl ntmps115 rfl (by simp) ?_;intro Q Q0;simp[zX];refine qI Q0 p0 gU (jQ l j0 p0.2 (by omega)) (aA.title hV.fin) λc j1 x1 Q1 p1=>?_;simp;have hb:=jD (G:=G) l j1 [40] p1.2 (by omega);refine mA (ds:=[.str [40]]) eO hb ?_;cases hs:aQ l j1 [40]with
 |false=>
  have Q1:=Q1.step (a:=[]) (j:=j1) (by simp[hs]);simp;refine dD Q1 p1 hV.fin λu4 j4 x4 Q4 p4=>?_;simp;refine qI Q4 p4 bX ((hex j4 (by omega) p4.2)) (kV 0) λb j5 x5 Q5 p5=>?_;simp;refine a0H (m:=5) (t:=27) (e:=91) (T:=30) (s:=18) (z:=21) (r:=22) (p:=23) (q:=20) (x:=19) (b:=24) (y:=1) (fd:=5) rfl rfl rfl rfl rfl (by kernel_rfl) (by kernel_rfl) rfl rfl ?_;simp;refine⟨_,_,_,_,_,_,_,_,_,by simp,rfl,rfl,?_,rfl,rfl,?_,by simp,rfl,rfl,rfl,rfl,by decide,rfl,?_⟩
  .intro c hc
   first
    |(obtain⟨y,_,rfl⟩:=List.mem_map.1 hc
      rw[a7U]
      rfl)
    |(simp only[f2U]at hc
      subst hc
      rfl)
  .simp<;>omega
  exact Q5.ok _ j5 .normal _ rfl (.inl rfl) (by simp[zX,a7U,vV])
 |true=>
  have e1:(λi=>if aQ l i [40] then dH aX l i else .ok [] i:bB (List Nm)) j1=dH aX l j1:=by simp[hs]
  simp;refine rdX a2q (a4f hV j1 p1.2) (λns j3 x3=>?_) (λn e hx=>by first|exact Q1.fail (e1.trans hx) _|(simp;exact Q1.fail (e1.trans hx) _)|(simp;exact λs=>Q1.fail (e1.trans hx) s));have Q3:=Q1.step (e1.trans x3);have p3:=aA.words hV.fin j1 ns j3 p1.2 x3;simp;refine dD Q3 p3 hV.fin λu4 j4 x4 Q4 p4=>?_;simp;refine qI Q4 p4 bX ((hex j4 (by omega) p4.2)) (kV 0) λb j5 x5 Q5 p5=>?_;simp;refine a0H (m:=5) (t:=27) (e:=91) (T:=30) (s:=18) (z:=21) (r:=22) (p:=23) (q:=20) (x:=19) (b:=24) (y:=1) (fd:=5) rfl rfl rfl rfl rfl (by kernel_rfl) (by kernel_rfl) rfl rfl ?_;simp;refine⟨_,_,_,_,_,_,_,_,_,by simp,rfl,rfl,?_,rfl,rfl,?_,by simp,rfl,rfl,rfl,rfl,by decide,rfl,?_⟩
  .intro c hc
   first
    |(obtain⟨y,_,rfl⟩:=List.mem_map.1 hc
      rw[a7U]
      rfl)
    |(simp only[f2U]at hc
      subst hc
      rfl)
  .simp<;>omega
  exact Q5.ok _ j5 .normal _ rfl (.inl rfl) (by simp[zX,a7U,vV])
theorem c0s(i:Nat)(oE:low<=i)(hi:i<l.length):pW G 69 [] l i (pV aX l ex i) sO:=by
 have hl:=hV.len;obtain⟨j0,rfl⟩:∃j0,j0=i:=⟨_,rfl⟩;have p0:j0<=j0/\j0<l.length:=⟨f3d _,hi⟩;refine kZ.cP func69 rfl ntmps69 rfl (by simp) ?_;intro Q Q0;unfold pV at Q0;simp;refine qI Q0 p0 bX ((hex j0 oE p0.2)) (kV 0) λe j1 x1 Q1 p1=>?_;simp;refine jC.mk cC (c6j 9 e) ?_;simp;refine dD Q1 p1 hV.fin λu2 j2 x2 Q2 p2=>?_;simp;have gO:=eI hV [59] (d5c l ex) (λout i=>out.length<=i) low b2N (c2L hV e) (λa=>(b2P hV kV a).le (by omega)) (λa i tQ hi h=>b7t hV hex kV e a i tQ hi h) (c6q hV kV) (λa i h=>by omega) [] j2 (by omega) p2.2 (by simp);refine eF.mk (yJ dE gO [(100000,100000),(100001,1),(100002,3)] (λa j hx=>?_) ?_ ?_ ?_ rfl rfl (λws j3 x3=>?_) (λn e wE=>Q2.fail wE _))
 .simp[zX,aK,aP,aM,aL,bA,getKey]
 .simp[zX,aK,aP,aM,aL,bA,getKey]
 .simp[aO,bD,rk]
 .simp[zX,aO,bD,rk,cI,cQ]
 .have Q3:=Q2.step x3;have p3:=aA.list hV.fin (λa=>b2P hV kV a) [] j2 ws j3 p2.2 x3;simp[bE,zX,aO,bD,rk,cI,cQ,bO,gP,eS,dQ];refine dD Q3 p3 hV.fin λu4 j4 x4 Q4 p4=>?_;simp;exact Q4.ok _ j4 _ _ rfl (.inr rfl) (by simp)
end
def b2Q(out:List (Nm×Ty)):List (Nat×aW):=[(100001,.cells [.ptr 100000 0]),(100002,.cells [.d (.int .i64 6),.d (.str []),.d (.int .i64 0),.d (.sl []),.d (.sl (out.map a2j)),.d (.sl []),.d (.sl [])])]
abbrev e4g:List (TypeId×List VM.Loc):=[(135,[.c 100002 4])]
abbrev d5d(aG:List Tok->Nat->Nat->kX Pr)(l:List Tok)(out:List (Nm×Ty)):bB (List (Nm×Ty)):=do
 let w <- bS aX l
 let b <- dR l [58]
 let t <- (if b then dW aX bI aG l else pure sF)
 pure (out++[(w,t)])
theorem c9M:zU l K3 [.ptr 100001 0,.ptr 100002 0] b2Q e4g:=by
 constructor
 all_goals intros
 all_goals first
  |rfl
  |simp[b2Q,aK,aP,aM,aL,bA,getKey,aO,bD,cI,rk,cQ,bO, *]
theorem b2R(out:List (Nm×Ty)):aA l 1 (d5d aG l out):=(aA.word hV.fin).bl λ_=>(aA.skip hV.fin _).bl λ_=>aA.bl (aA.ite ((gY hV).le (by omega)) (aA.aT _)) λ_=>aA.aT _
theorem c6r(a:List (Nm×Ty))(i:Nat)(b:List (Nm×Ty))(j:Nat)(hi:i<l.length)(h:a.length<=i)(hx:d5d aG l a i=.ok b j):b.length<=j:=by have h1:=b2R hV a i b j hi hx;obtain⟨_,_,_,hx⟩:=bG hx;obtain⟨_,_,_,hx⟩:=bG hx;obtain⟨_,_,_,hx⟩:=bG hx;cases hx;simp;omega
theorem c2M(out:List (Nm×Ty))(i:Nat)(hi:i<l.length)(rN:out.length<=i):kZ G 118 [.ptr 100001 0,.ptr 100002 0] (b2Q out) e4g l i (d5d aG l out i) (λ_=>.cJ []) b2Q:=by
 have hl:=hV.len;obtain⟨j0,rfl⟩:∃j0,j0=i:=⟨_,rfl⟩;have p0:j0<=j0/\j0<l.length:=⟨f3d _,hi⟩;refine kZ.cP func118 rfl ntmps118 rfl (by simp) ?_;intro Q Q0;simp[b2Q];refine qI Q0 p0 cL (cZ hV.kw l j0 p0.2 (by omega)) (aA.word hV.fin) λc j1 x1 Q1 p1=>?_;simp;cases hs:aQ l j1 [58]with
 |false=>
  have Q2:=Q1.step (jF hs);rw[if_neg (by decide)]at Q2;refine vX hs p1 ?_;simp;have Q3:=Q2.step (gR _ _);refine rX ⟨rfl,f2Q.2 λc hc=>?_,?_⟩ ?_
  .obtain⟨y,_,rfl⟩:=List.mem_map.1 hc;rw[a0O]
   rfl
  .have hb:prog.bytesOf 135<=1000:=by decide
   rw[List.length_map]
   calc (out.length+1)*(prog.bytesOf 135+1)<=50001*1001:=Nat.mul_le_mul (by omega) (by omega)
    _<=140737488355328:=by decide
  simp;exact Q3.ok _ j1 .normal _ rfl (.inl rfl) (by simp[b2Q,a0O,sF,mL,vV])
 |true=>
  have Q2:=Q1.step (jE hs);rw[if_pos rfl]at Q2;refine yT hs p1 hV.fin λp2=>?_;obtain⟨j2,tI⟩:∃j2,j1+1=j2:=⟨_,rfl⟩;rw[tI]at Q2 p2|-;simp;refine qI Q2 p2 cK ((mJ hV j2 p2.2)) (gY hV) λt j3 x3 Q3 p3=>?_;simp;refine rX ⟨rfl,f2Q.2 λc hc=>?_,?_⟩ ?_
  .obtain⟨y,_,rfl⟩:=List.mem_map.1 hc;rw[a0O]
   rfl
  .have hb:prog.bytesOf 135<=1000:=by decide
   rw[List.length_map]
   calc (out.length+1)*(prog.bytesOf 135+1)<=50001*1001:=Nat.mul_le_mul (by omega) (by omega)
    _<=140737488355328:=by decide
  simp;exact Q3.ok _ j3 .normal _ rfl (.inl rfl) (by simp[b2Q,a0O,vV])
section
variable {ex:Nat->bB eM} {low:Nat} (hex:∀i,low<=i->i<l.length->pW G 34 [] l i (ex 0 i) sO) (kV:∀k,aA l 1 (ex k))
include hex kV
theorem b7u(i:Nat)(oE:low<=i)(hi:i<l.length):pW G 70 [] l i (xL aX bI aG l ex i) sO:=by
 have hl:=hV.len;obtain⟨j0,rfl⟩:∃j0,j0=i:=⟨_,rfl⟩;have p0:j0<=j0/\j0<l.length:=⟨f3d _,hi⟩;refine kZ.cP func70 rfl ntmps70 rfl (by simp) ?_;intro Q Q0;unfold xL at Q0;simp;refine dD Q0 p0 hV.fin λu1 j1 x1 Q1 p1=>?_;simp;have gO:=eI hV [44] (d5d aG l) (λout i=>out.length<=i) 0 b0y (c9M hV) (λa=>(b2R hV a).le (by omega)) (λa i tQ hi h=>c2M hV a i hi h) (c6r hV) (λa i h=>by omega) [] j1 (by omega) p1.2 (by simp);refine eF.mk (yJ dE gO [(100000,100000),(100001,1),(100002,3)] (λa j hx=>?_) ?_ ?_ ?_ rfl rfl (λws j2 x2=>?_) (λn e wE=>Q1.fail wE _))
 .simp[b2Q,aK,aP,aM,aL,bA,getKey]
 .simp[b2Q,aK,aP,aM,aL,bA,getKey]
 .simp[aO,bD,rk]
 .simp[b2Q,aO,bD,rk,cI,cQ]
 .have Q2:=Q1.step x2;have p2:=aA.list hV.fin (λa=>b2R hV a) [] j1 ws j2 p1.2 x2;simp[bE,b2Q,aO,bD,rk,cI,cQ,bO,gP,eS,dQ];refine dD Q2 p2 hV.fin λu3 j3 x3 Q3 p3=>?_;simp;refine qI Q3 p3 bX ((hex j3 (by omega) p3.2)) (kV 0) λe j4 x4 Q4 p4=>?_;simp;exact Q4.ok _ j4 _ _ rfl (.inr rfl) (by simp[dL])
end
end
end
section
open Go Go.VM
variable {G:GT}
theorem b0z:VM.Enters prog 79:=.mk func79 rfl
theorem a0P:VM.Enters prog 133:=.mk func133 rfl
theorem a5h:VM.Enters prog 134:=.mk func134 rfl
section
variable {aG:List Tok->Nat->Nat->kX Pr} {l:List Tok} (hV:kU G aG l)
include hV
def b4s(nm:Nm)(out:List Nm×List Ty):List (Nat×aW):=[(100001,.cells [.d (.str nm),.d (.sl (strs out.1)),.d (.sl (out.2.map tyC))]),(100002,.cells [.ptr 100000 0])]
abbrev e4h:List (TypeId×List VM.Loc):=[(9,[.c 100001 1]),(45,[.c 100001 2])]
abbrev d5e(aG:List Tok->Nat->Nat->kX Pr)(l:List Tok)(out:List Nm×List Ty):bB (List Nm×List Ty):=do
 let w <- bS aX l
 aV l [[58]]
 let t <- dW aX bI aG l
 pure (out.1++[w],out.2++[t])
theorem c9N(nm:Nm):zU l K3 [.ptr 100001 0,.ptr 100002 0] (b4s nm) e4h:=by
 constructor
 all_goals intros
 all_goals first
  |rfl
  |simp[b4s,aK,aP,aM,aL,bA,getKey,aO,bD,cI,rk,cQ,bO, *]
theorem b2S(out:List Nm×List Ty):aA l 1 (d5e aG l out):=(aA.word hV.fin).bl λ_=>((aA.exp hV.fin _ _).le (by omega)).bl λ_=>((gY hV).le (by omega)).bl λ_=>aA.aT _
theorem c6s(a:List Nm×List Ty)(i:Nat)(b:List Nm×List Ty)(j:Nat)(hi:i<l.length)(h:a.1.length<=i/\a.2.length<=i)(hx:d5e aG l a i=.ok b j):b.1.length<=j/\b.2.length<=j:=by have h1:=b2S hV a i b j hi hx;have h2:=b5C a i b j hx;omega
theorem c2N(nm:Nm)(out:List Nm×List Ty)(i:Nat)(hi:i<l.length)(rN:out.1.length<=i/\out.2.length<=i):kZ G 134 [.ptr 100001 0,.ptr 100002 0] (b4s nm out) e4h l i (d5e aG l out i) (λ_=>.cJ []) (b4s nm):=by
 have hl:=hV.len;obtain⟨j0,rfl⟩:∃j0,j0=i:=⟨_,rfl⟩;have p0:j0<=j0/\j0<l.length:=⟨f3d _,hi⟩;refine kZ.cP func134 rfl ntmps134 rfl (by simp) ?_;intro Q Q0;simp[b4s];refine kN [0] 3 [2] (.op 1 (.call [4,5,6,7] .none) (.call [1,4,5,6,7] .none)) (gL (bS aX l j0)) (by kernel_rfl) (by kernel_rfl) ?_;simp;refine⟨?_,?_⟩
 all_goals
  refine oF Q0 p0 cL (cZ hV.kw l j0 p0.2 (by omega)) (aA.word hV.fin) λw j1 x1 Q1 p1=>cT.mk ?_;simp;refine eE (by omega) ?_;simp;refine dD Q1 p1 hV.fin λu2 j2 x2 Q2 p2=>?_;simp;refine dI 6 (t:=28) (e:=45) (T:=147) (s:=13) (z:=17) (r:=18) (p:=19) (q:=16) (x:=15) (b:=20) (y:=0) (fd:=2) [0] 3 [2] (a3g 1 4 5) (gL (dW aX bI aG l j2)) rfl rfl rfl rfl rfl (by kernel_rfl) (by kernel_rfl) rfl ?_;simp
  repeat' apply And.intro
  all_goals
   refine oF Q2 p2 cK ((mJ hV j2 p2.2)) (gY hV) λt j3 x3 Q3 p3=>cT.mk ?_;simp;refine⟨_,_,_,_,_,_,_,_,_,by simp,rfl,rfl,?_,rfl,rfl,?_,by simp,rfl,rfl,rfl,rfl,by decide,rfl,?_⟩
   .intro c hc
    first
     |(obtain⟨y,_,rfl⟩:=List.mem_map.1 hc
       rw[cM]
       rfl)
     |(simp only[f2U]at hc
       subst hc
       rfl)
   .simp<;>omega
   exact Q3.ok _ j3 .normal _ rfl (.inl rfl) (by simp[b4s,cM,a1L])
def a6D(nm:Nm)(vs:List Nm)(ps:List zN)(out:List a3P):List (Nat×aW):=[(100001,.cells [.ptr 100000 0]),(100002,.cells [.d (.str nm),.d (.sl (strs vs)),.d (.sl (ps.map gG)),.d (.sl (out.map a5A))])]
abbrev e4i:List (TypeId×List VM.Loc):=[(147,[.c 100002 3])]
abbrev c6t(aG:List Tok->Nat->Nat->kX Pr)(l:List Tok)(out:List a3P):bB (List a3P):=do
 let c <- a1E aX bI aG l
 pure (out++[c])
theorem c6u:aA l 1 (a1E aX bI aG l):=aA.con hV.fin hV.oB.pred
theorem b2T(out:List a3P):aA l 1 (c6t aG l out):=(c6u hV).bl λ_=>aA.aT _
theorem b5E(a:List a3P)(i:Nat)(b:List a3P)(j:Nat)(hi:i<l.length)(h:a.length<=i)(hx:c6t aG l a i=.ok b j):b.length<=j:=by have h1:=b2T hV a i b j hi hx;obtain⟨_,_,_,hx⟩:=bG hx;cases hx;simp;omega
theorem c0t(nm:Nm)(vs:List Nm)(ps:List zN):zU l K3 [.ptr 100001 0,.ptr 100002 0] (a6D nm vs ps) e4i:=by
 constructor
 all_goals intros
 all_goals first
  |rfl
  |simp[a6D,aK,aP,aM,aL,bA,getKey,aO,bD,cI,rk,cQ,bO, *]
theorem b2U(nm:Nm)(vs:List Nm)(ps:List zN)(out:List a3P)(i:Nat)(hi:i<l.length)(rN:out.length<=i):kZ G 133 [.ptr 100001 0,.ptr 100002 0] (a6D nm vs ps out) e4i l i (c6t aG l out i) (λ_=>.cJ []) (a6D nm vs ps):=by
 have hl:=hV.len;obtain⟨j0,rfl⟩:∃j0,j0=i:=⟨_,rfl⟩;have p0:j0<=j0/\j0<l.length:=⟨f3d _,hi⟩;refine kZ.cP func133 rfl ntmps133 rfl (by simp) ?_;intro Q Q0;unfold c6t a1E at Q0;have Q0:=Q0.assoc;simp[a6D];refine qI Q0 p0 gU (jQ l j0 p0.2 (by omega)) (aA.title hV.fin) λc j1 x1 Q1 p1=>?_;have Q1:=Q1.assoc;simp;cases hs:aQ l j1 [40]with
 |false=>have Q2:=Q1.step (jF hs);rw[if_neg (by decide)]at Q2;have Q2:=Q2.step (gR _ _);refine vX hs p1 ?_;simp;refine rX ⟨λx _=>rfl,by omega⟩ ?_;simp;exact Q2.ok _ j1 .normal _ rfl (.inl rfl) (by simp[a6D,a5A,vV])
 |true=>
  have Q2:=Q1.step (jE hs);rw[if_pos rfl]at Q2;refine yT hs p1 hV.fin λp2=>?_;obtain⟨j2,tI⟩:∃j,j1+1=j:=⟨_,rfl⟩;rw[tI]at Q2 p2|-;have Q2:=Q2.assoc;simp;have gO:=eI hV [44] (d5e aG l) (λout i=>out.1.length<=i/\out.2.length<=i) 0 a5h (c9N hV c) (λa=>(b2S hV a).le (by omega)) (λa i tQ hi h=>c2N hV c a i hi h) (c6s hV) (λa i h=>by omega) ([],[]) j2 (by omega) p2.2 (by simp);refine eF.mk (yJ dE gO [(100000,100000),(100001,2),(100002,100001)] (λa j hx=>?_) ?_ ?_ ?_ rfl rfl (λws j3 x3=>?_) (λn e wE=>Q2.fail wE _))
  .simp[b4s,aK,aP,aM,aL,bA,getKey]
  .simp[b4s,aK,aP,aM,aL,bA,getKey]
  .simp[aO,bD,rk]
  .simp[b4s,aO,bD,rk,cI,cQ]
  .have Q3:=Q2.step x3;have p3:=aA.list hV.fin (λa=>b2S hV a) ([],[]) j2 ws j3 p2.2 x3;obtain⟨ns,ts⟩:=ws;simp only at Q3;have Q3:=Q3.assoc;simp[bE,b4s,aO,bD,rk,cI,cQ,bO,gP,eS,dQ];refine dD Q3 p3 hV.fin λu4 j4 x4 Q4 p4=>?_;have Q4:=Q4.step (gR _ _);simp;refine rX ⟨λx _=>rfl,by omega⟩ ?_;simp;exact Q4.ok _ j4 .normal _ rfl (.inl rfl) (by simp[a6D,a5A])
theorem b2V(i:Nat)(hi:i<l.length):pW G 79 [] l i (uK aX bI aG l i) (λd=>.d (.agg (uZ d))):=by
 have hl:=hV.len;obtain⟨j0,rfl⟩:∃j0,j0=i:=⟨_,rfl⟩;have p0:j0<=j0/\j0<l.length:=⟨f3d _,hi⟩;refine kZ.cP func79 rfl ntmps79 rfl (by simp) ?_;intro Q Q0;unfold uK at Q0;simp;refine qI Q0 p0 gU (jQ l j0 p0.2 (by omega)) (aA.title hV.fin) λnm j1 x1 Q1 p1=>?_;simp;refine SW.vB (ι:={x:List Nm×Nat×Nat//j1<=x.2.1/\x.2.1<l.length/\l.length<x.2.2+x.2.1/\x.1.length<=x.2.1/\cV (λi=>mH aX (aR l i)) (xN l) x.2.2 x.1 x.2.1=mX l (λi=>mH aX (aR l i)) (xN l) [] j1}) (λ_=>[]) (λx=>[(1,.cells [.ptr 100000 0]),(2,.cells [.d (.str []),.d .aJ,.d .aJ,.d .aJ]),(3,.cells [.d (.str nm),.d (.sl (strs x.1.1)),.d .aJ,.d .aJ]),(100000,rdO l x.1.2.1)]) (λ_=>[(9,[.c 3 1])]) (λx=>l.length-x.1.2.1) ⟨([],j1,l.length+2),f3d _,p1.2,by simp only;omega,by simp,rfl⟩ (by simp[strs]) ?_;rintro⟨⟨out,j3,g⟩,hb,hj3,hg,ho,hp⟩;simp only at hb hj3 hg ho hp;obtain⟨g,rfl⟩:∃k,g=k+1:=⟨g-1,by omega⟩;have p3:j1<=j3/\j3<l.length:=⟨hb,hj3⟩;have ht:=cF (G:=G) l j3 j3 0 (by omega) (by omega) (by intro e;subst e;simp at hi) (by omega);simp;refine mA (i:=j3) (ds:=[.int .i64 0]) bP ht ?_;simp;refine jC.mk jP (kT hV.kw (aR l j3)) ?_;cases hc:mH aX (aR l j3)with
 |true=>
  simp;refine kN [0] 3 [2] (.op 1 (.call [4,5,6,7] .none) (.call [1,4,5,6,7] .none)) (gL (bS aX l j3)) (by kernel_rfl) (by kernel_rfl) ?_;simp;refine⟨?_,?_⟩
  all_goals
   refine rdZ (i:=j3) (ds:=[]) cL (cZ hV.kw l j3 hj3 (by omega)) (λw2 j4 x4=>?_) (λn e hx=>?_)
   .have p4:=aA.word (kw:=aX) hV.fin j3 w2 j4 hj3 x4;have h1:xN l out j3=.ok (out++[w2]) j4:=(cU x4).trans rfl;rw[vY hV hc h1]at hp;refine cT.mk ?_;simp;refine eE (by first|omega|(simp;omega)) ?_;simp;exact bJ.mk ⟨(out++[w2],j4,g),by simp only;omega,p4.2,by simp only;omega,by simp;omega,hp⟩ (by simp[a1L]) (by simp;omega)
   .have h1:xN l out j3=.bad n e:=hM hx;rw[qC hV hc h1]at hp;simp
    first|exact Q1.fail hp.symm _|exact λs=>Q1.fail hp.symm s
 |false=>
  rw[vZ hV hc]at hp;have Q3:=Q1.step hp.symm;simp;cases hs:aQ l j3 [60]with
  |false=>
   have Q4:=Q3.step (jF hs);rw[if_neg (by decide)]at Q4;have Q3:=Q4.step (gR _ _);refine vX hs p3 ?_;simp;refine dD Q3 p3 hV.fin λu6 j6 x6 Q6 p6=>?_;simp;have gO:=eI hV [124] (c6t aG l) (λout i=>out.length<=i) 0 a0P (c0t hV nm out []) (λa=>(b2T hV a).le (by omega)) (λa i tQ hi h=>b2U hV nm out [] a i hi h) (b5E hV) (λa i h=>by omega) [] j6 (by omega) p6.2 (by simp);refine eF.mk (yJ dE gO [(100000,100000),(100001,1),(100002,3)] (λa j hx=>?_) ?_ ?_ ?_ rfl rfl (λcs j7 x7=>?_) (λn e wE=>Q6.fail wE _))
   .simp[a6D,aK,aP,aM,aL,bA,getKey]
   .simp[a6D,aK,aP,aM,aL,bA,getKey]
   .simp[aO,bD,rk]
   .simp[a6D,aO,bD,rk,cI,cQ]
   .have Q7:=Q6.step x7;simp[bE,a6D,aO,bD,rk,cI,cQ,bO,gP,eS,dQ];exact Q7.ok _ j7 _ _ rfl (.inr rfl) (by simp[uZ])
  |true=>
   have Q4:=Q3.step (jE hs);rw[if_pos rfl]at Q4;refine yT hs p3 hV.fin λp4=>?_;obtain⟨j4,hj4⟩:∃j,j3+1=j:=⟨_,rfl⟩;rw[hj4]at Q4 p4|-;have Q4:=Q4.assoc;simp;refine qI Q4 p4 a0L ((a2s hV false j4 p4.2)) ((aA.vars hV.fin false)) λps j5 x5 Q5 p5=>?_;have Q5:=Q5.assoc;simp;refine dD Q5 p5 hV.fin λu8 j8 x8 Q8 p8=>?_;have Q8:=Q8.step (gR _ _);simp;refine dD Q8 p8 hV.fin λu6 j6 x6 Q6 p6=>?_;simp;have gO:=eI hV [124] (c6t aG l) (λout i=>out.length<=i) 0 a0P (c0t hV nm out ps) (λa=>(b2T hV a).le (by omega)) (λa i tQ hi h=>b2U hV nm out ps a i hi h) (b5E hV) (λa i h=>by omega) [] j6 (by omega) p6.2 (by simp);refine eF.mk (yJ dE gO [(100000,100000),(100001,1),(100002,3)] (λa j hx=>?_) ?_ ?_ ?_ rfl rfl (λcs j7 x7=>?_) (λn e wE=>Q6.fail wE _))
   .simp[a6D,aK,aP,aM,aL,bA,getKey]
   .simp[a6D,aK,aP,aM,aL,bA,getKey]
   .simp[aO,bD,rk]
   .simp[a6D,aO,bD,rk,cI,cQ]
   .have Q7:=Q6.step x7;simp[bE,a6D,aO,bD,rk,cI,cQ,bO,gP,eS,dQ];exact Q7.ok _ j7 _ _ rfl (.inr rfl) (by simp[uZ])
end
end
section
open Go Go.VM
variable {G:GT}
theorem b4t:VM.Enters prog 273:=.mk func273 rfl
theorem c0u:VM.Enters prog 264:=.mk func264 rfl
section
variable {aG:List Tok->Nat->Nat->kX Pr} {l:List Tok} (hV:kU G aG l) (hN:∀i, -9223372036854775807<=(aR l i).n/\(aR l i).n<=9223372036854775807)
include hV hN
section
variable {ex:Nat->bB eM} {low:Nat} (hex:∀i,low<=i->i<l.length->pW G 34 [] l i (ex 0 i) sO) (kV:∀k,aA l 1 (ex k))
include hex kV
theorem b7v(i:Nat)(oE:low<=i+1)(hi:i<l.length):pW G 273 [] l i (kY aX bI aG l ex i) sO:=by
 have hl:=hV.len;obtain⟨j0,rfl⟩:∃j0,j0=i:=⟨_,rfl⟩;have p0:j0<=j0/\j0<l.length:=⟨f3d _,hi⟩;refine kZ.cP func273 rfl ntmps273 rfl (by simp) ?_;intro Q Q0;unfold kY at Q0;simp;refine dD Q0 p0 hV.fin λu1 j1 x1 Q1 p1=>?_;simp;have hb:=jD (G:=G) l j1 [45] p1.2 (by omega);have ht1:=cF (G:=G) l j1 (j1+1) 1 (by omega) (by omega) (by intro e;subst e;simp at hi) (by omega);have ht2:=cF (G:=G) l j1 (j1+2) 2 (by omega) (by omega) (by intro e;subst e;simp at hi) (by omega);refine mA (ds:=[.str [45]]) eO hb ?_;cases hs:aQ l j1 [45]with
 |false=>
  have Q1:=Q1.ifn (by simp[hs]);simp;refine qI Q1 p1 bX ((hex j1 (by omega) p1.2)) (kV 0) λe j2 x2 Q2 p2=>?_;simp;cases hc:aQ l j2 [58]with
  |false=>have Q3:=Q2.step (jF hc);rw[if_neg (by decide)]at Q3;refine vX hc p2 ?_;simp;have Q2:=Q3.step (gR _ _);refine dD Q2 p2 hV.fin λu5 j5 x5 Q5 p5=>?_;simp;exact Q5.ok _ j5 _ _ rfl (.inr rfl) (by simp[dL,cM])
  |true=>
   have Q3:=Q2.step (jE hc);rw[if_pos rfl]at Q3;refine yT hc p2 hV.fin λp3=>?_;obtain⟨j3,hj3⟩:∃j,j2+1=j:=⟨_,rfl⟩;rw[hj3]at Q3 p3|-;simp;have Q3:=Q3.assoc;refine mK 3 [2] (.op 0 (.op 1 (.call [4,5,6] .none) (.call [1,4,5,6] .none)) (.call [0,1,4,5,6] .none)) (gL (dW aX bI aG l j3)) (by kernel_rfl) (by kernel_rfl) ?_;simp
   repeat' apply And.intro
   all_goals
    refine oF Q3 p3 cK ((mJ hV j3 p3.2)) (gY hV) λt j4 x4 Q4 p4=>cT.mk ?_;simp;have Q4:=Q4.step (gR _ _);refine dD Q4 p4 hV.fin λu5 j5 x5 Q5 p5=>?_;simp;exact Q5.ok _ j5 _ _ rfl (.inr rfl) (by simp[dL,cM])
 |true=>
  simp;refine mA (ds:=[.int .i64 1]) bP ht1 ?_;by_cases hk:(aR l (j1+1)).kind=3
  .simp[cH,hk];refine mA (ds:=[.int .i64 2]) bP ht2 ?_;simp;refine jC.mk kE (mI (aR l (j1+2)) [41]) ?_;cases hf:gF (aR l (j1+2)) [41]with
   |false=>
    have Q1:=Q1.ifn (by simp[hf]);simp;refine qI Q1 p1 bX ((hex j1 (by omega) p1.2)) (kV 0) λe j2 x2 Q2 p2=>?_;simp;cases hc:aQ l j2 [58]with
    |false=>have Q3:=Q2.step (jF hc);rw[if_neg (by decide)]at Q3;refine vX hc p2 ?_;simp;have Q2:=Q3.step (gR _ _);refine dD Q2 p2 hV.fin λu5 j5 x5 Q5 p5=>?_;simp;exact Q5.ok _ j5 _ _ rfl (.inr rfl) (by simp[dL,cM])
    |true=>
     have Q3:=Q2.step (jE hc);rw[if_pos rfl]at Q3;refine yT hc p2 hV.fin λp3=>?_;obtain⟨j3,hj3⟩:∃j,j2+1=j:=⟨_,rfl⟩;rw[hj3]at Q3 p3|-;simp;have Q3:=Q3.assoc;refine mK 3 [2] (.op 0 (.op 1 (.call [4,5,6] .none) (.call [1,4,5,6] .none)) (.call [0,1,4,5,6] .none)) (gL (dW aX bI aG l j3)) (by kernel_rfl) (by kernel_rfl) ?_;simp
     repeat' apply And.intro
     all_goals
      refine oF Q3 p3 cK ((mJ hV j3 p3.2)) (gY hV) λt j4 x4 Q4 p4=>cT.mk ?_;simp;have Q4:=Q4.step (gR _ _);refine dD Q4 p4 hV.fin λu5 j5 x5 Q5 p5=>?_;simp;exact Q5.ok _ j5 _ _ rfl (.inr rfl) (by simp[dL,cM])
   |true=>
    have Q1:=Q1.ifp (by simp[hs,hk,hf]);simp;refine mA (ds:=[.int .i64 1]) bP ht1 ?_;have hn:=hN (j1+1);have hw3:IntKind.i64.wrap ((j1:Int)+3)=((j1+3:Nat):Int):=by rw[wrap64 (by omega)];omega
    have hw4:IntKind.i64.wrap (-(aR l (j1+1)).n)= -(aR l (j1+1)).n:=wrap64 (by omega);simp[cH,hw3,hw4];exact Q1.ok _ (j1+3) _ _ rfl (.inr rfl) (by simp)
  .have Q1:=Q1.ifn (by simp[hk]);simp[cH,hk];refine qI Q1 p1 bX ((hex j1 (by omega) p1.2)) (kV 0) λe j2 x2 Q2 p2=>?_;simp;cases hc:aQ l j2 [58]with
   |false=>have Q3:=Q2.step (jF hc);rw[if_neg (by decide)]at Q3;refine vX hc p2 ?_;simp;have Q2:=Q3.step (gR _ _);refine dD Q2 p2 hV.fin λu5 j5 x5 Q5 p5=>?_;simp;exact Q5.ok _ j5 _ _ rfl (.inr rfl) (by simp[dL,cM])
   |true=>
    have Q3:=Q2.step (jE hc);rw[if_pos rfl]at Q3;refine yT hc p2 hV.fin λp3=>?_;obtain⟨j3,hj3⟩:∃j,j2+1=j:=⟨_,rfl⟩;rw[hj3]at Q3 p3|-;simp;have Q3:=Q3.assoc;refine mK 3 [2] (.op 0 (.op 1 (.call [4,5,6] .none) (.call [1,4,5,6] .none)) (.call [0,1,4,5,6] .none)) (gL (dW aX bI aG l j3)) (by kernel_rfl) (by kernel_rfl) ?_;simp
    repeat' apply And.intro
    all_goals
     refine oF Q3 p3 cK ((mJ hV j3 p3.2)) (gY hV) λt j4 x4 Q4 p4=>cT.mk ?_;simp;have Q4:=Q4.step (gR _ _);refine dD Q4 p4 hV.fin λu5 j5 x5 Q5 p5=>?_;simp;exact Q5.ok _ j5 _ _ rfl (.inr rfl) (by simp[dL,cM])
theorem c2O(i:Nat)(oE:low<=i+1)(hi:i<l.length):pW G 264 [] l i (sQ aX bI aG l ex i) sO:=by
 have hl:=hV.len;obtain⟨j0,rfl⟩:∃j0,j0=i:=⟨_,rfl⟩;have p0:j0<=j0/\j0<l.length:=⟨f3d _,hi⟩;have ht:=cF (G:=G) l j0 j0 0 (by omega) (by omega) (by intro e;subst e;simp at hi) (by omega);refine kZ.cP func264 rfl ntmps264 rfl (by simp) ?_;intro Q Q0;unfold sQ at Q0;simp;refine mA (ds:=[.int .i64 0]) bP ht ?_;by_cases hk:(aR l j0).kind=3
 .have Q0:=Q0.ifp hk;have hw:=bC (show j0<9223372036854775807 by omega);simp[cH,hk,hw];exact Q0.ok _ (j0+1) _ _ rfl (.inr rfl) (by simp)
 have Q0:=Q0.ifn hk;simp[cH,hk];cases h1:aQ l j0 [116,114,117,101]with
 |true=>have Q0:=Q0.ifp h1;refine yT h1 p0 hV.fin λp1=>?_;simp;exact Q0.ok _ (j0+1) _ _ rfl (.inr rfl) (by simp)
 |false=>
 have Q0:=Q0.ifn (by rw[h1];decide);refine vX h1 p0 ?_;simp;cases h2:aQ l j0 [102,97,108,115,101]with
 |true=>have Q0:=Q0.ifp h2;refine yT h2 p0 hV.fin λp1=>?_;simp;exact Q0.ok _ (j0+1) _ _ rfl (.inr rfl) (by simp)
 |false=>
 have Q0:=Q0.ifn (by rw[h2];decide);refine vX h2 p0 ?_;simp;cases h3:aQ l j0 [110,101,119]with
 |true=>have Q1:=Q0.ifp h3;refine yT h3 p0 hV.fin λp1=>?_;obtain⟨j1,sR⟩:∃j,j0+1=j:=⟨_,rfl⟩;rw[sR]at Q1 p1|-;simp;refine rdR Q1 b2F (b5D hV hex kV 22 j1 (by omega) p1.2) λt j h=>?_;simp;exact Q1.ok t j _ _ h (.inr rfl) (by simp)
 |false=>
 have Q0:=Q0.ifn (by rw[h3];decide);refine vX h3 p0 ?_;simp;cases h4:aQ l j0 [103,101,116]with
 |true=>have Q1:=Q0.ifp h4;refine yT h4 p0 hV.fin λp1=>?_;obtain⟨j1,sR⟩:∃j,j0+1=j:=⟨_,rfl⟩;rw[sR]at Q1 p1|-;simp;refine rdR Q1 b2F (b5D hV hex kV 23 j1 (by omega) p1.2) λt j h=>?_;simp;exact Q1.ok t j _ _ h (.inr rfl) (by simp)
 |false=>
 have Q0:=Q0.ifn (by rw[h4];decide);refine vX h4 p0 ?_;simp;cases h5:aQ l j0 [115,101,116]with
 |true=>have Q1:=Q0.ifp h5;refine yT h5 p0 hV.fin λp1=>?_;obtain⟨j1,sR⟩:∃j,j0+1=j:=⟨_,rfl⟩;rw[sR]at Q1 p1|-;simp;refine dD Q1 p1 hV.fin λu2 j2 x2 Q2 p2=>?_;simp;refine qI Q2 p2 bX ((hex j2 (by omega) p2.2)) (kV 0) λx j3 x3 Q3 p3=>?_;simp;refine dD Q3 p3 hV.fin λu4 j4 x4 Q4 p4=>?_;simp;refine qI Q4 p4 bX ((hex j4 (by omega) p4.2)) (kV 0) λy j5 x5 Q5 p5=>?_;simp;refine dD Q5 p5 hV.fin λu6 j6 x6 Q6 p6=>?_;simp;refine jC.mk cC (jZ 24 x y) ?_;simp;exact Q6.ok _ j6 _ _ rfl (.inr rfl) (by simp)
 |false=>
 have Q0:=Q0.ifn (by rw[h5];decide);refine vX h5 p0 ?_;simp;refine jC.mk jP (kT hV.kw (aR l j0)) ?_;cases h6:mH aX (aR l j0)with
 |true=>
  have Q0:=Q0.ifp h6;simp;refine rdX (ds:=[]) cL (cZ hV.kw l j0 hi (by omega)) (λs j hx=>?_) (λn e hx=>by unfold bS mQ at hx;rw[if_pos h6]at hx;cases hx);have p1:=aA.word (kw:=aX) hV.fin _ _ _ p0.2 hx;unfold bS mQ at hx;rw[if_pos h6]at hx;cases hx;have Q1:=Q0;obtain⟨j1,sR⟩:∃j,j0+1=j:=⟨_,rfl⟩;rw[sR]at Q1 p1|-;have hb1:=jD (G:=G) l j1 [91] p1.2 (by omega);have hb2:=jD (G:=G) l j1 [40] p1.2 (by omega);simp;refine mA (ds:=[.str [91]]) eO hb1 ?_;cases h7:aQ l j1 [91]with
  |true=>have Q1:=Q1.ifn (by simp[h7]);simp;refine qI Q1 p1 xR ((zV hV j1 p1.2)) ((aA.types hV.fin hV.oB.pred)) λts j3 x3 Q3 p3=>?_;simp;refine qI Q3 p3 a0N ((a6B hV hex kV j3 (by omega) p3.2)) ((aA.jX hV.fin kV)) λks j4 x4 Q4 p4=>?_;simp;exact Q4.ok _ j4 _ _ rfl (.inr rfl) (by simp)
  |false=>
   simp;refine mA (ds:=[.str [40]]) eO hb2 ?_;cases h8:aQ l j1 [40]with
   |true=>have Q1:=Q1.ifn (by simp[h8]);simp;refine qI Q1 p1 xR ((zV hV j1 p1.2)) ((aA.types hV.fin hV.oB.pred)) λts j3 x3 Q3 p3=>?_;simp;refine qI Q3 p3 a0N ((a6B hV hex kV j3 (by omega) p3.2)) ((aA.jX hV.fin kV)) λks j4 x4 Q4 p4=>?_;simp;exact Q4.ok _ j4 _ _ rfl (.inr rfl) (by simp)
   |false=>have Q1:=Q1.ifp (by simp[h7,h8]);simp;exact Q1.ok _ j1 _ _ rfl (.inr rfl) (by simp)
 |false=>
 have Q0:=Q0.ifn (by rw[h6];decide);simp;by_cases xF:(aR l j0).kind=2
 .have h7:sM (aR l j0)=true:=by simp[sM,xF]
  have Q0:=Q0.ifp h7;simp[xF];refine rdX (ds:=[]) gU (jQ l j0 hi (by omega)) (λs j hx=>?_) (λn e hx=>by unfold gI mQ at hx;rw[if_pos h7]at hx;cases hx);have p1:=aA.title hV.fin _ _ _ p0.2 hx;unfold gI mQ at hx;rw[if_pos h7]at hx;cases hx;have Q1:=Q0;obtain⟨j1,sR⟩:∃j,j0+1=j:=⟨_,rfl⟩;rw[sR]at Q1 p1|-;simp;refine qI Q1 p1 xR ((zV hV j1 p1.2)) ((aA.types hV.fin hV.oB.pred)) λts j3 x3 Q3 p3=>?_;simp;have hb2:=jD (G:=G) l j3 [40] p3.2 (by omega);refine mA (ds:=[.str [40]]) eO hb2 ?_;cases h8:aQ l j3 [40]with
  |false=>have Q4:=Q3.step (a:=[]) (j:=j3) (by simp[h8]);simp;exact Q4.ok _ j3 _ _ rfl (.inr rfl) (by simp)
  |true=>
   have e1:(λj=>if aQ l j [40] then jJ l ex j else .ok [] j:bB (List eM)) j3=jJ l ex j3:=by simp[h8]
   simp;refine rdX a0N ((a6B hV hex kV j3 (by omega) p3.2)) (λks j4 x4=>?_) (λn e hx=>by first|exact Q3.fail (e1.trans hx) _|(simp;exact Q3.fail (e1.trans hx) _)|(simp;exact λs=>Q3.fail (e1.trans hx) s));have Q4:=Q3.step (e1.trans x4);have p4:=(aA.jX hV.fin kV) j3 ks j4 p3.2 x4;simp;exact Q4.ok _ j4 _ _ rfl (.inr rfl) (by simp)
 .have h7:sM (aR l j0)=false:=by simp[sM,xF]
  have Q0:=Q0.ifn (by rw[h7];decide);simp[xF];refine rdR Q0 b4t (b7v hV hN hex kV j0 (by omega) p0.2) λt j h=>?_;simp;exact Q0.ok t j _ _ h (.inr rfl) (by simp)
end
end
end
end Go.Proofs.YtjpodcmhcenjjaaGreatDoor
