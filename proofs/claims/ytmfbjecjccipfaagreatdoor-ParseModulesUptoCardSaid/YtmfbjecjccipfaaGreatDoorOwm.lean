/- Lemmas. No condition. -/
import Derived.Test.YtmfbjecjccipfaaGreatDoorOwl
set_option linter.unusedVariables false
set_option linter.unusedSimpArgs false
set_option linter.unusedSectionVars false
set_option maxRecDepth 100000
set_option maxHeartbeats 64000000
open Go.Proofs.Tryz
namespace Go.Proofs.YtmfbjecjccipfaaGreatDoor
section
open Go Go.VM
variable {G:GT}
section
variable {rdP:List Tok->Nat->Nat->gO Pr} {l:List Tok} (hV:rQ G rdP l) (hN:∀i, -9223372036854775807<=(aJ l i).n/\(aJ l i).n<=9223372036854775807)
include hV hN
def sQ(m:eK):List (Nat×bG):=[(100001,.cells [.d (.sl (m.a2S.map yO)),.d (.sl (m.vY.map a0k)),.d (.sl (m.insts.map a2Y)),.d (.sl (m.a2T.map a1O)),.d (.sl (m.a4Z.map a2Z)),.d (.sl (m.defs.map a2X))])]
abbrev d1i:List (TypeId×List VM.Loc):=[(69,[.c 100001 0]),(95,[.c 100001 1]),(98,[.c 100001 2]),(73,[.c 100001 3]),(102,[.c 100001 4]),(58,[.c 100001 5])]
abbrev c8k(d:a4s):List D:=[.str d.name,.sl (strs d.vars),.sl (d.a6B.map dP),.sl (d.cons.map a5b)]
abbrev c8l(d:xK):List D:=[.str d.name,.str d.var,.sl (d.methods.map a0y)]
omit hN in
theorem b6i(i:Nat)(hi:i<l.length):tR G 47 [] l i (a0x aH aZ rdP l i) (λd=>.d (.agg (c8k d))):=b9j hV i hi
omit hN in
theorem c4y(i:Nat)(hi:i<l.length):tR G 48 [] l i (wA aH aZ rdP l i) (λd=>.d (.agg (c8l d))):=c8e hV i hi
structure c4z (m:eK) (i:Nat):Prop where
 a:m.a2S.length<=i
 b:m.vY.length<=i
 c:m.insts.length<=i
 d:m.a2T.length<=i
 e:m.a4Z.length<=i
 f:m.defs.length<=i
theorem d1j(m:eK)(j0:Nat)(hi:j0<l.length)(hm:c4z m j0):qA G 18 [.ptr 100000 0,.ptr 100001 0] (sQ m) d1i l j0 (vI aH aZ rdP l m j0) (λ_=>.cX []) sQ:=by
 have hl:=hV.len;have p0:=gT hi;obtain⟨m1,m2,m3,m4,m5,m6⟩:=hm;obtain⟨da,cl,ins,me,qu,de⟩:=m;simp only at m1 m2 m3 m4 m5 m6;have eq1:∀d:a4s,yO d=[.str d.name,.sl (strs d.vars),.sl (d.a6B.map dP),.sl (d.cons.map a5b)]:=λd=>rfl;have eq2:∀d:xK,a0k d=[.str d.name,.str d.var,.sl (d.methods.map a0y)]:=λd=>rfl;have eq3:=b8X;have eq4:=b9c;have eq5:=b9d;have eq6:=a0V;refine qA.bO func18 rfl ntmps18 rfl (by simp) ?_;intro Q Q0;unfold vI at Q0;simp[sQ];cases s1:aL l j0 [100,97,116,97]with
 |true=>
  have Q1:=Q0.sW s1;refine rdT s1 p0 hV.fin λp1=>?_;obtain⟨j1,tS⟩:∃j,j0+1=j:=⟨_,rfl⟩;rw[tS]at Q1 p1|-;simp;refine dK [0,1,2,3,5] 6 [] (.op 4 (.call [7,8,9,10,11] .none) (.call [4,7,8,9,10,11] .none)) (kZ (a0x aH aZ rdP l j1)) (by kernel_rfl) (by kernel_rfl) ?_;simp;refine⟨?_,?_⟩
  all_goals
   refine rX Q1 p1 (.mk func47 rfl) ((b6i hV j1 p1.2)) ((aB.data hV.fin hV.mZ.pred)) λx j2 x2 Q2 p2=>cG.mk ?_;simp;refine bQ (by first|omega|exact⟨λx _=>by rw[eq1];rfl,by omega⟩|exact⟨λx _=>rfl,by omega⟩) ?_;simp;exact Q2.ok _ j2 .normal _ rfl (.inl rfl) (by simp[sQ,eq1])
 |false=>
 have Q0:=Q0.rK (by rw[s1];decide);refine rdF s1 p0 ?_;simp;cases s2:aL l j0 [99,108,97,115,115]with
 |true=>
  have Q1:=Q0.sW s2;refine rdT s2 p0 hV.fin λp1=>?_;obtain⟨j1,tS⟩:∃j,j0+1=j:=⟨_,rfl⟩;rw[tS]at Q1 p1|-;simp;refine dK [0,1,2,3,5] 6 [] (.op 4 (.call [7,8,9,10,11] .none) (.call [4,7,8,9,10,11] .none)) (kZ (wA aH aZ rdP l j1)) (by kernel_rfl) (by kernel_rfl) ?_;simp;refine⟨?_,?_⟩
  all_goals
   refine rX Q1 p1 (.mk func48 rfl) ((c4y hV j1 p1.2)) ((aB.cls hV.fin hV.mZ.pred)) λx j2 x2 Q2 p2=>cG.mk ?_;simp;refine bQ (by first|omega|exact⟨λx _=>by rw[eq2];rfl,by omega⟩|exact⟨λx _=>rfl,by omega⟩) ?_;simp;exact Q2.ok _ j2 .normal _ rfl (.inl rfl) (by simp[sQ,eq2])
 |false=>
 have Q0:=Q0.rK (by rw[s2];decide);refine rdF s2 p0 ?_;simp;cases s3:aL l j0 [105,110,115,116]with
 |true=>
  have Q1:=Q0.sW s3;refine rdT s3 p0 hV.fin λp1=>?_;obtain⟨j1,tS⟩:∃j,j0+1=j:=⟨_,rfl⟩;rw[tS]at Q1 p1|-;simp;refine dK [0,1,2,3,5] 6 [] (.op 4 (.call [7,8,9,10,11] .none) (.call [4,7,8,9,10,11] .none)) (kZ (a1A aH aZ rdP l j1)) (by kernel_rfl) (by kernel_rfl) ?_;simp;refine⟨?_,?_⟩
  all_goals
   refine rX Q1 p1 (.mk func49 rfl) ((b8Y hV hN j1 p1.2)) ((aB.inst hV.fin hV.mZ)) λx j2 x2 Q2 p2=>cG.mk ?_;simp;refine bQ (by first|omega|exact⟨λx _=>by rw[eq3];rfl,by omega⟩|exact⟨λx _=>rfl,by omega⟩) ?_;simp;exact Q2.ok _ j2 .normal _ rfl (.inl rfl) (by simp[sQ,eq3])
 |false=>
 have Q0:=Q0.rK (by rw[s3];decide);refine rdF s3 p0 ?_;simp;cases s4:aL l j0 [109,101,97,115,117,114,101]with
 |true=>
  have Q1:=Q0.sW s4;refine rdT s4 p0 hV.fin λp1=>?_;obtain⟨j1,tS⟩:∃j,j0+1=j:=⟨_,rfl⟩;rw[tS]at Q1 p1|-;simp;refine dK [0,1,2,3,5] 6 [] (.op 4 (.call [7,8,9,10,11] .none) (.call [4,7,8,9,10,11] .none)) (kZ (a1B aH rdP l j1)) (by kernel_rfl) (by kernel_rfl) ?_;simp;refine⟨?_,?_⟩
  all_goals
   refine rX Q1 p1 (.mk func50 rfl) ((c0S hV j1 p1.2)) ((aB.d4a hV.fin hV.mZ.pred)) λx j2 x2 Q2 p2=>cG.mk ?_;simp;refine bQ (by first|omega|exact⟨λx _=>by rw[eq4];rfl,by omega⟩|exact⟨λx _=>rfl,by omega⟩) ?_;simp;exact Q2.ok _ j2 .normal _ rfl (.inl rfl) (by simp[sQ,eq4])
 |false=>
 have Q0:=Q0.rK (by rw[s4];decide);refine rdF s4 p0 ?_;simp;cases s5:aL l j0 [113,117,97,108]with
 |true=>
  have Q1:=Q0.sW s5;refine rdT s5 p0 hV.fin λp1=>?_;obtain⟨j1,tS⟩:∃j,j0+1=j:=⟨_,rfl⟩;rw[tS]at Q1 p1|-;simp;refine dK [0,1,2,3,5] 6 [] (.op 4 (.call [7,8,9,10,11] .none) (.call [4,7,8,9,10,11] .none)) (kZ (a1C aH rdP l j1)) (by kernel_rfl) (by kernel_rfl) ?_;simp;refine⟨?_,?_⟩
  all_goals
   refine rX Q1 p1 (.mk func51 rfl) ((d1g hV j1 p1.2)) ((aB.d4b hV.fin hV.mZ.pred)) λx j2 x2 Q2 p2=>cG.mk ?_;simp;refine bQ (by first|omega|exact⟨λx _=>by rw[eq5];rfl,by omega⟩|exact⟨λx _=>rfl,by omega⟩) ?_;simp;exact Q2.ok _ j2 .normal _ rfl (.inl rfl) (by simp[sQ,eq5])
 |false=>
 have Q0:=Q0.rK (by rw[s5];decide);refine rdF s5 p0 ?_;simp;refine uG Q0 p0 a6h ((a9n hV hN j0 p0.2)) (a9o hV) λd j1 x1 Q1 p1=>?_;cases d with
 |none=>
  simp;refine rdX (ds:=[]) yQ (a0B (α:=eK) l j1 p1.2 (by omega) λ_=>.cX []) (λa j hx=>by unfold eV at hx;cases hx) (λn e hx=>?_)
  first|exact Q1.bad n e _ hx|(simp;exact Q1.bad n e _ hx)
 |some d=>simp;refine SW.vk ?_;simp;refine⟨.mk,?_⟩;refine bQ (by first|omega|exact⟨λx _=>by rw[eq6];rfl,by omega⟩) ?_;simp;exact Q1.ok _ j1 .normal _ rfl (.inl rfl) (by simp[sQ,eq6,b1b,b2P])
end
section
variable {rdP:List Tok->Nat->Nat->gO Pr} {l:List Tok} (hV:rR G rdP l)
include hV
theorem d1k(i:Nat)(s0:dB)(hi:s0.pl=i+1)(v0:bY l s0)(hs:i<l.length):eH G 58 [] l ⟨i,s0.er,s0.ln⟩ (b7U aH rdP l s0) (λq=>.d (.agg (c8i q))):=by
 have hl:=hV.len;have hw:IntKind.i64.wrap ((i:Int)+1)=(s0.pl:Int):=by rw[wrap64 (by omega)];omega
 refine eH.bO func58 rfl ntmps58 rfl ?_;intro Q Q0;unfold b7U at Q0;simp[hw];refine rfG Q0 v0 gK (jJ (by omega) s0 v0) (gW hV.fin) λnm s1 h1 Q1 p1 v1=>?_;simp;refine rfM Q1 v1 hV.fin λu2 s2 h2 Q2 p2 v2=>?_;simp;refine rfG Q2 v2 a4c (a6e hV true s2 v2) (a0K hV) λvs s3 h3 Q3 p3 v3=>?_;simp;refine rfM Q3 v3 hV.fin λu4 s4 h4 Q4 p4 v4=>?_;simp;refine rfM Q4 v4 hV.fin λu5 s5 h5 Q5 p5 v5=>?_;simp;refine rfG Q5 v5 sZ (vN hV s5 v5) (yB hV) λp s6 h6 Q6 p6 v6=>?_;simp;exact Q6.ok _ _ (.inr rfl) (by simp)
omit hV in
theorem b9k{α:Type}{P:α->Prop}{len:α->Nat}{sep:Nm}{one:α->RM α}(h:∀a s,P a->P (one a s).1/\len (one a s).1<=len a+1):∀g a s,P a->P (mP l sep one g a s).1/\len (mP l sep one g a s).1<=len a+g
 |0,a,s,hp=>⟨hp,g3G _⟩
 |g+1,a,s,hp=>by
  unfold mP;have h1:=h a s hp;split
  .split
   .have h2:=b9k (sep:=sep) h g (one a s).1 ⟨(one a s).2.pl+1,(one a s).2.er,(one a s).2.ln⟩ h1.1;exact⟨h2.1,by omega⟩
   .exact⟨h1.1,by omega⟩
  .exact⟨hp,by simp⟩
omit hV in
theorem c8n(s:dB):(xN aH aZ rdP l s).1.1.length=(xN aH aZ rdP l s).1.2.length/\(xN aH aZ rdP l s).1.2.length<=l.length+2:=by
 have h:=b9k (l:=l) (P:=λa:List Nm×List Ty=>a.1.length=a.2.length) (len:=λa=>a.2.length) (sep:=[44]) (one:=e4s rdP l) (λa s hp=>by
  refine⟨?_,?_⟩
  .show(a.1++[_]).length=(a.2++[_]).length
   have hp:a.1.length=a.2.length:=hp;simp[hp]
  .show(a.2++[_]).length<=a.2.length+1
   simp) (l.length+2) ([],[]) s rfl
 exact⟨h.1,by have:=h.2;simp only[List.length_nil]at this;show(mP l [44] (e4s rdP l) (l.length+2) ([],[]) s).1.2.length<=_;omega⟩
def d8Z(nm v:Nm)(ms:D):List (Nat×bG):=[(3,.cells [.d (.str nm),.d (.str v),.d ms]),(2,.cells [.d (.str []),.d (.str []),.d .aE])]
theorem c8o(i:Nat)(s0:dB)(hi:s0.pl=i+1)(v0:bY l s0)(hs:i<l.length):eH G 55 [] l ⟨i,s0.er,s0.ln⟩ (b2u aH aZ rdP l s0) (λc=>.d (.agg (c8l c))):=by
 have hl:=hV.len;have hw:IntKind.i64.wrap ((i:Int)+1)=(s0.pl:Int):=by rw[wrap64 (by omega)];omega
 refine eH.bO func55 rfl ntmps55 rfl ?_;intro Q Q0;unfold b2u at Q0;simp[hw];refine cH gQ (jN (by omega) s0 v0) (λb x hx=>?_);cases hx;simp;refine cH cI (dZ (by omega) (pS l s0) s0 v0) (λc s1 h1=>?_);have Q1:=Q0.step (x:=dQ l) h1;have p1:uI l 1 s0 s1:=kP hV.fin (λhb=>by unfold pS at hb;simp only[g4e]at hb;omega) v0 h1
 have v1:=bY.next p1;simp;refine rfG Q1 v1 gK (jJ (by omega) s1 v1) (gW hV.fin) λv s2 h2 Q2 p2 v2=>?_;simp;refine cH dA (eM (by omega) [119,105,116,104] s2 v2) (λc x hx=>?_);cases hx;simp;refine cH cI (dZ (by omega) (eY l [119,105,116,104] s2) s2 v2) (λu3 s3 h3=>?_);have Q3:=Q2.step (x:=wP l [119,105,116,104]) h3;have p3:=yU hV.fin v2 h3;have v3:=bY.next p3;simp;refine cH (.mk func107 rfl) (b5z hV s3 v3) (λp s4 h4=>?_);have Q4:=Q3.step h4;have hn:=c8n (rdP:=rdP) (l:=l) s3;rw[h4]at hn;obtain⟨ns,ts⟩:=p;simp only at hn Q4;simp;refine SW.sV (ι:={k:Nat//k<=ts.length}) (λk=>[(6,.d (.int .i64 (k.1:Nat)))]) (λk=>d8Z c v (.sl (((ns.zip ts).take k.1).map a0y))++rfH l s4) (λ_=>[(131,[.c 3 2])]) (λk=>ts.length-k.1) ⟨0,Nat.zero_le _⟩ (by simp[d8Z]) ?_;rintro⟨k,hk⟩;by_cases hkl:k<ts.length
 .have hkn:k<ns.length:=by omega
  have hwk:=aX (show k<9223372036854775807 by omega);simp[d8Z,hkl,hkn,strs];refine SW.vk ?_;simp[hkl,hkn,bW,strs];refine⟨.mk,?_⟩;refine bQ ⟨λx hx=>by obtain⟨y,_,rfl⟩:=g3L.1 (g4r hx);rw[zW];rfl,by omega⟩ ?_;simp[hwk];have hT:List.take (k+1) ((ns.zip ts).map a0y)=List.take k ((ns.zip ts).map a0y)++[.str ns[k]::tyD ts[k]]:=by rw[g3F (by simp;omega)];simp[zW]
  exact bE.mk ⟨k+1,by omega⟩ (by simp[d8Z,hT,strs]) (by simp only;omega)
 .have f0s:k=ts.length:=by omega
  subst f0s;simp[d8Z,hn.1,strs];have hz:List.take ts.length ((ns.zip ts).map a0y)=(ns.zip ts).map a0y:=List.take_of_length_le (by simp;omega);exact Q4.ok _ _ (.inr rfl) (by simp[hz])
end
section
variable {rdP:List Tok->Nat->Nat->gO Pr} {l:List Tok} (hV:rR G rdP l)
include hV
def inH(c:Nm)(t:Ty)(ns ds:D):List (Nat×bG):=[(3,.cells (.d (.str c)::((tyD t).map .d++[.d ns,.d ds]))),(2,.cells [.d (.str []),.d (.int .i64 0),.d (.str []),.d .aE,.d .aE,.d (.int .i64 0),.d (.str []),.d (.int .i64 0),.d .aE,.d .aE,.d .aE,.d .aE])]
abbrev f4w(rdP:List Tok->Nat->Nat->gO Pr)(l:List Tok)(out:List gB):RM (List gB):=do
 let d <- a1P aH aZ rdP l
 aK l [59]
 pure (out++[d])
theorem d5d{s s1:dB}{t:Ty}(hv:bY l s)(h:a5R aH aZ rdP l (sX aH aZ rdP l) s=(t,s1)):uI l 0 s s1:=(aF.e3U hV.toRfH (aF.typ hV.toRfH) (aB.typ hV.fin hV.mZ.pred)).c7r hv h
theorem d1l(hn:∀i, -9223372036854775807<=(aJ l i).n/\(aJ l i).n<=9223372036854775807)(i:Nat)(s0:dB)(hi:s0.pl=i+1)(v0:bY l s0)(hs:i<l.length):eH G 56 [] l ⟨i,s0.er,s0.ln⟩ (b7S aH aZ rdP l s0) (λc=>.d (.agg (c8d c))):=by
 have hl:=hV.len;have hw:IntKind.i64.wrap ((i:Int)+1)=(s0.pl:Int):=by rw[wrap64 (by omega)];omega
 have hA:=λs hv=>a8k (low:=0) hV (aF.typ hV.toRfH) (aB.typ hV.fin hV.mZ.pred) (λs hv _=>a0J hV s hv) (λs=>by have:=b3Y hV (l.length+2) s;have e:a7Z aH aZ rdP l (l.length+2) s=sX aH aZ rdP l s:=rfl;rw[e]at this;omega) s hv (λ_=>Nat.zero_le _)
 refine eH.xA func56 rfl ntmps56 rfl ?_;intro Q Q0;unfold b7S at Q0;refine SW.gN (SW.xk ?_);simp;refine SW.gN (SW.xk ?_);simp[hw];refine SW.gN (SW.xk ?_);simp;refine cH gQ (jN (by omega) s0 v0) (λb x hx=>?_);cases hx;simp;refine cH cI (dZ (by omega) (pS l s0) s0 v0) (λc s1 h1=>?_);have Q1:=Q0.step (x:=dQ l) h1;have p1:uI l 1 s0 s1:=kP hV.fin (λhb=>by unfold pS at hb;simp only[g4e]at hb;omega) v0 h1
 have v1:=bY.next p1;simp;refine SW.gN (SW.xk ?_);simp;refine cH (.mk func108 rfl) (hA s1 v1) (λt s2 h2=>?_);have Q2:=Q1.step h2;have v2:=bY.next (d5d hV v1 h2);simp;obtain⟨b3,s3,h3⟩:∃b s1,wO l [119,104,101,114,101] s2=(b,s1):=⟨_,_,rfl⟩;have Q3:=Q2.step h3;have v3:=bY.next (a0I hV.fin v2 h3);obtain⟨ns,s4,h4⟩:∃ns s4,(if b3=true then xM aH l else pure []:RM (List psV)) s3=(ns,s4):=⟨_,_,rfl⟩;have Q4:=Q3.step h4;have v4:bY l s4:=by
  cases b3 with
  |false=>cases h4;exact v3
  |true=>exact b4e hV v3 h4
 refine SW.a7Q [] (inH c t (.sl (ns.map dP)) .aE++rfH l s4) [] (SW.xk ?_) (SW.xk ?_)
 .simp;refine cH cU (dR (by omega) [119,104,101,114,101] s2 v2) (λb x hx=>?_);cases hx.symm.trans h3;cases b3 with
  |false=>cases h4;simp[inH]
  |true=>simp;refine cH (.mk func109 rfl) (b5t hV s3 v3) (λns2 s5 h5=>?_);cases h5.symm.trans h4;simp[inH]
 simp[inH];refine rfM Q4 v4 hV.fin λu5 s5 h5 Q5 p5 v5=>?_;simp;refine a9f (eY l [100,101,102]) (λs h=>uQ h) (f4w rdP l) (λa=>a.length) (λ_=>True) (λ_=>[]) (λa s=>inH c t (.sl (ns.map dP)) (.sl (a.map a2X))++rfH l s) (λ_=>[(58,[.c 3 11])]) (l.length+2) [] s5 (by omega) v5 (by simp) trivial (by simp[inH]) ?_ ?_
 .intro a s0 e0 i0 bs la _ hc R hR;have v0:bY l s0:=λ_=>i0;simp[inH];refine cH dA (eM (by omega) [100,101,102] s0 v0) (λb x hx=>?_);cases hx;rw[hc];simp;refine dK [0] 3 [2] (.op 1 (.call [4,5,6,7] .none) (.call [1,4,5,6,7] .none)) true (by kernel_rfl) (by kernel_rfl) ?_;simp;refine⟨?_,?_⟩
  all_goals
   refine rfZ (.mk func34 rfl) (c2x hV hn s0 v0) (λd s1 h1=>?_);have p1:uI l _ s0 s1:=d4X hV v0 h1;have v1:=bY.next p1;refine cG.mk ?_;simp
  all_goals
   refine bQ (by first|omega|(simp[a0V];omega)|exact⟨λx hx=>by obtain⟨y,_,rfl⟩:=g3L.1 hx;first|rfl|(rw[a0V];rfl),by omega⟩|exact⟨rfl,by omega⟩) ?_;simp;refine rfN [59] v1 hV.fin λu2 s2 h2 p2 v2=>?_;simp;refine hR _ (a++[d]) s2 (by simp only[aQ,h1,h2];rfl) (by simp[inH,a0V]) (λh=>?_) (by simp) trivial;have:=(p1.tr p2) h;omega
 .intro a s6 hc qZ la _ v6 hy R;have Q6:=Q5.step (x:=rM l (eY l [100,101,102]) (f4w rdP l) []) hy;simp[inH];refine cH dA (eM (by omega) [100,101,102] s6 v6) (λb x hx=>?_);cases hx;rw[hc];simp;refine rfM Q6 v6 hV.fin λu7 s7 h7 Q7 p7 v7=>?_;simp;exact Q7.ok _ _ (.inr rfl) (by simp)
end
section
variable {rdP:List Tok->Nat->Nat->gO Pr} {l:List Tok} (hV:rR G rdP l)
include hV
abbrev c2B:=Nm×Option (List Nm)×Pr
abbrev f4x(rdP:List Tok->Nat->Nat->gO Pr)(l:List Tok)(out:List a1L):RM (List a1L):=do
 let c <- dQ l
 let b <- uH (bZ l 0 [40])
 let ns <- (if b then jM aH l else pure []:RM (List Nm))
 aK l [61]
 let p <- pT rdP l
 pure (out++[(c,ns,p)])
abbrev d9a(rdP:List Tok->Nat->Nat->gO Pr)(l:List Tok)(out:List c2B):RM (List c2B):=do
 let c <- dQ l
 let b <- uH (bZ l 0 [40])
 let ns <- (if b then jM aH l >>=λns=>pure (some ns) else pure none:RM (Option (List Nm)))
 aK l [61]
 let p <- pT rdP l
 pure (out++[(c,ns,p)])
def c8p(p:c2B):a1L:=(p.1,p.2.1.getD [],p.2.2)
def d1m(p:c2B):List D:=.str p.1::(match p.2.1 with
 |some ns=>.sl (strs ns)
 |none=>.aE)::prD p.2.2
omit hV in
theorem e4y(a:List c2B)(s:dB):f4x rdP l (a.map c8p) s=((d9a rdP l a s).1.map c8p,(d9a rdP l a s).2):=by
 show(dQ l >>=λc=>uH (bZ l 0 [40]) >>=λb=>(if b then jM aH l else pure []:RM (List Nm)) >>=λns=>aK l [61] >>=λ_=>pT rdP l >>=λb=>pure (a.map c8p++[(c,ns,b)])) s=(((dQ l >>=λc=>uH (bZ l 0 [40]) >>=λb=>(if b then jM aH l >>=λns=>pure (some ns) else pure none:RM (Option (List Nm))) >>=λns=>aK l [61] >>=λ_=>pT rdP l >>=λb=>pure (a++[(c,ns,b)])) s).1.map c8p,_)
 simp only[aQ,zS];cases (uH (bZ l 0 [40]) (dQ l s).2).1<;>simp[c8p,aQ,zS]
omit hV in
theorem f4y(a:List c2B):b7d (a.map d1m) ((a.map c8p).map b9b):=by rw[List.map_map];refine b2M (λp=>?_) a;obtain⟨w,t,e⟩:=p;cases t<;>simp[d1m,c8p,c8g,strs]
def meH(nm d:Nm)(t:Nm)(cs:D)(p:Pr):List (Nat×bG):=[(3,.cells (.d (.str nm)::.d (.str d)::.d (.str t)::.d cs::(prD p).map .d)),(2,.cells [.d (.str []),.d (.str []),.d (.str []),.d .aE,.d (.int .i64 0),.d (.str []),.d (.int .i64 0),.d .aE])]
theorem d1n(i:Nat)(s0:dB)(hi:s0.pl=i+1)(v0:bY l s0)(hs:i<l.length):eH G 57 [] l ⟨i,s0.er,s0.ln⟩ (b7T aH rdP l s0) (λc=>.d (.agg (c8h c))):=by
 have hl:=hV.len;have hw:IntKind.i64.wrap ((i:Int)+1)=(s0.pl:Int):=by rw[wrap64 (by omega)];omega
 refine eH.bO func57 rfl ntmps57 rfl ?_;intro Q Q0;unfold b7T at Q0;simp[hw];refine rfG Q0 v0 gK (jJ (by omega) s0 v0) (gW hV.fin) λnm s1 h1 Q1 p1 v1=>?_;simp;refine rfM Q1 v1 hV.fin λu2 s2 h2 Q2 p2 v2=>?_;simp;refine cH gQ (jN (by omega) s2 v2) (λb x hx=>?_);cases hx;simp;refine cH cI (dZ (by omega) (pS l s2) s2 v2) (λd s3 h3=>?_);have Q3:=Q2.step (x:=dQ l) h3;have p3:uI l 1 s2 s3:=kP hV.fin (λhb=>by unfold pS at hb;simp only[g4e]at hb;omega) v2 h3
 have v3:=bY.next p3;simp;refine rfM Q3 v3 hV.fin λu4 s4 h4 Q4 p4 v4=>?_;simp;refine rfG Q4 v4 (.mk func110 rfl) (b7X (by omega) s4 v4) (b8s hV.fin) λt s5 h5 Q5 p5 v5=>?_;simp;refine rfM Q5 v5 hV.fin λu6 s6 h6 Q6 p6 v6=>?_;simp;refine a1F hV.fin [59] (d9a rdP l) (λa=>a.length) (λ_=>True) 4 (λ_=>[]) (λa s=>meH nm d t (.sl (a.map d1m)) eE++rfH l s) (λ_=>[(136,[.c 3 3])]) (l.length+2) [] s6 (by omega) v6 rfl trivial (by simp[meH,eE]) ?_ ?_
 .intro a s0 e0 i0 bs la _ R hR;have v0:bY l s0:=λ_=>i0;simp[e0,meH];refine cH gQ (jN (by omega) s0 v0) (λb x hx=>?_);cases hx;simp;refine cH cI (dZ (by omega) (pS l s0) s0 v0) (λc s1 h1=>?_);have h1:dQ l s0=(c,s1):=h1;have p1:uI l 1 s0 s1:=kP hV.fin (λhb=>by unfold pS at hb;simp only[g4e]at hb;omega) v0 h1
  have v1:=bY.next p1;simp;refine cH cC (dT hV [40] s1 v1) (λb x hx=>?_);cases hx;rcases g3O (bZ l 0 [40] s1)with w|w
  .rw[w];simp;refine cH (.mk func72 rfl) (a8i hV s1 v1) (λns s2 h2=>?_);have p2:uI l 1 s1 s2:=(aF.words hV.toRfH).d4m (aB.words hV.fin) v1 h2;have v2:=bY.next p2;simp;refine rfN [61] v2 hV.fin λu3 s3 h3 p3 v3=>?_;simp;refine rfL v3 sZ (vN hV s3 v3) (yB hV) λe s4 h4 p4 v4=>?_;simp;refine eF (by first|omega|(simp[d1m];omega)|exact⟨λx hx=>by obtain⟨y,_,rfl⟩:=g3L.1 hx;rfl,by omega⟩) ?_;simp;have ho:d9a rdP l a s0=(a++[(c,some ns,e)],s4):=by
    show(dQ l >>=λc=>uH (bZ l 0 [40]) >>=λb=>(if b then jM aH l >>=λns=>pure (some ns) else pure none:RM (Option (List Nm))) >>=λns=>aK l [61] >>=λ_=>pT rdP l >>=λb=>pure (a++[(c,ns,b)])) s0=_
    rw[aQ,h1]
    show((if bZ l 0 [40] s1 then jM aH l >>=λns=>pure (some ns) else pure none:RM (Option (List Nm))) >>=λns=>aK l [61] >>=λ_=>pT rdP l >>=λb=>pure (a++[(c,ns,b)])) s1=_
    have hN:(jM aH l >>=λns=>pure (some ns):RM (Option (List Nm))) s1=(some ns,s2):=by
     rw[aQ,h2]
     rfl
    rw[w,if_pos rfl,aQ,hN]
    show(aK l [61] >>=λ_=>pT rdP l >>=λb=>pure (a++[(c,some ns,b)])) s2=_
    rw[aQ,h3,aQ,h4]
    rfl
   refine cH bS (cN (by omega) [59] s4 v4) (λbh sh hh=>?_);simp;refine hR _ (a++[(c,some ns,e)]) s4 ho (by rw[hh];simp[d1m,meH]) (λh=>?_) (by simp) trivial;have:=(((p1.tr p2).tr p3).tr p4) h;omega
  .rw[w];simp;refine rfN [61] v1 hV.fin λu3 s3 h3 p3 v3=>?_;simp;refine rfL v3 sZ (vN hV s3 v3) (yB hV) λe s4 h4 p4 v4=>?_;simp;refine eF (by first|omega|(simp[d1m];omega)|exact⟨λx hx=>by obtain⟨y,_,rfl⟩:=g3L.1 hx;rfl,by omega⟩) ?_;simp;have ho:d9a rdP l a s0=(a++[(c,none,e)],s4):=by
    show(dQ l >>=λc=>uH (bZ l 0 [40]) >>=λb=>(if b then jM aH l >>=λns=>pure (some ns) else pure none:RM (Option (List Nm))) >>=λns=>aK l [61] >>=λ_=>pT rdP l >>=λb=>pure (a++[(c,ns,b)])) s0=_
    rw[aQ,h1]
    show((if bZ l 0 [40] s1 then jM aH l >>=λns=>pure (some ns) else pure none:RM (Option (List Nm))) >>=λns=>aK l [61] >>=λ_=>pT rdP l >>=λb=>pure (a++[(c,ns,b)])) s1=_
    rw[w,if_neg (by decide)]
    show(aK l [61] >>=λ_=>pT rdP l >>=λb=>pure (a++[(c,none,b)])) s1=_
    rw[aQ,h3,aQ,h4]
    rfl
   refine cH bS (cN (by omega) [59] s4 v4) (λbh sh hh=>?_);simp;refine hR _ (a++[(c,none,e)]) s4 ho (by rw[hh];simp[d1m,meH]) (λh=>?_) (by simp) trivial;have:=((p1.tr p3).tr p4) h;omega
 ·
  intro a s7 m hm qZ la hJ v7 hy R;have hm':m=false\/(m=true/\ ¬s7.er=0):=by
   cases m
   .exact .inl rfl
   .rcases hm with h|h
    .cases h
    .exact .inr ⟨rfl,h⟩
  have Q7:=Q6.step (x:=mH l [59] (f4x rdP l) []) ((a3j (List.map c8p) e4y _ [] s6).trans (by rw[hy]));have hwk:=f4y a;rcases hm' with rfl|⟨rfl,h⟩
  all_goals
   first
    |simp[h,meH]
    |simp[meH]
   refine rfM Q7 v7 hV.fin λu8 s8 h8 Q8 p8 v8=>?_;simp;refine cH cU (dR (by omega) [105,110,118,97,114,105,97,110,116] s8 v8) (λb s9 h9=>?_);have Q9:=Q8.step h9;have v9:=bY.next (a0I hV.fin v8 h9);cases b with
   |false=>have Q10:=Q9.step (show(if false=true then pT rdP l else pure eE:RM Pr) s9=(eE,s9) from rfl);simp;exact Q10.ok _ _ (.inr rfl) (by simpa using hwk)
   |true=>simp;refine cH sZ (vN hV s9 v9) (λp s10 h10=>?_);have Q10:=Q9.step (show(if true=true then pT rdP l else pure eE:RM Pr) s9=(p,s10) from h10);simp;exact Q10.ok _ _ (.inr rfl) (by simpa using hwk)
end
section
variable {rdP:List Tok->Nat->Nat->gO Pr} {l:List Tok} (hV:rR G rdP l)
include hV
abbrev b5A:=Nm×Option (List Nm×List Ty)
abbrev f4z(rdP:List Tok->Nat->Nat->gO Pr)(l:List Tok)(out:List a1M):RM (List a1M):=do let c <- c1X aH aZ rdP l;pure (out++[c])
abbrev e4z(rdP:List Tok->Nat->Nat->gO Pr)(l:List Tok)(b:Bool):RM (Option (List Nm×List Ty)):=if b then do
  let p <- xN aH aZ rdP l
  aK l [41]
  pure (some p) else pure none
abbrev d9b(rdP:List Tok->Nat->Nat->gO Pr)(l:List Tok)(out:List b5A):RM (List b5A):=do
 let c <- dQ l
 let b <- eL l [40]
 let o <- e4z rdP l b
 pure (out++[(c,o)])
def c8q(p:b5A):a1M:=match p.2 with
 |some q=>⟨p.1,q.1,q.2⟩
 |none=>⟨p.1,[],[]⟩
def c8r(p:b5A):List D:=match p.2 with
 |some q=>[.str p.1,.sl (strs q.1),.sl (q.2.map tyC)]
 |none=>[.str p.1,.aE,.aE]
omit hV in
theorem e4A(a:List b5A)(s:dB):f4z rdP l (a.map c8q) s=((d9b rdP l a s).1.map c8q,(d9b rdP l a s).2):=by
 show(c1X aH aZ rdP l >>=λc=>pure (a.map c8q++[c])) s=(((dQ l >>=λc=>eL l [40] >>=λb=>e4z rdP l b >>=λo=>pure (a++[(c,o)])) s).1.map c8q,_)
 unfold c1X;simp only[aQ,zS];cases (eL l [40] (dQ l s).2).1<;>simp[c8q,aQ,zS]<;>exact⟨rfl,rfl⟩
omit hV in
theorem f4A(a:List b5A):b7d (a.map c8r) ((a.map c8q).map a5b):=by rw[List.map_map];refine b2M (λp=>?_) a;obtain⟨w,t⟩:=p;cases t<;>simp[c8r,c8q,a5b,strs]
variable{a:List b5A}
omit hV in
theorem c8s{c:List D}(hc:c∈a.map c8r):(c.length==prog.cellsOf 128)=true:=by obtain⟨y,_,rfl⟩:=g3L.1 hc;unfold c8r;split<;>rfl
omit hV in
theorem d2I(h:a.length<=50000):((a.map c8r).length+1)*(prog.bytesOf 128+1)<=140737488355328:=by
 have hb:prog.bytesOf 128<=1000:=by decide
 rw[List.length_map]
 calc (a.length+1)*(prog.bytesOf 128+1)<=50001*1001:=Nat.mul_le_mul (by omega) (by omega)
  _<=140737488355328:=by decide
def daH(nm:Nm)(vs ps cs:D):List (Nat×bG):=[(3,.cells [.d (.str nm),.d vs,.d ps,.d cs]),(2,.cells [.d (.str []),.d .aE,.d .aE,.d .aE])]
theorem d5e{s s1:dB}{p:List Nm×List Ty}(hv:bY l s)(h:xN aH aZ rdP l s=(p,s1)):uI l 0 s s1:=(aF.named hV.toRfH).c7r hv h
theorem c8t(i:Nat)(s0:dB)(hi:s0.pl=i+1)(v0:bY l s0)(hs:i<l.length):eH G 54 [] l ⟨i,s0.er,s0.ln⟩ (b7R aH aZ rdP l s0) (λc=>.d (.agg (c8k c))):=by
 have hl:=hV.len;have hw:IntKind.i64.wrap ((i:Int)+1)=(s0.pl:Int):=by rw[wrap64 (by omega)];omega
 refine eH.xA func54 rfl ntmps54 rfl ?_;intro Q Q0;unfold b7R at Q0;refine SW.gN (SW.xk ?_);simp;refine SW.gN (SW.xk ?_);simp[hw];refine SW.gN (SW.xk ?_);simp;refine cH gQ (jN (by omega) s0 v0) (λb x hx=>?_);cases hx;simp;refine cH cI (dZ (by omega) (pS l s0) s0 v0) (λc s1 h1=>?_);have Q1:=Q0.step (x:=dQ l) h1;have p1:uI l 1 s0 s1:=kP hV.fin (λhb=>by unfold pS at hb;simp only[g4e]at hb;omega) v0 h1
 have v1:=bY.next p1;simp;obtain⟨vs,s2,h2⟩:∃vs s2,rM l (mG aH l 0) (rwM l) [] s1=(vs,s2):=⟨_,_,rfl⟩;have Q2:=Q1.step h2;have v2:bY l s2:=(aF.d2D hV.toRfH []).next v1 h2;refine SW.a7Q [] (daH c (.sl (strs vs)) .aE .aE++rfH l s2) [] (SW.xk ?_) ?_
 .simp;refine a9f (mG aH l 0) (λs h=>a9d h) (rwM l) (λa=>a.length) (λ_=>True) (λ_=>[]) (λa s=>daH c (.sl (strs a)) .aE .aE++rfH l s) (λ_=>[(9,[.c 3 1])]) (l.length+2) [] s1 (by omega) v1 (by simp) trivial (by simp[daH,strs]) ?_ ?_
  .intro a s0 e0 i0 bs la _ hc R hR;have v0:bY l s0:=λ_=>i0;simp[daH];refine cH mN (rE hV s0 v0) (λb x hx=>?_);cases hx;rw[hc];simp;refine dK [0] 3 [2] (.op 1 (.call [4,5,6,7] .none) (.call [1,4,5,6,7] .none)) true (by kernel_rfl) (by kernel_rfl) ?_;simp;refine⟨?_,?_⟩
   all_goals
    refine rfZ gK (jJ (by omega) s0 v0) (λw s1 h1=>?_);have p1:uI l _ s0 s1:=gW hV.fin v0 h1;have v1:=bY.next p1;refine cG.mk ?_;simp
   all_goals
    refine bQ (by first|omega|(simp[strs];omega)|exact⟨λx hx=>by obtain⟨y,_,rfl⟩:=g3L.1 hx;first|rfl|(rw[strs];rfl),by omega⟩|exact⟨rfl,by omega⟩) ?_;simp;refine hR _ (a++[w]) s1 (by simp only[aQ,h1];rfl) (by simp[daH,strs]) (λh=>?_) (by simp) trivial;have:=(p1) h;omega
  .intro a s4 hc qZ la _ v4 hy R;simp[daH];refine cH mN (rE hV s4 v4) (λb x hx=>?_);cases hx;rw[hc];cases (show rM l (mG aH l 0) (rwM l) [] s1=(a,s4) from hy).symm.trans h2;simp[daH]
 simp;obtain⟨b3,s3,h3⟩:∃b s1,eL l [60] s2=(b,s1):=⟨_,_,rfl⟩;have Q3:=Q2.step h3;have v3:=bY.next (yA hV.fin v2 h3);obtain⟨ps,s4,h4⟩:∃ps s4,(if b3=true then wT aH l false >>=λps=>aK l [62] >>=λ_=>pure ps else pure []:RM (List psV)) s3=(ps,s4):=⟨_,_,rfl⟩;have Q4:=Q3.step h4;refine SW.a7Q [] (daH c (.sl (strs vs)) (.sl (ps.map dP)) .aE++rfH l s4) [] (SW.xk ?_) (SW.xk ?_)
 .simp[daH];refine cH bS (cN (by omega) [60] s2 v2) (λb x hx=>?_);cases hx.symm.trans h3;cases b3 with
  |false=>cases h4;simp[daH]
  |true=>simp;refine cH a4c (a6e hV false s3 v3) (λxs s5 h5=>?_);have v5:=bY.next (a0K hV v3 h5);simp;refine cH oR (qI (by omega) [62] s5 v5) (λu s6 h6=>?_);rw[if_pos rfl,aQ,h5,aQ,h6]at h4;cases h4;simp[daH]
 have v4:bY l s4:=by
  cases b3 with
  |false=>cases h4;exact v3
  |true=>obtain⟨xs,s5,h5⟩:∃a b,wT aH l false s3=(a,b):=⟨_,_,rfl⟩;obtain⟨u,s6,h6⟩:∃a b,aK l [62] s5=(a,b):=⟨_,_,rfl⟩;rw[if_pos rfl,aQ,h5,aQ,h6]at h4;cases h4;exact bY.next (oH hV.fin (bY.next (a0K hV v3 h5)) h6)
 simp[daH];refine rfM Q4 v4 hV.fin λu5 s5 h5 Q5 p5 v5=>?_;simp;refine a1F hV.fin [124] (d9b rdP l) (λa=>a.length) (λ_=>True) 4 (λ_=>[]) (λa s=>daH c (.sl (strs vs)) (.sl (ps.map dP)) (.sl (a.map c8r))++rfH l s) (λ_=>[(128,[.c 3 3])]) (l.length+2) [] s5 (by omega) v5 rfl trivial (by simp[daH]) ?_ ?_
 .intro a s0 e0 i0 bs la _ R hR;have v0:bY l s0:=λ_=>i0;simp[e0,daH];refine cH gQ (jN (by omega) s0 v0) (λb x hx=>?_);cases hx;simp;refine cH cI (dZ (by omega) (pS l s0) s0 v0) (λc s1 h1=>?_);have h1:dQ l s0=(c,s1):=h1;have p1:uI l 1 s0 s1:=kP hV.fin (λhb=>by unfold pS at hb;simp only[g4e]at hb;omega) v0 h1
  have v1:=bY.next p1;simp;refine cH bS (cN (by omega) [40] s1 v1) (λb s2 h2=>?_);have p2:uI l 0 s1 s2:=yA hV.fin v1 h2;have v2:=bY.next p2;cases b with
  |true=>
   simp;refine cH (.mk func107 rfl) (b5z hV s2 v2) (λp s3 h3=>?_);have p3:uI l 0 s2 s3:=d5e hV v2 h3;have v3:=bY.next p3;obtain⟨ns,ts⟩:=p;simp;refine rfN [41] v3 hV.fin λu4 s4 h4 p4 v4=>?_;simp;refine eF ⟨rfl,g3t.2 λc hc=>c8s hc,d2I (by omega)⟩ ?_;simp;have ho:d9b rdP l a s0=(a++[(c,some (ns,ts))],s4):=by
    show(dQ l >>=λc=>eL l [40] >>=λb=>e4z rdP l b >>=λo=>pure (a++[(c,o)])) s0=_
    rw[aQ,h1,aQ,h2]
    show((xN aH aZ rdP l >>=λp=>aK l [41] >>=λ_=>pure (some p):RM (Option (List Nm×List Ty))) >>=λo=>pure (a++[(c,o)])) s2=_
    rw[aQ,aQ,h3,aQ,h4]
    rfl
   refine cH bS (cN (by omega) [124] s4 v4) (λbh sh hh=>?_);simp;refine hR _ (a++[(c,some (ns,ts))]) s4 ho (by rw[hh];simp[c8r,daH]) (λh=>?_) (by simp) trivial;have:=(((p1.tr p2).tr p3).tr p4) h;omega
  |false=>
   simp;refine eF ⟨rfl,g3t.2 λc hc=>c8s hc,d2I (by omega)⟩ ?_;simp;have ho:d9b rdP l a s0=(a++[(c,none)],s2):=by
    show(dQ l >>=λc=>eL l [40] >>=λb=>e4z rdP l b >>=λo=>pure (a++[(c,o)])) s0=_
    rw[aQ,h1,aQ,h2]
    rfl
   refine cH bS (cN (by omega) [124] s2 v2) (λbh sh hh=>?_);simp;refine hR _ (a++[(c,none)]) s2 ho (by rw[hh];simp[c8r,daH]) (λh=>?_) (by simp) trivial;have:=(p1.tr p2) h;omega
 ·
  intro a s7 m hm qZ la hJ v7 hy R;have hm':m=false\/(m=true/\ ¬s7.er=0):=by
   cases m
   .exact .inl rfl
   .rcases hm with h|h
    .cases h
    .exact .inr ⟨rfl,h⟩
  have Q7:=Q5.step (x:=mH l [124] (f4z rdP l) []) ((a3j (List.map c8q) e4A _ [] s5).trans (by rw[hy]));have hwk:=f4A a;rcases hm' with rfl|⟨rfl,h⟩
  all_goals
   first
    |simp[h,daH]
    |simp[daH]
   exact Q7.ok _ _ (.inr rfl) (by simpa using hwk)
end
section
variable {rdP:List Tok->Nat->Nat->gO Pr} {l:List Tok} (hV:rQ G rdP l) (hN:∀i, -9223372036854775807<=(aJ l i).n/\(aJ l i).n<=9223372036854775807)
include hV
def exX(e:cP):List (Nat×bG):=[(100001,.cells ((a0h e).map .d))]
def tyX(t:Ty):List (Nat×bG):=[(100001,.cells ((tyD t).map .d))]
def deX(d:gB):List (Nat×bG):=[(100001,.cells ((b1b d).map .d))]
theorem c8u(t0:Ty)(i:Nat)(hi:i<l.length):qA G 42 [.ptr 100000 0,.ptr 100001 0] (tyX t0) [] l i (mD aH aZ rdP l i) (λ_=>.cX []) tyX:=by have hl:=hV.len;refine qA.bO func42 rfl ntmps42 rfl (by simp) ?_;intro Q Q0;simp[tyX];refine rdX (ds:=[]) dO (qM hV i hi) (λt j h=>?_) (λn e h=>Q0.bad n e _ h);simp;exact Q0.ok t j _ _ h (.inl rfl) (by simp[tyX])
include hN
theorem c8v(e0:cP)(i:Nat)(hi:i<l.length):qA G 40 [.ptr 100000 0,.ptr 100001 0] (exX e0) [] l i (sG aH aZ rdP l i) (λ_=>.cX []) exX:=by have hl:=hV.len;refine qA.bO func40 rfl ntmps40 rfl (by simp) ?_;intro Q Q0;simp[exX];refine rdX (ds:=[]) cW (a4e hV hN i hi) (λt j h=>?_) (λn e h=>Q0.bad n e _ h);simp;exact Q0.ok t j _ _ h (.inl rfl) (by simp[exX])
abbrev a4G(rdP:List Tok->Nat->Nat->gO Pr)(l:List Tok):bF gB:=do
 let d <- xD aH aZ rdP l
 match d with
 |none=>eV l
 |some d=>do
  let _ <- cS l [59]
  pure d
theorem d1o(d0:gB)(j0:Nat)(hi:j0<l.length):qA G 30 [.ptr 100000 0,.ptr 100001 0] (deX d0) [] l j0 (a4G rdP l j0) (λ_=>.cX []) deX:=by
 have hl:=hV.len;have p0:=gT hi;refine qA.bO func30 rfl ntmps30 rfl (by simp) ?_;intro Q Q0;simp[deX];refine uG Q0 p0 a6h ((a9n hV hN j0 p0.2)) (a9o hV) λd j1 x1 Q1 p1=>?_;cases d with
 |none=>
  simp;refine rdX (ds:=[]) yQ (a0B (α:=gB) l j1 p1.2 (by omega) λ_=>.cX []) (λa j hx=>by unfold eV at hx;cases hx) (λn e hx=>?_)
  first|exact Q1.bad n e _ hx|(simp;exact Q1.bad n e _ hx)
 |some d=>
  simp;cases hs:aL l j1 [59]with
  |true=>have Q2:=Q1.step (oA hs);refine rdT hs p1 hV.fin λp2=>?_;simp;exact Q2.ok _ (j1+1) _ _ rfl (.inl rfl) (by simp[deX,b1b,b2P])
  |false=>have Q2:=Q1.step (oB hs);refine rdF hs p1 ?_;simp;exact Q2.ok _ j1 _ _ rfl (.inl rfl) (by simp[deX,b1b,b2P])
abbrev moM(rdP:List Tok->Nat->Nat->gO Pr)(l:List Tok)(m:eK):bF eK:=do
 let m <- vI aH aZ rdP l m
 aR l [[59]]
 pure m
omit hN in
theorem b9m(m:eK):aB l 1 (vI aH aZ rdP l m):=aB.decl hV.fin hV.mZ m
omit hN in
theorem c8w(m:eK)(i:Nat)(m2:eK)(j:Nat)(hi:i<l.length)(hm:c4z m i)(h:vI aH aZ rdP l m i=.ok m2 j):c4z m2 j:=by
 have ha:=b9m hV m i m2 j hi h;obtain⟨m1,m2,m3,m4,m5,m6⟩:=hm;unfold vI at h;split at h
 .obtain⟨x,k,_,h⟩:=dF h;cases h;constructor<;>simp<;>omega
 split at h
 .obtain⟨x,k,_,h⟩:=dF h;cases h;constructor<;>simp<;>omega
 split at h
 .obtain⟨x,k,_,h⟩:=dF h;cases h;constructor<;>simp<;>omega
 split at h
 .obtain⟨x,k,_,h⟩:=dF h;cases h;constructor<;>simp<;>omega
 split at h
 .obtain⟨x,k,_,h⟩:=dF h;cases h;constructor<;>simp<;>omega
 .obtain⟨x,k,_,h⟩:=dF h;cases x with
  |none=>unfold eV at h;cases h
  |some d=>cases h;constructor<;>simp<;>omega
theorem c0U(j0:Nat)(hi:j0<l.length):qA G 16 [.ptr 100000 0,.ptr 100001 0] (sQ ⟨[],[],[],[],[],[]⟩) d1i l j0 (a7K aH aZ rdP l j0) (λ_=>.cX []) sQ:=by
 have hl:=hV.len;have p0:=gT hi;refine qA.bO func16 rfl ntmps16 rfl (by simp) ?_;intro Q Q0;simp[sQ];refine SW.sV (ι:={x:eK×Nat×Nat//j0<=x.2.1/\x.2.1<l.length/\l.length<x.2.2+x.2.1/\c4z x.1 x.2.1/\gE (λi=> !decide ((aJ l i).kind=0)) (moM rdP l) x.2.2 x.1 x.2.1=a7K aH aZ rdP l j0}) (λ_=>[]) (λx=>rH l x.1.2.1++sQ x.1.1) (λ_=>d1i) (λx=>l.length-x.1.2.1) ⟨(⟨[],[],[],[],[],[]⟩,j0,l.length+2),g3G _,p0.2,by simp only;omega,⟨Nat.zero_le _,Nat.zero_le _,Nat.zero_le _,Nat.zero_le _,Nat.zero_le _,Nat.zero_le _⟩,rfl⟩ (by simp[sQ]) ?_;rintro⟨⟨m,j1,g⟩,hb,tS,hg,hm,hp⟩;simp only at hb tS hg hm hp;obtain⟨g,rfl⟩:∃k,g=k+1:=⟨g-1,by omega⟩;have p1:j0<=j1/\j1<l.length:=⟨hb,tS⟩;have ht:=dM (G:=G) l j1 j1 0;simp[sQ];refine qB (i:=j1) (ds:=[.int .i64 0]) cJ ht ?_;by_cases hk:(aJ l j1).kind=0
 .have hc:(λi=> !decide ((aJ l i).kind=0)) j1=false:=by simp[hk]
  rw[a0H hV hc]at hp;simp[bL,hk];exact Q0.ok m j1 _ _ hp.symm (.inl rfl) (by simp[sQ])
 .have hc:(λi=> !decide ((aJ l i).kind=0)) j1=true:=by simp[hk]
  simp[bL,hk];refine dX.mk (a2e (.mk func18 rfl) (d1j hV hN m j1 tS hm) [(100000,100000),(100001,100001)] (λa j hx=>?_) ?_ ?_ ?_ rfl rfl (λm2 j2 x2=>?_) (λn e hx=>by simp;exact Q0.bad _ _ _ (hp.symm.trans (uB hV hc (kT hx)))))
  .simp[sQ,aW,bB,bD,bC,bK,getKey]
  .simp[sQ,aW,bB,bD,bC,bK,getKey]
  .simp[bA,bI,rk]
  .simp[sQ,bA,bI,rk,dC,dL]
  .have p2:=b9m hV m j1 m2 j2 tS x2;have hm2:=c8w hV m j1 m2 j2 tS hm x2;simp[bJ,sQ,bA,bI,rk,dC,dL,bX,kI,jA,eI];refine rdX (hw:=by simp[strs]) (ds:=[.sl (strs [[59]])]) oK (pV l [[59]] j2 p2.2 (by omega) hV.fin) (λu j3 x3=>?_) (λn e hx=>by simp;exact Q0.bad _ _ _ (hp.symm.trans (uB hV hc ((bU x2).trans (kT hx)))));have p3:=aB.exp hV.fin _ _ j2 u j3 p2.2 x3;have hm3:c4z m2 j3:=⟨by have:=hm2.a;omega,by have:=hm2.b;omega,by have:=hm2.c;omega,by have:=hm2.d;omega,by have:=hm2.e;omega,by have:=hm2.f;omega⟩;have h1:moM rdP l m j1=.ok m2 j3:=(bU x2).trans ((bU x3).trans rfl);rw[a0G hV hc h1]at hp;simp;exact bE.mk ⟨(m2,j3,g),by simp only;omega,p3.2,by simp only;omega,hm3,hp⟩ (by simp[sQ]) (by simp;omega)
end
def RfD(G:GT)(f:FuncId)(m:eK)(l:List Tok)(s:dB)(y:eK×dB):Prop:=CX prog G f ⟨[.ptr 100000 0,.ptr 100001 0],rfH l s++sQ m,d1i⟩ (.inl (.cX [],rfH l y.2++sQ y.1,d1i))
structure c0V (Q:Exit->St->Prop) (rs:List ResultVar) (l:List Tok) (y:eK×dB):Prop where
 ok:∀e s,(e=.normal\/e=.ret)->a4z prog s rs (.cX []) (rfH l y.2++sQ y.1) d1i->Q e s
section
variable {Q:Exit->St->Prop} {rs:List ResultVar} {l:List Tok} {s s1:dB}
theorem c0V.step{α:Type}{x:RM α}{f:α->RM eK}{a:α}(h:c0V Q rs l ((x >>=f) s))(hx:x s=(a,s1)):c0V Q rs l (f a s1):=by rwa[aQ,hx]at h
variable{x y:eK×dB}{c:Prop}
theorem c0V.sW[Decidable c](h:c0V Q rs l (if c then x else y))(hc:c):c0V Q rs l x:=by rwa[if_pos hc]at h
theorem c0V.rK[Decidable c](h:c0V Q rs l (if c then x else y))(hc:¬c):c0V Q rs l y:=by rwa[if_neg hc]at h
end
section
variable {rdP:List Tok->Nat->Nat->gO Pr} {l:List Tok} (hV:rR G rdP l) (hn:∀i, -9223372036854775807<=(aJ l i).n/\(aJ l i).n<=9223372036854775807)
include hV hn
theorem d1p(m:eK)(s0:dB)(hi:s0.pl<l.length)(hm:c4z m s0.pl):RfD G 22 m l s0 (xZ aH aZ rdP l m s0):=by
 have hl:=hV.len;have v0:bY l s0:=λ_=>hi;obtain⟨m1,m2,m3,m4,m5,m6⟩:=hm;obtain⟨da,cl,ins,me,qu,de⟩:=m;simp only at m1 m2 m3 m4 m5 m6;have eq1:∀d:a4s,yO d=[.str d.name,.sl (strs d.vars),.sl (d.a6B.map dP),.sl (d.cons.map a5b)]:=λd=>rfl;have eq2:∀d:xK,a0k d=[.str d.name,.str d.var,.sl (d.methods.map a0y)]:=λd=>rfl;have eq3:=b8X;have eq4:=b9c;have eq5:=b9d;have eq6:=a0V;refine CX.b3P func22 rfl ntmps22 rfl (by simp) λQ h1 h2=>SW.xk ?_;have Q0:c0V Q _ l (xZ aH aZ rdP l ⟨da,cl,ins,me,qu,de⟩ s0):=⟨λe s he hs=>h1 _ _ _ e s rfl he hs⟩;unfold xZ at Q0;simp[sQ];cases k1:eY l [100,97,116,97] s0 with
 |true=>
  have Q1:=Q0.sW k1;have v1:bY l ⟨s0.pl+1,s0.er,s0.ln⟩:=λ_=>(qW hV k1).2;have hC:=c8t hV s0.pl ⟨s0.pl+1,s0.er,s0.ln⟩ rfl v1 hi;refine cH dA (eM (by omega) [100,97,116,97] s0 v0) (λb x hx=>?_);cases hx;rw[k1];simp;refine dK [0,1,2,3,5] 6 [] (.op 4 (.call [7,8,9,10,11] .none) (.call [4,7,8,9,10,11] .none)) true (by kernel_rfl) (by kernel_rfl) ?_;simp;refine⟨?_,?_⟩
  all_goals
   refine rfZ (.mk func54 rfl) hC (λx s2 h2=>cG.mk ?_);have Q2:=Q1.step h2;simp;refine bQ (by first|omega|exact⟨λx _=>by rw[eq1];rfl,by omega⟩|exact⟨λx _=>rfl,by omega⟩) ?_;simp;exact Q2.ok .normal _ (.inl rfl) (by simp[sQ,eq1])
 |false=>
 have Q0:=Q0.rK (by rw[k1];decide);refine cH dA (eM (by omega) [100,97,116,97] s0 v0) (λb x hx=>?_);cases hx;rw[k1];simp;cases k2:eY l [99,108,97,115,115] s0 with
 |true=>
  have Q1:=Q0.sW k2;have v1:bY l ⟨s0.pl+1,s0.er,s0.ln⟩:=λ_=>(qW hV k2).2;have hC:=c8o hV s0.pl ⟨s0.pl+1,s0.er,s0.ln⟩ rfl v1 hi;refine cH dA (eM (by omega) [99,108,97,115,115] s0 v0) (λb x hx=>?_);cases hx;rw[k2];simp;refine dK [0,1,2,3,5] 6 [] (.op 4 (.call [7,8,9,10,11] .none) (.call [4,7,8,9,10,11] .none)) true (by kernel_rfl) (by kernel_rfl) ?_;simp;refine⟨?_,?_⟩
  all_goals
   refine rfZ (.mk func55 rfl) hC (λx s2 h2=>cG.mk ?_);have Q2:=Q1.step h2;simp;refine bQ (by first|omega|exact⟨λx _=>by rw[eq2];rfl,by omega⟩|exact⟨λx _=>rfl,by omega⟩) ?_;simp;exact Q2.ok .normal _ (.inl rfl) (by simp[sQ,eq2])
 |false=>
 have Q0:=Q0.rK (by rw[k2];decide);refine cH dA (eM (by omega) [99,108,97,115,115] s0 v0) (λb x hx=>?_);cases hx;rw[k2];simp;cases k3:eY l [105,110,115,116] s0 with
 |true=>
  have Q1:=Q0.sW k3;have v1:bY l ⟨s0.pl+1,s0.er,s0.ln⟩:=λ_=>(qW hV k3).2;have hC:=d1l hV hn s0.pl ⟨s0.pl+1,s0.er,s0.ln⟩ rfl v1 hi;refine cH dA (eM (by omega) [105,110,115,116] s0 v0) (λb x hx=>?_);cases hx;rw[k3];simp;refine dK [0,1,2,3,5] 6 [] (.op 4 (.call [7,8,9,10,11] .none) (.call [4,7,8,9,10,11] .none)) true (by kernel_rfl) (by kernel_rfl) ?_;simp;refine⟨?_,?_⟩
  all_goals
   refine rfZ (.mk func56 rfl) hC (λx s2 h2=>cG.mk ?_);have Q2:=Q1.step h2;simp;refine bQ (by first|omega|exact⟨λx _=>by rw[eq3];rfl,by omega⟩|exact⟨λx _=>rfl,by omega⟩) ?_;simp;exact Q2.ok .normal _ (.inl rfl) (by simp[sQ,eq3])
 |false=>
 have Q0:=Q0.rK (by rw[k3];decide);refine cH dA (eM (by omega) [105,110,115,116] s0 v0) (λb x hx=>?_);cases hx;rw[k3];simp;cases k4:eY l [109,101,97,115,117,114,101] s0 with
 |true=>
  have Q1:=Q0.sW k4;have v1:bY l ⟨s0.pl+1,s0.er,s0.ln⟩:=λ_=>(qW hV k4).2;have hC:=d1n hV s0.pl ⟨s0.pl+1,s0.er,s0.ln⟩ rfl v1 hi;refine cH dA (eM (by omega) [109,101,97,115,117,114,101] s0 v0) (λb x hx=>?_);cases hx;rw[k4];simp;refine dK [0,1,2,3,5] 6 [] (.op 4 (.call [7,8,9,10,11] .none) (.call [4,7,8,9,10,11] .none)) true (by kernel_rfl) (by kernel_rfl) ?_;simp;refine⟨?_,?_⟩
  all_goals
   refine rfZ (.mk func57 rfl) hC (λx s2 h2=>cG.mk ?_);have Q2:=Q1.step h2;simp;refine bQ (by first|omega|exact⟨λx _=>by rw[eq4];rfl,by omega⟩|exact⟨λx _=>rfl,by omega⟩) ?_;simp;exact Q2.ok .normal _ (.inl rfl) (by simp[sQ,eq4])
 |false=>
 have Q0:=Q0.rK (by rw[k4];decide);refine cH dA (eM (by omega) [109,101,97,115,117,114,101] s0 v0) (λb x hx=>?_);cases hx;rw[k4];simp;cases k5:eY l [113,117,97,108] s0 with
 |true=>
  have Q1:=Q0.sW k5;have v1:bY l ⟨s0.pl+1,s0.er,s0.ln⟩:=λ_=>(qW hV k5).2;have hC:=d1k hV s0.pl ⟨s0.pl+1,s0.er,s0.ln⟩ rfl v1 hi;refine cH dA (eM (by omega) [113,117,97,108] s0 v0) (λb x hx=>?_);cases hx;rw[k5];simp;refine dK [0,1,2,3,5] 6 [] (.op 4 (.call [7,8,9,10,11] .none) (.call [4,7,8,9,10,11] .none)) true (by kernel_rfl) (by kernel_rfl) ?_;simp;refine⟨?_,?_⟩
  all_goals
   refine rfZ (.mk func58 rfl) hC (λx s2 h2=>cG.mk ?_);have Q2:=Q1.step h2;simp;refine bQ (by first|omega|exact⟨λx _=>by rw[eq5];rfl,by omega⟩|exact⟨λx _=>rfl,by omega⟩) ?_;simp;exact Q2.ok .normal _ (.inl rfl) (by simp[sQ,eq5])
 |false=>
 have Q0:=Q0.rK (by rw[k5];decide);refine cH dA (eM (by omega) [113,117,97,108] s0 v0) (λb x hx=>?_);cases hx;rw[k5];simp;have hC:=c2x hV hn s0 v0;refine dK [0,1,2,3,5] 6 [] (.op 4 (.call [7,8,9,10,11] .none) (.call [4,7,8,9,10,11] .none)) true (by kernel_rfl) (by kernel_rfl) ?_;simp;refine⟨?_,?_⟩
 all_goals
  refine rfZ (.mk func34 rfl) hC (λx s2 h2=>cG.mk ?_);have Q2:=Q0.step h2;simp;refine bQ (by first|omega|exact⟨λx _=>by rw[eq6];rfl,by omega⟩|exact⟨λx _=>rfl,by omega⟩) ?_;simp;exact Q2.ok .normal _ (.inl rfl) (by simp[sQ,eq6])
end
end
end Go.Proofs.YtmfbjecjccipfaaGreatDoor
section
section
namespace Go.Proofs.YtmfbjecjccipfaaGreatDoor
def pM(l:List Tok)(i:Nat)(s:List UInt8):Bool:=match l[i]? with
 |some t=>decide (t.kind=4)&&decide (t.text=s)
 |none=>false
def kdB(l:List Tok)(i:Nat)(k:Int):Bool:=match l[i]? with
 |some t=>decide (t.kind=k)
 |none=>false
def wtB(l:List Tok)(i:Nat):Bool:=kdB l i 1||kdB l i 2
def txA(l:List Tok)(i:Nat):List UInt8:=((l[i]?).map (·.text)).getD []
def nmA(l:List Tok)(i:Nat):Int:=((l[i]?).map (·.n)).getD 0
def tw(op:Int)(a b:Pr):Pr:=⟨op,[],0,[a,b]⟩
def sK(l:List Tok):Nat->Nat->List UInt8->List UInt8×Nat
 |0,i,s=>(s,i)
 |f+1,i,s=>
  if pM l i [46]=true then
   if wtB l (i+1)=true then sK l f (i+2) (s++[46]++txA l (i+1))
   else if kdB l (i+1) 3=true then
    if wtB l (i+2)=true then sK l f (i+3) (s++[46]++txA l (i+1)++txA l (i+2)) else sK l f (i+2) (s++[46]++txA l (i+1))
   else(s,i)
  else(s,i)
def opL:Nat->List (Int×List UInt8)
 |1=>[(18,[60,61,62])]
 |3=>[(16,[124,124])]
 |4=>[(15,[38,38])]
 |7=>[(6,[43]),(7,[45])]
 |8=>[(8,[42])]
 |_=>[]
def b2T(l:List Tok)(n k:Nat):Option Int:=((opL k).find? λp=>pM l n p.2).map (·.1)
def cmpL:List (List UInt8×Int×Bool):=[([61],10,false),([33,61],11,false),([60],12,false),([62],12,true),([60,61],13,false),([62,61],13,true)]
def a3m(l:List Tok)(n:Nat):Option (Int×Bool):=(cmpL.find? λp=>pM l n p.1).map (·.2)
section
variable (kw:List UInt8->Bool) (rd:Nat->Nat->Option (Pr×Nat)) (l:List Tok)
def b9n(i:Nat):Bool:=wtB l i&&(!kw (txA l i)||decide (txA l i=[118])||decide (txA l i=[116,97,103])||decide (txA l i=[118,97,108]))
def wR(i:Nat):Option (List UInt8×Nat):=if b9n kw l i=true then some (sK l l.length (i+1) (txA l i)) else none
def eZ(k:Nat):Nat->Pr->Nat->Pr×Nat
 |0,a,n=>(a,n)
 |g+1,a,n=>match b2T l n k with
  |none=>(a,n)
  |some op=>match rd (n+1) (k+1)with
   |none=>(a,n)
   |some (b,m)=>eZ k g (tw op a b) m
def qG:Nat->Nat->List Pr->Option (List Pr×Nat)
 |0,_,_=>none
 |g+1,i,acc=>match rd (i+1) 1 with
  |none=>none
  |some (p,n)=>if pM l n [41]=true then some (acc++[p],n+1) else if pM l n [44]=true then qG g n (acc++[p]) else none
def uS(i:Nat):Option (List Pr×Nat):=if pM l i [40]=true then qG rd l l.length i [] else none
def zX(i:Nat):Option (Pr×Nat):=match l[i]? with
 |none=>none
 |some t=>
  if t.kind=3 then some (⟨1,[],t.n,[]⟩,i+1)
  else if t.kind=1/\t.text=[116,114,117,101] then some (⟨2,[],1,[]⟩,i+1)
  else if t.kind=1/\t.text=[102,97,108,115,101] then some (⟨2,[],0,[]⟩,i+1)
  else if pM l i [63]=true then(match wR kw l (i+1)with
   |none=>none
   |some (s,n)=>(uS rd l n).map λq=>(⟨5,s,0,q.1⟩,q.2))
  else if pM l i [40]=true then
   if pM l (i+1) [45]=true/\kdB l (i+2) 3=true/\pM l (i+3) [41]=true then some (⟨1,[],IntKind.i64.wrap (-nmA l (i+2)),[]⟩,i+4)
   else(match rd (i+1) 1 with
    |none=>none
    |some (p,n)=>if pM l n [41]=true then some (p,n+1) else none)
  else(match wR kw l i with
   |none=>none
   |some (s,n)=>(match uS rd l n with
    |some (ks,m)=>some (⟨4,s,0,ks⟩,m)
    |none=>some (⟨3,s,0,[]⟩,n)))
def a9w(i:Nat):Option (Pr×Nat):=match rd i 7 with
 |none=>none
 |some (a,n)=>(match a3m l n with
  |none=>some (a,n)
  |some (op,ex)=>(match rd (n+1) 7 with
   |none=>some (a,n)
   |some (b,m)=>some (if ex=true then tw op b a else tw op a b,m)))
def b4j(i:Nat):Option (Pr×Nat):=match rd i 3 with
 |none=>none
 |some (a,n)=>if pM l n [61,62]=true then(match rd (n+1) 2 with
  |some (b,m)=>some (tw 17 a b,m)
  |none=>some (a,n)) else some (a,n)
def atG(i k:Nat):Option (Pr×Nat):=
 match k with
 |2=>b4j rd l i
 |5=>if pM l i [33]=true then(rd (i+1) 5).map λq=>(⟨14,[],0,[q.1]⟩,q.2) else rd i 6
 |6=>a9w rd l i
 |9=>if pM l i [45]=true then(rd (i+1) 9).map λq=>(⟨9,[],0,[q.1]⟩,q.2) else rd i 10
 |10=>zX kw rd l i
 |k=>(rd i (k+1)).map λq=>eZ rd l k l.length q.1 q.2
end
def jF(kw:List UInt8->Bool)(l:List Tok):Nat->Nat->Nat->Option (Pr×Nat)
 |0,_,_=>none
 |f+1,i,k=>atG kw (jF kw l f) l i k
variable{s:List UInt8}{i:Nat}{l:List Tok}
theorem oI(h:pM l i s=true):i<l.length:=by
 unfold pM at h;split at h
 .rename_i t ht;exact(g3r.1 ht).1
 .cases h
theorem b9o{k:Int}(h:kdB l i k=true):i<l.length:=by
 unfold kdB at h;split at h
 .rename_i t ht;exact(g3r.1 ht).1
 .cases h
theorem a4H(h:wtB l i=true):i<l.length:=by unfold wtB at h;rw[g3C]at h;rcases h with h|h<;>exact b9o h
theorem a0L{l:List Tok}:∀(f i:Nat)(s:List UInt8),i<=l.length->i<=(sK l f i s).2/\(sK l f i s).2<=l.length
 |0,i,s,h=>⟨g3G _,h⟩
 |f+1,i,s,h=>by
  rw[sK];split
  .rename_i h1;have:=oI h1;split
   .rename_i h2;have:=a4H h2;have:=a0L (l:=l) f (i+2) (s++[46]++txA l (i+1)) (by omega);omega
   .split
    .rename_i h3;have:=b9o h3;split
     .rename_i h4;have:=a4H h4;have:=a0L (l:=l) f (i+3) (s++[46]++txA l (i+1)++txA l (i+2)) (by omega);omega
     .have:=a0L (l:=l) f (i+2) (s++[46]++txA l (i+1)) (by omega);omega
    .exact⟨g3G _,h⟩
  .exact⟨g3G _,h⟩
theorem sL{kw:List UInt8->Bool}{n:Nat}(h:wR kw l i=some (s,n)):i<n/\n<=l.length:=by
 unfold wR at h;split at h
 .rename_i hb;unfold b9n at hb;rw[g3q]at hb;have h1:=a4H hb.1;have h2:=a0L (l:=l) l.length (i+1) (txA l i) (by omega);rw[g3w]at h;rw[h]at h2;simp only at h2;omega
 .cases h
def Adv(l:List Tok)(rd:Nat->Nat->Option (Pr×Nat)):Prop:=∀i k p n,rd i k=some (p,n)->i<n/\n<=l.length
section
variable {kw:List UInt8->Bool} {rd rd':Nat->Nat->Option (Pr×Nat)} {l:List Tok}
theorem a9p(h:Adv l rd)(k:Nat):∀(g:Nat)(a:Pr)(n:Nat),n<=l.length->n<=(eZ rd l k g a n).2/\(eZ rd l k g a n).2<=l.length
 |0,a,n,hn=>⟨g3G _,hn⟩
 |g+1,a,n,hn=>by
  rw[eZ];split
  .exact⟨g3G _,hn⟩
  .split
   .exact⟨g3G _,hn⟩
   .rename_i op _ _ b m hr;have h1:=h _ _ _ _ hr;have h2:=a9p h k g (tw op a b) m h1.2;omega
theorem b2U(h:Adv l rd):∀(g i:Nat)(acc ks:List Pr)(m:Nat),qG rd l g i acc=some (ks,m)->i<m/\m<=l.length
 |0,_,_,_,_,hr=>by cases hr
 |g+1,i,acc,ks,m,hr=>by
  rw[qG]at hr;split at hr
  .cases hr
  .rename_i p n hp;have h1:=h _ _ _ _ hp;split at hr
   .rename_i hs;have:=oI hs;cases hr;omega
   .split at hr
    .have:=b2U h g n _ ks m hr;omega
    .cases hr
variable{i n:Nat}
theorem b2V(h:Adv l rd){m:Nat}{ks:List Pr}(hr:uS rd l i=some (ks,m)):i<m/\m<=l.length:=by
 unfold uS at hr;split at hr
 .exact b2U h _ _ _ _ _ hr
 .cases hr
variable{p:Pr}
theorem d9c(h:Adv l rd)(hr:zX kw rd l i=some (p,n)):i<n/\n<=l.length:=by
 unfold zX at hr;split at hr
 .cases hr
 .rename_i t ht;have zC:=(g3r.1 ht).1;split at hr
  .cases hr;omega
  split at hr
  .cases hr;omega
  split at hr
  .cases hr;omega
  split at hr
  .split at hr
   .cases hr
   .rename_i s m hn;have h1:=sL hn;rw[g3p]at hr;obtain⟨⟨ks,q⟩,hq,he⟩:=hr;have h2:=b2V h hq;cases he;simp only at *;omega
  split at hr
  .split at hr
   .rename_i hc;have:=oI hc.2.2;cases hr;omega
   .split at hr
    .cases hr
    .rename_i q m hq;have h1:=h _ _ _ _ hq;split at hr
     .rename_i hs;have:=oI hs;cases hr;omega
     .cases hr
  .split at hr
   .cases hr
   .rename_i s m hn;have h1:=sL hn;split at hr
    .rename_i ks q hq;have h2:=b2V h hq;cases hr;omega
    .cases hr;omega
theorem d9d(h:Adv l rd){k:Nat}(hr:atG kw rd l i k=some (p,n)):i<n/\n<=l.length:=by
 unfold atG at hr;split at hr
 .unfold b4j at hr;split at hr
  .cases hr
  .rename_i a m ha;have h1:=h _ _ _ _ ha;split at hr
   .split at hr
    .rename_i b q hb;have h2:=h _ _ _ _ hb;cases hr;omega
    .cases hr;exact h1
   .cases hr;exact h1
 .split at hr
  .rw[g3p]at hr;obtain⟨⟨a,m⟩,ha,he⟩:=hr;have h1:=h _ _ _ _ ha;cases he;simp only;omega
  .exact h _ _ _ _ hr
 .unfold a9w at hr;split at hr
  .cases hr
  .rename_i a m ha;have h1:=h _ _ _ _ ha;split at hr
   .cases hr;exact h1
   .split at hr
    .cases hr;exact h1
    .rename_i b q hb;have h2:=h _ _ _ _ hb;cases hr;omega
 .split at hr
  .rw[g3p]at hr;obtain⟨⟨a,m⟩,ha,he⟩:=hr;have h1:=h _ _ _ _ ha;cases he;simp only;omega
  .exact h _ _ _ _ hr
 .exact d9c h hr
 .rw[g3p]at hr;obtain⟨⟨a,m⟩,ha,he⟩:=hr;have h1:=h _ _ _ _ ha;have h2:=a9p (k:=k) h l.length a m h1.2;have h3:(eZ rd l k l.length a m).2=n:=by rw[he]
  omega
end
theorem mT(kw:List UInt8->Bool)(l:List Tok):∀f,Adv l (jF kw l f)
 |0=>λ_ _ _ _ h=>by cases h
 |f+1=>λ_ _ _ _ h=>d9d (mT kw l f) h
end Go.Proofs.YtmfbjecjccipfaaGreatDoor
end
section
namespace Go.Proofs.YtmfbjecjccipfaaGreatDoor
variable{L i k k' n:Nat}{l:List Tok}
theorem b4k{op:Int}(h:b2T l n k=some op):n<l.length/\1<=k/\k<=8:=by unfold b2T at h;rw[g3p]at h;obtain⟨p,hp,_⟩:=h;have hs:pM l n p.2=true:=List.find?_some (p:=λp:Int×List UInt8=>pM l n p.2) hp;refine⟨oI hs,?_⟩;have hm:=List.mem_of_find?_eq_some hp;unfold opL at hm;split at hm<;>first|omega|cases hm
theorem b9p{q:Int×Bool}(h:a3m l n=some q):n<l.length:=by unfold a3m at h;rw[g3p]at h;obtain⟨p,hp,_⟩:=h;have hs:pM l n p.1=true:=List.find?_some (p:=λp:List UInt8×Int×Bool=>pM l n p.1) hp;exact oI hs
section
variable {kw:List UInt8->Bool} {rd rd':Nat->Nat->Option (Pr×Nat)} {l:List Tok}
theorem b5B(hA:Adv l rd){i k:Nat}(h:∀i' k',1<=k'->k'<=10->i<i'->i'<=l.length->rd i' k'=rd' i' k'):∀(g:Nat)(a:Pr)(n:Nat),i<=n->eZ rd l k g a n=eZ rd' l k g a n
 |0,_,_,_=>rfl
 |g+1,a,n,hn=>by
  rw[eZ,eZ];cases ho:b2T l n k with
  |none=>rfl
  |some op=>
   obtain⟨h1,h2,h3⟩:=b4k ho;rw[<-h (n+1) (k+1) (by omega) (by omega) (by omega) (by omega)];cases hr:rd (n+1) (k+1)with
   |none=>rfl
   |some q=>obtain⟨b,m⟩:=q;have:=hA _ _ _ _ hr;exact b5B hA h g _ m (by omega)
theorem b9q(hA:Adv l rd){i:Nat}(h:∀i' k',1<=k'->k'<=10->i<i'->i'<=l.length->rd i' k'=rd' i' k'):∀(g n:Nat)(acc:List Pr),i<=n->n<l.length->qG rd l g n acc=qG rd' l g n acc
 |0,_,_,_,_=>rfl
 |g+1,n,acc,hn,hl=>by
  rw[qG,qG, <- h (n+1) 1 (by omega) (by omega) (by omega) (by omega)];cases hr:rd (n+1) 1 with
  |none=>rfl
  |some q=>
   obtain⟨p,m⟩:=q;have:=hA _ _ _ _ hr;simp only;split
   .rfl
   .split
    .rename_i hs;exact b9q hA h g m _ (by omega) (oI hs)
    .rfl
variable{i:Nat}
theorem b9r(hA:Adv l rd){n:Nat}(h:∀i' k',1<=k'->k'<=10->i<i'->i'<=l.length->rd i' k'=rd' i' k')(hn:i<=n):uS rd l n=uS rd' l n:=by
 unfold uS;split
 .rename_i hs;exact b9q hA h _ _ _ hn (oI hs)
 .rfl
theorem d1q(hA:Adv l rd)(h:∀i' k',1<=k'->k'<=10->i<i'->i'<=l.length->rd i' k'=rd' i' k'):zX kw rd l i=zX kw rd' l i:=by
 unfold zX;cases ht:l[i]? with
 |none=>rfl
 |some t=>
  simp only;split
  .rfl
  split
  .rfl
  split
  .rfl
  split
  .cases hn:wR kw l (i+1)with
   |none=>rfl
   |some q=>have:=sL (s:=q.1) (n:=q.2) hn;simp only;rw[b9r hA h (by omega)]
  split
  .rename_i hs;have:=oI hs;split
   .rfl
   .rw[h (i+1) 1 (by omega) (by omega) (by omega) (by omega)]
  .cases hn:wR kw l i with
   |none=>rfl
   |some q=>have:=sL (s:=q.1) (n:=q.2) hn;simp only;rw[b9r hA h (by omega)]
theorem d9e(hA:Adv l rd){k:Nat}(hk:1<=k/\k<=10)(h:∀i' k',1<=k'->k'<=10->i<i'->i'<=l.length->rd i' k'=rd' i' k')(h0:∀k',k<k'->k'<=10->rd i k'=rd' i k'):atG kw rd l i k=atG kw rd' l i k:=by
 unfold atG;split
 .unfold b4j;rw[<-h0 3 (by omega) (by omega)];cases hr:rd i 3 with
  |none=>rfl
  |some q=>
   obtain⟨a,n⟩:=q;have:=hA _ _ _ _ hr;simp only;split
   .rename_i hs;have:=oI hs;rw[h (n+1) 2 (by omega) (by omega) (by omega) (by omega)]
   .rfl
 .split
  .rename_i hs;have:=oI hs;rw[h (i+1) 5 (by omega) (by omega) (by omega) (by omega)]
  .exact h0 6 (by omega) (by omega)
 .unfold a9w;rw[<-h0 7 (by omega) (by omega)];cases hr:rd i 7 with
  |none=>rfl
  |some q=>
   obtain⟨a,n⟩:=q;have:=hA _ _ _ _ hr;simp only;cases hc:a3m l n with
   |none=>rfl
   |some c=>have:=b9p hc;simp only;rw[h (n+1) 7 (by omega) (by omega) (by omega) (by omega)]
 .split
  .rename_i hs;have:=oI hs;rw[h (i+1) 9 (by omega) (by omega) (by omega) (by omega)]
  .exact h0 10 (by omega) (by omega)
 .exact d1q hA h
 .rename_i hx2 hx5 hx6 hx9 f7X;have gJ:k≠10:=λe=>f7X e;rw[<-h0 (k+1) (by omega) (by omega)];cases hr:rd i (k+1)with
  |none=>rfl
  |some q=>obtain⟨a,n⟩:=q;have:=hA _ _ _ _ hr;simp only[Option.map_some];rw[b5B hA h l.length a n (by omega)]
end
def mu(L i k:Nat):Nat:=(L+1-i)*12+(11-k)
theorem uT{i':Nat}(hi:i<i')(hl:i'<=L)(hk:1<=k':=by omega)(hk2:k<=10:=by omega):mu L i' k'<mu L i k:=by unfold mu;omega
theorem b9s(h:k<k')(hk:k'<=10):mu L i k'<mu L i k:=by unfold mu;omega
theorem b9t(kw:List UInt8->Bool)(l:List Tok):∀(f f' i k:Nat),1<=k->k<=10->i<=l.length->mu l.length i k<=f->mu l.length i k<=f'->jF kw l f i k=jF kw l f' i k
 |0,_,i,k,_,h2,hi,h,_=>by unfold mu at h;omega
 |_+1,0,i,k,_,h2,hi,_,h=>by unfold mu at h;omega
 |f+1,f'+1,i,k,h1,h2,hi,h,h'=>by
  rw[jF,jF];exact d9e (mT kw l f) ⟨h1,h2⟩ (λi' k' q1 q2 q3 q4=>by
   have:=uT (k:=k) q3 q4 q1 h2;exact b9t kw l f f' i' k' q1 q2 q4 (by omega) (by omega)) (λk' q1 q2=>by
   have:=b9s (L:=l.length) (i:=i) q1 q2;exact b9t kw l f f' i k' (by omega) q2 hi (by omega) (by omega))
theorem d2J(kw:List UInt8->Bool)(l:List Tok):∀(f f' i:Nat)(p:Pr)(m:Nat),i<=l.length->mu l.length i 2<=f->jF kw l f i 2=some (p,m)->pM l m [61,62]=true->mu l.length (m+1) 2<=f'->jF kw l f' (m+1) 2=none
 |0,_,_,_,_,_,_,h,_,_=>by cases h
 |f+1,f',i,p,m,hi,hf,h,hs,hf'=>by
  have h0:b4j (jF kw l f) l i=some (p,m):=h;unfold b4j at h0;split at h0
  .cases h0
  .rename_i a n ha;have hA:=mT kw l f _ _ _ _ ha;split at h0
   .rename_i hs1;have hl:=oI hs1;have hm1:=uT (L:=l.length) (i:=i) (i':=n+1) (k:=2) (k':=2) (by omega) (by omega);split at h0
    .rename_i b q hb;cases h0;exact d2J kw l f f' (n+1) b m (by omega) (by omega) hb hs hf'
    .rename_i hb;cases h0;rw[<-hb];exact b9t kw l f' f (m+1) 2 (by omega) (by omega) (by omega) hf' (by omega)
   .rename_i hs1;cases h0;exact absurd hs hs1
end Go.Proofs.YtmfbjecjccipfaaGreatDoor
end
section
namespace Go.Proofs.YtmfbjecjccipfaaGreatDoor
structure Out (α:Type) where
 sg:List UInt8->List α
 nm:List UInt8->List α
 nu:Nat->List α
 bo:Bool->List α
 sp:List α
end Go.Proofs.YtmfbjecjccipfaaGreatDoor
end
section
namespace Go.Proofs.YtmfbjecjccipfaaGreatDoor
def RR(kw:List UInt8->Bool)(l:List Tok)(i k:Nat):Option (Pr×Nat):=jF kw l (mu l.length i k) i k
end Go.Proofs.YtmfbjecjccipfaaGreatDoor
end
section
namespace Go.Proofs.YtmfbjecjccipfaaGreatDoor
section
variable {num:List UInt8->Int×Bool} {ln:Int}
end
end Go.Proofs.YtmfbjecjccipfaaGreatDoor
end
end
namespace Go.Proofs.YtmfbjecjccipfaaGreatDoor
section
def b1g(t:Tok):Int:=if t.text=[40] then 1 else if t.text=[41] then -1 else 0
def a3z(l:List Tok)(i:Nat):Int:=match l[i]? with
 |some t=>b1g t
 |none=>0
def a9y(l:List Tok):Nat->Nat->Int
 |_,0=>0
 |i,m+1=>a3z l i+a9y l (i+1) m
def par(l:List Tok)(i j:Nat):Int:=a9y l i (j-i)
section
variable {l:List Tok}
theorem zY(i:Nat):par l i i=0:=by
 unfold par;rw[Nat.sub_self]
 rfl
variable{i j k n:Nat}
theorem mU(h:i<j:=by omega):par l i j=a3z l i+par l (i+1) j:=by
 unfold par;rw[show j-i=(j-(i+1))+1 by omega]
 rfl
theorem c8z:∀(m i n:Nat),a9y l i (m+n)=a9y l i m+a9y l (i+m) n
 |0,i,n=>by simp[a9y]
 |m+1,i,n=>by rw[show m+1+n=(m+n)+1 by omega,a9y,a9y,c8z m (i+1) n,show i+1+m=i+(m+1) by omega];omega
theorem a2m(h1:i<=j:=by omega)(h2:j<=k:=by omega):par l i k=par l i j+par l j k:=by unfold par;have:=c8z (l:=l) (j-i) i (k-j);rw[show j-i+(k-j)=k-i by omega,show i+(j-i)=j by omega]at this;exact this
theorem zZ:par l i (i+1)=a3z l i:=by rw[mU,zY];omega
def WfD(l:List Tok):Prop:=∀(i:Nat)(t:Tok),l[i]? =some t->t.kind≠4->b1g t=0
variable{s:List UInt8}
theorem yE(h:pM l i s=true):a3z l i=b1g ⟨4,s,0,0⟩:=by
 unfold pM at h;unfold a3z;cases ht:l[i]? with
 |none=>rw[ht]at h;cases h
 |some t=>rw[ht]at h;simp only[g3q,g4e]at h;simp only[b1g,h.2]
theorem c4C(hW:WfD l){k:Int}(hk:k≠4)(h:kdB l i k=true):a3z l i=0:=by
 unfold kdB at h;unfold a3z;cases ht:l[i]? with
 |none=>rfl
 |some t=>rw[ht]at h;simp only[g4e]at h;exact hW i t ht (by omega)
theorem d1r(hW:WfD l)(h:wtB l i=true):a3z l i=0:=by
 unfold wtB at h;rw[g3C]at h;rcases h with h|h
 .exact c4C hW (by decide) h
 .exact c4C hW (by decide) h
theorem a9q(hW:WfD l):∀(g i:Nat)(s:List UInt8),i<=l.length->par l i (sK l g i s).2=0
 |0,i,s,_=>zY i
 |g+1,i,s,hi=>by
  rw[sK];split
  .rename_i h1;have d1:a3z l i=0:=yE h1;have l1:=oI h1;split
   .rename_i h2;have d2:=d1r hW h2;have l2:=a4H h2;have h3:=a9q hW g (i+2) (s++[46]++txA l (i+1)) (by omega);have h4:=a0L (l:=l) g (i+2) (s++[46]++txA l (i+1)) (by omega);rw[mU,mU,d1,d2,h3]
    rfl
   .split
    .rename_i h3;have d3:=c4C hW (by decide) h3;have l3:=b9o h3;split
     .rename_i h4;have d4:=d1r hW h4;have l4:=a4H h4;have h5:=a9q hW g (i+3) (s++[46]++txA l (i+1)++txA l (i+2)) (by omega);have h6:=a0L (l:=l) g (i+3) (s++[46]++txA l (i+1)++txA l (i+2)) (by omega);rw[mU,mU,mU,d1,d3,d4,h5]
      rfl
     .have h5:=a9q hW g (i+2) (s++[46]++txA l (i+1)) (by omega);have h6:=a0L (l:=l) g (i+2) (s++[46]++txA l (i+1)) (by omega);rw[mU,mU,d1,d3,h5]
      rfl
    .exact zY i
  .exact zY i
variable {kw:List UInt8->Bool} {rd:Nat->Nat->Option (Pr×Nat)}
theorem b9u(hW:WfD l)(h:wR kw l i=some (s,n)):par l i n=0:=by
 have ha:=sL h;unfold wR at h;split at h
 .rename_i hb;unfold b9n at hb;rw[g3q]at hb;have d1:=d1r hW hb.1;have l1:=a4H hb.1;have h2:=a9q hW l.length (i+1) (txA l i) (by omega);rw[g3w]at h;rw[h]at h2;simp only at h2;rw[mU ha.1,d1,h2]
  rfl
 .cases h
def RdB(l:List Tok)(rd:Nat->Nat->Option (Pr×Nat)):Prop:=∀i k p n,rd i k=some (p,n)->par l i n=0
variable (hW:WfD l) (hA:Adv l rd) (hB:RdB l rd)
include hW hA hB
theorem f0u{op:Int}(ho:b2T l n k=some op):a3z l n=0:=by unfold b2T at ho;rw[g3p]at ho;obtain⟨p,hp,_⟩:=ho;have hs:pM l n p.2=true:=List.find?_some (p:=λp:Int×List UInt8=>pM l n p.2) hp;rw[yE hs];have hm:=List.mem_of_find?_eq_some hp;unfold opL at hm;split at hm<;>simp at hm<;>(try rcases hm with rfl|rfl)<;>(try subst hm)<;>rfl
theorem e4B{q:Int×Bool}(hc:a3m l n=some q):a3z l n=0:=by unfold a3m at hc;rw[g3p]at hc;obtain⟨p,hp,_⟩:=hc;have hs:pM l n p.1=true:=List.find?_some (p:=λp:List UInt8×Int×Bool=>pM l n p.1) hp;rw[yE hs];have hm:=List.mem_of_find?_eq_some hp;simp[cmpL]at hm;rcases hm with rfl|rfl|rfl|rfl|rfl|rfl<;>rfl
theorem c2C(k:Nat):∀(g:Nat)(a:Pr)(n:Nat),n<=l.length->par l n (eZ rd l k g a n).2=0
 |0,a,n,hn=>zY n
 |g+1,a,n,hn=>by
  rw[eZ];split
  .exact zY n
  .rename_i op ho;split
   .exact zY n
   .rename_i b m hr;have h1:=hA _ _ _ _ hr;have h2:=a9p hA k g (tw op a b) m h1.2;rw[mU,f0u hW hA hB ho,a2m (j:=m),hB _ _ _ _ hr,c2C k g (tw op a b) m h1.2]
    rfl
theorem c8A:∀(g i:Nat)(acc ks:List Pr)(m:Nat),qG rd l g i acc=some (ks,m)->par l (i+1) m= -1
 |0,_,_,_,_,hr=>by cases hr
 |g+1,i,acc,ks,m,hr=>by
  rw[qG]at hr;split at hr
  .cases hr
  .rename_i p n hp;have h1:=hA _ _ _ _ hp;split at hr
   .rename_i hs;cases hr;rw[a2m (j:=n),hB _ _ _ _ hp,zZ,yE hs]
    rfl
   .split at hr
    .rename_i hs;have h2:=b2U hA g n _ ks m hr;have h3:=c8A g n _ ks m hr;rw[a2m (j:=n),hB _ _ _ _ hp,mU h2.1,yE hs,h3]
     rfl
    .cases hr
theorem c8B{m:Nat}{ks:List Pr}(hr:uS rd l i=some (ks,m)):par l i m=0:=by
 unfold uS at hr;split at hr
 .rename_i hs;have h2:=b2U hA _ _ _ _ _ hr;rw[mU h2.1,yE hs,c8A hW hA hB _ _ _ _ _ hr]
  rfl
 .cases hr
variable{p:Pr}
theorem d9f(hr:zX kw rd l i=some (p,n)):par l i n=0:=by
 unfold zX at hr;split at hr
 .cases hr
 .rename_i t ht;have d0:t.kind≠4->a3z l i=0:=λhk=>by unfold a3z;rw[ht];exact hW i t ht hk
  split at hr
  .cases hr;rw[zZ];exact d0 (by omega)
  split at hr
  .cases hr;rw[zZ];exact d0 (by omega)
  split at hr
  .cases hr;rw[zZ];exact d0 (by omega)
  split at hr
  .rename_i hq;split at hr
   .cases hr
   .rename_i s m hn;have h1:=sL hn;rw[g3p]at hr;obtain⟨⟨ks,q⟩,hq2,he⟩:=hr;have h2:=b2V hA hq2;cases he;simp only at *;rw[mU,yE hq,a2m (j:=m),b9u hW hn,c8B hW hA hB hq2]
    rfl
  split at hr
  .rename_i hp;split at hr
   .rename_i hc;cases hr;rw[mU,mU,mU,zZ,yE hp,yE hc.1,c4C hW (by decide) hc.2.1,yE hc.2.2]
    rfl
   .split at hr
    .cases hr
    .rename_i q m hq;have h1:=hA _ _ _ _ hq;split at hr
     .rename_i hs;cases hr;rw[mU,a2m (j:=m),zZ,yE hp,hB _ _ _ _ hq,yE hs]
      rfl
     .cases hr
  .split at hr
   .cases hr
   .rename_i s m hn;have h1:=sL hn;split at hr
    .rename_i ks q hq;have h2:=b2V hA hq;cases hr;rw[a2m (j:=m),b9u hW hn,c8B hW hA hB hq]
     rfl
    .cases hr;exact b9u hW hn
theorem f0v(hr:atG kw rd l i k=some (p,n)):par l i n=0:=by
 have ha:=d9d hA hr;unfold atG at hr;split at hr
 .unfold b4j at hr;split at hr
  .cases hr
  .rename_i a m hm;have h1:=hA _ _ _ _ hm;split at hr
   .rename_i hs;split at hr
    .rename_i b q hb;have h2:=hA _ _ _ _ hb;cases hr;rw[a2m (j:=m),hB _ _ _ _ hm,mU,yE hs,hB _ _ _ _ hb]
     rfl
    .cases hr;exact hB _ _ _ _ hm
   .cases hr;exact hB _ _ _ _ hm
 .split at hr
  .rename_i hs;rw[g3p]at hr;obtain⟨⟨a,m⟩,hm,he⟩:=hr;cases he;simp only at *;rw[mU,yE hs,hB _ _ _ _ hm]
   rfl
  .exact hB _ _ _ _ hr
 .unfold a9w at hr;split at hr
  .cases hr
  .rename_i a m hm;have h1:=hA _ _ _ _ hm;split at hr
   .cases hr;exact hB _ _ _ _ hm
   .rename_i op ex hc;split at hr
    .cases hr;exact hB _ _ _ _ hm
    .rename_i b q hb;have h2:=hA _ _ _ _ hb;cases hr;rw[a2m (j:=m),hB _ _ _ _ hm,mU,e4B hW hA hB hc,hB _ _ _ _ hb]
     rfl
 .split at hr
  .rename_i hs;rw[g3p]at hr;obtain⟨⟨a,m⟩,hm,he⟩:=hr;cases he;simp only at *;rw[mU,yE hs,hB _ _ _ _ hm]
   rfl
  .exact hB _ _ _ _ hr
 .exact d9f hW hA hB hr
 .rw[g3p]at hr;obtain⟨⟨a,m⟩,hm,he⟩:=hr;have h1:=hA _ _ _ _ hm;have h2:=a9p (k:=k) hA l.length a m h1.2;have h3:=c2C hW hA hB k l.length a m h1.2;have h4:(eZ rd l k l.length a m).2=n:=by rw[he]
  rw[h4]at h2 h3;rw[a2m (j:=m),hB _ _ _ _ hm,h3]
  rfl
end
theorem d2K(kw:List UInt8->Bool){l:List Tok}(hW:WfD l):∀f,RdB l (jF kw l f)
 |0=>λ_ _ _ _ h=>by cases h
 |f+1=>λ_ _ _ _ h=>f0v hW (mT kw l f) (d2K kw hW f) h
theorem c2D(l:List Tok)(k:Nat):∀(m i:Nat),a9y (l.drop k) i m=a9y l (k+i) m
 |0,i=>rfl
 |m+1,i=>by rw[a9y,a9y,c2D l k m (i+1)];unfold a3z;rw[g3J,show k+(i+1)=k+i+1 by omega]
theorem c2E(l:List Tok)(e:Nat):∀(m i:Nat),i+m<=e->a9y (l.take e) i m=a9y l i m
 |0,i,_=>rfl
 |m+1,i,h=>by rw[a9y,a9y,c2E l e m (i+1) (by omega)];unfold a3z;rw[g3W,if_pos (by omega)]
theorem d9g(l:List Tok)(e k n:Nat)(h:k+n<=e:=by omega):par ((l.take e).drop k) 0 n=par l k (k+n):=by unfold par;rw[c2D,Nat.sub_zero,Nat.add_zero,c2E l e n k h,show k+n-k=n by omega]
theorem WfD.part{l:List Tok}(h:WfD l)(e k:Nat):WfD ((l.take e).drop k):=λi t ht=>by
 rw[g3J,g3W]at ht;split at ht
 .exact h _ t ht
 .cases ht
end
end Go.Proofs.YtmfbjecjccipfaaGreatDoor
section
section
namespace Go.Proofs.YtmfbjecjccipfaaGreatDoor
open Go Go.VM
variable {G:GT}
theorem rg1:List.range 1=[0]:=rfl
theorem rg2:List.range 2=[0,1]:=rfl
theorem rg3:List.range 3=[0,1,2]:=rfl
abbrev rdD(l:List Tok):D:=.agg [.sl (l.map bL)]
variable{i:Nat}{l:List Tok}
theorem b1h(h:i<l.length)(s:List UInt8):pM l i s=(decide (l[i].kind=4)&&decide (l[i].text=s)):=by simp[pM,h]
theorem c4D(h:¬i<l.length)(s:List UInt8):pM l i s=false:=by unfold pM;rw[g3X (by omega)]
theorem b1i(h:i<l.length)(k:Int):kdB l i k=decide (l[i].kind=k):=by simp[kdB,h]
theorem d1s(h:¬i<l.length)(k:Int):kdB l i k=false:=by unfold kdB;rw[g3X (by omega)]
theorem a8s(h:i<l.length):txA l i=l[i].text:=by simp[txA,h]
theorem d9h(h:i<l.length):nmA l i=l[i].n:=by simp[nmA,h]
theorem cE:VM.Enters prog 190:=.mk func190 rfl
theorem sM(l:List Tok)(i:Nat)(s:List UInt8)(hl:l.length<=900000000:=by omega):CS prog G 190 [rdD l,.int .i64 i,.str s] (.d (.bool (pM l i s))) none:=by
 refine CS.aY func190 rfl ntmps190 rfl ?_;by_cases aG:i<l.length
 .rw[b1h aG];obtain⟨t,ht⟩:∃t,l[i]=t:=⟨_,rfl⟩;rw[ht];simp[aG,ht,bL];by_cases h1:t.kind=4
  .by_cases h2:t.text=s<;>simp[h1,h2,aG,ht,bL]
  .simp[h1,aG,ht,bL]
 .rw[c4D aG];simp[aG]
theorem wH:VM.Enters prog 191:=.mk func191 rfl
theorem xO(op:Int)(a b:Pr):CS prog G 191 [.int .i64 op,.agg (prD a),.agg (prD b)] (.d (.agg (prD (tw op a b)))) none:=by refine CS.aY func191 rfl ntmps191 rfl ?_;simp[tw,rg2,dE]
def a9z(k:Nat):List (List D):=(opL k).map λp=>[.int .i64 p.1]
theorem a6X(k:Nat):CS prog G 218 [.int .i64 k] (.d (.sl (a9z k))) none:=by
 refine CS.aY func218 rfl ntmps218 rfl ?_
 match k with
 |0=>simp[a9z,opL,rg1,rg2]
 |1=>simp[a9z,opL,rg1,rg2]
 |2=>simp[a9z,opL,rg1,rg2]
 |3=>simp[a9z,opL,rg1,rg2]
 |4=>simp[a9z,opL,rg1,rg2]
 |5=>simp[a9z,opL,rg1,rg2]
 |6=>simp[a9z,opL,rg1,rg2]
 |7=>simp[a9z,opL,rg1,rg2]
 |8=>simp[a9z,opL,rg1,rg2]
 |k+9=>
  have h1:¬(k:Int)+9=1:=by omega
  have h3:¬(k:Int)+9=3:=by omega
  have h4:¬(k:Int)+9=4:=by omega
  have h7:¬(k:Int)+9=7:=by omega
  have h8:¬(k:Int)+9=8:=by omega
  simp[a9z,opL,h1,h3,h4,h7,h8]
def frm(op:Int):Option (Int×Int×Int×List UInt8):=
 if op=18 then some (1,1,2,[60,61,62]) else if op=17 then some (2,3,2,[61,62]) else if op=16 then some (3,3,4,[124,124]) else if op=15 then some (4,4,5,[38,38])
 else if op=10 then some (6,7,7,[61]) else if op=11 then some (6,7,7,[33,61]) else if op=12 then some (6,7,7,[60]) else if op=13 then some (6,7,7,[60,61])
 else if op=6 then some (7,7,8,[43]) else if op=7 then some (7,7,8,[45]) else if op=8 then some (8,8,9,[42]) else none
def b2W:Option (Int×Int×Int×List UInt8)->DV
 |some (a,b,c,s)=>.cX [.agg [.int .i64 a,.int .i64 b,.int .i64 c,.str s],.bool true]
 |none=>.cX [.agg [.int .i64 0,.int .i64 0,.int .i64 0,.str []],.bool false]
theorem b2X(op:Int):CS prog G 220 [.int .i64 op] (b2W (frm op)) none:=by
 refine CS.aY func220 rfl ntmps220 rfl ?_;simp;by_cases h18:op=18
 .simp[h18,frm,b2W]
 by_cases h17:op=17
 .simp[h17,frm,b2W]
 by_cases h16:op=16
 .simp[h16,frm,b2W]
 by_cases h15:op=15
 .simp[h15,frm,b2W]
 by_cases h10:op=10
 .simp[h10,frm,b2W]
 by_cases h11:op=11
 .simp[h11,frm,b2W]
 by_cases h12:op=12
 .simp[h12,frm,b2W]
 by_cases h13:op=13
 .simp[h13,frm,b2W]
 by_cases h6:op=6
 .simp[h6,frm,b2W]
 by_cases h7:op=7
 .simp[h7,frm,b2W]
 by_cases h8:op=8
 .simp[h8,frm,b2W]
 simp[h18,h17,h16,h15,h10,h11,h12,h13,h6,h7,h8,frm,b2W]
end Go.Proofs.YtmfbjecjccipfaaGreatDoor
end
section
namespace Go.Proofs.YtmfbjecjccipfaaGreatDoor
open Go Go.VM
variable {G:GT}
theorem e4C(k:Nat):∀p∈opL k,∃a b c,frm p.1=some (a,b,c,p.2):=by unfold opL;split<;>simp[frm]
abbrev d9i(l:List Tok)(n:Nat):List (Nat×bG):=[(100000,.cells [.d (.sl (l.map bL))]),(100001,.cells [.d (.int .i64 n)])]
theorem d5j(l:List Tok)(n:Nat)(hl:l.length<=900000000){op a b c:Int}{s:List UInt8}(h:frm op=some (a,b,c,s)):CH prog G 219 ⟨[.d (.int .i64 op),.ptr 100000 0,.ptr 100001 0],d9i l n,[]⟩ ⟨[.d (.bool (pM l n s))],d9i l n,[]⟩:=by have h1:=b2X (G:=G) op;rw[h,b2W]at h1;have h2:=sM (G:=G) l n s hl;refine CH.aY func219 rfl ntmps219 rfl (by simp) ?_;simp;refine aC.mk (.mk func220 rfl) h1 ?_;simp;refine aC.mk cE h2 ?_;simp
def ixO(l:List Tok)(n:Nat):List (Int×List UInt8)->Nat->Int
 |[],_=> -1
 |p::r,i=>if pM l n p.2=true then(i:Int) else ixO l n r (i+1)
theorem d9j{l:List Tok}{n:Nat}{o:List (Int×List UInt8)}{i:Nat}(h:i<o.length):ixO l n (o.drop i) i=if pM l n o[i].2=true then(i:Int) else ixO l n (o.drop (i+1)) (i+1):=by rw[g3D h,ixO]
theorem e4D(l:List Tok)(n:Nat)(o:List (Int×List UInt8))(ho:∀p∈o,∃a b c,frm p.1=some (a,b,c,p.2))(hl:l.length<=900000000:=by omega)(hol:o.length<=10:=by have:=e4I k;omega):
  CH prog G 217 ⟨[.d (.sl (o.map λp=>[.int .i64 p.1])),.clo 219 [.ptr 100000 0,.ptr 100001 0]],d9i l n,[]⟩ ⟨[.d (.int .i64 (ixO l n o 0))],d9i l n,[]⟩:=by
 obtain⟨r,hr⟩:∃r,ixO l n o 0=r:=⟨_,rfl⟩;rw[hr];refine CH.aY func217 rfl ntmps217 rfl (by simp) ?_;simp;refine SW.eA (ι:={i:Nat//i<=o.length/\ixO l n (o.drop i) i=r}) (λi=>[(8,.d (.int .i64 i.1))]) (λ_=>d9i l n) (λ_=>[]) (λi=>o.length-i.1) ⟨0,by simpa using hr⟩ (by simp) ?_;rintro⟨i,hi,hR⟩
 try simp only at hi hR
 by_cases aG:i<o.length
 .have hw:=aX (show i<9223372036854775807 by omega);obtain⟨q,hq⟩:∃q,o[i]=q:=⟨_,rfl⟩;obtain⟨a,b,c,hf⟩:=ho o[i] (g3P aG);rw[d9j aG]at hR;rw[hq]at hf hR;have hc:=d5j (G:=G) l n hl hf;simp[aG,hq];refine jH.ro (.mk func219 rfl) hc [(100000,100000),(100001,100001)] (by simp) (by simp) (by simp) (by simp) (by simp) ?_;cases hs:pM l n q.2
  .rw[if_neg (by simp[hs])]at hR;simp;exact bE.mk ⟨i+1,aG,hR⟩ (by simp[hw]) (by simp;omega)
  .rw[if_pos hs]at hR;simp[hR]
 .have:i=o.length:=by omega
  subst this;rw[List.drop_length,ixO]at hR;simp[<-hR]
end Go.Proofs.YtmfbjecjccipfaaGreatDoor
end
section
namespace Go.Proofs.YtmfbjecjccipfaaGreatDoor
open Go Go.VM
variable {G:GT}
theorem e4E(xs:List (List UInt8))(sep:List UInt8)(hl:xs.length<=140737488355328:=by omega)(hj:(Lib.join xs sep).length<=140737488355328:=by rw[c2F];omega):CS prog G 250 [.sl (xs.map λs=>[.str s]),.str sep] (.d (.str (Lib.join xs sep))) none:=
 e3o strings_Join_none strings_Join hl hj
theorem c2F:∀xs:List (List UInt8),Lib.join xs []=xs.flatten
 |[]=>rfl
 |x::r=>by rw[Lib.join_cons,Lib.joinTail];simp
theorem pN:VM.Enters prog 233:=.mk func233 rfl
theorem a3n(xs:List (List UInt8))(hl:xs.length<=1000000:=by simp)(hj:xs.flatten.length<=900000000:=by simpa using h):CS prog G 233 [.sl (xs.map λs=>[.str s])] (.d (.str xs.flatten)) none:=by have h:=e4E (G:=G) xs [];rw[c2F]at h;refine CS.aY func233 rfl ntmps233 rfl ?_;simp;refine aC.mk (.mk func250 rfl) h ?_;simp
theorem e4F(a b:List UInt8)(h:(a++b).length<=900000000):CS prog G 233 [.sl [[.str a],[.str b]]] (.d (.str (a++b))) none:=by have:=a3n (G:=G) [a,b];simpa using this
theorem e4G(a b c:List UInt8)(h:(a++(b++c)).length<=900000000):CS prog G 233 [.sl [[.str a],[.str b],[.str c]]] (.d (.str (a++(b++c)))) none:=by have:=a3n (G:=G) [a,b,c];simpa using this
def txS:List Tok->Nat
 |[]=>0
 |t::r=>t.text.length+1+txS r
theorem c4E:∀a b:List Tok,txS (a++b)=txS a+txS b
 |[],b=>by simp[txS]
 |t::a,b=>by rw[List.cons_append,txS,txS,c4E a b];omega
variable{i j:Nat}{l:List Tok}
theorem a8t(h:i<l.length):txS (l.take (i+1))=txS (l.take i)+(l[i].text.length+1):=by rw[g3F h,c4E];simp[txS]
theorem f0w(l:List Tok)(i:Nat):txS (l.take i)<=txS l:=by have:=c4E (l.take i) (l.drop i);rw[g4d]at this;omega
def a0M(l:List Tok):Prop:=l.length<=50000/\txS l<=900000
variable{s:List UInt8}
theorem b1k(hs:s.length<=txS (l.take j))(h1:j+1<l.length):(s++([46]++(l[j+1]).text)).length<=txS (l.take (j+2)):=by have q1:=a8t (l:=l) (i:=j) (by omega);have q2:txS (l.take (j+2))=txS (l.take (j+1))+((l[j+1]).text.length+1):=a8t h1;simp only[g4b,List.length_cons,List.length_nil];omega
theorem b5C(hs:s.length<=txS (l.take (j+2)))(h1:j+2<l.length):(s++(l[j+2]).text).length<=txS (l.take (j+3)):=by have q2:txS (l.take (j+3))=txS (l.take (j+2))+((l[j+2]).text.length+1):=a8t h1;simp only[g4b];omega
theorem a0M.le(h:a0M l){n:Nat}(hn:n<=txS (l.take i)):n<=900000000:=by have h1:=f0w l i;have h2:=h.2;omega
theorem c4F(h:i<l.length):wtB l i=(decide (l[i].kind=1)||decide (l[i].kind=2)):=by simp[wtB,b1i h]
theorem c4G(h:¬i<l.length):wtB l i=false:=by simp[wtB,d1s h]
theorem b9v{f:Nat}(h:pM l i [46]=false):sK l f i s=(s,i):=by
 cases f with
 |zero=>rfl
 |succ f=>rw[sK,if_neg (by simp[h])]
def b4l:Option (List UInt8×Nat)->DV
 |some (s,n)=>.cX [.str s,.int .i64 n]
 |none=>.cX [.str [],.int .i64 (-1)]
theorem a2n(o):qN (b4l o)=true:=by
 cases o with
 |none=>rfl
 |some q=>obtain⟨a,b⟩:=q;rfl
theorem oJ{P:Program}{x y:Code}{st:St}{Q:Exit->St->Prop}(st':St)(h1:SW P G x st λe s=>match e with
  |.normal=>yY s st'
  |e=>Q e s)(h2:SW P G y st' Q):SW P G (.seq x y) st Q:=SW.gN λbase R μ a w hr=>
 wp_mono (h1 base R μ a w hr) λe a1 w1 ⟨s,R1,μ1,q1,q2,q3⟩=>by
  cases e with
  |normal=>exact⟨s,R1,μ1,λbase R μ a w hr=>h2 base R μ a w (hr.a4n q1),q2,q3⟩
  |_=>exact⟨s,R1,μ1,q1,q2,q3⟩
theorem a9r:VM.Enters prog 214:=.mk func214 rfl
theorem c8D(hG:G 1=some gD)(l:List Tok)(i:Nat)(hl:a0M l)(hi:i<=l.length):CS prog G 214 [rdD l,.int .i64 i] (b4l (wR aH l i)) none:=by
 have hll:=hl.1;obtain⟨o,ho⟩:∃o,wR aH l i=o:=⟨_,rfl⟩;rw[ho];refine CS.a4w func214 rfl ntmps214 rfl ?_;refine SW.gN (SW.vk ?_);simp;by_cases aG:i<l.length;rotate_left
 .have hge:l.length<=i:=g3Z aG;have:o=none:=by rw[<-ho];simp[wR,b9n,c4G aG]
  subst this;refine SW.gN (SW.vk ?_);simp[hge,b4l]
 have hge:¬l.length<=i:=by omega
 unfold wR b9n at ho;rw[c4F aG,a8s aG]at ho;obtain⟨t,ht⟩:∃t,l[i]=t:=⟨_,rfl⟩;rw[ht]at ho;by_cases hw:t.kind=1\/t.kind=2;rotate_left
 .have k1:¬t.kind=1:=λh=>hw (.inl h);have k2:¬t.kind=2:=λh=>hw (.inr h);have:o=none:=by rw[<-ho];simp[k1,k2]
  subst this;refine SW.gN (SW.vk ?_);simp[hge,aG,ht,bL];simp[k1,k2,aG,ht,bL,b4l]
 have hwd:(decide (t.kind=1)||decide (t.kind=2))=true:=by simpa using hw
 rw[hwd,Bool.true_and]at ho;refine oJ ⟨[.d (rdD l),.d (.int .i64 i),.ptr 2 0,.undef,.d (.str []),.d (.int .i64 0)]++List.replicate 125 .undef,[(2,.cells [.d (.sl (l.map bL))])],[]⟩ (SW.vk ?_) ?_
 .simp[hge,aG,ht,bL];by_cases k1:t.kind=1
  .simp[k1,aG,ht,bL,List.replicate]
  .have k2:=hw.resolve_left k1;simp[k1,k2,aG,ht,bL,List.replicate]
 refine SW.gN (SW.vk ?_);simp[aG,ht,bL,List.replicate];cases pG:(!aH t.text||decide (t.text=[118])||decide (t.text=[116,97,103])||decide (t.text=[118,97,108]))
 .have:o=none:=by rw[<-ho];simp[pG]
  subst this;simp at pG;obtain⟨⟨⟨q1,q2⟩,q3⟩,q4⟩:=pG;refine SW.gN (SW.vk ?_);simp;refine aC.mk a0R (a1Z hG t.text) ?_;simp[q1,q2,q3,q4,b4l]
 rw[if_pos pG]at ho;refine oJ ⟨[.d (rdD l),.d (.int .i64 i),.ptr 2 0,.undef,.d (.str []),.d (.int .i64 0),.d (.str t.text)]++List.replicate 124 .undef,[(2,.cells [.d (.sl (l.map bL))])],[]⟩ (SW.vk ?_) ?_
 .simp;refine aC.mk a0R (a1Z hG t.text) ?_;by_cases q1:aH t.text=true
  .by_cases q2:t.text=[118]
   .rw[q2]at q1;simp[q1,q2,List.replicate]
   .by_cases q3:t.text=[116,97,103]
    .rw[q3]at q1;simp[q1,q3,List.replicate]
    .have q4:t.text=[118,97,108]:=by simpa[q1,q2,q3]using pG
     rw[q4]at q1;simp[q1,q4,List.replicate]
  .simp[q1,List.replicate]
 obtain⟨rs,rn,hrr⟩:∃rs rn,sK l l.length (i+1) t.text=(rs,rn):=⟨_,_,rfl⟩;rw[hrr]at ho;subst ho;have hw1:=aX (show i<9223372036854775807 by omega);refine SW.vk ?_;simp[hw1,List.replicate];refine SW.eA (ι:={p:Nat×List UInt8//p.1<=l.length/\p.2.length<=txS (l.take p.1)/\∃f,l.length<=f+p.1/\sK l f p.1 p.2=(rs,rn)}) (λp=>[(1,.d (.int .i64 p.1.1)),(6,.d (.str p.1.2))]) (λ_=>[(2,.cells [.d (.sl (l.map bL))])]) (λ_=>[]) (λp=>l.length-p.1.1) ⟨(i+1,t.text),aG,by have:=a8t aG;rw[ht]at this;simp only;omega,l.length,by omega,hrr⟩ (by simp) ?_;rintro⟨⟨j,s⟩,hj,hs,f,hf,hp⟩;simp only at hj hs hf hp;have hsg:=sM (G:=G) l j [46];have tS:=aX (show j<9223372036854775807 by omega);have vH:IntKind.i64.wrap ((j:Int)+2)=((j+2:Nat):Int):=by rw[wrap64 (by omega)];simp
 have hj3:IntKind.i64.wrap ((j:Int)+2+1)=((j+3:Nat):Int):=by rw[wrap64 (by omega)];omega
 simp;refine aC.mk cE hsg ?_;cases hd:pM l j [46]with
 |false=>rw[b9v hd]at hp;cases hp;simp[b4l]
 |true=>
  have hjl:=oI hd;obtain⟨f,rfl⟩:∃g,f=g+1:=⟨f-1,by omega⟩;rw[sK,if_pos hd]at hp;simp[tS];by_cases vP:j+1<l.length;rotate_left
  .rw[if_neg (by rw[c4G vP];simp),if_neg (by rw[d1s vP];simp)]at hp;cases hp;simp[vP,b4l]
  obtain⟨u,hu⟩:∃u,l[j+1]=u:=⟨_,rfl⟩;have hgr:=b1k hs vP;rw[hu]at hgr;rw[c4F vP,b1i vP,a8s vP,hu]at hp;have d9m:=e4G (G:=G) s [46] u.text (hl.le hgr);simp[tS,vP,hu,bL];by_cases k1:u.kind=1
  .simp[k1]at hp;simp[k1,tS,vP,hu,bL,rg3];refine aC.mk pN d9m ?_;simp[vH,k1];exact bE.mk ⟨(j+2,s++([46]++u.text)),vP,hgr,f,by omega,by simpa using hp⟩ (by simp[vH]) (by simp;omega)
  by_cases k2:u.kind=2
  .simp[k2]at hp;simp[k1,k2,tS,vP,hu,bL,rg3];refine aC.mk pN d9m ?_;simp[vH,k2];exact bE.mk ⟨(j+2,s++([46]++u.text)),vP,hgr,f,by omega,by simpa using hp⟩ (by simp[vH]) (by simp;omega)
  by_cases k3:u.kind=3;rotate_left
  .simp[k1,k2,k3]at hp;obtain⟨rfl,rfl⟩:=hp;simp[k1,k2,k3,b4l]
  simp[k3]at hp;simp[k1,k2,k3,tS,vP,hu,bL,rg3];refine aC.mk pN d9m ?_;simp[vH,k3];by_cases a6N:j+2<l.length;rotate_left
  .rw[if_neg (by rw[c4G a6N];simp)]at hp;have b2Y:¬(j:Int)+2<(l.length:Int):=by omega
   simp[b2Y];exact bE.mk ⟨(j+2,s++([46]++u.text)),vP,hgr,f,by omega,by simpa using hp⟩ (by simp[vH]) (by simp;omega)
  have b2Y:(j:Int)+2<(l.length:Int):=by omega
  have hnn:(0:Int)<=(j:Int)+2:=by omega
  have htn:((j:Int)+2).toNat=j+2:=by omega
  obtain⟨v,hv⟩:∃v,l[j+2]=v:=⟨_,rfl⟩;have c8E:=b5C hgr a6N;rw[hv]at c8E;rw[c4F a6N,a8s a6N,hv]at hp;have d1u:=e4F (G:=G) (s++([46]++u.text)) v.text (hl.le c8E);simp at d1u;simp[b2Y,a6N,hnn,htn,hv,bL];by_cases m1:v.kind=1
  .simp[m1]at hp;simp[m1,a6N,b2Y,hnn,htn,hv,bL,rg2];refine aC.mk pN d1u ?_;simp[hj3];exact bE.mk ⟨(j+3,s++([46]++u.text)++v.text),a6N,c8E,f,by omega,by simpa using hp⟩ (by simp[hj3]) (by simp;omega)
  by_cases m2:v.kind=2
  .simp[m2]at hp;simp[m1,m2,a6N,b2Y,hnn,htn,hv,bL,rg2];refine aC.mk pN d1u ?_;simp[hj3];exact bE.mk ⟨(j+3,s++([46]++u.text)++v.text),a6N,c8E,f,by omega,by simpa using hp⟩ (by simp[hj3]) (by simp;omega)
  simp[m1,m2]at hp;simp[m1,m2,a6N,b2Y,hnn,htn,hv,bL];exact bE.mk ⟨(j+2,s++([46]++u.text)),vP,hgr,f,by omega,by simpa using hp⟩ (by simp[vH]) (by simp;omega)
end Go.Proofs.YtmfbjecjccipfaaGreatDoor
end
section
namespace Go.Proofs.YtmfbjecjccipfaaGreatDoor
open Go Go.VM
variable {G:GT}
def gH:Option (Pr×Nat)->Pr->DV
 |some (p,n),_=>.cX [.agg (prD p),.int .i64 n]
 |none,j=>.cX [.agg (prD j),.int .i64 (-1)]
def c0W:Option (List Pr×Nat)->DV
 |some (ks,n)=>.cX [.sl (ks.map qF),.int .i64 n]
 |none=>.cX [.sl [],.int .i64 (-1)]
theorem cO(o)(j):qN (gH o j)=true:=by
 cases o with
 |none=>rfl
 |some q=>obtain⟨a,b⟩:=q;rfl
theorem a6j(o):qN (c0W o)=true:=by
 cases o with
 |none=>rfl
 |some q=>obtain⟨a,b⟩:=q;rfl
theorem c8F(l:List Pr):∀x:List D,x∈l.map qF->x.length=4:=λx hx=>by
 obtain⟨p,_,rfl⟩:=g3L.1 hx;rw[dE]
 rfl
section
variable {l:List Tok} {f:Nat}
def AtC(G:GT)(l:List Tok)(f:Nat):Prop:=∀i k,1<=k->k<=9->k≠6->i<=l.length->mu l.length i k<=f->∃j,CS prog G 176 [rdD l,.int .i64 i,.int .i64 k] (gH (jF aH l f i k) j) none
def CmC(G:GT)(l:List Tok)(f:Nat):Prop:=∀i,i<=l.length->mu l.length i 6<=f->∃j,CS prog G 192 [rdD l,.int .i64 i] (gH (jF aH l f i 6) j) none
def PrC(G:GT)(l:List Tok)(f:Nat):Prop:=∀i,i<=l.length->mu l.length i 10<=f->∃j,CS prog G 193 [rdD l,.int .i64 i] (gH (jF aH l f i 10) j) none
theorem a0b:VM.Enters prog 176:=.mk func176 rfl
variable{n:Nat}
theorem d9n{L:Nat}(h:n<L):mu L (n+1) 1=(L-n)*12+10:=by unfold mu;omega
theorem c8G(hl:a0M l)(hA:AtC G l f)(n:Nat)(hf:(l.length-n)*12+10<=f):CS prog G 215 [rdD l,.int .i64 n] (c0W (uS (jF aH l f) l n)) none:=by
 have hll:=hl.1;obtain⟨o,ho⟩:∃o,uS (jF aH l f) l n=o:=⟨_,rfl⟩;rw[ho];unfold uS at ho;have hsg:=sM (G:=G) l n [40];refine CS.aY func215 rfl ntmps215 rfl ?_;simp;refine aC.mk cE hsg ?_;cases hd:pM l n [40]with
 |false=>rw[if_neg (by simp[hd])]at ho;subst ho;simp[c0W]
 |true=>
  have hnl:=oI hd;rw[if_pos hd]at ho;simp;refine SW.eA (ι:={p:Nat×List Pr//p.1<l.length/\(l.length-p.1)*12+10<=f/\p.2.length<=p.1/\∃g,l.length<=g+p.1/\qG (jF aH l f) l g p.1 p.2=o}) (λp=>[(1,.d (.int .i64 p.1.1)),(6,.d (.sl (p.1.2.map qF)))]) (λ_=>[(2,.cells [.d (.sl (l.map bL))])]) (λ_=>[(52,[.t 6])]) (λp=>l.length-p.1.1) ⟨(n,[]),hnl,hf,by simp,l.length,by omega,ho⟩ (by simp) ?_;rintro⟨⟨i,acc⟩,hi,hf,hal,g,hg,hR⟩;simp only at hi hf hal hg hR;have hi1:=aX (show i<9223372036854775807 by omega);obtain⟨g,rfl⟩:∃h,g=h+1:=⟨g-1,by omega⟩;rw[qG]at hR;obtain⟨jk,hat⟩:=hA (i+1) 1 (by omega) (by omega) (by omega) hi (by rw[d9n hi];exact hf);simp[hi1];refine aC.mk (hkl:=cO _ _) a0b hat ?_;cases hr:jF aH l f (i+1) 1 with
  |none=>rw[hr]at hR;simp only at hR;subst hR;simp[gH,c0W]
  |some q=>
   obtain⟨p,m⟩:=q;have wF:=mT aH l f _ _ _ _ hr;rw[hr]at hR;simp only at hR;have hm1:=aX (show m<9223372036854775807 by omega);have hs1:=sM (G:=G) l m [41];have hs2:=sM (G:=G) l m [44];have f4D:=c8F acc;have hap:acc.map qF++[prD p]=(acc++[p]).map qF:=by simp[dE]
   simp[gH];have mQ:(acc.length+1)*57<=140737488355328:=by omega
   simp[mQ];refine aC.mk cE hs1 ?_;cases hd1:pM l m [41]with
   |true=>rw[if_pos hd1]at hR;subst hR;simp[hm1,c0W,dE]
   |false=>
    rw[if_neg (by simp[hd1])]at hR;simp;refine aC.mk cE hs2 ?_;cases hd2:pM l m [44]with
    |false=>rw[if_neg (by simp[hd2])]at hR;subst hR;simp[c0W]
    |true=>
     rw[if_pos hd2]at hR;have hml:=oI hd2;have hmu:(l.length-m)*12+10<=f:=by omega
     have hac:(acc++[p]).length<=m:=by simp;omega
     simp;exact bE.mk ⟨(m,acc++[p]),hml,hmu,hac,g,by omega,hR⟩ (by simp[dE]) (by simp;omega)
theorem a5j:VM.Enters prog 194:=.mk func194 rfl
theorem e4H{l:List Tok}{k:Nat}:(match b2T l n k with
  |none=>ixO l n (opL k) 0= -1
  |some op=>∃(q:Nat)(h:q<(opL k).length),ixO l n (opL k) 0=q/\(opL k)[q].1=op):=by
 have gen:∀(o:List (Int×List UInt8))(i:Nat),(match (o.find? λp=>pM l n p.2).map (·.1)with
   |none=>ixO l n o i= -1
   |some op=>∃(q:Nat)(h:q<o.length),ixO l n o i=((q+i:Nat):Int)/\o[q].1=op):=by
  intro o
  induction o with
  |nil=>intro i;rfl
  |cons p r ih=>
   intro i;rw[List.find?_cons,ixO];cases hs:pM l n p.2 with
   |true=>exact⟨0,by simp,by simp,rfl⟩
   |false=>
    have:=ih (i+1);simp only[g3K,if_false];cases ho:(r.find? λp=>pM l n p.2).map (·.1)with
    |none=>rw[ho]at this;exact this
    |some op=>rw[ho]at this;obtain⟨q,hq,h1,h2⟩:=this;exact⟨q+1,by simpa using hq,by rw[h1];congr 1;omega,by simpa using h2⟩
 have:=gen (opL k) 0;unfold b2T;cases ho:((opL k).find? λp=>pM l n p.2).map (·.1)with
 |none=>rw[ho]at this;exact this
 |some op=>rw[ho]at this;simpa using this
theorem e4I(k:Nat):(opL k).length<=2:=by unfold opL;split<;>simp
def c4I(p:Pr)(z:Int):St:=⟨List.replicate 6 .undef++[.ptr 6 0,.d (.int .i64 0),.ptr 8 0,.ptr 9 0]++List.replicate 41 .undef,[(6,.cells [.d (.int .i64 0),.d (.str []),.d (.int .i64 0),.d .aE]),(8,.cells ((prD p).map .d)),(9,.cells [.d (.int .i64 z)])],[]⟩
theorem a8u(hl:a0M l)(hA:AtC G l f)(i k:Nat)(hk:1<=k/\k<=8/\k≠5)(hi:i<=l.length)(hf:mu l.length i k<=f+1):
  ∃j,CS prog G 194 [rdD l,.int .i64 i,.int .i64 k] (gH ((jF aH l f i (k+1)).map λq=>eZ (jF aH l f) l k l.length q.1 q.2) j) none:=by
 have hll:=hl.1;obtain⟨ja,hat⟩:=hA i (k+1) (by omega) (by omega) (by omega) hi (by unfold mu at hf|-;omega);refine⟨ja,?_⟩;obtain⟨o,ho⟩:∃o,((jF aH l f i (k+1)).map λq=>eZ (jF aH l f) l k l.length q.1 q.2)=o:=⟨_,rfl⟩;rw[ho];have f4F:=a6X (G:=G) k;have hk1:=aX (show k<9223372036854775807 by omega);refine CS.a4w func194 rfl ntmps194 rfl ?_;refine SW.gN (SW.vk ?_);simp;refine SW.gN (SW.vk ?_);simp[hk1];refine aC.mk (hkl:=cO _ _) a0b hat ?_;cases hr:jF aH l f i (k+1)with
 |none=>
  rw[hr]at ho;subst ho;simp[gH];refine oJ (c4I ja (-1)) (SW.vk ?_) ?_;rotate_left
  .skip
   refine SW.gN (c6T (by kernel_rfl) (by kernel_rfl) rfl rfl rfl rfl ⟨?_,?_⟩)
   .simp[c4I,List.replicate];refine SW.vk ?_;simp
   .simp[c4I,List.replicate];refine SW.vk ?_;simp
  simp;refine SW.eA (ι:={x:Unit//True}) (λ_=>[]) (λ_=>[(3,.cells [.d (.sl (l.map bL))]),(6,.cells [.d (.int .i64 0),.d (.str []),.d (.int .i64 0),.d .aE]),(8,.cells ((prD ja).map .d)),(9,.cells [.d (.int .i64 (-1))])]) (λ_=>[]) (λ_=>0) ⟨(),trivial⟩ (by simp) ?_;rintro⟨_,_⟩;simp[c4I,List.replicate]
 |some q=>
  obtain⟨a,n⟩:=q;have wF:=mT aH l f _ _ _ _ hr;rw[hr]at ho;simp only[Option.map_some]at ho;obtain⟨⟨rp,rn⟩,mB⟩:∃r,eZ (jF aH l f) l k l.length a n=r:=⟨_,rfl⟩;rw[mB]at ho;subst ho;simp[gH];refine oJ (c4I rp rn) (SW.vk ?_) ?_;rotate_left
  .skip
   refine SW.gN (c6T (by kernel_rfl) (by kernel_rfl) rfl rfl rfl rfl ⟨?_,?_⟩)
   .simp[c4I,List.replicate];refine SW.vk ?_;simp
   .simp[c4I,List.replicate];refine SW.vk ?_;simp
  simp;refine SW.eA (ι:={p:Pr×Nat//p.2<=l.length/\i<p.2/\∃g,l.length<=g+p.2/\eZ (jF aH l f) l k g p.1 p.2=(rp,rn)}) (λ_=>[]) (λp=>[(3,.cells [.d (.sl (l.map bL))]),(6,.cells [.d (.int .i64 0),.d (.str []),.d (.int .i64 0),.d .aE]),(8,.cells ((prD p.1.1).map .d)),(9,.cells [.d (.int .i64 p.1.2)])]) (λ_=>[]) (λp=>l.length-p.1.2) ⟨(a,n),wF.2,wF.1,l.length,by omega,mB⟩ (by simp) ?_;rintro⟨⟨a,n⟩,hn,yL,g,hg,hR⟩;simp only at hn yL hg hR;have hcx:=e4D (G:=G) l n (opL k) (e4C k);have hix:=e4H (l:=l) (n:=n) (k:=k);have hn1:=aX (show n<9223372036854775807 by omega)
  change CH _ _ _ ⟨[.d (.sl (a9z k)),_],_,_⟩ _ at hcx
  simp;refine aC.mk (.mk func218 rfl) f4F ?_;simp;refine jH.ro (.mk func217 rfl) hcx [(100000,3),(100001,9)] (by simp) (by simp) (by simp) (by simp) (by simp) ?_;cases qD:b2T l n k with
  |none=>
   rw[qD]at hix;simp only at hix;have:(a,n)=(rp,rn):=by
    rw[<-hR];cases g with
    |zero=>rfl
    |succ g=>rw[eZ,qD]
   cases this;simp[hix,c4I,List.replicate]
  |some op=>
   rw[qD]at hix;obtain⟨q,hq,hx,hqo⟩:=hix;obtain⟨hnl,_,_⟩:=b4k qD;obtain⟨g,rfl⟩:∃h,g=h+1:=⟨g-1,by omega⟩;rw[eZ,qD]at hR;obtain⟨jb,c4J⟩:=hA (n+1) (k+1) (by omega) (by omega) (by omega) hnl (by have:=uT (L:=l.length) (i:=i) (i':=n+1) (k:=k) (k':=k+1) (by omega) hnl;omega)
   have hql:q<(a9z k).length:=by simpa[a9z]using hq
   have hqe:(a9z k)[q]=[.int .i64 op]:=by simp[a9z,hqo]
   simp[hx,hn1,hk1];refine aC.mk (hkl:=cO _ _) a0b c4J ?_;cases hr2:jF aH l f (n+1) (k+1)with
   |none=>rw[hr2]at hR;cases hR;simp[gH,c4I,List.replicate]
   |some z=>obtain⟨b,m⟩:=z;have b5D:=mT aH l f _ _ _ _ hr2;rw[hr2]at hR;simp only at hR;have htw:=xO (G:=G) op a b;simp[gH];refine⟨.mk,?_⟩;refine aC.mk (.mk func218 rfl) f4F ?_;simp[hql,hqe];refine aC.mk wH htw ?_;simp;exact bE.mk ⟨(tw op a b,m),b5D.2,by simp only;omega,g,by simp only;omega,hR⟩ (by simp) (by simp;omega)
end
end Go.Proofs.YtmfbjecjccipfaaGreatDoor
end
end
