/- Lemmas that the law of this claim needs (PsC PsE PsF PsG Z9 ZP PsH PsI PsJ). No condition. -/
import Derived.Test.YtjpodcmhcenjjaaGreatDoorOba
import Derived.Test.YtjpodcmhcenjjaaGreatDoorObd
import Derived.Test.YtjpodcmhcenjjaaGreatDoorObg
import Derived.RangeFuncNested
import Derived.RangeFuncBound
import Derived.RangeFuncCalls
import Derived.RangeFuncLeaves
import Derived.Shelf.Abstract
import Derived.WalkKit
import Derived.OwnWalkIn
import Derived.TacticsInMore
import Derived.LoopNIn
import Derived.LoopIn
import Derived.Test.YtjpodcmhcenjjaaGreatDoorProg
set_option linter.unusedVariables false
set_option linter.unusedSimpArgs false
set_option linter.unusedSectionVars false
set_option maxRecDepth 100000
set_option maxHeartbeats 64000000
open Go.Proofs.Tryz
namespace Go.Proofs.YtjpodcmhcenjjaaGreatDoor
section
open Go Go.VM
variable {G:GT}
theorem b6X{l:List Tok}{s:Nm}{r:List Nm}{i:Nat}(h:aQ l i s=true):aV l (s::r) i=aV l r (i+1):=by
 show(if aQ l i s=true then aV l r (i+1) else dU l i)=_
 rw[if_pos h]
theorem d4Q{l:List Tok}{s:Nm}{r:List Nm}{i:Nat}(h:aQ l i s=false):aV l (s::r) i=dU l i:=by
 show(if aQ l i s=true then aV l r (i+1) else dU l i)=_
 rw[if_neg (by rw[h];decide)]
theorem kO(l:List Tok)(ss:List Nm)(i:Nat)(hi:i<l.length)(hl:l.length<=2000000)(hE:qS l)(hss:ss.length<=1000):pW G 43 [.sl (strs ss)] l i (aV l ss i) (λ_=>.cJ []):=by
 refine kZ.cP func43 rfl ntmps43 rfl (by simp) ?_;intro Q hQ;simp;refine SW.vB (ι:={k:Nat//k<=ss.length/\i+k<l.length/\aV l (ss.drop k) (i+k)=aV l ss i}) (λk=>[(8,.d (.int .i64 k.1))]) (λk=>rH l (i+k.1)) (λ_=>[]) (λk=>ss.length-k.1) ⟨0,by simp[hi]⟩ (by simp) ?_;rintro⟨k,hk,hik,hp⟩;rw[<-hp]at hQ;by_cases aI:k<ss.length
 .have hg:=b9k aI;have hw:=bC (show k<9223372036854775807 by omega);have hd:ss.drop k=ss[k]::ss.drop (k+1):=f3a aI;rw[hd]at hQ hp;simp[aI,hg];cases hs:aQ l (i+k) ss[k]with
  |true=>have hn:=aF hE hik hs;rw[b6X hs]at hp;refine mA (ds:=[.str ss[k]]) (d:=.d (.bool true)) gH (qA l (i+k) ss[k] hik hl hs) ?_;simp[hw];exact bJ.mk ⟨k+1,aI,by omega,hp⟩ (by simp[Nat.add_assoc]) (by simp;omega)
  |false=>rw[d4Q hs]at hQ;refine mA (ds:=[.str ss[k]]) (d:=.d (.bool false)) gH (a8M l (i+k) ss[k] hik hl hs) ?_;simp;refine rdX (ds:=[]) tM (vW (α:=Unit) l (i+k) hik hl λ_=>.cJ []) (λa j hx=>by unfold dU at hx;cases hx) (λn e hx=>?_);simp;exact hQ.bad n e _ hx
 .have hd:ss.drop k=[]:=List.drop_eq_nil_of_le (by omega);rw[hd]at hQ;simp[aI];exact hQ.ok () (i+k) _ _ rfl (.inl rfl) (by simp)
section
variable {α β:Type} {Q Q':Exit->St->Prop} {rs:List ResultVar} {l:List Tok} {i:Nat} {enc:β->DV} {Y:β->List (Nat×aW)} {own:List (TypeId×List VM.Loc)} {av:List DV} {A:Prop} {st:St} {ls:List (Option VM.Loc)} {dst:Option Tmp} {all:Array Oper} {ops:List Oper} {k:List XI}
theorem dD{s:Nm}{r:List Nm}{g:Unit->bB β}(Q0:qT Q rs l enc Y own ((aV l (s::r) >>=g) i))(p0:A/\i<l.length)(hF:qS l)(rK:∀a j,aV l (s::r) i=.ok a j->qT Q rs l enc Y own (g a j)->i+1<=j/\j<l.length->XK prog G (.ops all ops::k) .normal ⟨mG dst (.cJ []) st.tmps,bU 100000 (rdO l j) st.H,kK dst (dropKey 100000 st.own)⟩ Q')(hl:l.length<=2000000:=by omega)(hss:(s::r).length<=1000:=by simp)(hq:∀v s,(∀s,Q (.panic v) s)->Q' (.panic v) s:=by first|exact λ_ _ h=>h _|(intro v s h;simp;first|exact h _|exact h))(hw:WkT av (.ptr 100000 0::[D.sl (strs (s::r))].map .d):=by simp[strs])(hH:getKey 100000 st.H=some (rdO l i):=by simp):eF prog G 43 av ls dst all ops k st Q':=
 qI (hw:=hw) (hH:=hH) Q0 p0 jK (kO l _ i p0.2 hl hF hss) (aA.exp hF s r) rK hq
theorem yT{s:Nm}(h:aQ l i s=true)(p0:A/\i<l.length)(hF:qS l)(hX:i+1<=i+1/\i+1<l.length->XK prog G (.ops all ops::k) .normal ⟨mG dst (.d (.bool true)) st.tmps,bU 100000 (rdO l (i+1)) st.H,kK dst (dropKey 100000 st.own)⟩ Q)(hl:l.length<=2000000:=by omega)(hw:WkT av (.ptr 100000 0::[D.str s].map .d):=by simp)(hH:getKey 100000 st.H=some (rdO l i):=by simp):eF prog G 60 av ls dst all ops k st Q:=
 mA (hw:=hw) (hH:=hH) (d:=.d (.bool true)) gH (qA l i s p0.2 hl h) (hX ⟨f3d _,aF hF p0.2 h⟩)
theorem vX{s:Nm}(h:aQ l i s=false)(p0:A/\i<l.length)(hX:XK prog G (.ops all ops::k) .normal ⟨mG dst (.d (.bool false)) st.tmps,bU 100000 (rdO l i) st.H,kK dst (dropKey 100000 st.own)⟩ Q)(hl:l.length<=2000000:=by omega)(hw:WkT av (.ptr 100000 0::[D.str s].map .d):=by simp)(hH:getKey 100000 st.H=some (rdO l i):=by simp):eF prog G 60 av ls dst all ops k st Q:=
 mA (hw:=hw) (hH:=hH) (d:=.d (.bool false)) gH (a8M l i s p0.2 hl h) hX
end
theorem a6w(l:List Tok)(i:Nat)(ok:Tok->Bool)(hi:i<l.length)(hl:l.length<=2000000):pW G 119 [.bool (ok (aR l i))] l i (mQ l ok i) (λs=>.d (.str s)):=by
 have ht:=cF (G:=G) l (i+1) i (-1) (by omega) (by omega) (by intro e;subst e;simp at hi) hl;have hw:=bC (show i<9223372036854775807 by omega);refine kZ.cP func119 rfl ntmps119 rfl (by simp) ?_;intro Q hQ;cases h:ok (aR l i)with
 |true=>simp[hw];refine mA (i:=i+1) (ds:=[.int .i64 (-1)]) bP ht ?_;generalize hT:aR l i=T at hQ ht h|-;have hk:=hQ.ok T.text (i+1) .ret;obtain⟨k,s,n,ln⟩:=T;simp[cH];exact hk _ (by unfold mQ;rw[hT,if_pos h]) (.inr rfl) (by simp)
 |false=>simp;refine rdX (ds:=[]) tM (vW (α:=Nm) l i hi hl λ_=>.cJ []) (λa j hx=>by unfold dU at hx;cases hx) (λn e hx=>?_);exact hQ.bad n e _ (by unfold mQ;rw[if_neg (by rw[h];decide)];exact hx)
section
variable (hG:G 1=some dK)
include hG
theorem cZ(l:List Tok)(i:Nat)(hi:i<l.length)(hl:l.length<=2000000):pW G 71 [] l i (bS aX l i) (λs=>.d (.str s)):=by have ht:=cF (G:=G) l i i 0 (by omega) (by omega) (by intro e;subst e;simp at hi) hl;refine kZ.cP func71 rfl ntmps71 rfl (by simp) ?_;intro Q hQ;simp;refine mA (ds:=[.int .i64 0]) bP ht ?_;simp;refine jC.mk jP (kT hG (aR l i)) ?_;simp;refine rdX (ds:=[.bool (mH aX (aR l i))]) a0J (a6w l i (mH aX) hi hl) (λs j hx=>?_) (λn e hx=>hQ.bad n e _ hx);simp;exact hQ.ok s j _ _ hx (.inr rfl) (by simp)
theorem a2p(l:List Tok)(i:Nat)(hi:i<l.length)(hl:l.length<=2000000):pW G 137 [] l i (vN aX l i) (λs=>.d (.str s)):=by
 have ht:=cF (G:=G) l i i 0 (by omega) (by omega) (by intro e;subst e;simp at hi) hl;refine kZ.cP func137 rfl ntmps137 rfl (by simp) ?_;intro Q hQ;simp;refine mA (ds:=[.int .i64 0]) bP ht ?_;simp;refine jC.mk jP (kT hG (aR l i)) ?_;have hc:=a6w (G:=G) l i (λt=>mH aX t||sM t) hi hl;cases h:mH aX (aR l i)with
 |true=>simp only[h,Bool.true_or]at hc;simp;refine rdX (ds:=[.bool true]) a0J hc (λs j hx=>?_) (λn e hx=>hQ.bad n e _ hx);simp;exact hQ.ok s j _ _ hx (.inr rfl) (by simp)
 |false=>simp only[h,Bool.false_or]at hc;simp;refine mA (ds:=[.int .i64 0]) bP ht ?_;generalize hT:aR l i=T at hc|-;obtain⟨k,x,n,ln⟩:=T;simp[cH];refine rdX (hw:=by simp[sM]) (ds:=[.bool (sM ⟨k,x,n,ln⟩)]) a0J hc (λs j hx=>?_) (λn e hx=>hQ.bad n e _ hx);simp;exact hQ.ok s j _ _ hx (.inr rfl) (by simp)
end
theorem jQ(l:List Tok)(i:Nat)(hi:i<l.length)(hl:l.length<=2000000):pW G 116 [] l i (gI l i) (λs=>.d (.str s)):=by have ht:=cF (G:=G) l i i 0 (by omega) (by omega) (by intro e;subst e;simp at hi) hl;have hc:=a6w (G:=G) l i sM hi hl;refine kZ.cP func116 rfl ntmps116 rfl (by simp) ?_;intro Q hQ;simp;refine mA (ds:=[.int .i64 0]) bP ht ?_;generalize hT:aR l i=T at hc|-;obtain⟨k,x,n,ln⟩:=T;simp[cH];refine rdX (hw:=by simp[sM]) (ds:=[.bool (sM ⟨k,x,n,ln⟩)]) a0J hc (λs j hx=>?_) (λn e hx=>hQ.bad n e _ hx);simp;exact hQ.ok s j _ _ hx (.inr rfl) (by simp)
end
section
open Go Go.VM
variable {G:GT}
abbrev e0n:Pr->DV:=λp=>.d (.agg (prD p))
structure kU (G:GT) (aG:List Tok->Nat->Nat->kX Pr) (l:List Tok):Prop where
 kw:G 1=some dK
 len:l.length<=50000
 fin:qS l
 bef:∀i e,i<l.length->e<=l.length->pW G 155 [.int .i64 e] l i (aG l i e) e0n
 oB:zR aG l
 nod:∀i e p j,i<l.length->aG l i e=.ok p j->cB p+i<=j/\p.op≠0
theorem a5H:VM.Enters prog 155:=.mk func155 rfl
theorem pB:VM.Enters prog 126:=.mk func126 rfl
theorem dE:VM.Enters prog 114:=.mk func114 rfl
theorem a2q:VM.Enters prog 117:=.mk func117 rfl
theorem b2m:VM.Enters prog 166:=.mk func166 rfl
section
variable {aG:List Tok->Nat->Nat->kX Pr} {l:List Tok} (hV:kU G aG l)
include hV
theorem rF(i:Nat)(hi:i<l.length):pW G 126 [] l i (gB aG l i) e0n:=by have hl:=hV.len;refine kZ.cP func126 rfl ntmps126 rfl (by simp) ?_;intro Q hQ;simp;refine rdX (ds:=[.int .i64 l.length]) a5H (hV.bef i l.length hi (f3d _)) (λp j hx=>?_) (λn e hx=>hQ.bad n e _ hx);simp;exact hQ.ok p j _ _ hx (.inr rfl) (by simp)
omit hV in
structure zU {α:Type} (l:List Tok) (K:List (Nat×Nat)) (b5Z:List DV) (X:α->List (Nat×aW)) (own:List (TypeId×List VM.Loc)):Prop where
 fit:∀a b i j,aK K ⟨b5Z,rH l i++X a,own⟩ (.cJ []) (rH l j++X b)=true
 e3J:∀a i,aK K ⟨b5Z,rH l i++X a,own⟩ .undef (rH l i++X a)=true
 cap:WkT b5Z (aO K b5Z)
 hh:∀a i,WkH (rH l i++X a) (cI K (rH l i++X a))
 tk:∀a i tmps,tH ⟨tmps,rH l i++X a,own⟩ own (own.map (oN K []))=some []
 ow:∀t,own.map (gP K (some t))=own
 arg:∀n,xJ n [] own=true
 st:∀a b i j,bO K (rH l j++X b) ((100000,rdO l i)::X a)=(100000,rdO l j)::X b
 dk:dropKey 100000 own=own
 d0:∀t:Nat,cE (.t t) own=own
 dl:∀t:Nat,List.map (λc=>(c.1,List.filter (λx=> !decide (x=VM.Loc.t t)) c.2)) own=own
 tt:(own.all λc=>c.2.all λl=>match l with| .t i=>decide (i<3)|_=>true)=true
 wk:∀a i t1 t2,WkT t1 t2->yF ⟨t1,rH l i++X a,own⟩ ⟨t2,rH l i++X a,own⟩
 ed:∀a i (s:St),s.H=rH l i++X a->s.own=own->a4b prog s [] (.cJ []) (rH l i++X a) own
theorem b5s{α:Type}{c:Nm}{one:α->bB α}{g:Nat}{a b:α}{i j:Nat}(h:one a i=.ok b j):jN l c one (g+1) a i=if aQ l j c then jN l c one g b (j+1) else .ok b j:=by rw[jN];simp only[h]
theorem b2n{α:Type}{c:Nm}{one:α->bB α}{g:Nat}{a:α}{i:Nat}{n e:Int}(h:one a i=.bad n e):jN l c one (g+1) a i=.bad n e:=by rw[jN];simp only[h]
theorem a6x:∀K:List (Nat×Nat),dQ K []=[]
 |[]=>rfl
 |p::r=>by unfold dQ;exact a6x r
theorem eI{α:Type}(c:Nm){F:FuncId}{b5Z:List DV}{X:α->List (Nat×aW)}{own:List (TypeId×List VM.Loc)}{K:List (Nat×Nat)}(one:α->bB α)(Inv:α->Nat->Prop)(low:Nat)(he:VM.Enters prog F)(hX:zU l K b5Z X own)(a2r:∀a,aA l 0 (one a))(gO:∀a i,low<=i->i<l.length->Inv a i->kZ G F b5Z (X a) own l i (one a i) (λ_=>.cJ []) X)(hinv:∀a i b j,i<l.length->Inv a i->one a i=.ok b j->Inv b j)(d7v:∀a i,Inv a i->Inv a (i+1))(a0:α)(i0:Nat)(oE:low<=i0)(hi0:i0<l.length)(h0:Inv a0 i0):kZ G 114 [.ptr 100000 0,.d (.str c),.clo F b5Z] (X a0) own l i0 (gA l c one a0 i0) (λ_=>.cJ []) X:=by
 have hl:=hV.len;refine kZ.cP func114 rfl ntmps114 rfl hX.tt ?_;intro Q hQ;unfold gA at hQ;simp[hX.dl];refine eF.mk (yJ he (gO a0 i0 oE hi0 h0) K (λa j hx=>hX.fit _ _ _ _) (hX.e3J _ _) hX.cap (hX.hh _ _) (hX.tk _ _ _) (hX.arg _) (λb j hx=>?_) (λn e hx=>hQ.bad n e _ (b2n hV hx)));rw[b5s hV hx]at hQ;simp only[bE,hX.st,hX.ow,a6x hV,bD,kK,mG,cE,List.map_nil,List.append_nil];simp[aO];refine SW.vB (ι:={x:α×Nat×Nat//low<=x.2.1/\x.2.1<l.length/\l.length<x.2.2+x.2.1/\Inv x.1 x.2.1/\(if aQ l x.2.1 c=true then jN l c one x.2.2 x.1 (x.2.1+1) else .ok x.1 x.2.1)=(if aQ l j c=true then jN l c one (l.length+1) b (j+1) else .ok b j)}) (λ_=>[]) (λx=>rH l x.1.2.1++X x.1.1) (λ_=>own) (λx=>l.length-x.1.2.1) ⟨(b,j,l.length+1),?_⟩ ?_ ?_
 .have h1:=a2r a0 i0 b j hi0 hx;exact⟨by simp only;omega,h1.2,by simp only;omega,hinv a0 i0 b j hi0 h0 hx,rfl⟩
 .refine hX.wk b j _ _ ?_;simp
 .rintro⟨⟨b1,j1,g1⟩,hl1,sR,hg1,hI1,hp1⟩;simp only at hl1 sR hg1 hI1 hp1;rw[<-hp1]at hQ;simp[hX.dl];by_cases hs:aQ l j1 c=true
  .have hn:=aF hV.fin sR hs;rw[hs,if_pos rfl]at hQ hp1;obtain⟨g2,rfl⟩:∃g,g1=g+1:=⟨g1-1,by omega⟩;refine mA (ds:=[.str c]) (d:=.d (.bool true)) gH (qA l j1 c sR (by omega) hs) ?_;simp only[kK,hX.dk,hX.d0];simp[hX.dl];refine eF.mk (yJ he (gO b1 (j1+1) (by omega) hn (d7v _ _ hI1)) K (λa j hx=>hX.fit _ _ _ _) (hX.e3J _ _) hX.cap (hX.hh _ _) (hX.tk _ _ _) (hX.arg _) (λb2 j2 wE=>?_) (λn e wE=>?_))
   .have ha:=a2r b1 (j1+1) b2 j2 hn wE;rw[b5s hV wE]at hp1;simp only[bE,hX.st,hX.ow,a6x hV,bD,kK,mG,cE,List.map_nil,List.append_nil];simp[aO];refine bJ.mk ⟨(b2,j2,g2),by simp only;omega,ha.2,by simp only;omega,hinv _ _ _ _ hn (d7v _ _ hI1) wE,hp1⟩ ?_ (by simp;omega);refine hX.wk b2 j2 _ _ ?_;simp
   .simp;exact hQ.bad n e _ (b2n hV wE)
  .have hs:=Bool.eq_false_iff.2 hs;rw[hs,if_neg (by decide)]at hQ;refine mA (ds:=[.str c]) (d:=.d (.bool false)) gH (a8M l j1 c sR (by omega) hs) ?_;simp only[kK,hX.dk,hX.d0];simp[hX.dl];exact hQ.ok b1 j1 _ _ rfl (.inl rfl) (hX.ed b1 j1 _ rfl rfl)
end
end
section
open Go Go.VM
variable {G:GT}
theorem a1L(l:List Nm)(s:Nm):strs (l++[s])=strs l++[[.str s]]:=by simp[strs]
abbrev K3:List (Nat×Nat):=[(100000,100000),(100001,100001),(100002,100002)]
theorem a0L:VM.Enters prog 132:=.mk func132 rfl
theorem b4g:VM.Enters prog 173:=.mk func173 rfl
section
variable {aG:List Tok->Nat->Nat->kX Pr} {l:List Tok} (hV:kU G aG l)
include hV
def a1g(out:List Nm):List (Nat×aW):=[(100001,.cells [.d (.sl (strs out))]),(100002,.cells [.ptr 100000 0])]
abbrev c9l:List (TypeId×List VM.Loc):=[(9,[.c 100001 0])]
abbrev xN(l:List Tok)(out:List Nm):bB (List Nm):=do let w <- bS aX l;pure (out++[w])
theorem b6Y(out:List Nm)(i:Nat)(hi:i<l.length)(rN:out.length<=i):kZ G 166 [.ptr 100001 0,.ptr 100002 0] (a1g out) c9l l i (xN l out i) (λ_=>.cJ []) a1g:=by
 have hl:=hV.len;refine kZ.cP func166 rfl ntmps166 rfl (by simp) ?_;intro Q hQ;simp[a1g];refine mK 2 [1] (.op 0 (.call [3,4,5] .none) (.call [0,3,4,5] .none)) (gL (bS aX l i)) (by kernel_rfl) (by kernel_rfl) ?_;simp;refine⟨?_,?_⟩
 all_goals
  refine rdZ (ds:=[]) cL (cZ hV.kw l i hi (by omega)) (λw j hx=>?_) (λn e hx=>hQ.fail hx _);have hQ2:=hQ.step hx;refine cT.mk ?_;simp;refine eE (by omega) ?_;simp;exact hQ2.ok _ j _ _ rfl (.inl rfl) (by simp[a1g,a1L])
theorem c2y:zU l K3 [.ptr 100001 0,.ptr 100002 0] a1g c9l:=by
 constructor
 all_goals intros
 all_goals first
  |rfl
  |simp[a1g,aK,aP,aM,aL,bA,getKey,aO,bD,cI,rk,cQ,bO, *]
theorem a4f(i:Nat)(hi:i<l.length):pW G 117 [] l i (dH aX l i) (λws=>.d (.sl (strs ws))):=by
 have hl:=hV.len;refine kZ.cP func117 rfl ntmps117 rfl (by simp) ?_;intro Q hQ;unfold dH at hQ;simp;refine rdX (hw:=by simp[strs]) (ds:=[.sl (strs [[40]])]) jK (kO l [[40]] i hi (by omega) hV.fin (by simp)) (λu j hx=>?_) (λn e hx=>hQ.fail hx _);have hQ2:=hQ.step hx;have hj:=aA.exp hV.fin _ _ i u j hi hx;simp;have gO:=eI hV [44] (xN l) (λout i=>out.length<=i) 0 b2m (c2y hV) (λa=>((aA.word hV.fin).le (by omega)).bl λ_=>aA.aT _) (λa i _ hi h=>b6Y hV a i hi h) (λa i b j hi h hx=>?_) (λa i h=>by omega) [] j (by omega) hj.2 (by simp)
 .refine eF.mk (yJ dE gO [(100000,100000),(100001,3),(100002,1)] (λa j hx=>?_) ?_ ?_ ?_ rfl rfl (λws j2 wE=>?_) (λn e wE=>hQ2.fail wE _))
  .simp[a1g,aK,aP,aM,aL,bA,getKey]
  .simp[a1g,aK,aP,aM,aL,bA,getKey]
  .simp[aO,bD,rk]
  .simp[a1g,aO,bD,rk,cI,cQ]
  .have hQ3:=hQ2.step wE;have tI:=aA.list hV.fin (m:=0) (λa=>((aA.word hV.fin).le (by omega)).bl λ_=>aA.aT _) [] j ws j2 hj.2 wE;simp[bE,a1g,aO,bD,rk,cI,cQ,bO,gP,eS,dQ];refine rdX (hw:=by simp[strs]) (ds:=[.sl (strs [[41]])]) jK (kO l [[41]] j2 tI.2 (by omega) hV.fin (by simp)) (λu j hx=>?_) (λn e hx=>hQ3.fail hx _);have hQ4:=hQ3.step hx;simp;exact hQ4.ok _ j _ _ rfl (.inr rfl) (by simp)
 .simp only[xN]at hx;rw[hZ]at hx;cases hw:bS aX l i with
  |bad n e=>rw[hw]at hx;cases hx
  |ok w k=>rw[hw]at hx;have:=aA.word (kw:=aX) hV.fin i w k hi hw;cases hx;simp;omega
end
end
section
open Go Go.VM
variable {G:GT}
theorem jE{l:List Tok}{s:Nm}{i:Nat}(h:aQ l i s=true):dR l s i=.ok true (i+1):=by unfold dR;rw[if_pos h]
theorem jF{l:List Tok}{s:Nm}{i:Nat}(h:aQ l i s=false):dR l s i=.ok false i:=by unfold dR;rw[if_neg (by rw[h];decide)]
section
variable {aG:List Tok->Nat->Nat->kX Pr} {l:List Tok} (hV:kU G aG l)
include hV
def a2R(v:Bool)(out:List zN):List (Nat×aW):=[(100001,.cells [.d (.bool v)]),(100002,.cells [.ptr 100000 0]),(100003,.cells [.d (.sl (out.map gG))])]
abbrev d7w:List (TypeId×List VM.Loc):=[(179,[.c 100003 0])]
abbrev K4:List (Nat×Nat):=[(100000,100000),(100001,100001),(100002,100002),(100003,100003)]
abbrev b5t(l:List Tok)(v:Bool)(out:List zN):bB (List zN):=do
 let b <- (if v then dR l [118] else pure false)
 let name <- (if b then pure [118] else bS aX l)
 aV l [[58]]
 let s <- vN aX l
 pure (out++[(name,s)])
theorem a4S(l:List zN)(x:zN):(l++[x]).map gG=l.map gG++[[.str x.1,.str x.2]]:=by simp[gG]
theorem c9m(l:List zN):∀x∈l.map gG,x.length=2:=λx hx=>by
 obtain⟨y,_,rfl⟩:=List.mem_map.1 hx
 rfl
theorem c0b(v:Bool)(out:List zN)(i:Nat)(hi:i<l.length)(rN:out.length<=i):kZ G 173 [.ptr 100001 0,.ptr 100002 0,.ptr 100003 0] (a2R v out) d7w l i (b5t l v out i) (λ_=>.cJ []) (a2R v):=by
 have hl:=hV.len;refine kZ.cP func173 rfl ntmps173 rfl (by simp) ?_;intro Q Q0;obtain⟨j0,rfl⟩:∃j0,j0=i:=⟨_,rfl⟩;have p0:j0<=j0/\j0<l.length:=⟨f3d _,hi⟩;simp[a2R];cases v with
 |false=>
  have Q1:=Q0.step (x:=pure false) rfl;rw[if_neg (by decide)]at Q1;simp;obtain⟨j1,rfl⟩:∃j1,j1=j0:=⟨_,rfl⟩;have p1:=p0;refine qI Q1 p1 cL (cZ hV.kw l j1 p1.2 (by omega)) (aA.word hV.fin) λs j2 x2 Q2 p2=>?_;simp;refine dD Q2 p2 hV.fin λu5 j5 x5 Q5 p5=>?_;simp;refine kN [1] 3 [2] (.op 0 (.call [4,5,6,7] .none) (.call [0,4,5,6,7] .none)) (gL (vN aX l j5)) (by kernel_rfl) (by kernel_rfl) ?_;simp;refine⟨?_,?_⟩
  all_goals
   refine oF Q5 p5 a0K (a2p hV.kw l j5 p5.2 (by omega)) (aA.sort hV.fin) λw j6 x6 Q6 p6=>cT.mk ?_;simp;refine eE (by simp[gG];omega) ?_;simp;exact Q6.ok _ j6 _ _ rfl (.inl rfl) (by simp[a2R,a4S hV])
 |true=>
  cases hs:aQ l j0 [118]with
  |true=>
   have Q1:=Q0.step (x:=dR l [118]) (jE hs);rw[if_pos rfl]at Q1;have Q2:=Q1.step (x:=pure [118]) rfl;simp;refine yT hs p0 hV.fin λp2=>?_;obtain⟨j2,tI⟩:∃j2,j0+1=j2:=⟨_,rfl⟩;rw[tI]at Q2 p2|-;simp;refine dD Q2 p2 hV.fin λu5 j5 x5 Q5 p5=>?_;simp;refine kN [1] 3 [2] (.op 0 (.call [4,5,6,7] .none) (.call [0,4,5,6,7] .none)) (gL (vN aX l j5)) (by kernel_rfl) (by kernel_rfl) ?_;simp;refine⟨?_,?_⟩
   all_goals
    refine oF Q5 p5 a0K (a2p hV.kw l j5 p5.2 (by omega)) (aA.sort hV.fin) λw j6 x6 Q6 p6=>cT.mk ?_;simp;refine eE (by simp[gG];omega) ?_;simp;exact Q6.ok _ j6 _ _ rfl (.inl rfl) (by simp[a2R,a4S hV])
  |false=>
   have Q1:=Q0.step (x:=dR l [118]) (jF hs);rw[if_neg (by decide)]at Q1;simp;refine vX hs p0 ?_;simp;obtain⟨j1,rfl⟩:∃j1,j1=j0:=⟨_,rfl⟩;have p1:=p0;refine qI Q1 p1 cL (cZ hV.kw l j1 p1.2 (by omega)) (aA.word hV.fin) λs j2 x2 Q2 p2=>?_;simp;refine dD Q2 p2 hV.fin λu5 j5 x5 Q5 p5=>?_;simp;refine kN [1] 3 [2] (.op 0 (.call [4,5,6,7] .none) (.call [0,4,5,6,7] .none)) (gL (vN aX l j5)) (by kernel_rfl) (by kernel_rfl) ?_;simp;refine⟨?_,?_⟩
   all_goals
    refine oF Q5 p5 a0K (a2p hV.kw l j5 p5.2 (by omega)) (aA.sort hV.fin) λw j6 x6 Q6 p6=>cT.mk ?_;simp;refine eE (by simp[gG];omega) ?_;simp;exact Q6.ok _ j6 _ _ rfl (.inl rfl) (by simp[a2R,a4S hV])
theorem c5S(v:Bool):zU l K4 [.ptr 100001 0,.ptr 100002 0,.ptr 100003 0] (a2R v) d7w:=by
 constructor
 all_goals intros
 all_goals first
  |rfl
  |simp[a2R,aK,aP,aM,aL,bA,getKey,aO,bD,cI,rk,cQ,bO, *]
theorem a8N(v:Bool)(out:List zN):aA l 1 (b5t l v out):=by refine aA.br (aA.ite (aA.skip hV.fin _) (aA.aT _)) λb=>?_;refine aA.br (aA.ite (aA.aT _) ((aA.word hV.fin).le (by omega))) λnm=>?_;exact(aA.exp hV.fin _ _).bl λ_=>((aA.sort hV.fin).le (by omega)).bl λ_=>aA.aT _
theorem b5u(v:Bool)(a:List zN)(i:Nat)(b:List zN)(j:Nat)(h:b5t l v a i=.ok b j):b.length=a.length+1:=by
 simp only[b5t,hZ]at h
 repeat' split at h
 all_goals first|cases h|skip
 all_goals simp
theorem a2s(v:Bool)(i:Nat)(hi:i<l.length):pW G 132 [.bool v] l i (qG aX l v i) (λws=>.d (.sl (ws.map gG))):=by
 have hl:=hV.len;refine kZ.cP func132 rfl ntmps132 rfl (by simp) ?_;intro Q Q0;unfold qG at Q0;simp;have gO:=eI hV [44] (b5t l v) (λout i=>out.length<=i) 0 b4g (c5S hV v) (λa=>(a8N hV v a).le (by omega)) (λa i _ hi h=>c0b hV v a i hi h) (λa i b j hi h hx=>?_) (λa i h=>by omega) [] i (by omega) hi (by simp)
 .refine eF.mk (yJ dE gO [(100000,100000),(100001,3),(100002,2),(100003,5)] (λa j hx=>?_) ?_ ?_ ?_ rfl rfl (λws j2 wE=>?_) (λn e wE=>Q0.bad n e _ wE))
  .simp[a2R,aK,aP,aM,aL,bA,getKey]
  .simp[a2R,aK,aP,aM,aL,bA,getKey]
  .simp[aO,bD,rk]
  .simp[a2R,aO,bD,rk,cI,cQ]
  .simp[bE,a2R,aO,bD,rk,cI,cQ,bO,gP,eS,dQ];exact Q0.ok _ j2 _ _ wE (.inr rfl) (by simp)
 .have h1:=a8N hV v a i b j hi hx;have h2:=b5u hV v a i b j hx;omega
end
end
end Go.Proofs.YtjpodcmhcenjjaaGreatDoor
section
section
namespace Go.Proofs.YtjpodcmhcenjjaaGreatDoor
open Go Go.VM
variable {G:GT}
mutual
def a5g:Pr->Pr->Bool
 |⟨o,n,k,l⟩,⟨o',n',k',l'⟩=>decide (o=o')&&(decide (n=n')&&(decide (k=k')&&(decide (l.length=l'.length)&&tN l l')))
def tN:List Pr->List Pr->Bool
 |a::r,b::s=>a5g a b&&tN r s
 |[],_=>true
 |_::_,[]=>true
end
theorem c4b(a b:Pr):a5g a b=(decide (a.op=b.op)&&(decide (a.name=b.name)&&(decide (a.n=b.n)&&(decide (a.kids.length=b.kids.length)&&tN a.kids b.kids)))):=by cases a;cases b;rfl
mutual
theorem a7O:∀a b:Pr,a5g a b=true↔a=b
 |⟨o,n,k,l⟩,⟨o',n',k',l'⟩=>by
  have:=b5v l l';simp only[a5g,f2N,decide_eq_true_eq,Pr.mk.injEq];constructor
  .rintro⟨h1,h2,h3,h4,h5⟩;exact⟨h1,h2,h3,(this h4).1 h5⟩
  .rintro⟨h1,h2,h3,rfl⟩;exact⟨h1,h2,h3,rfl,(this rfl).2 rfl⟩
theorem b5v:∀l k:List Pr,l.length=k.length->(tN l k=true↔l=k)
 |[],[],_=>by simp[tN]
 |a::r,b::s,h=>by have h1:=a7O a b;have h2:=b5v r s (by simpa using h);simp only[tN,f2N,h1,h2,List.cons.injEq]
 |[],_::_,h=>by simp at h
 |_::_,[],h=>by simp at h
end
theorem b2o{l k:List Pr}{i:Nat}(h:i<l.length)(h':i<k.length):tN (l.drop i) (k.drop i)=(a5g l[i] k[i]&&tN (l.drop (i+1)) (k.drop (i+1))):=by
 rw[f3a h,f3a h']
 rfl
theorem b5w(l k:List Pr):tN (l.drop l.length) k=true:=by simp[tN]
end Go.Proofs.YtjpodcmhcenjjaaGreatDoor
end
section
namespace Go.Proofs.YtjpodcmhcenjjaaGreatDoor
open Go Go.VM
variable {G:GT}
theorem mU:VM.Enters prog 19:=.mk func19 rfl
theorem rG:∀t u:Pr,cB t<=900000000->CS prog G 19 [.agg (prD t),.agg (prD u)] (.d (.bool (a5g t u))) none:=by
 refine Pr.ind λt ih=>?_;obtain⟨op,nm,n,l⟩:=t;intro u hN;obtain⟨op',nm',n',l'⟩:=u;simp only at ih;have hn:=rT ⟨op,nm,n,l⟩;have hq:=c4b ⟨op,nm,n,l⟩ ⟨op',nm',n',l'⟩;simp only at hn hq;have hl:=kM l;refine CS.aZ func19 rfl ntmps19 rfl ?_;by_cases h1:op=op'
 .by_cases h2:nm=nm'
  .by_cases h4:n=n'
   .by_cases h3:l.length=l'.length
    .simp only[h1,h2,h3,h4,decide_true,Bool.true_and]at hq;simp[h1,h2,h3,h4];refine SW.eL (ι:={i:Nat//i<=l.length/\tN (l.drop i) (l'.drop i)=tN l l' }) (λi=>[(37,.d (.int .i64 i.1))]) (λi=>[(2,.cells [.d (.int .i64 op'),.d (.str nm'),.d (.int .i64 n'),.d (.sl (l.map oO))]),(3,.cells [.d (.int .i64 op'),.d (.str nm'),.d (.int .i64 n'),.d (.sl (l'.map oO))])]) (λ_=>[]) (λi=>l.length-i.1) ⟨0,by simp⟩ (by simp) ?_;rintro⟨i,hi,hR⟩
     try simp only at hi hR
     by_cases aI:i<l.length
     .have b6z:i<l'.length:=by omega
      have hg:=wH aI;have hg':=wH b6z;have hw:=bC (show i<9223372036854775807 by omega);have hb2:=tA aI;have hb3:=kS l (i+1);rw[b2o aI b6z]at hR;simp[b6z,aI,hg,hg'];refine⟨gE.mk (by kernel_rfl),?_⟩;refine aE.mk mU (ih l[i] (List.getElem_mem aI) l'[i] (by omega)) ?_;cases hs:a5g l[i] l'[i]
      .rw[hs,Bool.false_and]at hR;simp[hs,hq, <- hR]
      .rw[hs,Bool.true_and]at hR;simp[hs];exact bJ.mk ⟨i+1,aI,hR⟩ (by simp[hw]) (by simp;omega)
     .have:i=l.length:=by omega
      subst this;rw[b5w]at hR;simp[hq, <- hR, <- h3]
    .simp only[h1,h2,h3,h4,decide_true,decide_false,Bool.true_and,Bool.false_and]at hq;have h3': ¬((l.length:Int)=(l'.length:Int)):=by omega
     simp[h1,h2,h3,h3',h4,hq]
   .simp only[h1,h2,h4,decide_true,decide_false,Bool.true_and,Bool.false_and]at hq;simp[h1,h2,h4,hq]
  .simp only[h1,h2,decide_true,decide_false,Bool.true_and,Bool.false_and]at hq;simp[h1,h2,hq]
 .simp only[h1,decide_false,Bool.false_and]at hq;simp[h1,hq]
def c5T(l l':List Pr):Bool:=decide (l.length=l'.length)&&tN l l'
end Go.Proofs.YtjpodcmhcenjjaaGreatDoor
end
end
section
section
namespace Go.Proofs.YtjpodcmhcenjjaaGreatDoor
open Go Go.VM
def a8O:Pr:=⟨0,[],0,[]⟩
def c2z:Pr:=⟨2,[],1,[]⟩
def d4R:Pr:=⟨2,[],0,[]⟩
instance:DecidableEq Pr:=λa b=>if h:a5g a b=true then isTrue ((a7O a b).1 h) else isFalse λe=>h ((a7O a b).2 e)
def a5I(p:Pr):Bool:=decide (p=a8O)||decide (p=c2z)
def xO:Pr->List Pr
 |⟨op,nm,n,[a,b]⟩=>if op=15 then xO a++xO b else [⟨op,nm,n,[a,b]⟩]
 |⟨op,nm,n,l⟩=>if a5I ⟨op,nm,n,l⟩ then [] else [⟨op,nm,n,l⟩]
theorem c2A(nm:Nm)(n:Int)(a b:Pr):xO ⟨15,nm,n,[a,b]⟩=xO a++xO b:=by rw[xO,if_pos rfl]
theorem c5U{p:Pr}(h:a5I p=true):p.kids=[]:=by simp only[a5I,f2Z,decide_eq_true_eq]at h;rcases h with rfl|rfl<;>rfl
theorem b6Z{p:Pr}(h: ¬(p.op=15/\p.kids.length=2)):xO p=if a5I p then [] else [p]:=by
 obtain⟨op,nm,n,l⟩:=p
 match l,h with
 |[],_=>rw[xO];simp
 |[a],_=>rw[xO];simp
 |[a,b],h=>
  have h5: ¬op=15:=λe=>h ⟨e,rfl⟩;rw[xO,if_neg h5];cases hv:a5I ⟨op,nm,n,[a,b]⟩with
  |false=>simp
  |true=>have:=c5U hv;simp at this
 |a::b::c::r,_=>rw[xO];simp
mutual
theorem b5x:∀p:Pr,(xO p).length<=cB p
 |⟨op,nm,n,l⟩=>by
  by_cases h:op=15/\l.length=2
  .match l,h with
   |[a,b],⟨h15,_⟩=>subst h15;rw[c2A];have h1:=b5x a;have h2:=b5x b;simp only[List.length_append,cB,dT];omega
  .rw[b6Z h];have:=b1Q ⟨op,nm,n,l⟩;split<;>simp<;>omega
end
def e3N(ns:List Nm)(bys:List Pr)(op:Int)(nm:Nm):Option Pr:=if op=3/\0<=c8v nm ns 0 then bys[(c8v nm ns 0).toNat]? else none
mutual
def e0q (ns:List Nm) (bys:List Pr):Pr->Pr
 |⟨op,nm,n,l⟩=>match e3N ns bys op nm with
  |some u=>u
  |none=>⟨op,nm,n,c4c ns bys l⟩
def c4c (ns:List Nm) (bys:List Pr):List Pr->List Pr
 |[]=>[]
 |t::r=>e0q ns bys t::c4c ns bys r
end
mutual
def b2p:Pr->Nat
 |⟨_,_,_,l⟩=>sD l 0+1
def sD:List Pr->Nat->Nat
 |[],n=>n
 |t::r,n=>sD r (max n (b2p t))
end
theorem c4d(p:Pr):b2p p=sD p.kids 0+1:=by cases p;rfl
theorem b5y:∀(a b:List Pr) (n:Nat),sD (a++b) n=sD b (sD a n)
 |[],b,n=>by simp[sD]
 |t::a,b,n=>by simp only[List.cons_append,sD,b5y a b]
theorem b2q{l:List Pr}{i:Nat}(h:i<l.length)(n:Nat):sD (l.take (i+1)) n=max (sD (l.take i) n) (b2p l[i]):=by rw[f3c h,b5y];simp[sD]
mutual
theorem d4S:∀p:Pr,b2p p<=cB p
 |⟨op,nm,n,l⟩=>by have:=a7P l 0;simp only[b2p,cB];omega
theorem a7P:∀(l:List Pr) (n:Nat),sD l n<=n+dT l
 |[],n=>by simp[sD]
 |t::r,n=>by have h1:=d4S t;have h2:=a7P r (max n (b2p t));simp only[sD,dT];omega
end
theorem c5V:∀ {l:List Pr} {k:Pr},k∈l->cB k<=dT l
 |t::r,k,h=>by
  simp only[dT];rcases List.mem_cons.1 h with rfl|h
  .omega
  .have:=c5V h;omega
end Go.Proofs.YtjpodcmhcenjjaaGreatDoor
end
section
namespace Go.Proofs.YtjpodcmhcenjjaaGreatDoor
open Go Go.VM
variable {G:GT}
theorem c5W{α:Type}(f:α->List D){l:List α}{i:Nat}(h:i<l.length):List.take (i+1) (List.map f l)=List.take i (List.map f l)++[f l[i]]:=by have:=c8L f h;rw[List.map_take,List.map_take]at this;exact this
theorem d4T{α:Type}{f:α->List D}{k:Nat}(hf:∀a,(f a).length=k){l:List α}{i:Nat}:∀(x:List D),x∈List.take i (List.map f l)->x.length=k:=λx hx=>by obtain⟨t,_,rfl⟩:=List.mem_map.1 (List.mem_of_mem_take hx);exact hf t
abbrev prO(op:Int)(nm:Nm)(n:Int)(k:D):aW:=.cells [.d (.int .i64 op),.d (.str nm),.d (.int .i64 n),.d k]
theorem sN:VM.Enters prog 128:=.mk func128 rfl
theorem c5X:VM.Enters prog 169:=.mk func169 rfl
theorem c9n(l l':List Pr)(hN:dT l<=900000000)(ih:∀k∈l,∀u:Pr,cB k<=900000000->CS prog G 128 [.agg (prD k),.agg (prD u)] (.d (.bool (a5g k u))) none):
  CH prog G 169 ⟨[.d (.sl (l.map oO)),.d (.sl (l'.map oO)),.fn 128],[],[]⟩ ⟨[.d (.bool (c5T l l'))],[],[]⟩:=by
 have hl:=kM l;refine CH.aZ func169 rfl ntmps169 rfl (by simp) ?_;by_cases h3:l.length=l'.length
 .have hq:c5T l l'=tN l l':=by simp[c5T,h3]
  simp[h3];refine SW.eL (ι:={i:Nat//i<=l.length/\tN (l.drop i) (l'.drop i)=tN l l' }) (λi=>[(15,.d (.int .i64 i.1))]) (λ_=>[]) (λ_=>[]) (λi=>l.length-i.1) ⟨0,by simp⟩ (by simp) ?_;rintro⟨i,hi,hR⟩
  try simp only at hi hR
  by_cases aI:i<l.length
  .have b6z:i<l'.length:=by omega
   have hg:=wH aI;have hg':=wH b6z;have hw:=bC (show i<9223372036854775807 by omega);have hb2:=tA aI;have hb3:=kS l (i+1);rw[b2o aI b6z]at hR;simp[b6z,aI,hg,hg'];refine⟨gE.mk (by kernel_rfl),?_⟩;refine aE.mk sN (ih l[i] (List.getElem_mem aI) l'[i] (by omega)) ?_;cases hs:a5g l[i] l'[i]
   .rw[hs,Bool.false_and]at hR;simp[hs,hq, <- hR]
   .rw[hs,Bool.true_and]at hR;simp[hs];exact bJ.mk ⟨i+1,aI,hR⟩ (by simp[hw]) (by simp;omega)
  .have:i=l.length:=by omega
   subst this;rw[b5w]at hR;simp[hq, <- hR, <- h3]
 .have h3': ¬((l.length:Int)=(l'.length:Int)):=by omega
  have hq:c5T l l'=false:=by simp[c5T,h3]
  simp[h3,h3',hq]
theorem yK:∀t u:Pr,cB t<=900000000->CS prog G 128 [.agg (prD t),.agg (prD u)] (.d (.bool (a5g t u))) none:=by
 refine Pr.ind λt ih=>?_;obtain⟨op,nm,n,l⟩:=t;intro u hN;obtain⟨op',nm',n',l'⟩:=u;simp only at ih;have hn:=rT ⟨op,nm,n,l⟩;have hq:=c4b ⟨op,nm,n,l⟩ ⟨op',nm',n',l'⟩;simp only at hn hq;have hE:=c9n (G:=G) l l' (by omega) ih;have hA:(decide (l.length=l'.length)&&tN l l')=c5T l l':=rfl;rw[hA]at hq;refine CS.aZ func128 rfl ntmps128 rfl ?_;by_cases h1:op=op'
 .by_cases h2:nm=nm'
  .by_cases h4:n=n'
   .simp only[h1,h2,h4,decide_true,Bool.true_and]at hq;simp[h1,h2,h4];refine eR.ro c5X hE [] (by simp) (by simp) (by simp) (by simp) (by simp) ?_;simp[hq]
   .simp only[h1,h2,h4,decide_true,decide_false,Bool.true_and,Bool.false_and]at hq;simp[h1,h2,h4,hq]
  .simp only[h1,h2,decide_true,decide_false,Bool.true_and,Bool.false_and]at hq;simp[h1,h2,hq]
 .simp only[h1,decide_false,Bool.false_and]at hq;simp[h1,hq]
theorem qU:VM.Enters prog 170:=.mk func170 rfl
def a4g(b:Bool):Pr:=if b then c2z else d4R
theorem rY(b:Bool):CS prog G 170 [.bool b] (.d (.agg (prD (a4g b)))) none:=by refine CS.aZ func170 rfl ntmps170 rfl ?_;cases b<;>simp[a4g,c2z,d4R]
theorem c0c(a b:Pr):a5g a b=decide (a=b):=by rw[Bool.eq_iff_iff,a7O];simp
theorem b4h:VM.Enters prog 171:=.mk func171 rfl
theorem b7a(p:Pr)(h:cB p<=900000000):CS prog G 171 [.agg (prD p)] (.d (.bool (a5I p))) none:=by
 have e1:=yK (G:=G) p a8O h;have e2:=yK (G:=G) p c2z h;rw[c0c]at e1 e2;refine CS.aZ func171 rfl ntmps171 rfl ?_;simp;refine⟨gE.mk (by kernel_rfl),?_⟩;refine aE.mk sN (CS.args e1 (by simp[a8O])) ?_;by_cases hz:p=a8O
 .simp[hz,a5I]
 .simp[hz,a5I];refine aE.mk qU (rY true) ?_;simp;refine aE.mk sN (CS.args e2 (by simp[c2z,a4g])) ?_;simp
theorem xP:VM.Enters prog 172:=.mk func172 rfl
theorem b2r:∀p:Pr,cB p<=900000000->CS prog G 172 [.agg (prD p)] (.d (.agg (prD p))) none:=by
 refine Pr.ind λp ih=>?_;obtain⟨op,nm,n,l⟩:=p;intro hN;simp only at ih;have hn:=rT ⟨op,nm,n,l⟩;simp only at hn;have hl:=kM l;refine CS.aZ func172 rfl ntmps172 rfl ?_;simp;refine SW.eL (ι:={i:Nat//i<=l.length}) (λi=>[(16,.d (.int .i64 i.1))]) (λi=>[(1,prO op nm n (.sl (l.map oO))),(2,prO 0 [] 0 .aJ),(3,prO op nm n (.sl ((l.take i.1).map oO)))]) (λ_=>[(43,[.c 3 3])]) (λi=>l.length-i.1) ⟨0,by simp⟩ (by simp) ?_;rintro⟨i,hi⟩;by_cases aI:i<l.length
 .have hg:=wH aI;have hw:=bC (show i<9223372036854775807 by omega);have hs2:=c5W oO aI;rw[eH]at hs2;have h4:∀(x:List D),x∈List.take i (List.map oO l)->x.length=4:=d4T (by simp);have hb2:=tA aI;have hb3:=kS l (i+1);simp[aI,hg];refine⟨gE.mk (by kernel_rfl),?_⟩;refine aE.mk xP (ih l[i] (List.getElem_mem aI) (by omega)) ?_;simp;refine eE ⟨h4,by omega⟩ ?_;simp;exact bJ.mk ⟨i+1,aI⟩ (by simp[hw,hs2]) (by simp;omega)
 .have:i=l.length:=by omega
  subst this;simp
end Go.Proofs.YtjpodcmhcenjjaaGreatDoor
end
section
namespace Go.Proofs.YtjpodcmhcenjjaaGreatDoor
open Go Go.VM
variable {G:GT}
theorem b7b:VM.Enters prog 223:=.mk func223 rfl
theorem d7y(p:Pr):cB p<=900000000->CS prog G 223 [.agg (prD p)] (.d (.int .i64 (b2p p))) none:=by
 revert p
 refine Pr.ind λp ih=>?_;obtain⟨op,nm,n,l⟩:=p;intro hN;simp only at ih;have hn:=rT ⟨op,nm,n,l⟩;have hd:=c4d ⟨op,nm,n,l⟩;simp only at hn hd;have hl:=kM l;have hle:=a7P l 0;refine CS.aZ func223 rfl ntmps223 rfl ?_;simp;refine SW.eL (ι:={i:Nat//i<=l.length}) (λi=>[(3,.d (.int .i64 (sD (l.take i.1) 0))),(9,.d (.int .i64 i.1))]) (λ_=>[(1,prO op nm n (.sl (l.map oO)))]) (λ_=>[]) (λi=>l.length-i.1) ⟨0,by simp⟩ (by simp[sD]) ?_;rintro⟨i,hi⟩;by_cases aI:i<l.length
 .have hg:=wH aI;have hw:=bC (show i<9223372036854775807 by omega);have hs:=b2q aI 0;have hb2:=tA aI;have hb3:=kS l (i+1);simp[aI,hg];refine aE.mk b7b (ih l[i] (List.getElem_mem aI) (by omega)) ?_;simp;exact bJ.mk ⟨i+1,aI⟩ (by simp[hw,hs];split<;>omega) (by simp;omega)
 .have:i=l.length:=by omega
  subst this;have hw:IntKind.i64.wrap ((sD l 0:Int)+1)=((sD l 0+1:Nat):Int):=bC (by omega);simp[hw,hd]
end Go.Proofs.YtjpodcmhcenjjaaGreatDoor
end
section
namespace Go.Proofs.YtjpodcmhcenjjaaGreatDoor
open Go Go.VM Go.RowKit Go.Shelf
attribute [local go_sem] Oper.semAt_some
structure bR (X:Nat->Prop) (W W':World):Prop where
 os:W'.os=W.os
 tape:W'.tape=W.tape
 output:W'.output=W.output
 size:W.heap.size<=W'.heap.size
 block:∀k,k<W.heap.size-> ¬X k->W'.heap[k]? =W.heap[k]?
theorem bR.refl(X:Nat->Prop)(W:World):bR X W W:=⟨rfl,rfl,rfl,f3d _,λ_ _ _=>rfl⟩
theorem bR.trans{X:Nat->Prop}{A B C:World}(h:bR X A B)(k:bR X B C):bR X A C:=
 ⟨k.os.trans h.os,k.tape.trans h.tape,k.output.trans h.output,Nat.le_trans h.size k.size,λi hi hx=>(k.block i (Nat.lt_of_lt_of_le hi h.size) hx).trans (h.block i hi hx)⟩
abbrev NoX:Nat->Prop:=λ_=>False
theorem bR.up{X:Nat->Prop}{A B:World}(h:bR NoX A B):bR X A B:=⟨h.os,h.tape,h.output,h.size,λk hk _=>h.block k hk λe=>e⟩
theorem bR.cell{X:Nat->Prop}{A B:World}(h:bR X A B){b o:Nat}(hb:b<A.heap.size)(hx: ¬X b):B.cell? ⟨b,o,none⟩=A.cell? ⟨b,o,none⟩:=by unfold World.cell?;rw[h.block b hb hx]
theorem bR.alloc{X:Nat->Prop}{A B:World}(h:bR X A B)(o:Obj):bR X A (B.alloc o):=
 h.trans ⟨rfl,rfl,rfl,by simp,λk hk _=>by
  show(B.heap.push o)[k]? =_
  rw[Array.getElem?_push,if_neg (by omega)]⟩
theorem c9o{R:Nat->Nat->Prop}{w:World}{v:Value}{p:Pr}(h:V R w v (.agg (oO p))):
  ∃(ao:Option Addr) (cap:Nat) (nm:ByteArray),v=.agg #[.int .i64 p.op,.string nm,.int .i64 p.n,.slice ao p.kids.length cap]/\
   ∀(i:Nat) (hi:i<p.kids.length),∃b o,ao=some ⟨b,o,none⟩/\∃f:Nat->Value,(∀j,j<4->R b (o+i*4+j)/\w.cell? ⟨b,o+i*4+j,none⟩=some (f j))/\V R w (.agg #[f 0,f 1,f 2,f 3]) (.agg (oO p.kids[i])):=by
 obtain⟨op,nm,n,ks⟩:=p;rw[eH]at h;cases h with
 |agg cs _ h1 h2 h3=>
  obtain⟨l⟩:=cs
  match l,h1 with
  |[c0,c1,c2,c3],_=>
   have g0:=h3 0 _ rfl;have g1:=h3 1 _ rfl;have g2:=h3 2 _ rfl;have g3:=h3 3 _ rfl;simp at g0 g1 g2 g3;obtain⟨es,hes⟩:∃es,ks.map oO=es:=⟨_,rfl⟩;simp only[hes]at g3;cases g0;cases g1;cases g2;have hlen:es.length=ks.length:=by rw[<-hes];simp
   cases g3 with
   |emp ao cap=>
    have h0:ks=[]:=by simpa using hes
    subst h0;exact⟨ao,cap,_,rfl,λi hi=>by simp at hi⟩
   |sl b o m cap size es f k1 k2 k3 k4 k5 k6 k7=>
    have hm:m=ks.length:=by omega
    subst hm;refine⟨_,cap,_,rfl,λi hi=>⟨b,o,rfl,f i,?_⟩⟩;simp only at hi;have hg:es[i]? =some (oO ks[i]):=by rw[<-hes];simp[hi]
    have hs:size=4:=by have:=k4 _ (f2S hg);rw[eH]at this;simpa using this.symm
    subst hs;refine⟨λj hj=>k5 i j hi hj,?_⟩;have q:∀(j:Nat) (d:D),(oO ks[i])[j]? =some d->V R w (f i j) d:=λj d hd=>k7 i j _ d hg hd;have q1:∀(j:Nat) (d:D),(oO ks[i])[j]? =some d->d.one=true:=λj d hd=>k6 i j _ d hg hd;refine .agg _ _ (by rw[eH];rfl) q1 λj d hd=>?_;have hj:j<4:=by have:=(f2O.1 hd).1;rw[eH]at this;simpa using this
    have hv:=q j d hd
    match j,hj with
    |0,_=>exact hv
    |1,_=>exact hv
    |2,_=>exact hv
    |3,_=>exact hv
mutual
def a2t:Pr->List Pr
 |⟨op,nm,n,l⟩=>⟨op,nm,n,l⟩::oT l
def oT:List Pr->List Pr
 |[]=>[]
 |p::r=>a2t p++oT r
end
theorem a7Q(p:Pr):a2t p=p::oT p.kids:=by cases p;rfl
theorem a8P:∀a b:List Pr,oT (a++b)=oT a++oT b
 |[],b=>by simp[oT]
 |p::a,b=>by simp only[List.cons_append,oT,a8P a b,List.append_assoc]
theorem c2B{l:List Pr}{i:Nat}(h:i<l.length):oT (l.take (i+1))=oT (l.take i)++a2t l[i]:=by rw[f3c h,a8P];simp[oT]
theorem a9Z(l:List Pr)(i:Nat):oT l=oT (l.take i)++oT (l.drop i):=by rw[<-a8P,List.take_append_drop]
def Yields(P:Program)(L:List Pr)(l:Nat)(X:Nat->Prop)(R:Nat->Nat->Prop)(w0:World)(J Jx:List Pr->World->Prop):Prop:=
 ∀(m:Nat) (pre:List Pr) (v:Value) (p:Pr) (W:World),pre++[p] <+:L->V R w0 v (.agg (oO p))->bR X w0 W->J pre W->YieldAt Fence.wide m P l #[v] W λe W'=>(e=.returned (.bool true)/\J (pre++[p]) W'/\bR X W W')\/(e=.returned (.bool false)/\Jx (pre++[p]) W'/\bR X W W')
theorem c9p(W:World)(cs:Array Value)(T:TypeId){j:Nat}{v:Value}(h:cs[j]? =some v):(W.alloc (.cells cs T)).cell? ⟨W.heap.size,j,none⟩=some v:=by unfold World.cell?;rw[World.alloc_heap_new];simp[h]
theorem c9q(L:List Pr)(l:Nat)(X:Nat->Prop)(R:Nat->Nat->Prop)(w0:World)(hX:∀b o,R b o-> ¬X b)(hR:∀b o,R b o->b<w0.heap.size)(hX2:∀k,X k->k<w0.heap.size)(J Jx:List Pr->World->Prop)(hJ:∀s A B,J s A->bR NoX A B->J s B)(hY:Yields prog L l X R w0 J Jx):
  ∀(p:Pr) (n:Nat) (v:Value) (pre:List Pr) (W:World),cB p<=1000000->pre++a2t p <+:L->V R w0 v (.agg (oO p))->bR X w0 W->J pre W->
   CallsIn Fence.wide n prog 238 #[v,.func (.yield l) #[] #[]] W λe W'=>(e=.returned (.bool true)/\J (pre++a2t p) W'/\bR X W W')\/(e=.returned (.bool false)/\∃q,q <+:a2t p/\Jx (pre++q) W'/\bR X W W'):=by
 refine Pr.ind λp ih=>?_;intro n v pre W hN hL hv hW hJ0;have hN1:=rT p;have hN2:=kM p.kids;have hpk:∀(k:Nat) (h:k<p.kids.length),(pre++p::oT (p.kids.take k))++a2t p.kids[k] <+:L:=λk h=>by refine List.IsPrefix.trans ⟨oT (p.kids.drop (k+1)),?_⟩ hL;rw[a7Q p,a9Z p.kids k,f3a h];simp[oT]
 obtain⟨ao,cap,nm,rfl,hk⟩:=c9o hv;have hJ1:=hJ _ _ (W.alloc (.cells #[.int .i64 p.op,.string nm,.int .i64 p.n,.slice ao p.kids.length cap] 43)) hJ0 ((bR.refl NoX W).alloc _);have hW1:=hW.alloc (.cells #[.int .i64 p.op,.string nm,.int .i64 p.n,.slice ao p.kids.length cap] 43);obtain⟨fn,tmps,assign,body,hy,hYR⟩:=hY (n-1) pre _ p _ (((List.prefix_append_right_inj pre).2 ⟨oT p.kids,by rw[a7Q];rfl⟩).trans hL) hv hW1 hJ1;refine callsIn_of_wp func238 rfl trivial ?_ rfl;simp only[ntmps238,List.size_toArray,List.length_cons,List.length_nil,Nat.reduceAdd,Nat.reduceSub,Array.replicate_succ,Array.replicate_zero,List.push_toArray,List.append_toArray,List.nil_append,List.cons_append]
 gi_wp2
 refine⟨λh=>(by cases h),?_⟩;have hbx: ¬X W.heap.size:=λh=>by have:=hX2 _ h;have:=hW.size;omega
 refine hYR.mono ?_;rintro e W3 (⟨rfl,hJ3,hK3⟩|⟨rfl,hJ3,hK3⟩)
 .have hWK:bR X W W3:=((bR.refl X W).alloc _).trans hK3;have f0C:W3.cell? ⟨W.heap.size,3,none⟩=some (.slice ao p.kids.length cap):=(hK3.cell (by simp) hbx).trans (c9p W _ _ rfl)
  gi_wp2
  gi_loopw [14] (λi wr=>∃k:Nat,k<=p.kids.length/\i=.int .i64 k/\J (pre++p::oT (p.kids.take k)) wr/\bR X W wr) (λi _=>p.kids.length-(intOf i).toNat)
  case atStart=>exact⟨0,Nat.zero_le _,rfl,by simpa[oT]using hJ3,hWK⟩
  case round=>
   obtain⟨k,hkl,rfl,hJk,hKk⟩:=hrel;by_cases aI:k<p.kids.length
   .obtain⟨b,o,rfl,f,hf,hfv⟩:=hk k aI;have hcx:∀j,j<4->wr.cell? ⟨b,o+k*4+j,none⟩=some (f j):=λj hj=>((hW.trans hKk).cell (hR _ _ (hf j hj).1) (hX _ _ (hf j hj).1)).trans (hf j hj).2;have h0:=hcx 0 (by omega);rw[Nat.add_zero]at h0;have h1:=hcx 1 (by omega);have h2:=hcx 2 (by omega);have h3:=hcx 3 (by omega);have e3R:=hfv;have hb2:=tA aI;have hb3:=kS p.kids (k+1);obtain⟨ao2,e7w,nm2,he,_⟩:=c9o hfv;simp only[Value.agg.injEq,Array.mk.injEq,List.cons.injEq,and_true]at he;obtain⟨e0,e1,e2,e3⟩:=he;rw[e0]at h0;rw[e1]at h1;rw[e2]at h2;rw[e3]at h3;rw[e0,e1,e2,e3]at e3R
    gi_wp2
    refine⟨trivial,λh=>(by cases h),(ih p.kids[k] (List.getElem_mem aI) (n-1) _ _ _ (by omega) (hpk k aI) e3R ((hW.trans hKk).alloc _) (hJ _ _ _ hJk ((bR.refl NoX wr).alloc _))).mono ?_⟩;rintro e W4 (⟨rfl,hJ4,hK4⟩|⟨rfl,q,hq,hJ4,hK4⟩)
    .have e3S:RowKit.wrap64 ((k:Int)+1)=(k:Int)+1:=by unfold RowKit.wrap64;omega
     gi_wp2
     go_roundw
     case rel=>exact⟨k+1,aI,by simp[e3S],by rw[c2B aI];simpa using hJ4,(hKk.alloc _).trans hK4⟩
     case measure=>simp[intOf,e3S];omega
    .gi_wp2
     go_ret
     refine .inr ⟨rfl,p::oT (p.kids.take k)++q,?_,by simpa using hJ4,(hKk.alloc _).trans hK4⟩;rw[a7Q,a9Z p.kids k,f3a aI];obtain⟨r,hr⟩:=hq;exact⟨r++oT (p.kids.drop (k+1)),by simp[oT, <- hr]⟩
   .obtain rfl:k=p.kids.length:=by omega
    gi_wp2
    go_ret
    exact .inl ⟨rfl,by rw[a7Q];simpa using hJk,hKk⟩
 .gi_wp2
  go_ret
  exact .inr ⟨rfl,[p],⟨oT p.kids,by rw[a7Q];rfl⟩,hJ3,((bR.refl X W).alloc _).trans hK3⟩
end Go.Proofs.YtjpodcmhcenjjaaGreatDoor
end
section
namespace Go.Proofs.YtjpodcmhcenjjaaGreatDoor
open Go Go.VM Go.RowKit Go.Shelf
attribute [local go_sem] Oper.semAt_some
theorem c5Y{G:GT}{R:Nat->Nat->Prop}{w0 w:World}(h:a5c G (xC w0.heap.size) R w0)(hs:w0.heap.size<=w.heap.size)(hR:∀b o,R b o->b<w0.heap.size)(hb:∀k,k<w0.heap.size->w.heap[k]? =w0.heap[k]?):a5c G (xC w.heap.size) R w:=by
 intro g cs hg;obtain⟨h1,h2,arr,T,fr,h3,h4⟩:=h g cs hg;have hl:g<w0.heap.size:=by simpa[xC]using h2
 have hc:∀b o,R b o->w.cell? ⟨b,o,none⟩=w0.cell? ⟨b,o,none⟩:=λb o hbo=>by unfold World.cell?;rw[hb b (hR b o hbo)]
 refine⟨λj d hj=>?_,by simp only[xC];omega,arr,T,fr,(hb g hl).trans h3,h4⟩;obtain⟨a1,a2,v,a3,a4⟩:=h1 j d hj;exact⟨a1,a2,v,(hc _ _ a2).trans a3,a4.step (λ_ _ h=>h) hc⟩
theorem bR.bK{R R':Nat->Nat->Prop}{w w':World}(h:Step (xC w.heap.size) R w R' w'):bR NoX w w':=
 ⟨h.below.os,h.below.tape,h.below.output,h.below.size,λk hk _=>h.below.block k (by simp only[xC];omega)⟩
theorem d4V{P:Program}{G:GT}{f:FuncId}{ds:List D}{k:IntKind}{z:Int}{own:Option TypeId}(h:CS P G f ds (.d (.int k z)) own){w:World}{R:Nat->Nat->Prop}{args:Array Value}(m:Nat)(hg:a5c G (xC w.heap.size) R w)(hR:∀b o,R b o->b<w.heap.size)(hs:args.size=ds.length)(hv:∀(i:Nat) (d:D),ds[i]? =some d->V R w (args.getD i undef) d):CallsIn Fence.wide m P f args w λe w'=>e=.returned (.int k z)/\bR NoX w w':=
 callsIn_wide.2 ((h w R args hg hR hs hv).mono λe w' ⟨v,R',he,yA,mM,_,_⟩=>by
  cases yA id with
  |d v x hvx=>cases hvx;exact⟨he,bR.bK mM⟩)
theorem bR.weaken{X Y:Nat->Prop}{A B:World}(h:bR X A B)(hXY:∀k,X k->Y k):bR Y A B:=⟨h.os,h.tape,h.output,h.size,λk hk hy=>h.block k hk λhx=>hy (hXY k hx)⟩
theorem bR.putObj{X:Nat->Prop}(A:World){l:Nat}(hl:X l)(o:Obj):bR X A (A.putObj l o):=⟨rfl,rfl,rfl,by simp,λk _ hx=>World.putObj_heap_other λe=>hx (e▸hl)⟩
theorem a4h{X:Nat->Prop}{A B:World}(h:bR X A B)(hX:∀k,X k->A.heap.size<=k):bR NoX A B:=⟨h.os,h.tape,h.output,h.size,λk hk _=>h.block k hk λhx=>by have:=hX k hx;omega⟩
theorem c2C(L:List Pr)(l:Nat)(X:Nat->Prop)(R:Nat->Nat->Prop)(w0:World)(hX:∀b o,R b o-> ¬X b)(hR:∀b o,R b o->b<w0.heap.size)(hX2:∀k,X k->k<w0.heap.size)(J Jx:List Pr->World->Prop)(hJ:∀s A B,J s A->bR NoX A B->J s B)(hY:Yields prog L l X R w0 J Jx)(p:Pr)(n:Nat)(c0 c1 c2 c3:Value)(W:World)(bx:Nat)(hbx:W.heap[bx]? =some (.cells #[c0,c1,c2,c3] 43 (0,0)))(hN:cB p<=1000000)(hL:a2t p=L)(hv:V R w0 (.agg #[c0,c1,c2,c3]) (.agg (oO p)))(hW:bR X w0 W)(hJ0:J [] W):
  CallsIn Fence.wide n prog 237 #[.func (.yield l) #[] #[],.pointer (some ⟨bx,0,none⟩)] W λe W'=>∃v,e=.returned v/\((J L W'/\bR X W W')\/∃q,q <+:L/\Jx q W'/\bR X W W'):=by
 have e7y:=c9q L l X R w0 hX hR hX2 J Jx hJ hY p (n-1) _ [] W hN (by rw[List.nil_append,hL];exact List.prefix_rfl) hv hW hJ0;obtain⟨ao,cap,nm,he,_⟩:=c9o hv;simp only[Value.agg.injEq,Array.mk.injEq,List.cons.injEq,and_true]at he;obtain⟨rfl,rfl,rfl,rfl⟩:=he;have e0:W.cell? ⟨bx,0,none⟩=some (.int .i64 p.op):=by unfold World.cell?;rw[hbx];rfl
 have e1:W.cell? ⟨bx,1,none⟩=some (.string nm):=by unfold World.cell?;rw[hbx];rfl
 have e2:W.cell? ⟨bx,2,none⟩=some (.int .i64 p.n):=by unfold World.cell?;rw[hbx];rfl
 have e3:W.cell? ⟨bx,3,none⟩=some (.slice ao p.kids.length cap):=by unfold World.cell?;rw[hbx];rfl
 refine callsIn_of_wp func237 rfl trivial ?_ rfl;simp only[ntmps237,List.size_toArray,List.length_cons,List.length_nil,Nat.reduceAdd,Nat.reduceSub,Array.replicate_succ,Array.replicate_zero,List.push_toArray,List.append_toArray,List.nil_append,List.cons_append]
 gi_wp2
 refine⟨trivial,λh=>(by cases h),e7y.mono ?_⟩;rintro e W4 (⟨rfl,hJ4,hK4⟩|⟨rfl,q,hq,hJ4,hK4⟩)
 .gi_wp2
  first|go_ret|go_ret2|go_end0
  rw[hL]at hJ4;exact⟨_,rfl,.inl ⟨hJ4,hK4⟩⟩
 .gi_wp2
  first|go_ret|go_ret2|go_end0
  rw[hL]at hq;exact⟨_,rfl,.inr ⟨q,hq,hJ4,hK4⟩⟩
theorem c5Z(n:Nat)(c0 c1 c2 c3:Value)(W:World):CallsIn Fence.wide n prog 216 #[.agg #[c0,c1,c2,c3]] W λe W'=>e=.returned (.func (.func 237) #[] #[.pointer (some ⟨W.heap.size,0,none⟩)])/\W'=W.alloc (.cells #[c0,c1,c2,c3] 43):=by
 refine callsIn_of_wp func216 rfl trivial ?_ rfl;simp only[ntmps216,List.size_toArray,List.length_cons,List.length_nil,Nat.reduceAdd,Nat.reduceSub,Array.replicate_succ,Array.replicate_zero,List.push_toArray,List.append_toArray,List.nil_append,List.cons_append]
 gi_wp2
 first|go_ret|go_ret2|go_end0
 exact⟨rfl,rfl⟩
theorem c9s(n:Nat){g:Operand}{ps:Array Tmp}{assign body:Code}{Q:Exit->Act->World->Prop}{a:Act}{W:World}{bx:Nat}{c0 c1 c2 c3:Value}(hg:a.eval g=.func (.func 237) #[] #[.pointer (some ⟨bx,0,none⟩)])(hbx:W.heap[bx]? =some (.cells #[c0,c1,c2,c3] 43 (0,0)))(hps:ps.size=1){R:Nat->Nat->Prop}{p:Pr}(hv:V R W (.agg #[c0,c1,c2,c3]) (.agg (oO p)))(hN:cB p<=1000000)(hR:∀b o,R b o->b<W.heap.size)(b1:Nat)(hb1:b1<W.heap.size)(hRb:∀b o,R b o->b≠b1)(hbb:bx≠b1)(I Ix:List Pr->World->Prop)(hI:∀s A B,I s A->(∀k,k<W.heap.size->B.heap[k]? =A.heap[k]?)->I s B)(hIx:∀s A B,Ix s A->(∀k,k<W.heap.size->B.heap[k]? =A.heap[k]?)->Ix s B)(h0:I [] W)(hround:∀(m l:Nat) (pre:List Pr) (q:Pr) (vq:Value) (W1:World),W.heap.size<=l->l<W1.heap.size->pre++[q] <+:a2t p->V R W vq (.agg (oO q))->bR (λk=>k=b1) W W1->I pre W1->
   assign.wpIn (Fence.wide.inRound l) m prog (Exit.then (λa₁ w₁=>bR NoX W1 w₁/\∀w2,bR (λk=>k=l) w₁ w2->body.wpIn (Fence.wide.inRound l) m prog (λe _ w3=>match e with
    | .normal=>bR (λk=>k=b1) w2 w3/\I (pre++[q]) w3
    | .ret=>bR (λk=>k=b1) w2 w3/\Ix (pre++[q]) w3
    |_=>False) a₁ w2) (λ_ _ _=>False)) {tmps:=(ps.zip #[vq]).foldl (λt (p,v)=>t.setIfInBounds p v) a.tmps,defers:=[]} W1)(hdone:∀(D:Nat) (W':World),W.heap.size<=D->I (a2t p) W'->bR (λk=>k=b1) W W'->W'.heap[D]? =some (.deferred (some []))->Q .normal {a with defers:={target:=.collected D,args:=#[]}::a.defers} W')(hstop:∀(D:Nat) (pre:List Pr) (W':World),W.heap.size<=D->pre <+:a2t p->Ix pre W'->bR (λk=>k=b1) W W'->W'.heap[D]? =some (.deferred (some []))->Q .ret {a with defers:={target:=.collected D,args:=#[]}::a.defers} W'):
  (Code.rangeFunc g ps assign body).wpIn Fence.wide n prog Q a W:=by
 refine wpIn_rangeFunc ?_;intro fn hfn;rw[show Fence.wide.round=none from rfl];obtain⟨rec,b7c⟩:∃rec:LoopState->Option Code->Loop,rec=λst pe=>{state:=st,pending:=pe,fn,tmps:=a.tmps,params:=ps,assign,body,defers:=W.heap.size}:=⟨_,rfl⟩;obtain⟨W1,hW1⟩:∃W1,(W.alloc (.deferred (some []))).alloc (.loop (rec .ready none))=W1:=⟨_,rfl⟩;have hL1:W1.heap[W.heap.size+1]? =some (.loop (rec .ready none)):=by rw[<-hW1];have:=World.alloc_heap_new (W.alloc (.deferred (some []))) (.loop (rec .ready none));rwa[World.size_alloc]at this
 have hD1:W1.heap[W.heap.size]? =some (.deferred (some [])):=by rw[<-hW1];exact(Below.heap_alloc _ _ _ (by simp)).trans (World.alloc_heap_new W _)
 have hK1:bR NoX W W1:=by rw[<-hW1];exact((bR.refl _ _).alloc _).alloc _
 have hs1:W1.heap.size=W.heap.size+2:=by rw[<-hW1];simp
 have hI1:I [] W1:=hI _ _ _ h0 λk hk=>hK1.block k hk id;have hv1:V R W1 (.agg #[c0,c1,c2,c3]) (.agg (oO p)):=hv.step (λ_ _ h=>h) λb o hbo=>hK1.cell (hR b o hbo) id;have yH:∀ {A:World},bR (λk=>k=W.heap.size+1\/k=b1) W1 A->bR (λk=>k=b1) W A:=λh=>⟨h.os.trans hK1.os,h.tape.trans hK1.tape,h.output.trans hK1.output,Nat.le_trans hK1.size h.size,λk hk hx=>(h.block k (by omega) (by rintro(e|e);(· omega);exact hx e)).trans (hK1.block k hk id)⟩
 refine⟨W.heap.size+1,[{target:=.collected W.heap.size,args:=#[]}],W1,{target:=.fn (.func 237) #[.pointer (some ⟨bx,0,none⟩)],args:=#[.func (.yield (W.heap.size+1)) #[] #[]]},W1,237,
  #[.func (.yield (W.heap.size+1)) #[] #[],.pointer (some ⟨bx,0,none⟩)],W1,?_,?_,?_,?_,λh=>(by cases h),?_⟩
 .rw[<-hW1,b7c];exact run_enterLoop_outer _ _ _ _ _
 .simp only[resolve,hg];simp[go_sem]
 .exact λf' _=>trivial
 .simp[invoke,go_sem,enters_of func237 (by kernel_rfl) rfl]
 .refine(c2C (a2t p) (W.heap.size+1) (λk=>k=W.heap.size+1\/k=b1) R W1 (λb o hbo=>by rintro(e|e);(· have:=hR b o hbo;omega);exact hRb b o hbo e) (λb o hbo=>by have:=hR b o hbo;omega) (λk hk=>by rcases hk with e|e<;>omega)
   (λpre A=>I pre A/\A.heap[W.heap.size+1]? =some (.loop (rec .ready none))/\A.heap[W.heap.size]? =some (.deferred (some [])))
   (λpre A=>Ix pre A/\A.heap[W.heap.size+1]? =some (.loop (rec .done (some .ret)))/\A.heap[W.heap.size]? =some (.deferred (some [])))
   ?hj ?hy p _ c0 c1 c2 c3 W1 bx ((hK1.block _ (f2W.1 hbx).1 id).trans hbx) hN rfl hv1 (bR.refl _ _) ⟨hI1,hL1,hD1⟩).mono ?_
  case hj=>rintro s A B ⟨hi,hl,hd⟩ hk;have aI:W.heap.size+1<A.heap.size:=(f2W.1 hl).1;exact⟨hI _ _ _ hi λk hk'=>hk.block k (by omega) id,(hk.block _ aI id).trans hl,(hk.block _ (by omega) id).trans hd⟩
  case hy=>
   rintro m pre vq q A b3U hvq hKA ⟨hi,hl,hd⟩;have aI:W.heap.size+1<A.heap.size:=(f2W.1 hl).1;have hy:=run_yield (P:=prog) (args:=#[vq]) hl (by rw[b7c];exact hps.symm);rw[b7c]at hy;refine⟨fn,_,assign,body,hy,roundIn_of_wpIn hfn ?_⟩
   clear hy
   have hvW:V R W vq (.agg (oO q)):=hvq.step (λ_ _ h=>h) λb o hbo=>(hK1.cell (hR b o hbo) id).symm;refine wpIn_mono (hround m (W.heap.size+1) pre q vq A (by omega) aI b3U hvW (yH hKA) hi) ?_;rintro e a1 w1 hq;cases e with
   |normal=>
    obtain⟨hka,mZ⟩:=hq;have hl1:=(hka.block _ aI id).trans hl;refine⟨_,run_beginRound hl1 (by rw[b7c]),?_⟩;have hkb:bR (λk=>k=W.heap.size+1) w1 (w1.putObj (W.heap.size+1) (.loop {rec .ready none with state:=.busy})):=bR.putObj (X:=λk=>k=W.heap.size+1) _ rfl _;have hl2:(w1.putObj (W.heap.size+1) (.loop {rec .ready none with state:=.busy})).heap[W.heap.size+1]? =some (.loop {rec .ready none with state:=.busy}):=World.putObj_heap_same (f2W.1 hl1).1;have hU:=hka.size;refine wpIn_mono (mZ _ hkb) ?_;have fin:∀(jump:Option Code) (w3:World),bR (λk=>k=b1) (w1.putObj (W.heap.size+1) (.loop {rec .ready none with state:=.busy})) w3->
      (Instr.endRound (W.heap.size+1) jump).run prog w3=.ok (.bool jump.isNone) (w3.putObj (W.heap.size+1) (.loop (rec (if jump.isNone then .ready else .done) jump)))/\
      (w3.putObj (W.heap.size+1) (.loop (rec (if jump.isNone then .ready else .done) jump))).heap[W.heap.size+1]? =some (.loop (rec (if jump.isNone then .ready else .done) jump))/\
      (w3.putObj (W.heap.size+1) (.loop (rec (if jump.isNone then .ready else .done) jump))).heap[W.heap.size]? =some (.deferred (some []))/\
      bR (λk=>k=W.heap.size+1\/k=b1) A (w3.putObj (W.heap.size+1) (.loop (rec (if jump.isNone then .ready else .done) jump))):=λjump w3 hk3=>by
     have hl3:=(hk3.block _ (by simp;omega) (by omega)).trans hl2;have:=run_endRound (P:=prog) jump hl3;rw[b7c]at this|-;refine⟨this,World.putObj_heap_same (f2W.1 hl3).1,?_,?_⟩
     .refine(World.putObj_heap_other (by omega)).trans ((hk3.block _ (by simp;omega) (by omega)).trans ?_);exact(World.putObj_heap_other (by omega)).trans ((hka.block _ (by omega) id).trans hd)
     .exact(hka.weaken λ_ h=>h.elim).trans ((hkb.weaken λ_ h=>.inl h).trans ((hk3.weaken λ_ h=>.inr h).trans (bR.putObj _ (.inl rfl) _)))
    rintro e a3 w3 hp;cases e with
    |normal=>obtain⟨hk3,hi3⟩:=hp;obtain⟨h1,h2,h3,h4⟩:=fin none w3 hk3;exact⟨_,_,h1,.inl ⟨rfl,⟨hI _ _ _ hi3 λk hk=>World.putObj_heap_other (by omega),h2,h3⟩,h4⟩⟩
    |ret=>obtain⟨hk3,hi3⟩:=hp;obtain⟨h1,h2,h3,h4⟩:=fin (some .ret) w3 hk3;exact⟨_,_,h1,.inr ⟨rfl,⟨hIx _ _ _ hi3 λk hk=>World.putObj_heap_other (by omega),h2,h3⟩,h4⟩⟩
    |exit id=>exact hp.elim
    |goto t=>exact hp.elim
    |panic ch=>exact hp.elim
    |outgrown=>exact hp.elim
   |ret=>exact hq.elim
   |exit id=>exact hq.elim
   |goto t=>exact hq.elim
   |panic ch=>exact hq.elim
   |outgrown=>exact hq.elim
  .rintro e W2 ⟨v,rfl,(⟨⟨hi,hl,hd⟩,hK⟩|⟨pre,b3U,⟨hi,hl,hd⟩,hK⟩)⟩
   .refine⟨none,_,by have:=run_endLoop (P:=prog) hl (by rw[b7c];simp);rw[b7c]at this;exact this,?_⟩;exact hdone _ _ (f3d _) (hI _ _ _ hi λk hk=>World.putObj_heap_other (by omega)) (yH (hK.trans (bR.putObj _ (.inl rfl) _))) ((World.putObj_heap_other (by omega)).trans hd)
   .refine⟨some .ret,_,by have:=run_endLoop (P:=prog) hl (by rw[b7c];simp);rw[b7c]at this;exact this,?_⟩;exact wpIn_ret (hstop _ pre _ (f3d _) b3U (hIx _ _ _ hi λk hk=>World.putObj_heap_other (by omega)) (yH (hK.trans (bR.putObj _ (.inl rfl) _))) ((World.putObj_heap_other (by omega)).trans hd))
theorem a4i{W:World}{b:Nat}{v:Value}{T:TypeId}(h:W.heap[b]? =some (.cells #[v] T (0,0))):W.cell? ⟨b,0,none⟩=some v/\W.frozen? ⟨b,0,none⟩=false:=by unfold World.cell? World.frozen?;rw[h];simp
theorem xQ{W:World}{b:Nat}{cs:Array Value}{T:TypeId}(h:W.heap[b]? =some (.cells cs T (0,0)))(j:Nat)(v:Value)(hj:cs[j]? =some v):W.cell? ⟨b,j,none⟩=some v:=by unfold World.cell?;rw[h];simp[hj]
theorem b7d{W:World}{b:Nat}{v:Value}{T:TypeId}(h:W.heap[b]? =some (.cells #[v] T (0,0)))(u:Value):(W.setCell ⟨b,0,none⟩ u).heap[b]? =some (.cells #[u] T (0,0)):=by
 obtain⟨aI,hh⟩:=f2W.1 h
 show(W.heap.modify b _)[b]? =_
 rw[f3f (by rw[Array.size_modify];exact aI),Array.getElem_modify_self,hh];simp
theorem bR.set{X:Nat->Prop}(A:World){b:Nat}(hl:X b)(u:Value):bR X A (A.setCell ⟨b,0,none⟩ u):=⟨rfl,rfl,rfl,by show A.heap.size<=(A.heap.modify _ _).size;rw[Array.size_modify];exact f3d _,λk _ hx=>Below.heap_setCell A ⟨b,0,none⟩ u k λe=>hx (by rw[show k=b from e];exact hl)⟩
def a2u(e:Pr->Int):List Pr->Int
 |[]=>0
 |p::r=>if e p=0 then a2u e r else e p
theorem b0a{e:Pr->Int}:∀ {l:List Pr},(∀q∈l,e q=0)->a2u e l=0
 |[],_=>rfl
 |p::r,h=>by rw[a2u,if_pos (h p (by simp))];exact b0a λq hq=>h q (by simp[hq])
theorem b5z{e:Pr->Int}{p:Pr}:∀ {l r:List Pr},(∀q∈l,e q=0)->e p≠0->a2u e (l++p::r)=e p
 |[],r,_,hp=>by simp[a2u,hp]
 |q::l,r,h,hp=>by rw[List.cons_append,a2u,if_pos (h q (by simp))];exact b5z (λq hq=>h q (by simp[hq])) hp
def b7e(e:Pr->Int)(p:Pr):Int:=if 400<cB p then 7 else if 40<b2p p then 8 else a2u e (a2t p)
theorem b4i{G:GT}(e:Pr->Int)(p:Pr)(hN:cB p<=1000000)(e7A:CS prog G 214 [.agg (oO p)] (.d (.int .i64 (cB p))) none)(e7B:CS prog G 215 [.agg (oO p)] (.d (.int .i64 (b2p p))) none)(e3T:∀q∈a2t p,CS prog G 217 [.agg (oO q)] (.d (.int .i64 (e q))) none):CS prog G 199 [.agg (oO p)] (.d (.int .i64 (b7e e p))) none:=by
 refine CS.c3L λw R args hg hR hs hv=>?_;have ha:args=#[args.getD 0 undef]:=by
  obtain⟨l⟩:=args
  match l,hs with
  |[a],_=>rfl
 have hv0:=hv 0 _ rfl;rw[ha];generalize args.getD 0 undef=v at hv0
 clear hv ha hs args
 obtain⟨ao,cap,nm,rfl,hk⟩:=c9o hv0;refine(callsIn_wide (n:=10)).1 (callsIn_of_wp_marks func199 rfl trivial ?_ rfl);simp only[ntmps199,List.size_toArray,List.length_cons,List.length_nil,Nat.reduceAdd,Nat.reduceSub,Array.replicate_succ,Array.replicate_zero,List.push_toArray,List.append_toArray,List.nil_append,List.cons_append];have a0p:∀ {f:FuncId} {z:Int} (m:Nat) (q:Pr) (vq:Value) (W:World),CS prog G f [.agg (oO q)] (.d (.int .i64 z)) none->V R w vq (.agg (oO q))->bR NoX w W->
   CallsIn Fence.wide m prog f #[vq] W λe w'=>e=.returned (.int .i64 z)/\bR NoX W w':=λm q vq W hc hvq hW=>by
  refine d4V hc (R:=R) m (c5Y hg hW.size hR λk hk=>hW.block k hk id) (λb o hbo=>Nat.lt_of_lt_of_le (hR b o hbo) hW.size) rfl λi d hd=>?_
  match i,hd with
  |0,hd=>cases hd;exact hvq.step (λ_ _ h=>h) λb o hbo=>hW.cell (hR b o hbo) id
 gi_wp2
 obtain⟨W2,hW2⟩:∃W2,(w.alloc (.cells #[.int .i64 p.op,.string nm,.int .i64 p.n,.slice ao p.kids.length cap] 43)).alloc (.cells #[.int .i64 0] 31)=W2:=⟨_,rfl⟩;have hK2:bR NoX w W2:=by rw[<-hW2];exact((bR.refl _ _).alloc _).alloc _
 have hs2:W2.heap.size=w.heap.size+2:=by rw[<-hW2];simp
 have hB2:W2.heap[w.heap.size+1]? =some (.cells #[.int .i64 0] 31 (0,0)):=by rw[<-hW2];have:=World.alloc_heap_new (w.alloc (.cells #[.int .i64 p.op,.string nm,.int .i64 p.n,.slice ao p.kids.length cap] 43)) (.cells #[.int .i64 0] 31);rwa[World.size_alloc]at this
 have hA2:W2.heap[w.heap.size]? =some (.cells #[.int .i64 p.op,.string nm,.int .i64 p.n,.slice ao p.kids.length cap] 43 (0,0)):=by rw[<-hW2];exact(Below.heap_alloc _ _ _ (by simp)).trans (World.alloc_heap_new w _)
 rw[hW2];refine⟨trivial,(a0p _ p _ _ e7A hv0 hK2).mono ?_⟩;rintro _ W3 ⟨rfl,hK3⟩;have hB3:=(hK3.block _ (by omega) id).trans hB2;have hA3:=(hK3.block _ (by omega) id).trans hA2;have hs3:=hK3.size;obtain⟨hc3,hf3⟩:=a4i hB3;have q0:=(xQ hA3 0 _ rfl);have q1:=(xQ hA3 1 _ rfl);have q2:=(xQ hA3 2 _ rfl);have q3:=(xQ hA3 3 _ rfl);have fin:∀ {W:World} {z:Int} {K:World},K.heap[w.heap.size+1]? =some (.cells #[.int .i64 z] 31 (0,0))->bR NoX w W->z=b7e e p->∃v,Ending.returned (.int .i64 z)=.returned v/\V R W v (.int .i64 (b7e e p))/\Below w.heap.size w W:=λh hk hz=>⟨_,rfl,hz▸ .int _ _,⟨hk.os,hk.tape,hk.output,hk.size,λk h'=>hk.block k h' id⟩⟩;by_cases h1:400<cB p
 .gi_wp2
  have hS:=b7d hB3 (.int .i64 7);have hc:=(a4i hS).1;exact⟨_,by simp[results,f199,go_sem,hc],fin hS (a4h (((hK2.trans hK3).weaken λ_ h=>h.elim).trans (bR.set (X:=λk=>k=w.heap.size+1) _ rfl _)) (by intro k hk;omega)) (by simp[b7e,h1])⟩
 .gi_wp2
  refine⟨trivial,(a0p _ p _ _ e7B hv0 (hK2.trans hK3)).mono ?_⟩;rintro _ W4 ⟨rfl,hK4⟩;have hs4:=hK4.size;have hB4:=(hK4.block _ (by omega) id).trans hB3;have hA4:=(hK4.block _ (by omega) id).trans hA3;obtain⟨hc4,hf4⟩:=a4i hB4;have r0:=(xQ hA4 0 _ rfl);have r1:=(xQ hA4 1 _ rfl);have r2:=(xQ hA4 2 _ rfl);have r3:=(xQ hA4 3 _ rfl);have e3X:=(hK2.trans hK3).trans hK4;by_cases h2:40<b2p p
  .gi_wp2
   have hS:=b7d hB4 (.int .i64 8);have hc:=(a4i hS).1;exact⟨_,by simp[results,f199,go_sem,hc],fin hS (a4h ((e3X.weaken λ_ h=>h.elim).trans (bR.set (X:=λk=>k=w.heap.size+1) _ rfl _)) (by intro k hk;omega)) (by simp[b7e,h1,h2])⟩
  .gi_wp2
   refine⟨trivial,(c5Z _ _ _ _ _ _).mono ?_⟩;rintro _ W5 ⟨rfl,rfl⟩
   gi_wp2
   obtain⟨W5,hW5⟩:∃W5,W4.alloc (.cells #[.int .i64 p.op,.string nm,.int .i64 p.n,.slice ao p.kids.length cap] 43)=W5:=⟨_,rfl⟩;have hK5:bR NoX W4 W5:=by rw[<-hW5];exact(bR.refl _ _).alloc _
   have hB5:=(hK5.block _ (by omega) id).trans hB4;have hA5:W5.heap[W4.heap.size]? =some (.cells #[.int .i64 p.op,.string nm,.int .i64 p.n,.slice ao p.kids.length cap] 43 (0,0)):=by rw[<-hW5];exact World.alloc_heap_new _ _
   have hs5:W5.heap.size=W4.heap.size+1:=by rw[<-hW5];simp
   have c9t:=e3X.trans hK5;rw[hW5];refine c9s 10 (W:=W5) (R:=R) (p:=p) rfl hA5 rfl (hv0.step (λ_ _ h=>h) λb o hbo=>c9t.cell (hR b o hbo) id) hN (λb o hbo=>by have:=hR b o hbo;omega) (w.heap.size+1) (by omega) (λb o hbo=>by have:=hR b o hbo;omega) (by omega)
    (λpre A=>A.heap[w.heap.size+1]? =some (.cells #[.int .i64 0] 31 (0,0))/\∀q∈pre,e q=0)
    (λpre A=>∃c9u q,pre=c9u++[q]/\(∀x∈c9u,e x=0)/\e q≠0/\A.heap[w.heap.size+1]? =some (.cells #[.int .i64 (e q)] 31 (0,0)))
    (λs A B h hk=>⟨(hk _ (by omega)).trans h.1,h.2⟩) (λs A B ⟨c9u,q,h1,h2,h3,h4⟩ hk=>⟨c9u,q,h1,h2,h3,(hk _ (by omega)).trans h4⟩) ⟨hB5,by simp⟩ ?hround ?hdone ?hstop
   case hround=>
    rintro m l pre q vq W6 hl hl6 b3U hvq hK6 ⟨hB6,hz⟩;obtain⟨ao2,e7w,nm2,rfl,_⟩:=c9o hvq;have hqm:q∈a2t p:=b3U.subset (by simp);have hvw:V R w _ (.agg (oO q)):=hvq.step (λ_ _ h=>h) λb o hbo=>(c9t.cell (hR b o hbo) id).symm
    gi_wp2
    refine⟨(bR.refl _ _).alloc _,λw2 xF=>?_⟩;have hA7:=(xF.block W6.heap.size (by simp) (by omega)).trans (World.alloc_heap_new _ _);have hs6:=hK6.size;have hB7:=((xF.block (w.heap.size+1) (by simp;omega) (by omega)).trans (Below.heap_alloc _ _ _ (by omega))).trans hB6;have hs7:=xF.size;simp only[World.size_alloc]at hs7;have e7F:bR NoX w w2:=a4h (X:=λk=>k=w.heap.size+1\/k=l) ((c9t.weaken λ_ h=>h.elim).trans ((hK6.weaken λ_ h=>.inl h).trans (((bR.refl _ _).alloc _).trans (xF.weaken λ_ h=>.inr h)))) (by rintro k (hk|hk)<;>omega);have t0:=(xQ hA7 0 _ rfl);have t1:=(xQ hA7 1 _ rfl);have t2:=(xQ hA7 2 _ rfl);have t3:=(xQ hA7 3 _ rfl)
    gi_wp2
    refine⟨trivial,λh=>(by cases h),(CallsIn.inRound l (a0p _ q _ _ (e3T q hqm) hvw e7F)).mono ?_⟩;rintro _ W8 ⟨rfl,hK8⟩;have hB8:=(hK8.block _ (by omega) id).trans hB7;obtain⟨hc8,hf8⟩:=a4i hB8;by_cases he:e q=0
    .gi_wp2
     have cY:∀x,x∈pre\/x=q->e x=0:=λx hx=>hx.elim (hz x) λhx=>by subst hx;exact he
     first|exact cY|exact⟨hK8.up,cY⟩|exact⟨hK8.up,hB8,cY⟩
    .gi_wp2
     have hS:=b7d hB8 (.int .i64 (e q));exact⟨hK8.up.trans (bR.set (X:=λk=>k=w.heap.size+1) _ rfl _),pre,q,⟨rfl,rfl⟩,hz,he,hS⟩
   case hdone=>
    rintro D W' hD ⟨hB',hz⟩ hK' hD';obtain⟨xA,hf'⟩:=a4i hB'
    gi_wp2
    have hS:=b7d hB' (.int .i64 0);have hDs:=((bR.set (X:=λk=>k=w.heap.size+1) W' rfl (.int .i64 0)).block D (f2W.1 hD').1 (by omega)).trans hD';refine⟨by simp,.inl ⟨_,_,rfl,run_takeDeferred hDs,?_⟩⟩;have hS2:=(World.putObj_heap_other (r:=D) (o:=.deferred none) (show w.heap.size+1≠D by omega)).trans hS;have hc:=(a4i hS2).1;exact⟨_,by simp[results,f199,go_sem,hc],fin hS2 (a4h (X:=λk=>k=w.heap.size+1\/k=D) ((c9t.weaken λ_ h=>h.elim).trans ((hK'.weaken λ_ h=>.inl h).trans ((bR.set (X:=λk=>k=w.heap.size+1\/k=D) _ (.inl rfl) _).trans (bR.putObj _ (.inr rfl) _)))) (by rintro k (hk|hk)<;>omega)) (by simp[b7e,h1,h2,b0a hz])⟩
   case hstop=>
    rintro D pre W' hD b3U ⟨c9u,q,rfl,hz,hq,hB'⟩ hK' hD'
    gi_wp2
    refine⟨by simp,.inl ⟨_,_,rfl,run_takeDeferred hD',?_⟩⟩;have hS2:=(World.putObj_heap_other (r:=D) (o:=.deferred none) (show w.heap.size+1≠D by omega)).trans hB';have hc:=(a4i hS2).1;have hfe:a2u e (a2t p)=e q:=by obtain⟨r,hr⟩:=b3U;rw[<-hr,List.append_assoc];exact b5z hz hq
    exact⟨_,by simp[results,f199,go_sem,hc],fin hS2 (a4h (X:=λk=>k=w.heap.size+1\/k=D) ((c9t.weaken λ_ h=>h.elim).trans ((hK'.weaken λ_ h=>.inl h).trans (bR.putObj _ (.inr rfl) _))) (by rintro k (hk|hk)<;>omega)) (by simp[b7e,h1,h2,hfe])⟩
end Go.Proofs.YtjpodcmhcenjjaaGreatDoor
end
section
namespace Go.Proofs.YtjpodcmhcenjjaaGreatDoor
open Go Go.VM
variable {G:GT}
def b0t(op:Int):Bool:=decide (op=3)||(decide (op=4)||decide (op=5))
def tC(op:Int):Int:=if op=1\/op=2\/op=3 then 0 else if op=4\/op=5 then 1 else if op=9\/op=14 then 1 else 2
def a0M(op:Int):Int:=if op=1\/op=2\/op=3 then 0 else if op=4\/op=5 then 24 else if op=9\/op=14 then 1 else 2
def c4g(l:List Pr):Int:=match l with
 |[]=>1
 |k::_=>k.op
def b0b(op:Int)(nm:Nm):Bool:=(decide (op=3)&&decide (nm=[118]))||(decide (op=4)&&(decide (nm=[116,97,103])||decide (nm=[118,97,108])))
def a6y(op:Int)(nm:Nm)(n:Int)(len:Int):Bool:=(!b0t op&& !decide (nm=[]))||(!decide (op=1)&& !decide (op=2)&& !decide (n=0))||decide (len<tC op)||decide (a0M op<len)
def a2v(op n:Int):Bool:=(decide (op=1)&& !inB n)||(decide (op=2)&& !decide (n=0)&& !decide (n=1))
def b5A(p:Pr):Int:=
 if p.op<1\/18<p.op then 1
 else if a6y p.op p.name p.n p.kids.length then 1
 else if a2v p.op p.n then 2
 else if b0t p.op&& !a1z p.name&& !b0b p.op p.name then 3
 else if p.op=8/\c4g p.kids≠1 then 6
 else 0
theorem oU:VM.Enters prog 240:=.mk func240 rfl
theorem qB(op:Int):CS prog G 240 [.int .i64 op] (.d (.bool (b0t op))) none:=by
 refine CS.aZ func240 rfl ntmps240 rfl ?_;by_cases h3:op=3
 .simp[h3,b0t]
 .by_cases h4:op=4
  .simp[h4,b0t]
  .simp[h3,h4,b0t]
theorem b4j:VM.Enters prog 239:=.mk func239 rfl
theorem b7f(op:Int):CS prog G 239 [.int .i64 op] (.cJ [.int .i64 (tC op),.int .i64 (a0M op)]) none:=by
 refine CS.aZ func239 rfl ntmps239 rfl ?_;by_cases h1:op=1
 .simp[h1,tC,a0M]
 by_cases h2:op=2
 .simp[h2,tC,a0M]
 by_cases h3:op=3
 .simp[h3,tC,a0M]
 by_cases h4:op=4
 .simp[h4,tC,a0M]
 by_cases h5:op=5
 .simp[h5,tC,a0M]
 by_cases h9:op=9
 .simp[h9,tC,a0M]
 by_cases h14:op=14
 .simp[h14,tC,a0M]
 .simp[h1,h2,h3,h4,h5,h9,h14,tC,a0M]
theorem c6a{op:Int}(h:b0t op=true):op=3\/op=4\/op=5:=by simpa[b0t]using h
theorem c6b{op:Int}(h:b0t op=false): ¬op=3/\ ¬op=4/\ ¬op=5:=by simpa[b0t]using h
theorem b7g(hG:G 1=some dK)(p:Pr)(hlen:p.kids.length<=900000000):CS prog G 217 [.agg (prD p)] (.d (.int .i64 (b5A p))) none:=by
 obtain⟨op,nm,n,l⟩:=p;simp only at hlen;have hm:b5A ⟨op,nm,n,l⟩=if op<1\/18<op then 1 else if a6y op nm n l.length then 1 else if a2v op n then 2 else if b0t op&& !a1z nm&& !b0b op nm then 3 else if op=8/\c4g l≠1 then 6 else 0:=rfl;refine CS.aZ func217 rfl ntmps217 rfl ?_;by_cases a1:op<1
 .simp[a1]at hm;simp[a1,hm]
 by_cases a2:18<op
 .simp[a2]at hm;simp[a1,a2,hm]
 rw[if_neg (by omega)]at hm;simp[a1,a2];refine aE.mk b4j (b7f op) ?_;simp;refine aE.mk oU (qB op) ?_;cases hn:b0t op
 .obtain⟨n3,n4,n5⟩:=c6b hn;by_cases b1:nm=[];rotate_left
  .have b1':nm.isEmpty=false:=by cases nm<;>simp at b1|-
   simp[a6y,hn,b1]at hm;simp (maxSteps:=4000000) [hn,b1,b1',hm]
  subst b1;by_cases o1:op=1
  .subst o1;have el:tC 1=0:=rfl;have em:a0M 1=0:=rfl;by_cases k0:l=[];rotate_left
   .have kl:0<l.length:=List.length_pos_iff.2 k0;have kl': ¬((l.length:Int)<0):=by omega
    simp[a6y,hn,el,em,kl,kl']at hm;simp (maxSteps:=4000000) [hn,el,em,kl,kl',hm]
   subst k0;simp[a6y,hn,el,em]at hm;simp (maxSteps:=4000000) [hn,el,em];refine aE.mk b9u (c3O n) ?_;cases hi:inB n
   .simp[a2v,hi]at hm;simp[hm]
   .simp[a2v,hi]at hm;simp;refine aE.mk oU (qB 1) ?_;simp (maxSteps:=4000000) [hn,hm]
  by_cases o2:op=2
  .subst o2;have el:tC 2=0:=rfl;have em:a0M 2=0:=rfl;by_cases k0:l=[];rotate_left
   .have kl:0<l.length:=List.length_pos_iff.2 k0;have kl': ¬((l.length:Int)<0):=by omega
    simp[a6y,hn,el,em,kl,kl']at hm;simp (maxSteps:=4000000) [hn,el,em,kl,kl',hm]
   subst k0;simp[a6y,hn,el,em]at hm;by_cases c0:n=0
   .simp[a2v,c0]at hm;simp (maxSteps:=4000000) [hn,el,em,c0];refine aE.mk oU (qB 2) ?_;simp (maxSteps:=4000000) [hn,hm]
   .by_cases c1:n=1
    .simp[a2v,c1]at hm;simp (maxSteps:=4000000) [hn,el,em,c1];refine aE.mk oU (qB 2) ?_;simp (maxSteps:=4000000) [hn,hm]
    .simp[a2v,c0,c1]at hm;simp (maxSteps:=4000000) [hn,el,em,c0,c1,hm]
  by_cases c0:n=0;rotate_left
  .simp[a6y,hn,o1,o2,c0]at hm;simp (maxSteps:=4000000) [hn,o1,o2,c0,hm]
  subst c0;by_cases d1:(l.length:Int)<tC op
  .simp[a6y,hn,d1]at hm;simp (maxSteps:=4000000) [hn,o1,o2,d1,hm]
  by_cases d2:a0M op<(l.length:Int)
  .simp[a6y,hn,d1,d2]at hm;simp (maxSteps:=4000000) [hn,o1,o2,d1,d2,hm]
  simp[a6y,a2v,hn,o1,o2,d1,d2]at hm;simp (maxSteps:=4000000) [hn,o1,o2,d1,d2];refine aE.mk oU (qB op) ?_;by_cases o8:op=8
  .subst o8;have el:tC 8=2:=rfl
   match l,d1 with
   |[],d1=>exact absurd (by rw[el];simp) d1
   |k::r,d1=>
    by_cases e1:k.op=1
    .simp[c4g,e1]at hm;simp (maxSteps:=4000000) [hn,e1,hm]
    .simp[c4g,e1]at hm;simp (maxSteps:=4000000) [hn,e1,hm]
  .simp[o8]at hm;simp (maxSteps:=4000000) [hn,o8,hm]
 .have ho:=c6a hn;have o1: ¬op=1:=by omega
  have o2: ¬op=2:=by omega
  have o8: ¬op=8:=by omega
  by_cases c0:n=0;rotate_left
  .simp[a6y,hn,o1,o2,c0]at hm;simp (maxSteps:=4000000) [hn,o1,o2,c0,hm]
  subst c0;by_cases d1:(l.length:Int)<tC op
  .simp[a6y,hn,d1]at hm;simp (maxSteps:=4000000) [hn,o1,o2,d1,hm]
  by_cases d2:a0M op<(l.length:Int)
  .simp[a6y,hn,d1,d2]at hm;simp (maxSteps:=4000000) [hn,o1,o2,d1,d2,hm]
  simp[a6y,a2v,hn,o1,o2,o8,d1,d2]at hm;simp (maxSteps:=4000000) [hn,o1,o2,d1,d2];refine aE.mk oU (qB op) ?_;simp[hn];refine aE.mk c2e (c5y hG nm) ?_;cases hc:a1z nm;rotate_left
  .simp[hc]at hm;simp[b0M,o8,hm]
  simp[hc]at hm;simp[b0M];by_cases o3:op=3
  .subst o3;by_cases v1:nm=[118]
   .simp[b0b,v1]at hm;simp[v1,hm]
   .simp[b0b,v1]at hm;simp[v1,hm]
  by_cases o4:op=4
  .subst o4;by_cases v1:nm=[116,97,103]
   .simp[b0b,v1]at hm;simp[v1,hm]
   .by_cases v2:nm=[118,97,108]
    .simp[b0b,v2]at hm;simp[v2,hm]
    .simp[b0b,v1,v2]at hm;simp[v1,v2,hm]
  .simp[b0b,o3,o4]at hm;simp[o3,o4,hm]
theorem b2t:VM.Enters prog 214:=.mk func214 rfl
theorem b4k(p:Pr):cB p<=900000000->CS prog G 214 [.agg (prD p)] (.d (.int .i64 (cB p))) none:=by
 revert p
 refine Pr.ind λp ih=>?_;obtain⟨op,nm,n,l⟩:=p;intro hN;simp only at ih;have hn:=rT ⟨op,nm,n,l⟩;simp only at hn;have hl:=kM l;refine CS.aZ func214 rfl ntmps214 rfl ?_;simp;refine SW.eL (ι:={i:Nat//i<=l.length}) (λi=>[(3,.d (.int .i64 (1+dT (l.take i.1):Nat))),(9,.d (.int .i64 i.1))]) (λ_=>[(1,prO op nm n (.sl (l.map oO)))]) (λ_=>[]) (λi=>l.length-i.1) ⟨0,by simp⟩ (by simp[dT]) ?_;rintro⟨i,hi⟩;by_cases aI:i<l.length
 .have hg:=wH aI;have hw:=bC (show i<9223372036854775807 by omega);have hb2:=tA aI;have hb3:=kS l (i+1);have hw2:IntKind.i64.wrap (((1+dT (l.take i):Nat):Int)+(cB l[i]:Int))=((1+dT (l.take (i+1)):Nat):Int):=by rw[wrap64 (by omega),hb2];omega
  simp[aI,hg];refine aE.mk b2t (ih l[i] (List.getElem_mem aI) (by omega)) ?_;simp;exact bJ.mk ⟨i+1,aI⟩ (by simp at hw2;simp[hw,hw2]) (by simp;omega)
 .have:i=l.length:=by omega
  subst this;simp[hn]
theorem b2u:VM.Enters prog 215:=.mk func215 rfl
theorem b4l(p:Pr):cB p<=900000000->CS prog G 215 [.agg (prD p)] (.d (.int .i64 (b2p p))) none:=by
 revert p
 refine Pr.ind λp ih=>?_;obtain⟨op,nm,n,l⟩:=p;intro hN;simp only at ih;have hn:=rT ⟨op,nm,n,l⟩;have hd:=c4d ⟨op,nm,n,l⟩;simp only at hn hd;have hl:=kM l;have hle:=a7P l 0;refine CS.aZ func215 rfl ntmps215 rfl ?_;simp;refine SW.eL (ι:={i:Nat//i<=l.length}) (λi=>[(3,.d (.int .i64 (sD (l.take i.1) 0))),(9,.d (.int .i64 i.1))]) (λ_=>[(1,prO op nm n (.sl (l.map oO)))]) (λ_=>[]) (λi=>l.length-i.1) ⟨0,by simp⟩ (by simp[sD]) ?_;rintro⟨i,hi⟩;by_cases aI:i<l.length
 .have hg:=wH aI;have hw:=bC (show i<9223372036854775807 by omega);have hs:=b2q aI 0;have hb2:=tA aI;have hb3:=kS l (i+1);simp[aI,hg];refine aE.mk b2u (ih l[i] (List.getElem_mem aI) (by omega)) ?_;simp;exact bJ.mk ⟨i+1,aI⟩ (by simp[hw,hs];split<;>omega) (by simp;omega)
 .have:i=l.length:=by omega
  subst this;have hw:IntKind.i64.wrap ((sD l 0:Int)+1)=((sD l 0+1:Nat):Int):=bC (by omega);simp[hw,hd]
mutual
theorem c0d:∀(p q:Pr),q∈a2t p->cB q<=cB p
 |⟨op,nm,n,l⟩,q,h=>by
  simp only[a2t,List.mem_cons]at h;rcases h with rfl|h
  .exact f3d _
  .have:=b5B l q h;simp only[cB];omega
theorem b5B:∀(l:List Pr) (q:Pr),q∈oT l->cB q<=dT l
 |[],q,h=>by simp[oT]at h
 |t::r,q,h=>by
  simp only[oT,List.mem_append]at h;simp only[dT];rcases h with h|h
  .have:=c0d t q h;omega
  .have:=b5B r q h;omega
end
def b2v(p:Pr):Int:=b7e b5A p
theorem b2w:VM.Enters prog 199:=.mk func199 rfl
theorem b4m(hG:G 1=some dK)(p:Pr)(hN:cB p<=1000000):CS prog G 199 [.agg (prD p)] (.d (.int .i64 (b2v p))) none:=by
 have h:=b4i (G:=G) b5A p hN (by have:=b4k (G:=G) p (by omega);rwa[eH]) (by have:=b4l (G:=G) p (by omega);rwa[eH]) (λq hq=>by
  have h1:=c0d p q hq;have h2:=rT q;have h3:=kM q.kids;have:=b7g hG q (by omega)
  rwa[eH])
 rwa[eH]at h
end Go.Proofs.YtjpodcmhcenjjaaGreatDoor
end
end
namespace Go.Proofs.YtjpodcmhcenjjaaGreatDoor
section
open Go Go.VM
variable {G:GT}
def b4n(p:Pr)(s:Pr×Bool):Option (Pr×Bool):=if a5I p then some s else if a5g p (a4g false) then none else if s.2 then some (⟨15,[],0,[s.1,p]⟩,true) else some (p,true)
def b2x:List Pr->Pr×Bool->Pr
 |[],s=>s.1
 |p::r,s=>match b4n p s with
  |none=>a4g false
  |some s=>b2x r s
def bI(a b:Pr):Pr:=b2x [a,b] (a4g true,false)
theorem b7h:VM.Enters prog 129:=.mk func129 rfl
theorem b2y(b:Bool):cB (a4g b)=1:=by cases b<;>simp[a4g,c2z,d4R,cB,dT]
theorem c9v(op:Int)(a b:Pr):cB ⟨op,[],0,[a,b]⟩=cB a+cB b+1:=by simp[cB,dT];omega
theorem c0e(L:List Pr)(hL:∀p∈L,cB p<=1000000)(hl:L.length<=1000):CS prog G 129 [.sl (L.map oO)] (.d (.agg (prD (b2x L (a4g true,false))))) none:=by
 generalize hR:b2x L (a4g true,false)=R;refine CS.aZ func129 rfl ntmps129 rfl ?_;simp;refine aE.mk qU (rY true) ?_;simp;refine SW.eL (ι:={x:Nat×Pr×Bool//x.1<=L.length/\b2x (L.drop x.1) x.2=R}) (λx=>[(4,.d (.bool x.1.2.2)),(10,.d (.int .i64 x.1.1))]) (λx=>[(2,.cells [.d (.int .i64 0),.d (.str []),.d (.int .i64 0),.d .aJ]),(3,.cells ((prD x.1.2.1).map .d))]) (λ_=>[]) (λx=>L.length-x.1.1) ⟨(0,a4g true,false),by simpa using hR⟩ (by simp) ?_;rintro⟨⟨k,out,some⟩,hk,hp⟩;simp only at hk hp;by_cases aI:k<L.length
 .have hg:(L.map oO)[k]? =.some (oO L[k]):=by simp[aI]
  have hw:=bC (show k<9223372036854775807 by omega);have hd:L.drop k=L[k]::L.drop (k+1):=f3a aI;have hb:=hL L[k] (List.getElem_mem aI);rw[hd]at hp;obtain⟨p,hP⟩:∃p,L[k]=p:=⟨_,rfl⟩;rw[hP]at hg hd hb hp;have hv:=b7a (G:=G) p (by omega);have hs:=yK (G:=G) p (a4g false) (by omega);have hc:=b2r (G:=G) p (by omega);simp only[b2x,b4n]at hp;simp[aI,hP];refine aE.mk b4h hv ?_;cases h1:a5I p with
  |true=>rw[h1]at hp;simp;exact bJ.mk ⟨(k+1,out,some),aI,by simpa using hp⟩ (by simp[hw]) (by simp;omega)
  |false=>
   rw[h1]at hp;simp;refine⟨gE.mk (by kernel_rfl),?_⟩;refine aE.mk qU (rY false) ?_;simp;refine aE.mk sN hs ?_;cases h2:a5g p (a4g false)with
   |true=>rw[h2]at hp;simp at hp;simp;refine aE.mk qU (rY false) ?_;simp[<-hp]
   |false=>
    rw[h2]at hp;cases some with
    |true=>simp;refine⟨gE.mk (by kernel_rfl),?_⟩;refine aE.mk xP hc ?_;simp;exact bJ.mk ⟨(k+1,⟨15,[],0,[out,p]⟩,true),aI,by simpa using hp⟩ (by simp[hw]) (by simp;omega)
    |false=>simp;refine aE.mk xP hc ?_;simp;exact bJ.mk ⟨(k+1,p,true),aI,by simpa using hp⟩ (by simp[hw]) (by simp;omega)
 .have hd:L.drop k=[]:=List.drop_eq_nil_of_le (by omega);rw[hd]at hp;simp only[b2x]at hp;simp[aI, <- hp]
end
section
open Go Go.VM
variable {G:GT}
abbrev b0u:Ty->DV:=λt=>.d (.agg (tyD t))
abbrev e7I:Option Ty->DV:=λo=>.cJ [.agg (tyD (o.getD sF)),.bool o.isSome]
theorem b0c:VM.Enters prog 74:=.mk func74 rfl
theorem b0v:VM.Enters prog 123:=.mk func123 rfl
theorem a4j:VM.Enters prog 77:=.mk func77 rfl
theorem cK:VM.Enters prog 39:=.mk func39 rfl
theorem a7R:VM.Enters prog 124:=.mk func124 rfl
section
variable {aG:List Tok->Nat->Nat->kX Pr} {l:List Tok} (hV:kU G aG l)
include hV
theorem b2z(i:Nat)(hi:i<l.length):pW G 74 [] l i (gS aX l i) e7I:=by
 have hl:=hV.len;have ht:=cF (G:=G) l i i 0 (by omega) (by omega) (by intro e;subst e;simp at hi) (by omega);obtain⟨j0,rfl⟩:∃j0,j0=i:=⟨_,rfl⟩;have p0:j0<=j0/\j0<l.length:=⟨f3d _,hi⟩;refine kZ.cP func74 rfl ntmps74 rfl (by simp) ?_;intro Q Q0;simp;cases h1:aQ l j0 [73,110,116]with
 |true=>refine yT h1 p0 hV.fin λp1=>?_;simp;exact Q0.ok _ (j0+1) _ _ (by unfold gS;rw[if_pos h1]) (.inr rfl) (by simp[psT,mL])
 |false=>
 refine vX h1 p0 ?_;simp;cases h2:aQ l j0 [66,111,111,108]with
 |true=>refine yT h2 p0 hV.fin λp1=>?_;simp;exact Q0.ok _ (j0+1) _ _ (by unfold gS;rw[if_neg (by rw[h1];decide),if_pos h2]) (.inr rfl) (by simp[psT,mL])
 |false=>
 refine vX h2 p0 ?_;simp;cases h3:aQ l j0 [67,101,108,108]with
 |true=>refine yT h3 p0 hV.fin λp1=>?_;simp;exact Q0.ok _ (j0+1) _ _ (by unfold gS;rw[if_neg (by rw[h1];decide),if_neg (by rw[h2];decide),if_pos h3]) (.inr rfl) (by simp[psT,mL])
 |false=>
 refine vX h3 p0 ?_;simp;refine mA (ds:=[.int .i64 0]) bP ht ?_;simp;refine jC.mk jP (kT hV.kw (aR l j0)) ?_;cases h4:mH aX (aR l j0)with
 |true=>simp;refine rdX (ds:=[]) cL (cZ hV.kw l j0 hi (by omega)) (λs j hx=>?_) (λn e hx=>by unfold bS mQ at hx;rw[if_pos h4]at hx;cases hx);unfold bS mQ at hx;rw[if_pos h4]at hx;cases hx;simp;exact Q0.ok _ (j0+1) _ _ (by unfold gS;rw[if_neg (by rw[h1];decide),if_neg (by rw[h2];decide),if_neg (by rw[h3];decide),if_pos h4]) (.inr rfl) (by simp[psT,mL])
 |false=>simp;exact Q0.ok none j0 _ _ (by unfold gS;rw[if_neg (by rw[h1];decide),if_neg (by rw[h2];decide),if_neg (by rw[h3];decide),if_neg (by rw[h4];decide)]) (.inr rfl) (by simp[sF,mL])
theorem b2A(i:Nat)(hi:i<l.length):CH prog G 123 ⟨[.ptr 100000 0],rH l i,[]⟩ ⟨[.d (.bool (b1R aX l i))],rH l i,[]⟩:=by
 have hl:=hV.len;have ht:=cF (G:=G) l i i 0 (by omega) (by omega) (by intro e;subst e;simp at hi) (by omega);have hb:=jD (G:=G) l i [123] hi (by omega);have hc:=jD (G:=G) l i [40] hi (by omega);have hw:=kT hV.kw (aR l i);unfold b1R;refine CH.aZ func123 rfl ntmps123 rfl (by simp) ?_;simp;refine b6W (i:=i) (ds:=[.int .i64 0]) bP ht ?_;generalize aR l i=T at ht hw|-;obtain⟨k,x,n,ln⟩:=T;simp[cH];refine aE.mk jP hw ?_;cases h1:mH aX ⟨k,x,n,ln⟩with
 |true=>simp
 |false=>
  by_cases h2:k=2
  .simp[h2,sM]
  .simp[h2,sM];refine b6W (i:=i) (ds:=[.str [123]]) eO hb ?_;cases h3:aQ l i [123]with
   |true=>simp
   |false=>simp;refine b6W (i:=i) (ds:=[.str [40]]) eO hc ?_;simp
def TyI(t:Ty)(i j:Nat):Prop:=(t.pred.op=0->t.pred=a8O)/\cB t.pred+i<=j+1
section
variable {ty:bB Ty} {low:Nat} (mN:∀i,low<=i->i<l.length->pW G 39 [] l i (ty i) b0u) (oV:aA l 0 ty) (ity:∀i t j,i<l.length->ty i=.ok t j->TyI t i j)
include mN oV ity
theorem a5J(i:Nat)(oE:low<=i+1)(hi:i<l.length):pW G 77 [] l i (tB bI aG l ty i) b0u:=by
 have hl:=hV.len;obtain⟨j0,rfl⟩:∃j0,j0=i:=⟨_,rfl⟩;have p0:j0<=j0/\j0<l.length:=⟨f3d _,hi⟩;refine kZ.cP func77 rfl ntmps77 rfl (by simp) ?_;intro Q Q0;unfold tB at Q0;simp;refine dD Q0 p0 hV.fin λu1 j1 x1 Q1 p1=>?_;simp;refine qI Q1 p1 cK ((mN j1 (by omega) p1.2)) (oV) λt j2 x2 Q2 p2=>?_;have it:=ity j1 t j2 p1.2 x2;obtain⟨op,nm,args,ns,p,ps⟩:=t;simp only at Q2;simp;by_cases h6:op=6
 .rw[if_pos h6]at Q2;simp[h6];refine rdX (ds:=[]) tM (vW (α:=Ty) l j2 p2.2 (by omega) λ_=>.cJ []) (λa j hx=>by unfold dU at hx;cases hx) (λn e hx=>Q2.bad n e _ hx)
 rw[if_neg h6]at Q2;simp[h6];refine dD Q2 p2 hV.fin λu3 j3 x3 Q3 p3=>?_;simp;refine qI Q3 p3 pB (rF hV j3 p3.2) (hV.oB.pred) λq j4 x4 Q4 p4=>?_;simp;refine dD Q4 p4 hV.fin λu5 j5 x5 Q5 p5=>?_;simp;have hq:=hV.nod _ _ _ _ p3.2 x4;have hs:=yK (G:=G) p a8O (by have:=it.2;simp only at this;omega);refine jC.mk sN (CS.args hs (by simp[a8O])) ?_;rw[c0c];have h0:=it.1;simp only at h0;by_cases hz:p=a8O
 .subst hz;simp;exact Q5.ok _ j5 _ _ rfl (.inr rfl) (by simp[a8O])
 .have mV: ¬p.op=0:=λe=>hz (h0 e);have ha:=c0e (G:=G) [p,q] (by intro x hx;have h1:=it.2;simp only at h1;simp only[List.mem_cons,List.not_mem_nil,or_false]at hx;rcases hx with rfl|rfl<;>omega) (by simp)
  simp[hz];refine jC.mk b7h (by simpa using ha) ?_;simp;exact Q5.ok _ j5 _ _ rfl (.inr rfl) (by simp[mV,bI])
theorem b0e(i:Nat)(oE:low<=i+1)(hi:i<l.length):pW G 124 [] l i (gT aX bI aG l ty i) b0u:=by
 have hl:=hV.len;obtain⟨j0,rfl⟩:∃j0,j0=i:=⟨_,rfl⟩;have p0:j0<=j0/\j0<l.length:=⟨f3d _,hi⟩;have ht:=cF (G:=G) l j0 j0 0 (by omega) (by omega) (by intro e;subst e;simp at hi) (by omega);refine kZ.cP func124 rfl ntmps124 rfl (by simp) ?_;intro Q Q0;unfold gT at Q0;simp;refine qI Q0 p0 b0c (b2z hV j0 hi) (aA.base hV.fin) λo j1 x1 Q1 p1=>?_;cases o with
 |some t=>obtain⟨op,nm,args,ns,p,ps⟩:=t;simp;exact Q1.ok _ j1 _ _ rfl (.inr rfl) (by simp)
 |none=>
 have hj:=tK x1;subst hj;simp only at Q1;simp[sF,mL];refine mA (ds:=[.int .i64 0]) bP ht ?_;cases hti:sM (aR l j1)with
 |true=>
  rw[hti,if_pos rfl]at Q1;have hk:(aR l j1).kind=2:=by simpa[sM]using hti
  have htt:=jQ (G:=G) l j1 p1.2 (by omega);have hx:gI l j1=.ok (aR l j1).text (j1+1):=by unfold gI mQ;rw[if_pos hti]
  generalize aR l j1=T at Q1 hk hx|-;obtain⟨k,x,n,ln⟩:=T;simp only at hk;subst hk;simp[cH];refine rdX (ds:=[]) gU htt (λs j h=>?_) (λn e h=>by rw[hx]at h;cases h);rw[hx]at h;cases h;simp;exact Q1.ok _ (j1+1) _ _ rfl (.inr rfl) (by simp[psT,mL])
 |false=>
  rw[hti,if_neg (by decide)]at Q1;have hk: ¬(aR l j1).kind=2:=by simpa[sM]using hti
  generalize aR l j1=T at hk|-;obtain⟨k,x,n,ln⟩:=T;simp only at hk;simp[cH,hk];have hb:=jD (G:=G) l j1 [123] p1.2 (by omega);refine mA (ds:=[.str [123]]) eO hb ?_;cases hs:aQ l j1 [123]with
  |true=>rw[hs,if_pos rfl]at Q1;simp;refine rdX (ds:=[]) a4j (a5J hV mN oV ity j1 oE p1.2) (λt j h=>?_) (λn e h=>Q1.bad n e _ h);simp;exact Q1.ok t j _ _ h (.inr rfl) (by simp)
  |false=>rw[hs,if_neg (by decide)]at Q1;simp;refine dD Q1 p1 hV.fin λu2 j2 x2 Q2 p2=>?_;simp;refine qI Q2 p2 cK ((mN j2 (by omega) p2.2)) (oV) λt j3 x3 Q3 p3=>?_;simp;refine dD Q3 p3 hV.fin λu4 j4 x4 Q4 p4=>?_;simp;exact Q4.ok t j4 _ _ rfl (.inr rfl) (by simp)
end
end
end
section
open Go Go.VM
variable {G:GT}
theorem c0f:VM.Enters prog 75:=.mk func75 rfl
theorem b4o:VM.Enters prog 125:=.mk func125 rfl
section
variable {aG:List Tok->Nat->Nat->kX Pr} {l:List Tok} (hV:kU G aG l)
include hV
def a5K(nm:Nm)(args:List Ty)(out:List Pr):List (Nat×aW):=[(100001,.cells [.ptr 100000 0]),(100002,.cells [.d (.int .i64 4),.d (.str nm),.d (.sl (args.map tyC)),.d (.sl []),.d (.int .i64 0),.d (.str []),.d (.int .i64 0),.d (.sl []),.d (.sl (out.map oO))])]
abbrev d7A:List (TypeId×List VM.Loc):=[(43,[.c 100002 8])]
abbrev c0g(aG:List Tok->Nat->Nat->kX Pr)(l:List Tok)(out:List Pr):bB (List Pr):=do
 aV l [[118],[46]]
 let p <- gB aG l
 pure (out++[p])
theorem c0h(nm:Nm)(args:List Ty)(out:List Pr)(i:Nat)(hi:i<l.length)(rN:out.length<=i):kZ G 125 [.ptr 100001 0,.ptr 100002 0] (a5K nm args out) d7A l i (c0g aG l out i) (λ_=>.cJ []) (a5K nm args):=by
 have hl:=hV.len;obtain⟨j0,rfl⟩:∃j0,j0=i:=⟨_,rfl⟩;have p0:j0<=j0/\j0<l.length:=⟨f3d _,hi⟩;refine kZ.cP func125 rfl ntmps125 rfl (by simp) ?_;intro Q Q0;simp[a5K];refine dD Q0 p0 hV.fin λu1 j1 x1 Q1 p1=>?_;simp;refine dI 6 (t:=41) (e:=43) (T:=45) (s:=6) (z:=10) (r:=11) (p:=12) (q:=9) (x:=8) (b:=13) (y:=1) (fd:=5) [0] 3 [2] (a3g 1 4 5) (gL (gB aG l j1)) rfl rfl rfl rfl rfl (by kernel_rfl) (by kernel_rfl) rfl ?_;simp
 repeat' apply And.intro
 all_goals
  refine oF Q1 p1 pB (rF hV j1 p1.2) (hV.oB.pred) λq j2 x2 Q2 p2=>cT.mk ?_;simp
 all_goals
  refine⟨_,_,_,_,_,_,_,_,_,by simp,rfl,rfl,?_,rfl,rfl,?_,by simp,rfl,rfl,rfl,rfl,by decide,rfl,?_⟩
  .intro c hc
   first
    |(obtain⟨y,_,rfl⟩:=List.mem_map.1 hc
      rw[eH]
      rfl)
    |(simp only[f2U]at hc
      subst hc
      rfl)
  .simp<;>omega
  exact Q2.ok _ j2 .normal _ rfl (.inl rfl) (by simp[a5K,eH])
theorem c6c(nm:Nm)(args:List Ty):zU l K3 [.ptr 100001 0,.ptr 100002 0] (a5K nm args) d7A:=by
 constructor
 all_goals intros
 all_goals first
  |rfl
  |simp[a5K,aK,aP,aM,aL,bA,getKey,aO,bD,cI,rk,cQ,bO, *]
theorem c6d(a:List Pr)(i:Nat)(b:List Pr)(j:Nat)(h:c0g aG l a i=.ok b j):b.length=a.length+1:=by
 simp only[c0g,hZ]at h
 repeat' split at h
 all_goals first|cases h|skip
 all_goals simp
theorem a8Q(out:List Pr):aA l 1 (c0g aG l out):=(aA.exp hV.fin _ _).bl λ_=>hV.oB.pred.bl λ_=>aA.aT _
theorem vY{α:Type}{c:Nat->Bool}{one:α->bB α}{g:Nat}{a b:α}{i j:Nat}(hc:c i=true)(h:one a i=.ok b j):cV c one (g+1) a i=cV c one g b j:=by rw[cV];simp only[hc,if_true,h]
theorem qC{α:Type}{c:Nat->Bool}{one:α->bB α}{g:Nat}{a:α}{i:Nat}{n e:Int}(hc:c i=true)(h:one a i=.bad n e):cV c one (g+1) a i=.bad n e:=by rw[cV];simp only[hc,if_true,h]
theorem vZ{α:Type}{c:Nat->Bool}{one:α->bB α}{g:Nat}{a:α}{i:Nat}(hc:c i=false):cV c one (g+1) a i=.ok a i:=by rw[cV];simp only[hc,Bool.false_eq_true,if_false]
section
variable {ty:bB Ty} {low:Nat} (mN:∀i,low<=i->i<l.length->pW G 39 [] l i (ty i) b0u) (oV:aA l 0 ty) (ity:∀i t j,i<l.length->ty i=.ok t j->TyI t i j)
include mN oV ity
abbrev d4X(aG:List Tok->Nat->Nat->kX Pr)(l:List Tok)(ty:bB Ty)(out:List Ty):bB (List Ty):=do let t <- gT aX bI aG l ty;pure (out++[t])
theorem c2D(i:Nat)(oE:low<=i+1)(hi:i<l.length):pW G 75 [] l i (qP aX bI aG l ty i) b0u:=by
 have hl:=hV.len;obtain⟨j0,rfl⟩:∃j0,j0=i:=⟨_,rfl⟩;have p0:j0<=j0/\j0<l.length:=⟨f3d _,hi⟩;refine kZ.cP func75 rfl ntmps75 rfl (by simp) ?_;intro Q Q0;unfold qP at Q0;simp;refine qI Q0 p0 gU (jQ l j0 p0.2 (by omega)) (aA.title hV.fin) λnm j1 x1 Q1 p1=>?_;simp;refine SW.vB (ι:={x:List Ty×Nat×Nat//j1<=x.2.1/\x.2.1<l.length/\l.length<x.2.2+x.2.1/\x.1.length<=x.2.1/\cV (b1R aX l) (d4X aG l ty) x.2.2 x.1 x.2.1=mX l (b1R aX l) (d4X aG l ty) [] j1}) (λ_=>[]) (λx=>[(1,.cells [.ptr 100000 0]),(2,.cells [.d (.int .i64 0),.d (.str []),.d .aJ,.d .aJ,.d (.int .i64 0),.d (.str []),.d (.int .i64 0),.d .aJ,.d .aJ]),(3,.cells [.d (.int .i64 4),.d (.str nm),.d (.sl (x.1.1.map tyC)),.d .aJ,.d (.int .i64 0),.d (.str []),.d (.int .i64 0),.d .aJ,.d .aJ]),(100000,rdO l x.1.2.1)]) (λ_=>[(45,[.c 3 2])]) (λx=>l.length-x.1.2.1) ⟨([],j1,l.length+2),f3d _,p1.2,by simp only;omega,by simp,rfl⟩ (by simp) ?_;rintro⟨⟨out,j2,g⟩,hb,tI,hg,ho,hp⟩;simp only at hb tI hg ho hp;obtain⟨g,rfl⟩:∃k,g=k+1:=⟨g-1,by omega⟩;simp;refine mA (i:=j2) (ds:=[]) b0v (b2A hV j2 tI) ?_;by_cases hc:b1R aX l j2=true
 .simp[hc];refine dI 6 (t:=28) (e:=45) (T:=45) (s:=10) (z:=14) (r:=15) (p:=16) (q:=13) (x:=12) (b:=17) (y:=3) (fd:=2) [0] 3 [2] (a3g 1 4 5) (gL (gT aX bI aG l ty j2)) rfl rfl rfl rfl rfl (by kernel_rfl) (by kernel_rfl) rfl ?_;simp
  repeat' apply And.intro
  all_goals
   refine rdZ (ds:=[]) a7R (b0e hV mN oV ity j2 (by omega) tI) (λt j3 x3=>?_) (λn e hx=>?_)
   .have p3:=aA.uL hV.fin oV hV.oB.pred j2 t j3 tI x3;have h1:d4X aG l ty out j2=.ok (out++[t]) j3:=(cU x3).trans rfl;rw[vY hV hc h1]at hp;refine cT.mk ?_;simp;refine⟨_,_,_,_,_,_,_,_,_,by simp,rfl,rfl,?_,rfl,rfl,?_,by simp,rfl,rfl,rfl,rfl,by decide,rfl,?_⟩
    .intro c hc
     first
      |(obtain⟨y,_,rfl⟩:=List.mem_map.1 hc
        rw[cM]
        rfl)
      |(simp only[f2U]at hc
        subst hc
        rfl)
    .simp<;>omega
    refine bJ.mk ⟨(out++[t],j3,g),by simp only;omega,p3.2,by simp only;omega,by simp;omega,hp⟩ (by simp[cM]) (by simp;omega)
   .have h1:d4X aG l ty out j2=.bad n e:=hM hx;rw[qC hV hc h1]at hp;simp;exact λs=>Q1.fail hp.symm s
 .have hc:=Bool.eq_false_iff.2 hc;rw[vZ hV hc]at hp;have Q2:=Q1.step hp.symm;have p2:j1<=j2/\j2<l.length:=⟨hb,tI⟩;simp[hc];cases hs:aQ l j2 [60]with
  |false=>have Q3:=Q2.step (jF hs);rw[if_neg (by decide)]at Q3;refine vX hs p2 ?_;simp;exact Q3.ok _ j2 _ _ rfl (.inr rfl) (by simp[psT,mL])
  |true=>
   have Q3:=Q2.step (jE hs);rw[if_pos rfl]at Q3;refine yT hs p2 hV.fin λp3=>?_;obtain⟨j3,hj3⟩:∃j3,j2+1=j3:=⟨_,rfl⟩;rw[hj3]at Q3 p3|-;simp;have gO:=eI hV [44] (c0g aG l) (λout i=>out.length<=i) 0 b4o (c6c hV nm out) (λa=>(a8Q hV a).le (by omega)) (λa i _ hi h=>c0h hV nm out a i hi h) (λa i b j hi h hx=>by have h1:=a8Q hV a i b j hi hx;have h2:=c6d hV a i b j hx;omega) (λa i h=>by omega) [] j3 (by omega) p3.2 (by simp)
   refine eF.mk (yJ dE gO [(100000,100000),(100001,1),(100002,3)] (λa j hx=>?_) ?_ ?_ ?_ rfl rfl (λws j4 x4=>?_) (λn e wE=>Q3.fail wE _))
   .simp[a5K,aK,aP,aM,aL,bA,getKey]
   .simp[a5K,aK,aP,aM,aL,bA,getKey]
   .simp[aO,bD,rk]
   .simp[a5K,aO,bD,rk,cI,cQ]
   .have Q4:=Q3.step x4;have p4:=aA.list hV.fin (λa=>a8Q hV a) [] j3 ws j4 p3.2 x4;simp[bE,a5K,aO,bD,rk,cI,cQ,bO,gP,eS,dQ];refine dD Q4 p4 hV.fin λu5 j5 x5 Q5 p5=>?_;simp;exact Q5.ok _ j5 _ _ rfl (.inr rfl) (by simp[psT,mL])
end
end
end
end Go.Proofs.YtjpodcmhcenjjaaGreatDoor
