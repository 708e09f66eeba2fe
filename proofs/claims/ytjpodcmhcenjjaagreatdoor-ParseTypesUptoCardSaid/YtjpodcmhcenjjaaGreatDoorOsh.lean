/- Lemmas that the law of this claim needs (PwA PwF PwB PwG PwC PsC PsE PsF PsG Z9). No condition. -/
import Derived.Test.YtjpodcmhcenjjaaGreatDoorOsa
import Derived.Test.YtjpodcmhcenjjaaGreatDoorOsd
import Derived.Test.YtjpodcmhcenjjaaGreatDoorOse
import Derived.Test.YtjpodcmhcenjjaaGreatDoorOsg
set_option linter.unusedVariables false
set_option linter.unusedSimpArgs false
set_option linter.unusedSectionVars false
set_option maxRecDepth 100000
set_option maxHeartbeats 64000000
open Go.Proofs.Tryz
namespace Go.Proofs.YtjpodcmhcenjjaaGreatDoor
section
structure jK where
 pl:Nat
 er:Int
 ln:Int
def RM(α:Type):=jK->α×jK
instance:Monad RM where
 pure:=λa s=>(a,s)
 bind:=λx f s=>f (x s).1 (x s).2
theorem d9r{α:Type}(a:α)(s:jK):(pure a:RM α) s=(a,s):=rfl
theorem rW{α β:Type}(x:RM α)(f:α->RM β)(s:jK):(x >>=f) s=f (x s).1 (x s).2:=rfl
def c9P(c:jK->Bool):RM Bool:=λs=>(c s,s)
section
variable (kw:Nm->Bool) (andP:Pr->Pr->Pr) (aI:List Tok->Nat->Nat->kN Pr) (l:List Tok)
def mL(k:Nat)(s:jK):Tok:=if s.er=0/\s.pl+k<l.length then aK l (s.pl+k) else⟨0,[],0,0⟩
def oR(s:jK):jK:=if s.er=0 then⟨s.pl,14,(mL l 0 s).line⟩ else s
def gI(k:Nat)(t:Nm)(s:jK):Bool:=decide ((mL l k s).kind=4)&&decide ((mL l k s).text=t)
def b4O(t:Nm)(s:jK):Bool:=decide ((mL l 0 s).kind=1)&&decide ((mL l 0 s).text=t)
def xG(k:Nat)(s:jK):Bool:=decide ((mL l k s).kind=1)&& !kw (mL l k s).text
def a9E(s:jK):Bool:=decide ((mL l 0 s).kind=2)
def uO(b:Bool):RM Nm:=λs=>if b=true/\s.er=0 then((mL l 0 s).text,⟨s.pl+1,s.er,s.ln⟩) else([],oR l s)
def a5A(c:jK->Bool):RM Nm:=λs=>uO l (c s) s
def gO(t:Nm):RM Unit:=λs=>((),(uO l (gI l 0 t s) s).2)
def rQ(t:Nm):RM Bool:=λs=>if gI l 0 t s then(true,⟨s.pl+1,s.er,s.ln⟩) else(false,s)
def wC:RM Nm:=a5A l (xG kw l 0)
def b8z(t:Nm):RM Nm:=a5A l (b4O l t)
def d3G:RM Nm:=a5A l λs=>a9E l s||xG kw l 0 s
def wD{α:Type}(c:jK->Bool)(one:α->RM α):Nat->α->RM α
 |0,a=>λs=>(a,s)
 |g+1,a=>λs=>if c s then wD c one g (one a s).1 (one a s).2 else(a,s)
def c6B{α:Type}(c:jK->Bool)(one:α->RM α)(a:α):RM α:=wD c one (l.length+2) a
def tM{α:Type}(c:Nm)(one:α->RM α):Nat->α->RM α
 |0,a=>λs=>(a,s)
 |g+1,a=>λs=>if s.er=0 then(if gI l 0 c (one a s).2 then tM c one g (one a s).1 ⟨(one a s).2.pl+1,(one a s).2.er,(one a s).2.ln⟩ else one a s) else(a,s)
def a8c{α:Type}(c:Nm)(one:α->RM α)(a:α):RM α:=tM l c one (l.length+2) a
def qU(e:Nat):RM Pr:=λs=>if s.er=0 then(match aI l s.pl e with
 | .ok p j=>(p,⟨j,0,s.ln⟩)
 | .bad n x=>(eA,⟨s.pl,x,n⟩)) else(eA,s)
def a8d:RM Pr:=qU aI l l.length
def a2M(w:Nm):RM (List Nm):=λs=>if gI l 0 [44] s then tM l [44] (λout=>do let w <- wC kw l;pure (out++[w])) (l.length+1) [w] ⟨s.pl+1,s.er,s.ln⟩ else([w],s)
def b3l:RM (List Nm):=do
 gO l [40]
 let w <- wC kw l
 let out <- a2M kw l w
 gO l [41]
 pure out
def d3H(v:Bool):RM (List psV):=a8c l [44] (λout=>do
 let name <- a5A l λs=>xG kw l 0 s||v&&b4O l [118] s
 gO l [58]
 let t <- d3G kw l
 pure (out++[(name,t)])) []
def cM:RM (Ty×Bool):=λs=>
 if xG kw l 0 s then((tU 5 (mL l 0 s).text,true),⟨s.pl+1,s.er,s.ln⟩)
 else if !a9E l s then((mW,false),s)
 else((if (mL l 0 s).text=[73,110,116] then tU 1 [] else if (mL l 0 s).text=[66,111,111,108] then tU 2 [] else if (mL l 0 s).text=[67,101,108,108] then tU 3 [] else tU 4 (mL l 0 s).text,true),⟨s.pl+1,s.er,s.ln⟩)
section
variable (ty:RM Ty)
def a5B:RM Ty:=do
 gO l [123]
 let _ <- b8z l [118]
 gO l [58]
 let t <- ty
 let _ <- a5A l λs=>gI l 0 [124] s&& !decide (t.op=6)
 let p <- a8d aI l
 gO l [125]
 pure {t with pred:=if t.pred.op=0 then p else andP t.pred p}
def a8e:RM Ty:=λs=>
 if gI l 0 [123] s then a5B andP aI l ty s
 else if gI l 0 [40] s then(do
  let t <- ty
  gO l [41]
  pure t:RM Ty) ⟨s.pl+1,s.er,s.ln⟩
 else((cM kw l s).1.1,if (cM kw l s).1.2 then(cM kw l s).2 else oR l (cM kw l s).2)
def a3C(name:Nm):RM Ty:=do
 let args <- c6B l (λs=>xG kw l 0 s||(a9E l s||(gI l 0 [123] s||gI l 0 [40] s))) (λout=>do let t <- a8e kw andP aI l ty;pure (out++[t])) []
 let b <- rQ l [60]
 if b then do
  let ps <- a8c l [44] (λout=>do
   let _ <- b8z l [118]
   gO l [46]
   let p <- a8d aI l
   pure (out++[p])) []
  gO l [62]
  pure {tU 4 name with args:=args,a9i:=ps}
 else pure {tU 4 name with args:=args}
def xH:RM Ty:=do
 gO l [40]
 let named <- c9P λs=>xG kw l 0 s&&gI l 1 [58] s
 let (ns,ts) <- a8c l [44] (λ(out:List Nm×List Ty)=>if named then(do
   let w <- wC kw l
   gO l [58]
   let t <- ty
   pure (out.1++[w],out.2++[t])) else(do
   let t <- ty
   pure (out.1,out.2++[t]))) ([],[])
 gO l [41]
 let c <- c9P λs=>decide (ts.length=1)&&(!named&& !gI l 0 [45,62] s)
 if c then pure (ts.headD mW) else do
  gO l [45,62]
  let t <- ty
  pure {tU 6 []with names:=ns,args:=ts++[t]}
def a3D:RM Ty:=λs=>
 if s.er=0 then
  (if gI l 0 [123] s then a5B andP aI l ty s
  else if gI l 0 [40] s then xH kw l ty s
  else if (cM kw l s).1.2 then(if (cM kw l s).1.1.op=4 then a3C kw andP aI l ty (cM kw l s).1.1.name (cM kw l s).2 else((cM kw l s).1.1,(cM kw l s).2))
  else(mW,oR l (cM kw l s).2))
 else(mW,s)
end
def a8f:Nat->RM Ty
 |0=>λs=>(mW,s)
 |n+1=>a3D kw andP aI l (a8f n)
def d3I:RM Ty:=a8f kw andP aI l (l.length+2)
def a9F:RM Unit:=λs=>((),if s.er=0/\ ¬(mL l 0 s).kind=0 then oR l s else s)
end
end
section
open Go Go.VM
variable {G:GT}
abbrev rfO(l:List Tok)(s:jK):aW:=.cells [.d (.sl (l.map bG)),.d (.int .i64 s.pl),.d (.int .i64 s.er),.d (.int .i64 s.ln)]
abbrev rfH(l:List Tok)(s:jK):List (Nat×aW):=[(100000,rfO l s)]
def RfG(G:GT){α:Type}(f:FuncId)(ds:List D)(l:List Tok)(s:jK)(y:α×jK)(enc:α->DV)(own:List (TypeId×List VM.Loc)):Prop:=CX prog G f ⟨.ptr 100000 0::ds.map .d,rfH l s,[]⟩ (.inl (enc y.1,rfH l y.2,own))
abbrev qV(G:GT){α:Type}(f:FuncId)(ds:List D)(l:List Tok)(s:jK)(y:α×jK)(enc:α->DV):Prop:=RfG G f ds l s y enc []
structure wQ {α:Type} (Q:Exit->St->Prop) (rs:List ResultVar) (l:List Tok) (enc:α->DV) (own:List (TypeId×List VM.Loc)) (y:α×jK):Prop where
 ok:∀e s,(e=.normal\/e=.ret)->a3z prog s rs (enc y.1) (rfH l y.2) own->Q e s
section
variable {α β:Type} {Q:Exit->St->Prop} {rs:List ResultVar} {l:List Tok} {s s1:jK} {enc:β->DV} {own:List (TypeId×List VM.Loc)} {a:α}
theorem wQ.step{x:RM α}{f:α->RM β}(h:wQ Q rs l enc own ((x >>=f) s))(hx:x s=(a,s1)):wQ Q rs l enc own (f a s1):=by rwa[rW,hx]at h
theorem wQ.eq{y z:β×jK}(h:wQ Q rs l enc own y)(hx:y=z):wQ Q rs l enc own z:=hx▸h
theorem wQ.ifp{c:Prop}[Decidable c]{x y:β×jK}(h:wQ Q rs l enc own (if c then x else y))(hc:c):wQ Q rs l enc own x:=by rwa[if_pos hc]at h
theorem wQ.wP{c:Prop}[Decidable c]{x y:β×jK}(h:wQ Q rs l enc own (if c then x else y))(hc: ¬c):wQ Q rs l enc own y:=by rwa[if_neg hc]at h
theorem qV.a1I{f:FuncId}{fn:Func}{c:Code}{k:Nat}{ds:List D}{y:β×jK}(hf:prog.funcs[f]? =some fn)(hb:fn.body=some c)(hn:fn.ntmps=k)(hrs:fn.results.toList=rs)(h:∀Q:Exit->St->Prop,wQ Q rs l enc own y->SW prog G c ⟨.ptr 100000 0::ds.map .d++List.replicate (k-(.ptr 100000 0::ds.map .d:List DV).length) (.bY []),rfH l s,[]⟩ Q):RfG G f ds l s y enc own:=
 CX.b4L hf hb hn hrs rfl λQ h1 h2=>h Q ⟨λe s he hs=>h1 _ _ _ e s rfl he hs⟩
theorem qV.bS{f:FuncId}{fn:Func}{c:Code}{k:Nat}{ds:List D}{y:β×jK}(hf:prog.funcs[f]? =some fn)(hb:fn.body=some c)(hn:fn.ntmps=k)(hrs:fn.results.toList=rs)(h:∀Q:Exit->St->Prop,wQ Q rs l enc own y->XK prog G [.code c] .normal ⟨.ptr 100000 0::ds.map .d++List.replicate (k-(.ptr 100000 0::ds.map .d:List DV).length) (.bY []),rfH l s,[]⟩ Q):RfG G f ds l s y enc own:=qV.a1I hf hb hn hrs λQ hQ=>SW.xk (h Q hQ)
theorem rfZ{f:FuncId}{ds:List D}{av:List DV}{y:β×jK}{st:St}{ls:List (Option VM.Loc)}{dst:Option Tmp}{KK:St->Prop}(he:VM.Enters prog f)(hc:qV G f ds l s y enc)(mP:∀a s1,y=(a,s1)->KK ⟨gV dst (enc a) st.tmps,bP 100000 (rfO l s1) st.H,eT dst (dropKey 100000 st.own)⟩)(hk:∀a,aT K1 (enc a)=true/\bA K1 (enc a)=enc a:=by intro a;exact⟨rfl,rfl⟩)(hw:WkT av (.ptr 100000 0::ds.map .d):=by simp)(hH:getKey 100000 st.H=some (rfO l s):=by simp):sN prog G f av ls dst st KK Q true:=by
 refine sN.mk (x:=.inl (enc y.1,rfH l y.2,[])) he hc K1 (λd H1 dM hx=>?_) (λv hx=>by cases hx) ?_ ?_ rfl rfl (λd H1 dM hx=>?_) (λv hx=>by cases hx) (rest:=st.own)
 .cases hx;simp[aJ,aT,aN,aM,dY,bC,getKey,(hk y.1).1]
 .simpa[aQ,bA,rk,jC]using hw
 .simp only[cH,rfO,List.map_cons,List.map_nil,rk,if_true,cP,aQ,bA,WkH,and_true];exact⟨_,hH,by simp[WkO]⟩
 .cases hx;have:=mP y.1 y.2 rfl;simpa[bD,bM,cP,aQ,bA,rk,dJ,(hk y.1).2]using this
theorem uC{f:FuncId}{ds:List D}{av:List DV}{y:β×jK}{st:St}{ls:List (Option VM.Loc)}{dst:Option Tmp}{all:Array Oper}{ops:List Oper}{k:List XI}(he:VM.Enters prog f)(hc:qV G f ds l s y enc)(mP:∀a s1,y=(a,s1)->XK prog G (.ops all ops::k) .normal ⟨gV dst (enc a) st.tmps,bP 100000 (rfO l s1) st.H,eT dst (dropKey 100000 st.own)⟩ Q)(hk:∀a,aT K1 (enc a)=true/\bA K1 (enc a)=enc a:=by intro a;exact⟨rfl,rfl⟩)(hw:WkT av (.ptr 100000 0::ds.map .d):=by simp)(hH:getKey 100000 st.H=some (rfO l s):=by simp):dC prog G f av ls dst all ops k st Q:=dC.mk (rfZ (hw:=hw) (hH:=hH) he hc mP hk)
end
attribute [simp] d9r
def pU(l:List Tok)(s:jK):Prop:=s.er=0->s.pl<l.length
theorem mS:VM.Enters prog 45:=.mk func45 rfl
theorem yQ:VM.Enters prog 98:=.mk func98 rfl
theorem gT:VM.Enters prog 92:=.mk func92 rfl
theorem b4P:VM.Enters prog 85:=.mk func85 rfl
theorem yR:VM.Enters prog 141:=.mk func141 rfl
theorem a3E:VM.Enters prog 140:=.mk func140 rfl
theorem sP:VM.Enters prog 91:=.mk func91 rfl
theorem b2b:VM.Enters prog 47:=.mk func47 rfl
theorem vC:VM.Enters prog 62:=.mk func62 rfl
theorem a5C:VM.Enters prog 104:=.mk func104 rfl
section
variable {l:List Tok} (hl:l.length<=50000)
include hl
theorem qK(k:Nat)(s:jK)(hv:pU l s)(hk:k<=10):qV G 45 [.int .i64 k] l s (mL l k s,s) (λt=>.d (.agg (bG t))):=by
 obtain⟨i,e,ln⟩:=s;by_cases he:e=0
 .subst he;have hi:i<l.length:=hv rfl;obtain⟨m,hm⟩:∃m,i+k=m:=⟨_,rfl⟩;have hw:IntKind.i64.wrap ((i:Int)+(k:Int))=(m:Int):=by rw[wrap64 (by omega)];omega
  by_cases h:m<l.length
  .have hg:mL l k ⟨i,0,ln⟩=l[m]:=by simp[mL,aK,hm,h]
   have hn: ¬l.length<=m:=by omega
   rw[hg];obtain⟨T,hT⟩:∃T,l[m]=T:=⟨_,rfl⟩;rw[hT];obtain⟨a,b,c,d⟩:=T
   show CH _ _ _ _ _
   refine CH.aR func45 rfl ntmps45 rfl (by simp) ?_;simp[hw,h,hn,hT,bG];exact⟨kL.mk (by kernel_rfl),kL.mk (by kernel_rfl)⟩
  .have hg:mL l k ⟨i,0,ln⟩=⟨0,[],0,0⟩:=by simp[mL,hm,h]
   have hn:l.length<=m:=by omega
   rw[hg]
   show CH _ _ _ _ _
   refine CH.aR func45 rfl ntmps45 rfl (by simp) ?_;simp[hw,hn,bG];exact kL.mk (by kernel_rfl)
 .have hg:mL l k ⟨i,e,ln⟩=⟨0,[],0,0⟩:=by simp[mL,he]
  rw[hg]
  show CH _ _ _ _ _
  refine CH.aR func45 rfl ntmps45 rfl (by simp) ?_;simp[he,bG];exact kL.mk (by kernel_rfl)
theorem a3F(s:jK)(hv:pU l s):qV G 98 [] l s ((),oR l s) (λ_=>.bY []):=by
 have hp:qV G 45 [.int .i64 0] l s _ _:=qK hl 0 s hv (by omega);obtain⟨i,e,ln⟩:=s;refine qV.bS func98 rfl ntmps98 rfl ?_;intro Q Q0;by_cases he:e=0
 .subst he;have Q0:=Q0.eq (congrArg (Prod.mk ()) (if_pos rfl));simp;refine uC mS hp (λT s1 h1=>?_);cases h1;generalize mL l 0 ⟨i,0,ln⟩=T at Q0|-;obtain⟨a,b,c,d⟩:=T;simp[bG];exact Q0.ok _ _ (.inl rfl) (by simp)
 .have Q0:=Q0.eq (congrArg (Prod.mk ()) (if_neg he));simp[he];exact Q0.ok _ _ (.inl rfl) (by simp)
theorem a3G(k:Nat)(t:Nm)(s:jK)(hv:pU l s)(hk:k<=10):qV G 92 [.int .i64 k,.str t] l s (gI l k t s,s) (λb=>.d (.bool b)):=by
 have hp:=qK (G:=G) hl k s hv hk;obtain⟨i,e,ln⟩:=s;refine qV.bS func92 rfl ntmps92 rfl ?_;intro Q Q0;unfold gI at Q0;simp;refine uC mS hp (λT s1 h1=>?_);cases h1;generalize mL l k ⟨i,e,ln⟩=T at Q0|-;obtain⟨a,b,c,d⟩:=T;by_cases h4:a=4
 .simp[bG,h4];exact Q0.ok _ _ (.inr rfl) (by simp[h4])
 .simp[bG,h4];exact Q0.ok _ _ (.inr rfl) (by simp[h4])
theorem b8A(t:Nm)(s:jK)(hv:pU l s):qV G 85 [.str t] l s (b4O l t s,s) (λb=>.d (.bool b)):=by
 have hp:qV G 45 [.int .i64 0] l s _ _:=qK hl 0 s hv (by omega);obtain⟨i,e,ln⟩:=s;refine qV.bS func85 rfl ntmps85 rfl ?_;intro Q Q0;unfold b4O at Q0;simp;refine uC mS hp (λT s1 h1=>?_);cases h1;generalize mL l 0 ⟨i,e,ln⟩=T at Q0|-;obtain⟨a,b,c,d⟩:=T;by_cases h4:a=1
 .simp[bG,h4];exact Q0.ok _ _ (.inr rfl) (by simp[h4])
 .simp[bG,h4];exact Q0.ok _ _ (.inr rfl) (by simp[h4])
theorem a8g(k:Nat)(s:jK)(hv:pU l s)(hk:k<=10):qV G 141 [.int .i64 k] l s (xG aU l k s,s) (λb=>.d (.bool b)):=by
 have hp:=qK (G:=G) hl k s hv hk;obtain⟨i,e,ln⟩:=s;refine qV.bS func141 rfl ntmps141 rfl ?_;intro Q Q0;unfold xG at Q0;simp;refine uC mS hp (λT s1 h1=>?_);cases h1;generalize mL l k ⟨i,e,ln⟩=T at Q0|-;obtain⟨a,b,c,d⟩:=T;by_cases h4:a=1
 .simp[bG,h4];refine mQ.mk a0L (a2e b) ?_;simp;exact Q0.ok _ _ (.inr rfl) (by simp[h4])
 .simp[bG,h4];exact Q0.ok _ _ (.inr rfl) (by simp[h4])
theorem a5D(s:jK)(hv:pU l s):qV G 140 [] l s (a9E l s,s) (λb=>.d (.bool b)):=by have hp:qV G 45 [.int .i64 0] l s _ _:=qK hl 0 s hv (by omega);obtain⟨i,e,ln⟩:=s;refine qV.bS func140 rfl ntmps140 rfl ?_;intro Q Q0;unfold a9E at Q0;simp;refine uC mS hp (λT s1 h1=>?_);cases h1;generalize mL l 0 ⟨i,e,ln⟩=T at Q0|-;obtain⟨a,b,c,d⟩:=T;simp[bG];exact Q0.ok _ _ (.inr rfl) (by simp)
theorem a0X(b:Bool)(s:jK)(hv:pU l s):qV G 91 [.bool b] l s (uO l b s) (λt=>.d (.str t)):=by
 have hp:qV G 45 [.int .i64 0] l s _ _:=qK hl 0 s hv (by omega);have hf:=a3F (G:=G) hl s hv;obtain⟨i,e,ln⟩:=s;refine qV.bS func91 rfl ntmps91 rfl ?_;intro Q Q0;unfold uO at Q0;simp;refine uC mS hp (λT s1 h1=>?_);cases h1;generalize mL l 0 ⟨i,e,ln⟩=T at Q0|-;obtain⟨a,x,c,d⟩:=T;cases b with
 |false=>have Q0:=Q0.wP (λh=>by cases h.1);simp[bG];refine uC yQ hf (λu s1 h1=>?_);cases h1;simp;exact Q0.ok _ _ (.inr rfl) (by simp)
 |true=>
  by_cases he:e=0
  .subst he;have hi:i<l.length:=hv rfl;have hw:=aY (show i<9223372036854775807 by omega);have Q0:=Q0.ifp ⟨rfl,rfl⟩;simp[bG,hw];exact Q0.ok _ _ (.inr rfl) (by simp)
  .have Q0:=Q0.wP (λh=>he h.2);simp[bG,he];refine uC yQ hf (λu s1 h1=>?_);cases h1;simp;exact Q0.ok _ _ (.inr rfl) (by simp)
theorem b4Q(t:Nm)(s:jK)(hv:pU l s):qV G 47 [.str t] l s (gO l t s) (λ_=>.bY []):=by have hp:qV G 92 [.int .i64 0,.str t] l s _ _:=a3G hl 0 t s hv (by omega);have hf:=a0X (G:=G) hl (gI l 0 t s) s hv;unfold gO;obtain⟨i,e,ln⟩:=s;refine qV.bS func47 rfl ntmps47 rfl ?_;intro Q Q0;simp;refine uC gT hp (λT s1 h1=>?_);cases h1;simp;refine uC sP hf (λu s1 h1=>?_);rw[h1]at Q0;simp;exact Q0.ok _ _ (.inl rfl) (by simp)
theorem xI(t:Nm)(s:jK)(hv:pU l s):qV G 62 [.str t] l s (rQ l t s) (λb=>.d (.bool b)):=by
 have hp:qV G 92 [.int .i64 0,.str t] l s _ _:=a3G hl 0 t s hv (by omega);have her:gI l 0 t s=true->s.er=0:=λh=>by
  by_cases he:s.er=0
  .exact he
  .simp[gI,mL,he]at h
 unfold rQ;obtain⟨i,e,ln⟩:=s;refine qV.bS func62 rfl ntmps62 rfl ?_;intro Q Q0;simp;refine uC gT hp (λT s1 h1=>?_);cases h1;cases hs:gI l 0 t ⟨i,e,ln⟩with
 |true=>have hi:i<l.length:=hv (her hs);have hw:=aY (show i<9223372036854775807 by omega);have Q0:=Q0.ifp hs;simp[hw];exact Q0.ok _ _ (.inr rfl) (by simp)
 |false=>have Q0:=Q0.wP (by rw[hs];decide);simp;exact Q0.ok _ _ (.inr rfl) (by simp)
theorem a8h(s:jK)(hv:pU l s):qV G 104 [] l s (wC aU l s) (λt=>.d (.str t)):=by have hp:qV G 141 [.int .i64 0] l s _ _:=a8g hl 0 s hv (by omega);have hf:=a0X (G:=G) hl (xG aU l 0 s) s hv;obtain⟨i,e,ln⟩:=s;refine qV.bS func104 rfl ntmps104 rfl ?_;intro Q Q0;simp;refine uC yR hp (λT s1 h1=>?_);cases h1;simp;refine uC sP hf (λu s1 h1=>?_);have Q0:=Q0.eq h1;simp;exact Q0.ok _ _ (.inr rfl) (by simp)
end
end
section
def TkW(t:Tok):Prop:=t.kind=0\/t.kind=3\/(t.kind=1/\smU (t.text.headD 0)=true)\/(t.kind=2/\caU (t.text.headD 0)=true)\/(t.kind=4/\smU (t.text.headD 0)=false/\caU (t.text.headD 0)=false)
def sgN(s:Nm):Bool:= !smU (s.headD 0)&& !caU (s.headD 0)
theorem TkW.sg{t:Tok}(h:TkW t){s:Nm}(hs:sgN s=true):cK t s=(decide (t.kind=4)&&decide (t.text=s)):=by
 unfold cK;by_cases e:t.text=s
 .subst e;simp only[sgN,f7H,Bool.not_eq_true']at hs;rcases h with h|h|⟨h,h2⟩|⟨h,h2⟩|⟨h,h2⟩
  .simp[h]
  .simp[h]
  .rw[hs.1]at h2;cases h2
  .rw[hs.2]at h2;cases h2
  .simp[h]
 .simp[e]
theorem TkW.ky{t:Tok}(h:TkW t){s:Nm}(hs:smU (s.headD 0)=true)(hc:caU (s.headD 0)=false):cK t s=(decide (t.kind=1)&&decide (t.text=s)):=by
 unfold cK;by_cases e:t.text=s
 .subst e;rcases h with h|h|⟨h,h2⟩|⟨h,h2⟩|⟨h,h2⟩
  .simp[h]
  .simp[h]
  .simp[h]
  .rw[hc]at h2;cases h2
  .rw[hs]at h2;cases h2.1
 .simp[e]
theorem TkW.ti{t:Tok}(h:TkW t){s:Nm}(hs:caU (s.headD 0)=true)(hc:smU (s.headD 0)=false):cK t s=(decide (t.kind=2)&&decide (t.text=s)):=by
 unfold cK;by_cases e:t.text=s
 .subst e;rcases h with h|h|⟨h,h2⟩|⟨h,h2⟩|⟨h,h2⟩
  .simp[h]
  .simp[h]
  .rw[hc]at h2;cases h2
  .simp[h]
  .rw[hs]at h2;cases h2.2
 .simp[e]
def RfS{α:Type}(ln:Int)(x:kN α)(y:α×jK):Prop:=match x with
 | .ok a j=>y=(a,⟨j,0,ln⟩)
 | .bad n e=>e≠0/\y.2.er=e/\y.2.ln=n
structure cS {α:Type} (l:List Tok) (low:Nat) (x:aZ α) (y:RM α):Prop where
 sim:∀i ln,low<=i->i<l.length->RfS ln (x i) (y ⟨i,0,ln⟩)
 wK:∀s,s.er≠0->(y s).2=s
def yA{α:Type}(y:RM α):Prop:=∀s,s.er≠0->(y s).2=s
section
variable {kw:Nm->Bool} {l:List Tok} {low m:Nat} {α β:Type} {ln:Int}
theorem cS.up{x:aZ α}{y:RM α}{k:Nat}(h:cS l low x y)(hk:low<=k):cS l k x y:=⟨λi ln h1 h2=>h.sim i ln (by omega) h2,h.wK⟩
theorem cS.bE(a:α):cS l low (pure a) (pure a):=⟨λi ln _ _=>rfl,λs _=>rfl⟩
theorem yA.bE(a:α):yA (pure a:RM α):=λs _=>rfl
theorem yA.zO{x:RM α}{f:α->RM β}(hx:yA x)(hf:∀a,yA (f a)):yA (x >>=f):=λs h=>by rw[rW];have h1:=hx s h;rw[hf _ _ (by rw[h1];exact h),h1]
theorem RfS.zO{x:aZ α}{y:RM α}{f:α->aZ β}{g:α->RM β}{i:Nat}(h:RfS ln (x i) (y ⟨i,0,ln⟩))(hk:∀a,yA (g a))(hf:∀a j,x i=.ok a j->RfS ln (f a j) (g a ⟨j,0,ln⟩)):RfS ln ((x >>=f) i) ((y >>=g) ⟨i,0,ln⟩):=by
 rw[cX,rW];cases hx:x i with
 |ok a j=>rw[hx]at h;have h:y ⟨i,0,ln⟩=(a,⟨j,0,ln⟩):=h;rw[h];exact hf a j hx
 |bad n e=>
  rw[hx]at h;obtain⟨h1,h2,h3⟩:e≠0/\_:=h;have h4:=hk (y ⟨i,0,ln⟩).1 (y ⟨i,0,ln⟩).2 (by rw[h2];exact h1);refine⟨h1,?_,?_⟩
  .rw[h4];exact h2
  .rw[h4];exact h3
theorem cS.zO{x:aZ α}{y:RM α}{f:α->aZ β}{g:α->RM β}(hx:cS l low x y)(ax:aB l m x)(hf:∀a,cS l (low+m) (f a) (g a)):cS l low (x >>=f) (y >>=g):=
 ⟨λi ln h1 h2=>RfS.zO (hx.sim i ln h1 h2) (λa=>(hf a).wK) λa j h=>(hf a).sim j ln (by have:=ax i a j h2 h;omega) (ax i a j h2 h).2,yA.zO hx.wK λa=>(hf a).wK⟩
theorem cS.b0{x:aZ α}{y:RM α}{f:α->aZ β}{g:α->RM β}(hx:cS l low x y)(ax:aB l m x)(hf:∀a,cS l low (f a) (g a)):cS l low (x >>=f) (y >>=g):=hx.zO ax λa=>(hf a).up (by omega)
theorem cS.ite{c:Bool}{x x':aZ α}{y y':RM α}(h:cS l low x y)(h':cS l low x' y'):cS l low (if c then x else x') (if c then y else y'):=by
 cases c
 .exact h'
 .exact h
theorem cS.test{c:jK->Bool}{x:aZ α}{g:Bool->RM α}(hk:∀b,yA (g b))(h:∀i ln,low<=i->i<l.length->RfS ln (x i) (g (c ⟨i,0,ln⟩) ⟨i,0,ln⟩)):cS l low x (c9P c >>=g):=⟨h,λs hs=>hk _ s hs⟩
variable (hE:jJ l) (hW:∀i,TkW (aK l i))
include hE hW
omit hW in
theorem c3P{i:Nat}(hi: ¬i<l.length):(aK l i).kind=0:=by
 have h:=hE.2;have e:aK l i=aK l (l.length-1):=by have hp:0<l.length:=List.length_pos_iff.2 hE.1;unfold aK;rw[if_neg hi,if_pos (by omega)];rw[List.getLastD_eq_getLast?,List.getLast?_eq_getElem?,List.getD_eq_getElem?_getD]
 rw[e];exact h
omit hE hW in
theorem c0q{k i:Nat}(h:i+k<l.length):mL l k ⟨i,0,ln⟩=aK l (i+k):=by unfold mL;rw[if_pos ⟨rfl,h⟩]
omit hE hW in
theorem a3H{i:Nat}(h:i<l.length):mL l 0 ⟨i,0,ln⟩=aK l i:=by
 rw[c0q (k:=0) h]
 rfl
omit hE hW in
theorem c0r{s:jK}{k:Nat}(h:s.er≠0):mL l k s=⟨0,[],0,0⟩:=by unfold mL;rw[if_neg (λh'=>h h'.1)]
omit hW in
theorem c9Q(k i:Nat):(mL l k ⟨i,0,ln⟩).kind=(aK l (i+k)).kind:=by
 by_cases h:i+k<l.length
 .rw[c0q h]
 .rw[c3P hE h];unfold mL;rw[if_neg (λh'=>h h'.2)]
theorem c8n(k i:Nat){t:Nm}(ht:sgN t=true):gI l k t ⟨i,0,ln⟩=aL l (i+k) t:=by
 unfold gI aL;rw[(hW (i+k)).sg ht];by_cases h:i+k<l.length
 .rw[c0q h]
 .rw[c9Q hE,c3P hE h];simp
theorem zG(i:Nat){t:Nm}(ht:sgN t=true):gI l 0 t ⟨i,0,ln⟩=aL l i t:=c8n hE hW 0 i ht
theorem c8o{i:Nat}(hi:i<l.length){t:Nm}(h1:smU (t.headD 0)=true)(h2:caU (t.headD 0)=false):b4O l t ⟨i,0,ln⟩=aL l i t:=by unfold b4O aL;rw[(hW i).ky h1 h2,a3H (by omega)]
omit hE hW in
theorem a6v(kw:Nm->Bool){i:Nat}(hi:i<l.length):xG kw l 0 ⟨i,0,ln⟩=jY kw (aK l i):=by unfold xG jY;rw[a3H (by omega)]
omit hE hW in
theorem c0s{i:Nat}(hi:i<l.length):a9E l ⟨i,0,ln⟩=rM (aK l i):=by unfold a9E rM;rw[a3H (by omega)]
omit hE hW in
theorem yB{s:jK}{k:Nat}{t:Nm}(h:s.er≠0):gI l k t s=false:=by unfold gI;rw[c0r h];simp
omit hE hW in
theorem c0t{s:jK}{k:Nat}(h:s.er≠0):xG kw l k s=false:=by unfold xG;rw[c0r h];simp
omit hE hW in
theorem c0u{s:jK}(h:s.er≠0):a9E l s=false:=by unfold a9E;rw[c0r h];simp
omit hE hW in
theorem b8C{s:jK}(h:s.er≠0):oR l s=s:=by unfold oR;rw[if_neg h]
omit hE hW in
theorem xJ{i:Nat}(hi:i<l.length):oR l ⟨i,0,ln⟩=⟨i,14,(aK l i).line⟩:=by unfold oR;rw[if_pos rfl,a3H (by omega)]
omit hE hW in
theorem b8D{i:Nat}(hi:i<l.length):(oR l ⟨i,0,ln⟩).er≠0:=by
 rw[xJ hi]
 show(14:Int)≠0
 decide
omit hE hW in
theorem RfS.fail{i:Nat}(hi:i<l.length)(a:α):RfS ln (dN l i) (a,oR l ⟨i,0,ln⟩):=by rw[xJ hi];exact⟨by decide,rfl,rfl⟩
omit hE hW in
theorem yA.take(b:Bool):yA (uO l b):=λs h=>by unfold uO;rw[if_neg (λh'=>h h'.2)];exact b8C h
omit hE hW in
theorem yA.tk(c:jK->Bool):yA (a5A l c):=λs h=>yA.take (c s) s h
omit hE hW in
theorem yA.a5E(t:Nm):yA (gO l t):=λs h=>yA.take _ s h
omit hE hW in
theorem yA.d3J(t:Nm):yA (rQ l t):=λs h=>by unfold rQ;rw[yB h];rfl
omit hE hW in
theorem cS.take{ok:Tok->Bool}{c:jK->Bool}(h:∀i ln,low<=i->i<l.length->c ⟨i,0,ln⟩=ok (aK l i)):cS l low (mB l ok) (a5A l c):=⟨λi ln h1 h2=>by
 unfold mB a5A uO;rw[h i ln h1 h2];cases hk:ok (aK l i)with
 |true=>
  rw[if_pos rfl,if_pos ⟨rfl,rfl⟩,a3H (by omega)]
  rfl
 |false=>rw[if_neg (by decide),if_neg (λh=>by cases h.1)];exact RfS.fail h2 _,yA.tk c⟩
omit hE hW in
theorem cS.word:cS l low (bL kw l) (wC kw l):=cS.take λi ln _ h=>a6v kw h
omit hE hW in
theorem cS.sort:cS l low (xA kw l) (d3G kw l):=cS.take λi ln _ h=>by rw[c0s h,a6v kw h,Bool.or_comm]
theorem RfS.tk{t:Nm}{r:List Nm}{c:jK->Bool}{i:Nat}(hi:i<l.length){g:Nm->RM β}{f:Unit->aZ β}(hc:c ⟨i,0,ln⟩=aL l i t)(hk:∀a,yA (g a))(hf:aL l i t=true->∀a,RfS ln ((aV l r >>=f) (i+1)) (g a ⟨i+1,0,ln⟩)):RfS ln ((aV l (t::r) >>=f) i) ((a5A l c >>=g) ⟨i,0,ln⟩):=by
 rw[cX,rW];unfold aV a5A uO;rw[hc];cases h:aL l i t with
 |true=>rw[if_pos rfl,if_pos ⟨rfl,rfl⟩];have:=hf h (mL l 0 ⟨i,0,ln⟩).text;rw[cX]at this;exact this
 |false=>
  rw[if_neg (by decide),if_neg (λh=>by cases h.1)];have h4:=hk [] (oR l ⟨i,0,ln⟩) (b8D hi);refine⟨by decide,?_,?_⟩
  .rw[h4,xJ hi]
  .rw[h4,xJ hi]
theorem cS.key{t:Nm}{r:List Nm}{g:Nm->RM β}{f:Unit->aZ β}(h1:smU (t.headD 0)=true)(h2:caU (t.headD 0)=false)(hf:∀a,cS l (low+1) (aV l r >>=f) (g a)):cS l low (aV l (t::r) >>=f) (b8z l t >>=g):=
 ⟨λi ln h3 h4=>RfS.tk hE hW h4 (c8o hE hW h4 h1 h2) (λa=>(hf a).wK) λhs a=>(hf a).sim (i+1) ln (by omega) (aH hE h4 hs),yA.zO (yA.tk _) λa=>(hf a).wK⟩
theorem cS.a5E{t:Nm}{r:List Nm}{g:Unit->RM β}{f:Unit->aZ β}(ht:sgN t=true)(hf:cS l (low+1) (aV l r >>=f) (g ())):cS l low (aV l (t::r) >>=f) (gO l t >>=g):=
 ⟨λi ln h3 h4=>by have:=RfS.tk hE hW (ln:=ln) (t:=t) (r:=r) (c:=gI l 0 t) h4 (g:=λ_=>g ()) (f:=f) (zG hE hW i ht) (λ_=>hf.wK) λhs _=>hf.sim (i+1) ln (by omega) (aH hE h4 hs);exact this,yA.zO (yA.a5E _) λ_=>hf.wK⟩
omit hE hW in
theorem cS.nil{g:RM β}{f:Unit->aZ β}(h:cS l low (f ()) g):cS l low (aV l [] >>=f) g:=h
theorem cS.d3J{t:Nm}(ht:sgN t=true):cS l low (cY l t) (rQ l t):=⟨λi ln h1 h2=>by
 unfold cY rQ;rw[zG hE hW i ht];split
 .rfl
 .rfl,yA.d3J t⟩
omit hE hW in
theorem yA.loop{c:Nm}{one:α->RM α}(h:∀a,yA (one a)):∀(g:Nat) (a:α),yA (tM l c one g a)
 |0,a=>λs _=>rfl
 |g+1,a=>λs hs=>by unfold tM;rw[if_neg hs]
theorem RfS.loop{c:Nm}(ht:sgN c=true){one:α->aZ α}{a0T:α->RM α}(h0:∀a,cS l low (one a) (a0T a))(a0:∀a,aB l 0 (one a)):∀(g:Nat) (a:α) (i:Nat),low<=i->i<l.length->l.length<g+i->RfS ln (gA l c one g a i) (tM l c a0T g a ⟨i,0,ln⟩)
 |0,a,i,h1,h2,h3=>absurd h3 (by omega)
 |g+1,a,i,h1,h2,h3=>by
  unfold gA tM;rw[if_pos rfl];have h:=(h0 a).sim i ln h1 h2;cases hx:one a i with
  |bad n e=>rw[hx]at h;obtain⟨k1,k2,k3⟩:e≠0/\_:=h;rw[yB (by rw[k2];exact k1),if_neg (by decide)];exact⟨k1,k2,k3⟩
  |ok b j=>
   rw[hx]at h;have h:a0T a ⟨i,0,ln⟩=(b,⟨j,0,ln⟩):=h;have ha:=a0 a i b j h2 hx;rw[h];simp only[zG hE hW j ht];cases hs:aL l j c with
   |true=>rw[if_pos rfl,if_pos rfl];exact RfS.loop ht h0 a0 g b (j+1) (by omega) (aH hE ha.2 hs) (by omega)
   |false=>
    rw[if_neg (by decide),if_neg (by decide)]
    rfl
theorem cS.list{c:Nm}(ht:sgN c=true){one:α->aZ α}{a0T:α->RM α}(h0:∀a,cS l low (one a) (a0T a))(a0:∀a,aB l 0 (one a))(a:α):cS l low (dE l c one a) (a8c l c a0T a):=
 ⟨λi ln h1 h2=>RfS.loop hE hW ht h0 a0 _ a i h1 h2 (by omega),yA.loop (λa=>(h0 a).wK) _ a⟩
omit hE hW in
theorem yA.b4y{c:jK->Bool}(hc:∀s,s.er≠0->c s=false){one:α->RM α}:∀(g:Nat) (a:α),yA (wD c one g a)
 |0,a=>λs _=>rfl
 |g+1,a=>λs hs=>by unfold wD;rw[hc s hs];rfl
omit hE hW in
theorem RfS.b4y{c:Nat->Bool}{c':jK->Bool}(hc:∀s,s.er≠0->c' s=false)(hcc:∀i ln,i<l.length->c' ⟨i,0,ln⟩=c i){one:α->aZ α}{a0T:α->RM α}(h0:∀a i ln,low<=i->i<l.length->c i=true->RfS ln (one a i) (a0T a ⟨i,0,ln⟩))(a1:∀a i b j,i<l.length->c i=true->one a i=.ok b j->i+1<=j/\j<l.length):∀(g:Nat) (a:α) (i:Nat),low<=i->i<l.length->l.length<g+i->RfS ln (dQ c one g a i) (wD c' a0T g a ⟨i,0,ln⟩)
 |0,a,i,h1,h2,h3=>absurd h3 (by omega)
 |g+1,a,i,h1,h2,h3=>by
  unfold dQ wD;rw[hcc i ln h2];cases hci:c i with
  |false=>
   rw[if_neg (by decide),if_neg (by decide)]
   rfl
  |true=>
   rw[if_pos rfl,if_pos rfl];have h:=h0 a i ln h1 h2 hci;cases hx:one a i with
   |bad n e=>rw[hx]at h;obtain⟨k1,k2,k3⟩:e≠0/\_:=h;have hk:=yA.b4y hc (one:=a0T) g (a0T a ⟨i,0,ln⟩).1 (a0T a ⟨i,0,ln⟩).2 (by rw[k2];exact k1);exact⟨k1,by rw[hk];exact k2,by rw[hk];exact k3⟩
   |ok b j=>rw[hx]at h;have h:a0T a ⟨i,0,ln⟩=(b,⟨j,0,ln⟩):=h;have ha:=a1 a i b j h2 hci hx;rw[h];exact RfS.b4y hc hcc h0 a1 g b j (by omega) ha.2 (by omega)
omit hE hW in
theorem cS.many{c:Nat->Bool}{c':jK->Bool}(hc:∀s,s.er≠0->c' s=false)(hcc:∀i ln,i<l.length->c' ⟨i,0,ln⟩=c i){one:α->aZ α}{a0T:α->RM α}(h0:∀a i ln,low<=i->i<l.length->c i=true->RfS ln (one a i) (a0T a ⟨i,0,ln⟩))(a1:∀a i b j,i<l.length->c i=true->one a i=.ok b j->i+1<=j/\j<l.length)(a:α):cS l low (rN l c one a) (c6B l c' a0T a):=
 ⟨λi ln h1 h2=>RfS.b4y hc hcc h0 a1 _ a i h1 h2 (by omega),yA.b4y hc _ a⟩
end
end
section
open Go Go.VM
variable {G:GT}
theorem cS.sB{α:Type}{l:List Tok}{low m:Nat}{x:aZ α}{y:RM α}(h:cS l low x y)(ax:aB l m x){s s1:jK}{a:α}(hv:pU l s)(gW:s.er=0->low<=s.pl)(hy:y s=(a,s1)):s1.er=0->s.er=0/\s.pl+m<=s1.pl/\s1.pl<l.length:=λh1=>by
 by_cases he:s.er=0
 .obtain⟨i,e,ln⟩:=s;simp only at he;subst he;have hi:i<l.length:=hv rfl;have hs:=h.sim i ln (gW rfl) hi;rw[hy]at hs;cases hx:x i with
  |ok b j=>rw[hx]at hs;have hs:(a,s1)=(b,⟨j,0,ln⟩):=hs;cases hs;exact⟨rfl,ax i _ j hi hx⟩
  |bad n e=>rw[hx]at hs;obtain⟨k1,k2,k3⟩:e≠0/\_:=hs;exact absurd (k2.symm.trans h1) k1
 .have:=h.wK s he;rw[hy]at this;exact absurd (this▸h1) he
theorem pU.next{l:List Tok}{s s1:jK}{k:Nat}(h:s1.er=0->s.er=0/\s.pl+k<=s1.pl/\s1.pl<l.length):pU l s1:=λh1=>(h h1).2.2
section
variable {α:Type} {l:List Tok} {c:Code} {st:St} {Q:Exit->St->Prop}
theorem a6w(hE:jJ l){s:jK}{t:Nm}(h:gI l 0 t s=true):s.er=0/\s.pl+1<l.length:=by
 unfold gI mL at h;by_cases hs:s.er=0/\s.pl+0<l.length
 .rw[if_pos hs]at h;simp only[f7H,decide_eq_true_eq]at h;exact⟨hs.1,oQ hE (i:=s.pl) hs.2 (by have:=h.1;simp only[Nat.add_zero]at this;omega)⟩
 .rw[if_neg hs]at h;simp at h
theorem d3K(hE:jJ l)(sep:Nm)(one:α->RM α)(len:α->Nat)(J:α->Prop)(tm:Nat)(ws:α->List (Nat×DV))(H:α->jK->List (Nat×aW))(own:α->List (TypeId×List VM.Loc))(g0:Nat)(a0:α)(s0:jK)(hg:l.length<g0)(hv:pU l s0)(hl0:len a0=0)(hJ:J a0)(h0:uN st (eS c st ((tm,.d (.bool true))::ws a0) (H a0 s0) (own a0)))(hround:∀a s,s.er=0->s.pl<l.length->s0.er=0/\s0.pl<=s.pl->len a<=s.pl->J a->∀R:St->Prop,(∀st' b s1,one a s=(b,s1)->uN st' (eS c st ((tm,.d (.bool (rQ l sep s1).1))::ws b) (H b (rQ l sep s1).2) (own b))->(s1.er=0->s.pl<=s1.pl/\s1.pl<l.length)->len b<=len a+1->J b->R st')->
   XK prog G [.code c] .normal (eS c st ((tm,.d (.bool true))::ws a) (H a s) (own a)) λe st'=>match e with
   | .normal=>R st'
   |e=>Q e st')(b8E:∀a s m,(m=false\/s.er≠0)->(s.er=0->s0.er=0/\s0.pl<=s.pl)->len a<=l.length+1->J a->pU l s->tM l sep one g0 a0 s0=(a,s)->∀R:St->Prop,XK prog G [.code c] .normal (eS c st ((tm,.d (.bool m))::ws a) (H a s) (own a)) λe st'=>match e with
   | .normal=>R st'
   |e=>Q e st'):SW prog G (.loop c) st Q:=by
 obtain⟨Y,hY⟩:∃Y,tM l sep one g0 a0 s0=Y:=⟨_,rfl⟩;simp only[hY]at b8E;refine SW.yP (ι:={x:α×jK×Option Nat//pU l x.2.1/\len x.1<=l.length+1/\J x.1/\(x.2.1.er=0->(len x.1<=x.2.1.pl\/x.2.2=none)/\s0.er=0/\s0.pl<=x.2.1.pl)/\(match x.2.2 with
  |some g=>(x.2.1.er=0->l.length<g+x.2.1.pl)/\tM l sep one g x.1 x.2.1=Y
  |none=>Y=(x.1,x.2.1))}) (λx=>(tm,.d (.bool x.1.2.2.isSome))::ws x.1.1) (λx=>H x.1.1 x.1.2.1) (λx=>own x.1.1) (λx=>match x.1.2.2 with
  |none=>0
  |some _=>l.length-x.1.2.1.pl+1) ⟨(a0,s0,some g0),hv,by simp only;omega,hJ,λh=>⟨.inl (by simp only;omega),h,f7X _⟩,λ_=>by simp only;omega,hY⟩ h0 ?_
 rintro⟨⟨a,s,og⟩,h1,h2,h3,h4,h5⟩;simp only at h1 h2 h3 h4 h5;cases og with
 |none=>exact b8E a s false (.inl rfl) (λh=>(h4 h).2) h2 h3 h1 h5 _
 |some g=>
  simp only at h5;by_cases he:s.er=0
  .have hi:=h1 he;have f1T:=h5.1 he;obtain⟨g,rfl⟩:∃k,g=k+1:=⟨g-1,by omega⟩;have hla:len a<=s.pl:=by
    rcases(h4 he).1 with h|h
    .exact h
    .cases h
   have hbs:=(h4 he).2;refine hround a s he hi hbs hla h3 _ λst' b s1 ho hw ha hl hJb=>?_;have heq:=h5.2;unfold tM at heq;rw[if_pos he,ho]at heq;cases hs:gI l 0 sep s1 with
   |true=>
    obtain⟨e1,e2⟩:=a6w hE hs;have a1:=ha e1;simp only[hs,if_true]at heq;have hh:rQ l sep s1=(true,⟨s1.pl+1,s1.er,s1.ln⟩):=by unfold rQ;rw[if_pos hs]
    rw[hh]at hw;exact aX.mk ⟨(b,⟨s1.pl+1,s1.er,s1.ln⟩,some g),λ_=>e2,by simp only;omega,hJb,λ_=>⟨.inl (by simp only;omega),hbs.1,by simp only;omega⟩,λ_=>by simp only;omega,heq⟩ hw (by simp only;omega)
   |false=>
    simp only[hs,Bool.false_eq_true,if_false]at heq;have hh:rQ l sep s1=(false,s1):=by unfold rQ;rw[if_neg (by rw[hs];decide)]
    rw[hh]at hw;exact aX.mk ⟨(b,s1,none),λh=>(ha h).2,by simp only;omega,hJb,λh=>⟨.inr rfl,hbs.1,by have:=ha h;simp only;omega⟩,heq.symm⟩ hw (by simp only;omega)
  .refine b8E a s true (.inr he) (λh=>(h4 h).2) h2 h3 h1 ?_ _;rw[<-h5.2];cases g with
   |zero=>rfl
   |succ g=>unfold tM;rw[if_neg he]
theorem d9t(cnd:jK->Bool)(hc:∀s,s.er≠0->cnd s=false)(one:α->RM α)(len:α->Nat)(J:α->Prop)(ws:α->List (Nat×DV))(H:α->jK->List (Nat×aW))(own:α->List (TypeId×List VM.Loc))(g0:Nat)(a0:α)(s0:jK)(hg:l.length<g0)(hv:pU l s0)(hl0:len a0<=l.length+1/\(s0.er=0->len a0<=s0.pl))(hJ:J a0)(h0:uN st (eS c st (ws a0) (H a0 s0) (own a0)))(hround:∀a s,s.er=0->s.pl<l.length->s0.er=0/\s0.pl<=s.pl->len a<=s.pl->J a->cnd s=true->∀R:St->Prop,(∀st' b s1,one a s=(b,s1)->uN st' (eS c st (ws b) (H b s1) (own b))->(s1.er=0->s.pl+1<=s1.pl/\s1.pl<l.length)->len b<=len a+1->J b->R st')->
   XK prog G [.code c] .normal (eS c st (ws a) (H a s) (own a)) λe st'=>match e with
   | .normal=>R st'
   |e=>Q e st')(b8E:∀a s,cnd s=false->(s.er=0->s0.er=0/\s0.pl<=s.pl)->len a<=l.length+1->J a->pU l s->wD cnd one g0 a0 s0=(a,s)->∀R:St->Prop,XK prog G [.code c] .normal (eS c st (ws a) (H a s) (own a)) λe st'=>match e with
   | .normal=>R st'
   |e=>Q e st'):SW prog G (.loop c) st Q:=by
 obtain⟨Y,hY⟩:∃Y,wD cnd one g0 a0 s0=Y:=⟨_,rfl⟩;simp only[hY]at b8E;refine SW.yP (ι:={x:α×jK×Nat//pU l x.2.1/\len x.1<=l.length+1/\J x.1/\(x.2.1.er=0->len x.1<=x.2.1.pl/\s0.er=0/\s0.pl<=x.2.1.pl)/\(x.2.1.er=0->l.length<x.2.2+x.2.1.pl)/\wD cnd one x.2.2 x.1 x.2.1=Y}) (λx=>ws x.1.1) (λx=>H x.1.1 x.1.2.1) (λx=>own x.1.1) (λx=>if x.1.2.1.er=0 then l.length-x.1.2.1.pl+1 else 0) ⟨(a0,s0,g0),hv,hl0.1,hJ,λh=>⟨hl0.2 h,h,f7X _⟩,λ_=>by simp only;omega,hY⟩ h0 ?_;rintro⟨⟨a,s,g⟩,h1,h2,h3,h4,h5,h6⟩;simp only at h1 h2 h3 h4 h5 h6;cases hs:cnd s with
 |true=>
  have he:s.er=0:=by
   by_cases he:s.er=0
   .exact he
   .rw[hc s he]at hs;cases hs
  have hi:=h1 he;have f1T:=h5 he;obtain⟨g,rfl⟩:∃k,g=k+1:=⟨g-1,by omega⟩;have hbs:=(h4 he).2;refine hround a s he hi hbs (h4 he).1 h3 hs _ λst' b s1 ho hw ha hl hJb=>?_;unfold wD at h6;rw[hs,if_pos rfl,ho]at h6;have h4':=h4 he;refine aX.mk ⟨(b,s1,g),λh=>(ha h).2,by simp only;omega,hJb,λh=>⟨?_,hbs.1,?_⟩,λh=>?_,h6⟩ hw ?_
  .have:=ha h;simp only;omega
  .have:=ha h;simp only;omega
  .have:=ha h;simp only;omega
  .simp only[he,if_true];split
   .rename_i h;have:=ha h;omega
   .omega
 |false=>
  refine b8E a s hs (λh=>(h4 h).2) h2 h3 h1 ?_ _;rw[<-h6];cases g with
  |zero=>rfl
  |succ g=>unfold wD;rw[hs,if_neg (by decide)]
end
end
section
section
variable {kw:Nm->Bool} {andP:Pr->Pr->Pr} {aI:List Tok->Nat->Nat->kN Pr} {l:List Tok} {low m:Nat} {α β γ:Type} {ln:Int}
theorem c9R(x:aZ α)(f:α->aZ β)(g:β->aZ γ):(x >>=f) >>=g=x >>=λa=>f a >>=g:=funext λi=>by
 rw[cX,cX,cX];cases x i with
 |ok a j=>simp only[cX]
 |bad n e=>rfl
theorem cS.assoc{x:aZ α}{f:α->aZ β}{g:β->aZ γ}{y:RM γ}(h:cS l low ((x >>=f) >>=g) y):cS l low (x >>=λa=>f a >>=g) y:=by rwa[c9R]at h
theorem cS.e4Q{x:aZ γ}{y:RM α}{f:α->RM β}{g:β->RM γ}(h:cS l low x ((y >>=f) >>=g)):cS l low x (y >>=λa=>f a >>=g):=h
theorem cS.c6C{x:aZ α}{y:RM α}{f:α->aZ β}{g:α->RM β}(P:α->Prop)(hx:cS l low x y)(ax:aB l m x)(hP:∀i a j,i<l.length->x i=.ok a j->P a)(hf:∀a,P a->cS l low (f a) (g a))(hk:∀a,yA (g a)):cS l low (x >>=f) (y >>=g):=
 ⟨λi ln h1 h2=>RfS.zO (hx.sim i ln h1 h2) hk λa j h=>(hf a (hP i a j h2 h)).sim j ln (by have:=ax i a j h2 h;omega) (ax i a j h2 h).2,yA.zO hx.wK hk⟩
theorem RfS.f1U{x y:aZ α}{f:α->aZ β}{i:Nat}{z:β×jK}(h:x i=y i)(H:RfS ln ((y >>=f) i) z):RfS ln ((x >>=f) i) z:=by rw[cX]at H|-;rw[h];exact H
theorem a8i{c:Nm}{one:α->aZ α}{P Q:α->Prop}(h:∀a i b j,P a->one a i=.ok b j->P b/\Q b):∀(g:Nat) (a:α) (i:Nat) (b:α) (j:Nat),P a->gA l c one g a i=.ok b j->Q b
 |0,a,i,b,j,_,h0=>by unfold gA at h0;cases h0
 |g+1,a,i,b,j,hp,h0=>by
  unfold gA at h0;split at h0
  .cases h0
  .rename_i a' j' ho;have h2:=h a i a' j' hp ho;split at h0
   .exact a8i h g a' (j'+1) b j h2.1 h0
   .cases h0;exact h2.2
theorem d3L{s:Nm}{r:List Nm}{f:Unit->aZ β}{i:Nat}(h:aL l i s=true):(aV l (s::r) >>=f) i=(aV l r >>=f) (i+1):=by
 have e:aV l (s::r) i=aV l r (i+1):=by
  show(if aL l i s=true then _ else _)=_
  rw[if_pos h]
 rw[cX,cX,e]
theorem c3Q{s:Nm}{r:List Nm}{f:Unit->aZ β}{i:Nat}(h:aL l i s=false):(aV l (s::r) >>=f) i=dN l i:=by
 have e:aV l (s::r) i=dN l i:=by
  show(if aL l i s=true then _ else _)=_
  rw[if_neg (by rw[h];decide)]
 rw[cX,e]
 rfl
theorem c9S{s:Nm}{f:Bool->aZ β}{i:Nat}(h:aL l i s=true):(cY l s >>=f) i=f true (i+1):=bN (by unfold cY;rw[h,if_pos rfl])
theorem c9T{s:Nm}{f:Bool->aZ β}{i:Nat}(h:aL l i s=false):(cY l s >>=f) i=f false i:=bN (by unfold cY;rw[h,if_neg (by decide)])
theorem cS.e4R{c:jK->Bool}{g:Nm->RM α}(hc:∀i ln,c ⟨i,0,ln⟩=false)(hk:∀a,yA (g a)):cS l low (dN l) (a5A l c >>=g):=⟨λi ln h1 h2=>by rw[rW];unfold a5A uO;rw[hc i ln,if_neg (λh=>by cases h.1)];have h4:=hk [] (oR l ⟨i,0,ln⟩) (b8D h2);exact⟨by decide,by rw[h4,xJ h2],by rw[h4,xJ h2]⟩,yA.zO (yA.tk _) hk⟩
theorem e4S{c:jK->Bool}{b:Bool}{i:Nat}(h:c ⟨i,0,ln⟩=b)(hi:i<l.length):a5A l c ⟨i,0,ln⟩=if b then((aK l i).text,⟨i+1,0,ln⟩) else([],oR l ⟨i,0,ln⟩):=by subst h;unfold a5A uO;rw[a3H hi];cases c ⟨i,0,ln⟩<;>rfl
theorem c6D{s:Nm}(c:Bool)(A B:α->aZ α)(z:α)(i:Nat):(if c then dE l s A z i else dE l s B z i)=dE l s (λout=>if c then A out else B out) z i:=by cases c<;>rfl
theorem c6E{s:jK}(h:s.er≠0):cM kw l s=((mW,false),s):=by
 unfold cM;rw[c0t h,c0u h]
 rfl
variable (hE:jJ l) (hW:∀i,TkW (aK l i))
include hE hW
theorem cS.e4T:cS l low (dE l [44] (λout=>do let w <- bL kw l;pure (out++[w])) []) (wC kw l >>=a2M kw l):=⟨λi ln h1 h2=>by
 rw[rW];unfold dE;rw[gA]
 dsimp only
 have h:=(cS.word (kw:=kw) (l:=l) (low:=low)).sim i ln h1 h2;cases hx:bL kw l i with
 |bad n e=>rw[hx]at h;obtain⟨k1,k2,k3⟩:e≠0/\_:=h;unfold a2M;rw[gQ hx,yB (by rw[k2];exact k1),if_neg (by decide)];exact⟨k1,k2,k3⟩
 |ok w j=>
  rw[hx]at h;have h:wC kw l ⟨i,0,ln⟩=(w,⟨j,0,ln⟩):=h;have ha:=aB.word (kw:=kw) hE i w j h2 hx;rw[bN hx,h];unfold a2M;simp only[gF,zG hE hW j (by decide:sgN [44]=true),List.nil_append];cases hs:aL l j [44]with
  |true=>rw[if_pos rfl,if_pos rfl];exact RfS.loop hE hW (low:=0) (by decide) (λa=>cS.b0 cS.word (aB.word hE) λw=>cS.bE _) (λa=>((aB.word hE).le (by omega)).bl λ_=>aB.bE _) _ _ _ (by omega) (aH hE ha.2 hs) (by omega)
  |false=>
   rw[if_neg (by decide),if_neg (by decide)]
   rfl,yA.zO (yA.tk _) λw s hs=>by unfold a2M;rw[yB hs];rfl⟩
theorem cS.words:cS l low (gG kw l) (b3l kw l):=by unfold gG b3l;refine cS.a5E hE hW (by decide) (cS.nil (cS.e4Q (cS.b0 (m:=0) (cS.e4T hE hW) ?_ λout=>cS.a5E hE hW (by decide) (cS.nil (cS.bE _)))));exact aB.list hE (λa=>((aB.word hE).le (by omega)).bl λ_=>aB.bE _) _
theorem cS.e8o(v:Bool):cS l low ((if v then cY l [118] else pure false) >>=λb=>if b then pure [118] else bL kw l) (a5A l λs=>xG kw l 0 s||v&&b4O l [118] s):=⟨λi ln h1 h2=>by
 have b3Y:RfS ln (dN (α:=Nm) l i) ([],oR l ⟨i,0,ln⟩):=RfS.fail h2 _;rw[e4S (b:=jY kw (aK l i)||v&&aL l i [118]) (by rw[a6v kw h2,c8o hE hW h2 (by decide) (by decide)]) h2];have hw:∀b:Bool,b=false->RfS ln (bL kw l i) (if (jY kw (aK l i)||b)=true then((aK l i).text,(⟨i+1,0,ln⟩:jK)) else([],oR l ⟨i,0,ln⟩)):=λb hb=>by
  subst hb;unfold bL mB;rw[Bool.or_false];cases jY kw (aK l i)with
  |true=>rfl
  |false=>exact b3Y
 cases v with
 |false=>
  show RfS ln ((pure false >>=λb=>if b=true then pure [118] else bL kw l:aZ Nm) i) _
  rw[bN (gF _ _),if_neg (by decide)];exact hw _ rfl
 |true=>
  show RfS ln ((cY l [118] >>=λb=>if b=true then pure [118] else bL kw l) i) _
  cases hs:aL l i [118]with
  |true=>
   have ht:(aK l i).text=[118]:=by unfold aL cK at hs;simp only[f7H,decide_eq_true_eq]at hs;exact hs.2
   rw[c9S hs,ht,if_pos rfl,if_pos (by simp)]
   rfl
  |false=>rw[c9T hs,if_neg (by decide)];exact hw _ rfl,yA.tk _⟩
theorem cS.vars(v:Bool):cS l low (rO kw l v) (d3H kw l v):=by
 unfold rO d3H;refine cS.list hE hW (by decide) (λa=>?_) (λa=>?_) _
 .refine cS.assoc (cS.b0 (m:=0) (cS.e8o hE hW v) ?_ λnm=>cS.a5E hE hW (by decide) (cS.nil (cS.b0 cS.sort (aB.sort hE) λs=>cS.bE _)));exact(aB.ite (aB.skip hE _) (aB.bE _)).bl λb=>aB.ite (aB.bE _) ((aB.word hE).le (by omega))
 .refine aB.bl (aB.ite (aB.skip hE _) (aB.bE _)) λb=>?_;refine aB.bl (aB.ite (aB.bE _) ((aB.word hE).le (by omega))) λnm=>?_;exact((aB.exp hE _ _).le (by omega)).bl λ_=>((aB.sort hE).le (by omega)).bl λ_=>aB.bE _
omit hE in
theorem d3M{i:Nat}(hi:i<l.length):
  (∃t,eO kw l i=.ok (some t) (i+1)/\cM kw l ⟨i,0,ln⟩=((t,true),⟨i+1,0,ln⟩)/\t.op≠4/\aL l i [123]=false/\aL l i [40]=false)\/
  (eO kw l i=.ok none i/\rM (aK l i)=true/\cM kw l ⟨i,0,ln⟩=((tU 4 (aK l i).text,true),⟨i+1,0,ln⟩)/\aL l i [123]=false/\aL l i [40]=false)\/
  (eO kw l i=.ok none i/\rM (aK l i)=false/\cM kw l ⟨i,0,ln⟩=((mW,false),⟨i,0,ln⟩)):=by
 unfold cM;rw[a6v kw hi,c0s hi,a3H (by omega)];unfold eO;have e1:aL l i [73,110,116]=_:=(hW i).ti (by decide) (by decide);have e2:aL l i [66,111,111,108]=_:=(hW i).ti (by decide) (by decide);have e3:aL l i [67,101,108,108]=_:=(hW i).ti (by decide) (by decide);have e4:aL l i [123]=_:=(hW i).sg (by decide);have e5:aL l i [40]=_:=(hW i).sg (by decide);rw[e1,e2,e3,e4,e5];generalize aK l i=t;obtain⟨k,x,n,ln'⟩:=t;simp only[jY,rM];by_cases k1:k=1
 .subst k1;by_cases hk:kw x=true
  .exact .inr (.inr ⟨by simp[hk],by simp,by simp[hk]⟩)
  .exact .inl ⟨tU 5 x,by simp[hk],by simp[hk],by simp[tU],by simp,by simp⟩
 by_cases k2:k=2
 .subst k2;by_cases x1:x=[73,110,116]
  .exact .inl ⟨tU 1 [],by simp[x1],by simp[x1],by simp[tU],by simp,by simp⟩
  by_cases x2:x=[66,111,111,108]
  .exact .inl ⟨tU 2 [],by simp[x2],by simp[x2],by simp[tU],by simp,by simp⟩
  by_cases x3:x=[67,101,108,108]
  .exact .inl ⟨tU 3 [],by simp[x3],by simp[x3],by simp[tU],by simp,by simp⟩
  exact .inr (.inl ⟨by simp[x1,x2,x3],by simp,by simp[x1,x2,x3],by simp,by simp⟩)
 exact .inr (.inr ⟨by simp[k1,k2],by simp[k2],by simp[k1,k2]⟩)
variable (aP:vY aI l) (hN:∀i e n x,i<l.length->aI l i e=.bad n x->x≠0)
include aP hN
omit hE hW aP in
theorem RfS.bef{i:Nat}(hi:i<l.length)(e:Nat):RfS ln (aI l i e) (qU aI l e ⟨i,0,ln⟩):=by
 unfold qU;rw[if_pos rfl];cases h:aI l i e with
 |ok p j=>simp only[h];rfl
 |bad n x=>simp only[h];exact⟨hN _ _ _ _ hi h,rfl,rfl⟩
omit hE hW aP hN in
theorem yA.bef(e:Nat):yA (qU aI l e):=λs hs=>by unfold qU;rw[if_neg hs]
omit hE hW aP in
theorem cS.pred:cS l low (kO aI l) (a8d aI l):=⟨λi ln _ h2=>RfS.bef hN h2 _,yA.bef _⟩
section
variable {ty:aZ Ty} {ty':RM Ty} (kH:cS l (low+1) ty ty') (mT:aB l 1 ty)
include kH mT
theorem cS.b9W:cS l low (vW andP aI l ty) (a5B andP aI l ty'):=by
 unfold vW a5B;refine cS.a5E hE hW (by decide) (cS.key hE hW (by decide) (by decide) λ_=>cS.a5E hE hW (by decide) (cS.nil ?_));refine cS.b0 (kH.up (by omega)) mT λt=>?_;have hk:∀low,cS l low (kO aI l >>=λp=>aV l [[125]] >>=λ_=>pure {t with pred:=if t.pred.op=0 then p else andP t.pred p}) (a8d aI l >>=λp=>gO l [125] >>=λ_=>pure {t with pred:=if t.pred.op=0 then p else andP t.pred p}):=λlow=>cS.b0 (cS.pred hN) aP.pred λp=>cS.a5E hE hW (by decide) (cS.nil (cS.bE _));by_cases h6:t.op=6
 .rw[if_pos h6];exact cS.e4R (λi ln=>by simp[h6]) (λa=>(hk 0).wK)
 .rw[if_neg h6];exact⟨λi ln h1 h2=>RfS.tk hE hW h2 (by rw[zG hE hW i (t:=[124]) (by decide)];simp[h6]) (λa=>(hk 0).wK) λhs a=>(hk 0).sim (i+1) ln (by omega) (aH hE h2 hs),yA.zO (yA.tk _) λa=>(hk 0).wK⟩
theorem cS.e8p:cS l low (gR kw andP aI l ty) (a8e kw andP aI l ty'):=⟨λi ln h1 h2=>by
 unfold gR a8e;rw[zG hE hW i (t:=[123]) (by decide),zG hE hW i (t:=[40]) (by decide)];rcases d3M hW (kw:=kw) (ln:=ln) h2 with⟨t,b1,b2,b3,b4,b5⟩|⟨b1,b2,b3,b4,b5⟩|⟨b1,b2,b3⟩
 .rw[bN b1,b2,b4,b5]
  rfl
 .rw[bN b1,b3,b4,b5];simp only[b2,if_true]
  rfl
 .rw[bN b1,b3];simp only[b2,Bool.false_eq_true,if_false];cases s1:aL l i [123]with
  |true=>rw[if_pos rfl,if_pos rfl];exact(cS.b9W hE hW aP hN kH mT).sim i ln h1 h2
  |false=>
   rw[if_neg (by decide),if_neg (by decide)];cases s2:aL l i [40]with
   |true=>rw[if_pos rfl,d3L s2];have h:cS l (low+1) (ty >>=λt=>aV l [[41]] >>=λ_=>pure t) (ty' >>=λt=>gO l [41] >>=λ_=>pure t):=cS.b0 kH mT λt=>cS.a5E hE hW (by decide) (cS.nil (cS.bE _));exact h.sim (i+1) ln (by omega) (aH hE h2 s2)
   |false=>rw[if_neg (by decide),c3Q s2];exact RfS.fail h2 _,λs hs=>by
 unfold a8e;rw[yB hs,yB hs,c6E hs,if_neg (by decide),if_neg (by decide),if_neg (λh=>by cases h)];exact b8C hs⟩
theorem cS.e8q(name:Nm):cS l low (do
  let args <- rN l (b1Q kw l) (λout=>do let t <- gR kw andP aI l ty;pure (out++[t])) []
  let b <- cY l [60]
  if b then do
   let ps <- dE l [44] (λout=>do
    aV l [[118],[46]]
    let p <- kO aI l
    pure (out++[p])) []
   aV l [[62]]
   pure {tU 4 name with args:=args,a9i:=ps}
  else pure {tU 4 name with args:=args}:aZ Ty) (a3C kw andP aI l ty' name):=by
 have aS:aB l 1 (gR kw andP aI l ty):=aB.zF hE (mT.le (by omega)) aP.pred;unfold a3C;refine cS.b0 (m:=0) (cS.many (λs hs=>?_) (λi ln hi=>?_) (λa i ln h1 h2 _=>(cS.b0 (cS.e8p hE hW aP hN kH mT) aS λt=>cS.bE _).sim i ln h1 h2) (λa i b j hi _ hx=>(aS.bl λt=>aB.bE _) i b j hi hx) _) (aB.many (λa=>(aS.le (by omega)).bl λt=>aB.bE _) _) λargs=>?_
 .rw[c0t hs,c0u hs,yB hs,yB hs];rfl
 .unfold b1Q;rw[a6v kw hi,c0s hi,zG hE hW i (t:=[123]) (by decide),zG hE hW i (t:=[40]) (by decide),Bool.or_assoc,Bool.or_assoc]
 refine cS.b0 (cS.d3J hE hW (by decide)) (aB.skip hE _) λb=>cS.ite ?_ (cS.bE _);have aO:∀out:List Pr,aB l 0 (aV l [[118],[46]] >>=λ_=>kO aI l >>=λp=>pure (out++[p])):=λout=>((aB.exp hE _ _).le (by omega)).bl λ_=>aP.pred.bl λ_=>aB.bE _;exact cS.b0 (m:=0) (cS.list hE hW (by decide) (λa=>cS.key hE hW (by decide) (by decide) λ_=>cS.a5E hE hW (by decide) (cS.nil (cS.b0 (cS.pred hN) aP.pred λp=>cS.bE _))) aO _) (aB.list hE aO _) λps=>cS.a5E hE hW (by decide) (cS.nil (cS.bE _))
omit aP hN in
theorem cS.c9E:cS l low (vX kw l ty) (xH kw l ty'):=by
 unfold vX xH;refine cS.a5E hE hW (by decide) (cS.nil ?_);have a1:∀out:List Nm×List Ty,aB l 0 (bL kw l >>=λw=>aV l [[58]] >>=λ_=>ty >>=λt=>pure (out.1++[w],out.2++[t])):=λout=>((aB.word hE).le (by omega)).bl λ_=>((aB.exp hE _ _).le (by omega)).bl λ_=>(mT.le (by omega)).bl λ_=>aB.bE _;have a2:∀out:List Nm×List Ty,aB l 0 (ty >>=λt=>pure (out.1,out.2++[t])):=λout=>(mT.le (by omega)).bl λ_=>aB.bE _;have hK:∀(named:Bool) (p:List Nm×List Ty),decide (p.1.length=0)= !named->cS l (low+1) (aV l [[41]] >>=λ_=>(λi=>
   if decide (p.1.length=0)&&decide (p.2.length=1)&& !aL l i [45,62] then .ok (p.2.headD mW) i
   else(do
    aV l [[45,62]]
    let t <- ty
    pure {tU 6 []with names:=p.1,args:=p.2++[t]}:aZ Ty) i:aZ Ty)) (gO l [41] >>=λ_=>c9P (λs=>decide (p.2.length=1)&&(!named&& !gI l 0 [45,62] s)) >>=λc=>if c then pure (p.2.headD mW) else gO l [45,62] >>=λ_=>ty' >>=λt=>pure {tU 6 []with names:=p.1,args:=p.2++[t]}):=λnamed p hn=>by
  have hr:cS l (low+1) (do
    aV l [[45,62]]
    let t <- ty
    pure {tU 6 []with names:=p.1,args:=p.2++[t]}:aZ Ty) (gO l [45,62] >>=λ_=>ty' >>=λt=>pure {tU 6 []with names:=p.1,args:=p.2++[t]}):=cS.a5E hE hW (by decide) (cS.nil (cS.b0 (kH.up (by omega)) mT λt=>cS.bE _))
  refine cS.a5E hE hW (by decide) (cS.nil (cS.test (λb=>?_) λi ln h1 h2=>?_))
  .cases b
   .exact hr.wK
   .exact yA.bE _
  .rw[zG hE hW i (t:=[45,62]) (by decide),hn];have e:(decide (p.2.length=1)&&(!named&& !aL l i [45,62]))=(!named&&decide (p.2.length=1)&& !aL l i [45,62]):=by cases named<;>simp
   rw[e];cases (!named&&decide (p.2.length=1)&& !aL l i [45,62])with
   |true=>rfl
   |false=>exact hr.sim i ln (by omega) h2
 have hB:∀named:Bool,cS l (low+1) (dE l [44] (λ(out:List Nm×List Ty)=>if named then bL kw l >>=λw=>aV l [[58]] >>=λ_=>ty >>=λt=>pure (out.1++[w],out.2++[t]) else ty >>=λt=>pure (out.1,out.2++[t])) ([],[])) (a8c l [44] (λ(out:List Nm×List Ty)=>if named then wC kw l >>=λw=>gO l [58] >>=λ_=>ty' >>=λt=>pure (out.1++[w],out.2++[t]) else ty' >>=λt=>pure (out.1,out.2++[t])) ([],[])):=λnamed=>cS.list hE hW (by decide) (λa=>cS.ite (cS.b0 cS.word (aB.word hE) λw=>cS.a5E hE hW (by decide) (cS.nil (cS.b0 (kH.up (by omega)) mT λt=>cS.bE _))) (cS.b0 kH mT λt=>cS.bE _)) (λa=>aB.ite (a1 a) (a2 a)) _;have hI:∀(named:Bool) i a j,i<l.length->dE l [44] (λ(out:List Nm×List Ty)=>if named then bL kw l >>=λw=>aV l [[58]] >>=λ_=>ty >>=λt=>pure (out.1++[w],out.2++[t]) else ty >>=λt=>pure (out.1,out.2++[t])) ([],[]) i=.ok a j->decide (a.1.length=0)= !named:=λnamed i a j hi h=>by
  cases named with
  |true=>
   refine a8i (P:=λ_=>True) (Q:=λp=>decide (p.1.length=0)=false) (λa i b j _ hx=>⟨trivial,?_⟩) _ _ _ _ _ trivial h;rw[if_pos rfl]at hx;simp only[cX]at hx
   repeat' split at hx
   all_goals first
    |cases hx
    |skip
   simp
  |false=>
   refine a8i (P:=λp=>p.1=[]) (Q:=λp=>decide (p.1.length=0)=true) (λa i b j h1 hx=>?_) _ _ _ _ _ rfl h;rw[if_neg (by decide)]at hx;simp only[cX]at hx
   repeat' split at hx
   all_goals first
    |cases hx
    |skip
   simp[h1]
 have key:∀named:Bool,cS l (low+1) _ _:=λnamed=>cS.c6C (m:=0) (λp=>decide (p.1.length=0)= !named) (hB named) (aB.list hE (λa=>aB.ite (a1 a) (a2 a)) _) (hI named) (hK named) λp=>by
  by_cases hp:decide (p.1.length=0)= !named
  .exact(hK named p hp).wK
  .refine yA.zO (yA.a5E _) λ_ s hs=>?_;rw[rW]
   show((if (decide (p.2.length=1)&&(!named&& !gI l 0 [45,62] s))=true then _ else _:RM Ty) s).2=s
   split
   .rfl
   .exact(yA.zO (yA.a5E _) λ_=>yA.zO kH.wK λ_=>yA.bE _) s hs
 refine cS.test (λb=>(key b).wK) λi ln h1 h2=>?_;have e:(xG kw l 0 ⟨i,0,ln⟩&&gI l 1 [58] ⟨i,0,ln⟩)=(jY kw (aK l i)&&cK (aK l (i+1)) [58]):=by
  rw[a6v kw h2,c8n hE hW 1 i (t:=[58]) (by decide)]
  rfl
 rw[e];have hs:=(key (jY kw (aK l i)&&cK (aK l (i+1)) [58])).sim i ln h1 h2;refine RfS.f1U (y:=dE l [44] (λ(out:List Nm×List Ty)=>if (jY kw (aK l i)&&cK (aK l (i+1)) [58]) then bL kw l >>=λw=>aV l [[58]] >>=λ_=>ty >>=λt=>pure (out.1++[w],out.2++[t]) else ty >>=λt=>pure (out.1,out.2++[t])) ([],[])) ?_ hs;exact c6D _ _ _ _ _
theorem cS.c9F:cS l low (xB kw andP aI l ty) (a3D kw andP aI l ty'):=⟨λi ln h1 h2=>by
 unfold xB a3D;rw[if_pos rfl,zG hE hW i (t:=[123]) (by decide),zG hE hW i (t:=[40]) (by decide)];rcases d3M hW (kw:=kw) (ln:=ln) h2 with⟨t,b1,b2,b3,b4,b5⟩|⟨b1,b2,b3,b4,b5⟩|⟨b1,b2,b3⟩
 .rw[bN b1,b2,b4,b5,if_neg (by decide),if_neg (by decide),if_pos rfl,if_neg b3]
  rfl
 .rw[bN b1,b3,b4,b5];simp only[b2,if_true,Bool.false_eq_true,if_false];have hn:=b0M hE h2 b2;have e:uB kw andP aI l ty i=_:=bN (x:=jB l) (show jB l i=.ok (aK l i).text (i+1) by unfold jB mB;rw[b2,if_pos rfl]);rw[e];exact(cS.e8q hE hW aP hN kH mT _).sim (i+1) ln (by omega) hn
 .rw[bN b1,b3];simp only[b2,Bool.false_eq_true,if_false];cases s1:aL l i [123]with
  |true=>rw[if_pos rfl,if_pos rfl];exact(cS.b9W hE hW aP hN kH mT).sim i ln h1 h2
  |false=>
   rw[if_neg (by decide),if_neg (by decide)];cases s2:aL l i [40]with
   |true=>rw[if_pos rfl];exact(cS.c9E hE hW kH mT).sim i ln h1 h2
   |false=>rw[if_neg (by decide)];unfold vX;rw[c3Q s2];exact RfS.fail h2 _,λs hs=>by
 unfold a3D;rw[if_neg hs]⟩
end
theorem cS.a7W:∀(n low:Nat),l.length<n+low->cS l low (zE kw andP aI l n) (a8f kw andP aI l n)
 |0,low,h=>⟨λi ln h1 h2=>absurd h (by omega),λs _=>rfl⟩
 |n+1,low,h=>cS.c9F hE hW aP hN (cS.a7W n (low+1) (by omega)) (aB.a7W hE aP.pred n)
theorem cS.typ:cS l low (kP kw andP aI l) (d3I kw andP aI l):=cS.a7W hE hW aP hN _ _ (by omega)
end
end
section
open Go Go.VM
variable {G:GT}
theorem c0v{l:List Tok}{s:Nm}{r:List Nm}{i:Nat}(h:aL l i s=true):aV l (s::r) i=aV l r (i+1):=by
 show(if aL l i s=true then aV l r (i+1) else dN l i)=_
 rw[if_pos h]
theorem d9u{l:List Tok}{s:Nm}{r:List Nm}{i:Nat}(h:aL l i s=false):aV l (s::r) i=dN l i:=by
 show(if aL l i s=true then aV l r (i+1) else dN l i)=_
 rw[if_neg (by rw[h];decide)]
theorem mM(l:List Tok)(ss:List Nm)(i:Nat)(hi:i<l.length)(hl:l.length<=2000000)(hE:jJ l)(hss:ss.length<=1000):qT G 43 [.sl (strs ss)] l i (aV l ss i) (λ_=>.bY []):=by
 refine mX.bS func43 rfl ntmps43 rfl (by simp) ?_;intro Q hQ;simp;refine SW.yP (ι:={k:Nat//k<=ss.length/\i+k<l.length/\aV l (ss.drop k) (i+k)=aV l ss i}) (λk=>[(8,.d (.int .i64 k.1))]) (λk=>rH l (i+k.1)) (λ_=>[]) (λk=>ss.length-k.1) ⟨0,by simp[hi]⟩ (by simp) ?_;rintro⟨k,hk,hik,hp⟩;rw[<-hp]at hQ;by_cases aE:k<ss.length
 .have hg:=b3Z aE;have hw:=aY (show k<9223372036854775807 by omega);have hd:ss.drop k=ss[k]::ss.drop (k+1):=f7U aE;rw[hd]at hQ hp;simp[aE,hg];cases hs:aL l (i+k) ss[k]with
  |true=>have hn:=aH hE hik hs;rw[c0v hs]at hp;refine mY (ds:=[.str ss[k]]) (d:=.d (.bool true)) gS (rD l (i+k) ss[k] hik hl hs) ?_;simp[hw];exact aX.mk ⟨k+1,aE,by omega,hp⟩ (by simp[Nat.add_assoc]) (by simp;omega)
  |false=>rw[d9u hs]at hQ;refine mY (ds:=[.str ss[k]]) (d:=.d (.bool false)) gS (b0Q l (i+k) ss[k] hik hl hs) ?_;simp;refine rdX (ds:=[]) vB (xF (α:=Unit) l (i+k) hik hl λ_=>.bY []) (λa j hx=>by unfold dN at hx;cases hx) (λn e hx=>?_);simp;exact hQ.bad n e _ hx
 .have hd:ss.drop k=[]:=List.drop_eq_nil_of_le (by omega);rw[hd]at hQ;simp[aE];exact hQ.ok () (i+k) _ _ rfl (.inl rfl) (by simp)
section
variable {α β:Type} {Q Q':Exit->St->Prop} {rs:List ResultVar} {l:List Tok} {i:Nat} {enc:β->DV} {Y:β->List (Nat×aW)} {own:List (TypeId×List VM.Loc)} {av:List DV} {A:Prop} {st:St} {ls:List (Option VM.Loc)} {dst:Option Tmp} {all:Array Oper} {ops:List Oper} {k:List XI}
theorem dG{s:Nm}{r:List Nm}{g:Unit->aZ β}(Q0:rV Q rs l enc Y own ((aV l (s::r) >>=g) i))(p0:A/\i<l.length)(hF:jJ l)(mP:∀a j,aV l (s::r) i=.ok a j->rV Q rs l enc Y own (g a j)->i+1<=j/\j<l.length->XK prog G (.ops all ops::k) .normal ⟨gV dst (.bY []) st.tmps,bP 100000 (rdO l j) st.H,eT dst (dropKey 100000 st.own)⟩ Q')(hl:l.length<=2000000:=by omega)(hss:(s::r).length<=1000:=by simp)(hq:∀v s,(∀s,Q (.panic v) s)->Q' (.panic v) s:=by first|exact λ_ _ h=>h _|(intro v s h;simp;first|exact h _|exact h))(hw:WkT av (.ptr 100000 0::[D.sl (strs (s::r))].map .d):=by simp[strs])(hH:getKey 100000 st.H=some (rdO l i):=by simp):dC prog G 43 av ls dst all ops k st Q':=
 rP (hw:=hw) (hH:=hH) Q0 p0 kF (mM l _ i p0.2 hl hF hss) (aB.exp hF s r) mP hq
theorem rdT{s:Nm}(h:aL l i s=true)(p0:A/\i<l.length)(hF:jJ l)(hX:i+1<=i+1/\i+1<l.length->XK prog G (.ops all ops::k) .normal ⟨gV dst (.d (.bool true)) st.tmps,bP 100000 (rdO l (i+1)) st.H,eT dst (dropKey 100000 st.own)⟩ Q)(hl:l.length<=2000000:=by omega)(hw:WkT av (.ptr 100000 0::[D.str s].map .d):=by simp)(hH:getKey 100000 st.H=some (rdO l i):=by simp):dC prog G 60 av ls dst all ops k st Q:=
 mY (hw:=hw) (hH:=hH) (d:=.d (.bool true)) gS (rD l i s p0.2 hl h) (hX ⟨f7X _,aH hF p0.2 h⟩)
theorem xK{s:Nm}(h:aL l i s=false)(p0:A/\i<l.length)(hX:XK prog G (.ops all ops::k) .normal ⟨gV dst (.d (.bool false)) st.tmps,bP 100000 (rdO l i) st.H,eT dst (dropKey 100000 st.own)⟩ Q)(hl:l.length<=2000000:=by omega)(hw:WkT av (.ptr 100000 0::[D.str s].map .d):=by simp)(hH:getKey 100000 st.H=some (rdO l i):=by simp):dC prog G 60 av ls dst all ops k st Q:=
 mY (hw:=hw) (hH:=hH) (d:=.d (.bool false)) gS (b0Q l i s p0.2 hl h) hX
end
theorem a8j(l:List Tok)(i:Nat)(ok:Tok->Bool)(hi:i<l.length)(hl:l.length<=2000000):qT G 119 [.bool (ok (aK l i))] l i (mB l ok i) (λs=>.d (.str s)):=by
 have ht:=cJ (G:=G) l (i+1) i (-1) (by omega) (by omega) (by intro e;subst e;simp at hi) hl;have hw:=aY (show i<9223372036854775807 by omega);refine mX.bS func119 rfl ntmps119 rfl (by simp) ?_;intro Q hQ;cases h:ok (aK l i)with
 |true=>simp[hw];refine mY (i:=i+1) (ds:=[.int .i64 (-1)]) bR ht ?_;generalize hT:aK l i=T at hQ ht h|-;have hk:=hQ.ok T.text (i+1) .ret;obtain⟨k,s,n,ln⟩:=T;simp[bG];exact hk _ (by unfold mB;rw[hT,if_pos h]) (.inr rfl) (by simp)
 |false=>simp;refine rdX (ds:=[]) vB (xF (α:=Nm) l i hi hl λ_=>.bY []) (λa j hx=>by unfold dN at hx;cases hx) (λn e hx=>?_);exact hQ.bad n e _ (by unfold mB;rw[if_neg (by rw[h];decide)];exact hx)
section
variable (hG:G 1=some dP)
include hG
theorem dD(l:List Tok)(i:Nat)(hi:i<l.length)(hl:l.length<=2000000):qT G 71 [] l i (bL aU l i) (λs=>.d (.str s)):=by have ht:=cJ (G:=G) l i i 0 (by omega) (by omega) (by intro e;subst e;simp at hi) hl;refine mX.bS func71 rfl ntmps71 rfl (by simp) ?_;intro Q hQ;simp;refine mY (ds:=[.int .i64 0]) bR ht ?_;simp;refine mQ.mk kQ (mR hG (aK l i)) ?_;simp;refine rdX (ds:=[.bool (jY aU (aK l i))]) a1R (a8j l i (jY aU) hi hl) (λs j hx=>?_) (λn e hx=>hQ.bad n e _ hx);simp;exact hQ.ok s j _ _ hx (.inr rfl) (by simp)
theorem a3I(l:List Tok)(i:Nat)(hi:i<l.length)(hl:l.length<=2000000):qT G 137 [] l i (xA aU l i) (λs=>.d (.str s)):=by
 have ht:=cJ (G:=G) l i i 0 (by omega) (by omega) (by intro e;subst e;simp at hi) hl;refine mX.bS func137 rfl ntmps137 rfl (by simp) ?_;intro Q hQ;simp;refine mY (ds:=[.int .i64 0]) bR ht ?_;simp;refine mQ.mk kQ (mR hG (aK l i)) ?_;have hc:=a8j (G:=G) l i (λt=>jY aU t||rM t) hi hl;cases h:jY aU (aK l i)with
 |true=>simp only[h,Bool.true_or]at hc;simp;refine rdX (ds:=[.bool true]) a1R hc (λs j hx=>?_) (λn e hx=>hQ.bad n e _ hx);simp;exact hQ.ok s j _ _ hx (.inr rfl) (by simp)
 |false=>simp only[h,Bool.false_or]at hc;simp;refine mY (ds:=[.int .i64 0]) bR ht ?_;generalize hT:aK l i=T at hc|-;obtain⟨k,x,n,ln⟩:=T;simp[bG];refine rdX (hw:=by simp[rM]) (ds:=[.bool (rM ⟨k,x,n,ln⟩)]) a1R hc (λs j hx=>?_) (λn e hx=>hQ.bad n e _ hx);simp;exact hQ.ok s j _ _ hx (.inr rfl) (by simp)
end
theorem kR(l:List Tok)(i:Nat)(hi:i<l.length)(hl:l.length<=2000000):qT G 116 [] l i (jB l i) (λs=>.d (.str s)):=by have ht:=cJ (G:=G) l i i 0 (by omega) (by omega) (by intro e;subst e;simp at hi) hl;have hc:=a8j (G:=G) l i rM hi hl;refine mX.bS func116 rfl ntmps116 rfl (by simp) ?_;intro Q hQ;simp;refine mY (ds:=[.int .i64 0]) bR ht ?_;generalize hT:aK l i=T at hc|-;obtain⟨k,x,n,ln⟩:=T;simp[bG];refine rdX (hw:=by simp[rM]) (ds:=[.bool (rM ⟨k,x,n,ln⟩)]) a1R hc (λs j hx=>?_) (λn e hx=>hQ.bad n e _ hx);simp;exact hQ.ok s j _ _ hx (.inr rfl) (by simp)
end
section
open Go Go.VM
variable {G:GT}
abbrev c9U:Pr->DV:=λp=>.d (.agg (zP p))
structure oS (G:GT) (aI:List Tok->Nat->Nat->kN Pr) (l:List Tok):Prop where
 kw:G 1=some dP
 len:l.length<=50000
 fin:jJ l
 bef:∀i e,i<l.length->e<=l.length->qT G 155 [.int .i64 e] l i (aI l i e) c9U
 sB:vY aI l
 nod:∀i e p j,i<l.length->aI l i e=.ok p j->bH p+i<=j/\p.op≠0
theorem a7j:VM.Enters prog 155:=.mk func155 rfl
theorem pY:VM.Enters prog 126:=.mk func126 rfl
theorem dH:VM.Enters prog 114:=.mk func114 rfl
theorem a3J:VM.Enters prog 117:=.mk func117 rfl
theorem b4R:VM.Enters prog 166:=.mk func166 rfl
section
variable {aI:List Tok->Nat->Nat->kN Pr} {l:List Tok} (hV:oS G aI l)
include hV
theorem sQ(i:Nat)(hi:i<l.length):qT G 126 [] l i (kO aI l i) c9U:=by have hl:=hV.len;refine mX.bS func126 rfl ntmps126 rfl (by simp) ?_;intro Q hQ;simp;refine rdX (ds:=[.int .i64 l.length]) a7j (hV.bef i l.length hi (f7X _)) (λp j hx=>?_) (λn e hx=>hQ.bad n e _ hx);simp;exact hQ.ok p j _ _ hx (.inr rfl) (by simp)
omit hV in
structure a0Y {α:Type} (l:List Tok) (K:List (Nat×Nat)) (b9o:List DV) (X:α->List (Nat×aW)) (own:List (TypeId×List VM.Loc)):Prop where
 fit:∀a b i j,aJ K ⟨b9o,rH l i++X a,own⟩ (.bY []) (rH l j++X b)=true
 e8r:∀a i,aJ K ⟨b9o,rH l i++X a,own⟩ .undef (rH l i++X a)=true
 cap:WkT b9o (aQ K b9o)
 hh:∀a i,WkH (rH l i++X a) (cH K (rH l i++X a))
 tk:∀a i tmps,uW ⟨tmps,rH l i++X a,own⟩ own (own.map (pK K []))=some []
 ow:∀t,own.map (jA K (some t))=own
 arg:∀n,zD n [] own=true
 st:∀a b i j,bM K (rH l j++X b) ((100000,rdO l i)::X a)=(100000,rdO l j)::X b
 dk:dropKey 100000 own=own
 d0:∀t:Nat,cG (.t t) own=own
 dl:∀t:Nat,List.map (λc=>(c.1,List.filter (λx=> !decide (x=VM.Loc.t t)) c.2)) own=own
 tt:(own.all λc=>c.2.all λl=>match l with| .t i=>decide (i<3)|_=>true)=true
 wk:∀a i t1 t2,WkT t1 t2->uN ⟨t1,rH l i++X a,own⟩ ⟨t2,rH l i++X a,own⟩
 ed:∀a i (s:St),s.H=rH l i++X a->s.own=own->a3z prog s [] (.bY []) (rH l i++X a) own
theorem b8F{α:Type}{c:Nm}{one:α->aZ α}{g:Nat}{a b:α}{i j:Nat}(h:one a i=.ok b j):gA l c one (g+1) a i=if aL l j c then gA l c one g b (j+1) else .ok b j:=by rw[gA];simp only[h]
theorem b4S{α:Type}{c:Nm}{one:α->aZ α}{g:Nat}{a:α}{i:Nat}{n e:Int}(h:one a i=.bad n e):gA l c one (g+1) a i=.bad n e:=by rw[gA];simp only[h]
theorem a8k:∀K:List (Nat×Nat),dJ K []=[]
 |[]=>rfl
 |p::r=>by unfold dJ;exact a8k r
theorem eP{α:Type}(c:Nm){F:FuncId}{b9o:List DV}{X:α->List (Nat×aW)}{own:List (TypeId×List VM.Loc)}{K:List (Nat×Nat)}(one:α->aZ α)(Inv:α->Nat->Prop)(low:Nat)(he:VM.Enters prog F)(hX:a0Y l K b9o X own)(tD:∀a,aB l 0 (one a))(kD:∀a i,low<=i->i<l.length->Inv a i->mX G F b9o (X a) own l i (one a i) (λ_=>.bY []) X)(hinv:∀a i b j,i<l.length->Inv a i->one a i=.ok b j->Inv b j)(e1T:∀a i,Inv a i->Inv a (i+1))(a0:α)(i0:Nat)(gW:low<=i0)(hi0:i0<l.length)(h0:Inv a0 i0):mX G 114 [.ptr 100000 0,.d (.str c),.clo F b9o] (X a0) own l i0 (dE l c one a0 i0) (λ_=>.bY []) X:=by
 have hl:=hV.len;refine mX.bS func114 rfl ntmps114 rfl hX.tt ?_;intro Q hQ;unfold dE at hQ;simp[hX.dl];refine dC.mk (a0b he (kD a0 i0 gW hi0 h0) K (λa j hx=>hX.fit _ _ _ _) (hX.e8r _ _) hX.cap (hX.hh _ _) (hX.tk _ _ _) (hX.arg _) (λb j hx=>?_) (λn e hx=>hQ.bad n e _ (b4S hV hx)));rw[b8F hV hx]at hQ;simp only[bD,hX.st,hX.ow,a8k hV,bA,eT,gV,cG,List.map_nil,List.append_nil];simp[aQ];refine SW.yP (ι:={x:α×Nat×Nat//low<=x.2.1/\x.2.1<l.length/\l.length<x.2.2+x.2.1/\Inv x.1 x.2.1/\(if aL l x.2.1 c=true then gA l c one x.2.2 x.1 (x.2.1+1) else .ok x.1 x.2.1)=(if aL l j c=true then gA l c one (l.length+1) b (j+1) else .ok b j)}) (λ_=>[]) (λx=>rH l x.1.2.1++X x.1.1) (λ_=>own) (λx=>l.length-x.1.2.1) ⟨(b,j,l.length+1),?_⟩ ?_ ?_
 .have h1:=tD a0 i0 b j hi0 hx;exact⟨by simp only;omega,h1.2,by simp only;omega,hinv a0 i0 b j hi0 h0 hx,rfl⟩
 .refine hX.wk b j _ _ ?_;simp
 .rintro⟨⟨b1,j1,g1⟩,hl1,qW,hg1,hI1,hp1⟩;simp only at hl1 qW hg1 hI1 hp1;rw[<-hp1]at hQ;simp[hX.dl];by_cases hs:aL l j1 c=true
  .have hn:=aH hV.fin qW hs;rw[hs,if_pos rfl]at hQ hp1;obtain⟨g2,rfl⟩:∃g,g1=g+1:=⟨g1-1,by omega⟩;refine mY (ds:=[.str c]) (d:=.d (.bool true)) gS (rD l j1 c qW (by omega) hs) ?_;simp only[eT,hX.dk,hX.d0];simp[hX.dl];refine dC.mk (a0b he (kD b1 (j1+1) (by omega) hn (e1T _ _ hI1)) K (λa j hx=>hX.fit _ _ _ _) (hX.e8r _ _) hX.cap (hX.hh _ _) (hX.tk _ _ _) (hX.arg _) (λb2 j2 wN=>?_) (λn e wN=>?_))
   .have ha:=tD b1 (j1+1) b2 j2 hn wN;rw[b8F hV wN]at hp1;simp only[bD,hX.st,hX.ow,a8k hV,bA,eT,gV,cG,List.map_nil,List.append_nil];simp[aQ];refine aX.mk ⟨(b2,j2,g2),by simp only;omega,ha.2,by simp only;omega,hinv _ _ _ _ hn (e1T _ _ hI1) wN,hp1⟩ ?_ (by simp;omega);refine hX.wk b2 j2 _ _ ?_;simp
   .simp;exact hQ.bad n e _ (b4S hV wN)
  .have hs:=Bool.eq_false_iff.2 hs;rw[hs,if_neg (by decide)]at hQ;refine mY (ds:=[.str c]) (d:=.d (.bool false)) gS (b0Q l j1 c qW (by omega) hs) ?_;simp only[eT,hX.dk,hX.d0];simp[hX.dl];exact hQ.ok b1 j1 _ _ rfl (.inl rfl) (hX.ed b1 j1 _ rfl rfl)
end
end
section
open Go Go.VM
variable {G:GT}
theorem a0o(l:List Nm)(s:Nm):strs (l++[s])=strs l++[[.str s]]:=by simp[strs]
abbrev K3:List (Nat×Nat):=[(100000,100000),(100001,100001),(100002,100002)]
theorem a1T:VM.Enters prog 132:=.mk func132 rfl
theorem b7d:VM.Enters prog 173:=.mk func173 rfl
section
variable {aI:List Tok->Nat->Nat->kN Pr} {l:List Tok} (hV:oS G aI l)
include hV
def a2j(out:List Nm):List (Nat×aW):=[(100001,.cells [.d (.sl (strs out))]),(100002,.cells [.ptr 100000 0])]
abbrev d3O:List (TypeId×List VM.Loc):=[(9,[.c 100001 0])]
abbrev zH(l:List Tok)(out:List Nm):aZ (List Nm):=do let w <- bL aU l;pure (out++[w])
theorem c0w(out:List Nm)(i:Nat)(hi:i<l.length)(a0B:out.length<=i):mX G 166 [.ptr 100001 0,.ptr 100002 0] (a2j out) d3O l i (zH l out i) (λ_=>.bY []) a2j:=by
 have hl:=hV.len;refine mX.bS func166 rfl ntmps166 rfl (by simp) ?_;intro Q hQ;simp[a2j];refine oH 2 [1] (.op 0 (.call [3,4,5] .none) (.call [0,3,4,5] .none)) (gX (bL aU l i)) (by kernel_rfl) (by kernel_rfl) ?_;simp;refine⟨?_,?_⟩
 all_goals
  refine rdZ (ds:=[]) cQ (dD hV.kw l i hi (by omega)) (λw j hx=>?_) (λn e hx=>hQ.fail hx _);have hQ2:=hQ.step hx;refine cI.mk ?_;simp;refine cF (by omega) ?_;simp;exact hQ2.ok _ j _ _ rfl (.inl rfl) (by simp[a2j,a0o])
theorem c6F:a0Y l K3 [.ptr 100001 0,.ptr 100002 0] a2j d3O:=by
 constructor
 all_goals intros
 all_goals first
  |rfl
  |simp[a2j,aJ,aT,aN,aM,bC,getKey,aQ,bA,cH,rk,cP,bM, *]
theorem a5F(i:Nat)(hi:i<l.length):qT G 117 [] l i (gG aU l i) (λws=>.d (.sl (strs ws))):=by
 have hl:=hV.len;refine mX.bS func117 rfl ntmps117 rfl (by simp) ?_;intro Q hQ;unfold gG at hQ;simp;refine rdX (hw:=by simp[strs]) (ds:=[.sl (strs [[40]])]) kF (mM l [[40]] i hi (by omega) hV.fin (by simp)) (λu j hx=>?_) (λn e hx=>hQ.fail hx _);have hQ2:=hQ.step hx;have hj:=aB.exp hV.fin _ _ i u j hi hx;simp;have kD:=eP hV [44] (zH l) (λout i=>out.length<=i) 0 b4R (c6F hV) (λa=>((aB.word hV.fin).le (by omega)).bl λ_=>aB.bE _) (λa i _ hi h=>c0w hV a i hi h) (λa i b j hi h hx=>?_) (λa i h=>by omega) [] j (by omega) hj.2 (by simp)
 .refine dC.mk (a0b dH kD [(100000,100000),(100001,3),(100002,1)] (λa j hx=>?_) ?_ ?_ ?_ rfl rfl (λws j2 wN=>?_) (λn e wN=>hQ2.fail wN _))
  .simp[a2j,aJ,aT,aN,aM,bC,getKey]
  .simp[a2j,aJ,aT,aN,aM,bC,getKey]
  .simp[aQ,bA,rk]
  .simp[a2j,aQ,bA,rk,cH,cP]
  .have hQ3:=hQ2.step wN;have sM:=aB.list hV.fin (m:=0) (λa=>((aB.word hV.fin).le (by omega)).bl λ_=>aB.bE _) [] j ws j2 hj.2 wN;simp[bD,a2j,aQ,bA,rk,cH,cP,bM,jA,eZ,dJ];refine rdX (hw:=by simp[strs]) (ds:=[.sl (strs [[41]])]) kF (mM l [[41]] j2 sM.2 (by omega) hV.fin (by simp)) (λu j hx=>?_) (λn e hx=>hQ3.fail hx _);have hQ4:=hQ3.step hx;simp;exact hQ4.ok _ j _ _ rfl (.inr rfl) (by simp)
 .simp only[zH]at hx;rw[cX]at hx;cases hw:bL aU l i with
  |bad n e=>rw[hw]at hx;cases hx
  |ok w k=>rw[hw]at hx;have:=aB.word (kw:=aU) hV.fin i w k hi hw;cases hx;simp;omega
end
end
section
open Go Go.VM
variable {G:GT}
theorem jT{l:List Tok}{s:Nm}{i:Nat}(h:aL l i s=true):cY l s i=.ok true (i+1):=by unfold cY;rw[if_pos h]
theorem jU{l:List Tok}{s:Nm}{i:Nat}(h:aL l i s=false):cY l s i=.ok false i:=by unfold cY;rw[if_neg (by rw[h];decide)]
section
variable {aI:List Tok->Nat->Nat->kN Pr} {l:List Tok} (hV:oS G aI l)
include hV
def a4l(v:Bool)(out:List psV):List (Nat×aW):=[(100001,.cells [.d (.bool v)]),(100002,.cells [.ptr 100000 0]),(100003,.cells [.d (.sl (out.map oL))])]
abbrev e1U:List (TypeId×List VM.Loc):=[(179,[.c 100003 0])]
abbrev K4:List (Nat×Nat):=[(100000,100000),(100001,100001),(100002,100002),(100003,100003)]
abbrev b8G(l:List Tok)(v:Bool)(out:List psV):aZ (List psV):=do
 let b <- (if v then cY l [118] else pure false)
 let name <- (if b then pure [118] else bL aU l)
 aV l [[58]]
 let s <- xA aU l
 pure (out++[(name,s)])
theorem a6x(l:List psV)(x:psV):(l++[x]).map oL=l.map oL++[[.str x.1,.str x.2]]:=by simp[oL]
theorem d3Q(l:List psV):∀x∈l.map oL,x.length=2:=λx hx=>by
 obtain⟨y,_,rfl⟩:=List.mem_map.1 hx
 rfl
theorem c3R(v:Bool)(out:List psV)(i:Nat)(hi:i<l.length)(a0B:out.length<=i):mX G 173 [.ptr 100001 0,.ptr 100002 0,.ptr 100003 0] (a4l v out) e1U l i (b8G l v out i) (λ_=>.bY []) (a4l v):=by
 have hl:=hV.len;refine mX.bS func173 rfl ntmps173 rfl (by simp) ?_;intro Q Q0;obtain⟨j0,rfl⟩:∃j0,j0=i:=⟨_,rfl⟩;have p0:j0<=j0/\j0<l.length:=⟨f7X _,hi⟩;simp[a4l];cases v with
 |false=>
  have Q1:=Q0.step (x:=pure false) rfl;rw[if_neg (by decide)]at Q1;simp;obtain⟨j1,rfl⟩:∃j1,j1=j0:=⟨_,rfl⟩;have p1:=p0;refine rP Q1 p1 cQ (dD hV.kw l j1 p1.2 (by omega)) (aB.word hV.fin) λs j2 x2 Q2 p2=>?_;simp;refine dG Q2 p2 hV.fin λu5 j5 x5 Q5 p5=>?_;simp;refine gH [1] 3 [2] (.op 0 (.call [4,5,6,7] .none) (.call [0,4,5,6,7] .none)) (gX (xA aU l j5)) (by kernel_rfl) (by kernel_rfl) ?_;simp;refine⟨?_,?_⟩
  all_goals
   refine pD Q5 p5 a1S (a3I hV.kw l j5 p5.2 (by omega)) (aB.sort hV.fin) λw j6 x6 Q6 p6=>cI.mk ?_;simp;refine cF (by simp[oL];omega) ?_;simp;exact Q6.ok _ j6 _ _ rfl (.inl rfl) (by simp[a4l,a6x hV])
 |true=>
  cases hs:aL l j0 [118]with
  |true=>
   have Q1:=Q0.step (x:=cY l [118]) (jT hs);rw[if_pos rfl]at Q1;have Q2:=Q1.step (x:=pure [118]) rfl;simp;refine rdT hs p0 hV.fin λp2=>?_;obtain⟨j2,sM⟩:∃j2,j0+1=j2:=⟨_,rfl⟩;rw[sM]at Q2 p2|-;simp;refine dG Q2 p2 hV.fin λu5 j5 x5 Q5 p5=>?_;simp;refine gH [1] 3 [2] (.op 0 (.call [4,5,6,7] .none) (.call [0,4,5,6,7] .none)) (gX (xA aU l j5)) (by kernel_rfl) (by kernel_rfl) ?_;simp;refine⟨?_,?_⟩
   all_goals
    refine pD Q5 p5 a1S (a3I hV.kw l j5 p5.2 (by omega)) (aB.sort hV.fin) λw j6 x6 Q6 p6=>cI.mk ?_;simp;refine cF (by simp[oL];omega) ?_;simp;exact Q6.ok _ j6 _ _ rfl (.inl rfl) (by simp[a4l,a6x hV])
  |false=>
   have Q1:=Q0.step (x:=cY l [118]) (jU hs);rw[if_neg (by decide)]at Q1;simp;refine xK hs p0 ?_;simp;obtain⟨j1,rfl⟩:∃j1,j1=j0:=⟨_,rfl⟩;have p1:=p0;refine rP Q1 p1 cQ (dD hV.kw l j1 p1.2 (by omega)) (aB.word hV.fin) λs j2 x2 Q2 p2=>?_;simp;refine dG Q2 p2 hV.fin λu5 j5 x5 Q5 p5=>?_;simp;refine gH [1] 3 [2] (.op 0 (.call [4,5,6,7] .none) (.call [0,4,5,6,7] .none)) (gX (xA aU l j5)) (by kernel_rfl) (by kernel_rfl) ?_;simp;refine⟨?_,?_⟩
   all_goals
    refine pD Q5 p5 a1S (a3I hV.kw l j5 p5.2 (by omega)) (aB.sort hV.fin) λw j6 x6 Q6 p6=>cI.mk ?_;simp;refine cF (by simp[oL];omega) ?_;simp;exact Q6.ok _ j6 _ _ rfl (.inl rfl) (by simp[a4l,a6x hV])
theorem c9V(v:Bool):a0Y l K4 [.ptr 100001 0,.ptr 100002 0,.ptr 100003 0] (a4l v) e1U:=by
 constructor
 all_goals intros
 all_goals first
  |rfl
  |simp[a4l,aJ,aT,aN,aM,bC,getKey,aQ,bA,cH,rk,cP,bM, *]
theorem b0R(v:Bool)(out:List psV):aB l 1 (b8G l v out):=by refine aB.br (aB.ite (aB.skip hV.fin _) (aB.bE _)) λb=>?_;refine aB.br (aB.ite (aB.bE _) ((aB.word hV.fin).le (by omega))) λnm=>?_;exact(aB.exp hV.fin _ _).bl λ_=>((aB.sort hV.fin).le (by omega)).bl λ_=>aB.bE _
theorem b8H(v:Bool)(a:List psV)(i:Nat)(b:List psV)(j:Nat)(h:b8G l v a i=.ok b j):b.length=a.length+1:=by
 simp only[b8G,cX]at h
 repeat' split at h
 all_goals first|cases h|skip
 all_goals simp
theorem a3K(v:Bool)(i:Nat)(hi:i<l.length):qT G 132 [.bool v] l i (rO aU l v i) (λws=>.d (.sl (ws.map oL))):=by
 have hl:=hV.len;refine mX.bS func132 rfl ntmps132 rfl (by simp) ?_;intro Q Q0;unfold rO at Q0;simp;have kD:=eP hV [44] (b8G l v) (λout i=>out.length<=i) 0 b7d (c9V hV v) (λa=>(b0R hV v a).le (by omega)) (λa i _ hi h=>c3R hV v a i hi h) (λa i b j hi h hx=>?_) (λa i h=>by omega) [] i (by omega) hi (by simp)
 .refine dC.mk (a0b dH kD [(100000,100000),(100001,3),(100002,2),(100003,5)] (λa j hx=>?_) ?_ ?_ ?_ rfl rfl (λws j2 wN=>?_) (λn e wN=>Q0.bad n e _ wN))
  .simp[a4l,aJ,aT,aN,aM,bC,getKey]
  .simp[a4l,aJ,aT,aN,aM,bC,getKey]
  .simp[aQ,bA,rk]
  .simp[a4l,aQ,bA,rk,cH,cP]
  .simp[bD,a4l,aQ,bA,rk,cH,cP,bM,jA,eZ,dJ];exact Q0.ok _ j2 _ _ wN (.inr rfl) (by simp)
 .have h1:=b0R hV v a i b j hi hx;have h2:=b8H hV v a i b j hx;omega
end
end
end Go.Proofs.YtjpodcmhcenjjaaGreatDoor
section
section
namespace Go.Proofs.YtjpodcmhcenjjaaGreatDoor
open Go Go.VM
variable {G:GT}
mutual
def a0c:Pr->Pr->Bool
 |⟨o,n,k,l⟩,⟨o',n',k',l'⟩=>decide (o=o')&&(decide (n=n')&&(decide (k=k')&&(decide (l.length=l'.length)&&vD l l')))
def vD:List Pr->List Pr->Bool
 |a::r,b::s=>a0c a b&&vD r s
 |[],_=>true
 |_::_,[]=>true
end
theorem c8p(a b:Pr):a0c a b=(decide (a.op=b.op)&&(decide (a.name=b.name)&&(decide (a.n=b.n)&&(decide (a.kids.length=b.kids.length)&&vD a.kids b.kids)))):=by cases a;cases b;rfl
mutual
theorem a9G:∀a b:Pr,a0c a b=true↔a=b
 |⟨o,n,k,l⟩,⟨o',n',k',l'⟩=>by
  have:=b8I l l';simp only[a0c,f7H,decide_eq_true_eq,Pr.mk.injEq];constructor
  .rintro⟨h1,h2,h3,h4,h5⟩;exact⟨h1,h2,h3,(this h4).1 h5⟩
  .rintro⟨h1,h2,h3,rfl⟩;exact⟨h1,h2,h3,rfl,(this rfl).2 rfl⟩
theorem b8I:∀l k:List Pr,l.length=k.length->(vD l k=true↔l=k)
 |[],[],_=>by simp[vD]
 |a::r,b::s,h=>by have h1:=a9G a b;have h2:=b8I r s (by simpa using h);simp only[vD,f7H,h1,h2,List.cons.injEq]
 |[],_::_,h=>by simp at h
 |_::_,[],h=>by simp at h
end
theorem b4T{l k:List Pr}{i:Nat}(h:i<l.length)(h':i<k.length):vD (l.drop i) (k.drop i)=(a0c l[i] k[i]&&vD (l.drop (i+1)) (k.drop (i+1))):=by
 rw[f7U h,f7U h']
 rfl
theorem b8J(l k:List Pr):vD (l.drop l.length) k=true:=by simp[vD]
end Go.Proofs.YtjpodcmhcenjjaaGreatDoor
end
section
namespace Go.Proofs.YtjpodcmhcenjjaaGreatDoor
open Go Go.VM
variable {G:GT}
theorem vE:VM.Enters prog 19:=.mk func19 rfl
theorem a0Z:∀t u:Pr,bH t<=900000000->CS prog G 19 [.agg (zP t),.agg (zP u)] (.d (.bool (a0c t u))) none:=by
 refine Pr.ind λt ih=>?_;obtain⟨op,nm,n,l⟩:=t;intro u hN;obtain⟨op',nm',n',l'⟩:=u;simp only at ih;have hn:=oO ⟨op,nm,n,l⟩;have hq:=c8p ⟨op,nm,n,l⟩ ⟨op',nm',n',l'⟩;simp only at hn hq;have hl:=gE l;refine CS.aR func19 rfl ntmps19 rfl ?_;by_cases h1:op=op'
 .by_cases h2:nm=nm'
  .by_cases h4:n=n'
   .by_cases h3:l.length=l'.length
    .simp only[h1,h2,h3,h4,decide_true,Bool.true_and]at hq;simp[h1,h2,h3,h4];refine SW.eE (ι:={i:Nat//i<=l.length/\vD (l.drop i) (l'.drop i)=vD l l' }) (λi=>[(37,.d (.int .i64 i.1))]) (λi=>[(2,.cells [.d (.int .i64 op'),.d (.str nm'),.d (.int .i64 n'),.d (.sl (l.map qH))]),(3,.cells [.d (.int .i64 op'),.d (.str nm'),.d (.int .i64 n'),.d (.sl (l'.map qH))])]) (λ_=>[]) (λi=>l.length-i.1) ⟨0,by simp⟩ (by simp) ?_;rintro⟨i,hi,hR⟩
     try simp only at hi hR
     by_cases aE:i<l.length
     .have b9P:i<l'.length:=by omega
      have hg:=vV aE;have hg':=vV b9P;have hw:=aY (show i<9223372036854775807 by omega);have hb2:=qI aE;have hb3:=hU l (i+1);rw[b4T aE b9P]at hR;simp[b9P,aE,hg,hg'];refine⟨kL.mk (by kernel_rfl),?_⟩;refine aD.mk vE (ih l[i] (List.getElem_mem aE) l'[i] (by omega)) ?_;cases hs:a0c l[i] l'[i]
      .rw[hs,Bool.false_and]at hR;simp[hs,hq, <- hR]
      .rw[hs,Bool.true_and]at hR;simp[hs];exact aX.mk ⟨i+1,aE,hR⟩ (by simp[hw]) (by simp;omega)
     .have:i=l.length:=by omega
      subst this;rw[b8J]at hR;simp[hq, <- hR, <- h3]
    .simp only[h1,h2,h3,h4,decide_true,decide_false,Bool.true_and,Bool.false_and]at hq;have h3': ¬((l.length:Int)=(l'.length:Int)):=by omega
     simp[h1,h2,h3,h3',h4,hq]
   .simp only[h1,h2,h4,decide_true,decide_false,Bool.true_and,Bool.false_and]at hq;simp[h1,h2,h4,hq]
  .simp only[h1,h2,decide_true,decide_false,Bool.true_and,Bool.false_and]at hq;simp[h1,h2,hq]
 .simp only[h1,decide_false,Bool.false_and]at hq;simp[h1,hq]
def c9W(l l':List Pr):Bool:=decide (l.length=l'.length)&&vD l l'
end Go.Proofs.YtjpodcmhcenjjaaGreatDoor
end
end
