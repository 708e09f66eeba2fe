/- Lemmas. No condition. -/
import Derived.Test.YtmfbjecjccipfaaGreatDoorOvg
set_option linter.unusedVariables false
set_option linter.unusedSimpArgs false
set_option linter.unusedSectionVars false
set_option maxRecDepth 100000
set_option maxHeartbeats 64000000
open Go.Proofs.Tryz
namespace Go.Proofs.YtmfbjecjccipfaaGreatDoor
section
structure dR where
 pl:Nat
 er:Int
 ln:Int
def RM(α:Type):=dR->α×dR
instance:Monad RM where
 pure:=λa s=>(a,s)
 bind:=λx f s=>f (x s).1 (x s).2
theorem a8C{α:Type}(a:α)(s:dR):(pure a:RM α) s=(a,s):=rfl
theorem bK{α β:Type}(x:RM α)(f:α->RM β)(s:dR):(x >>=f) s=f (x s).1 (x s).2:=rfl
def zA(c:dR->Bool):RM Bool:=λs=>(c s,s)
section
variable (kw:Nm->Bool) (andP:Pr->Pr->Pr) (aD:List Tok->Nat->Nat->jA Pr) (l:List Tok)
def gN(k:Nat)(s:dR):Tok:=if s.er=0/\s.pl+k<l.length then aH l (s.pl+k) else⟨0,[],0,0⟩
def mB(s:dR):dR:=if s.er=0 then⟨s.pl,14,(gN l 0 s).line⟩ else s
def cF(k:Nat)(t:Nm)(s:dR):Bool:=decide ((gN l k s).kind=4)&&decide ((gN l k s).text=t)
def jU(t:Nm)(s:dR):Bool:=decide ((gN l 0 s).kind=1)&&decide ((gN l 0 s).text=t)
def mR(k:Nat)(s:dR):Bool:=decide ((gN l k s).kind=1)&& !kw (gN l k s).text
def uB(s:dR):Bool:=decide ((gN l 0 s).kind=2)
def oT(b:Bool):RM Nm:=λs=>if b=true/\s.er=0 then((gN l 0 s).text,⟨s.pl+1,s.er,s.ln⟩) else([],mB l s)
def a3Y(c:dR->Bool):RM Nm:=λs=>oT l (c s) s
def aX(t:Nm):RM Unit:=λs=>((),(oT l (cF l 0 t s) s).2)
def gJ(t:Nm):RM Bool:=λs=>if cF l 0 t s then(true,⟨s.pl+1,s.er,s.ln⟩) else(false,s)
def wV(t:Nm):RM Bool:=λs=>if jU l t s then(true,⟨s.pl+1,s.er,s.ln⟩) else(false,s)
def eY:RM Nm:=a3Y l (mR kw l 0)
def vZ:RM Nm:=a3Y l (uB l)
def yA(t:Nm):RM Nm:=a3Y l (jU l t)
def b7s:RM Nm:=a3Y l λs=>uB l s||mR kw l 0 s
def zB{α:Type}(c:dR->Bool)(one:α->RM α):Nat->α->RM α
 |0,a=>λs=>(a,s)
 |g+1,a=>λs=>if c s then zB c one g (one a s).1 (one a s).2 else(a,s)
def xL{α:Type}(c:dR->Bool)(one:α->RM α)(a:α):RM α:=zB c one (l.length+2) a
def pM{α:Type}(c:Nm)(one:α->RM α):Nat->α->RM α
 |0,a=>λs=>(a,s)
 |g+1,a=>λs=>if s.er=0 then(if cF l 0 c (one a s).2 then pM c one g (one a s).1 ⟨(one a s).2.pl+1,(one a s).2.er,(one a s).2.ln⟩ else one a s) else(a,s)
def oU{α:Type}(c:Nm)(one:α->RM α)(a:α):RM α:=pM l c one (l.length+2) a
def pF(e:Nat):RM Pr:=λs=>if s.er=0 then(match aD l s.pl e with
 |.ok p j=>(p,⟨j,0,s.ln⟩)
 |.bad n x=>(eI,⟨s.pl,x,n⟩)) else(eI,s)
def a5A:RM Pr:=pF aD l l.length
def a4G(w:Nm):RM (List Nm):=λs=>if cF l 0 [44] s then pM l [44] (λout=>do let w <- eY kw l;pure (out++[w])) (l.length+1) [w] ⟨s.pl+1,s.er,s.ln⟩ else([w],s)
def rV:RM (List Nm):=do
 aX l [40]
 let w <- eY kw l
 let out <- a4G kw l w
 aX l [41]
 pure out
def a1f(v:Bool):RM (List psV):=oU l [44] (λout=>do
 let name <- a3Y l λs=>mR kw l 0 s||v&&jU l [118] s
 aX l [58]
 let t <- b7s kw l
 pure (out++[(name,t)])) []
def dL:RM (Ty×Bool):=λs=>
 if mR kw l 0 s then((wQ 5 (gN l 0 s).text,true),⟨s.pl+1,s.er,s.ln⟩)
 else if !uB l s then((jK,false),s)
 else((if (gN l 0 s).text=[73,110,116] then wQ 1 [] else if (gN l 0 s).text=[66,111,111,108] then wQ 2 [] else if (gN l 0 s).text=[67,101,108,108] then wQ 3 [] else wQ 4 (gN l 0 s).text,true),⟨s.pl+1,s.er,s.ln⟩)
section
variable (ty:RM Ty)
def a7y:RM Ty:=do
 aX l [123]
 let _ <- yA l [118]
 aX l [58]
 let t <- ty
 let _ <- a3Y l λs=>cF l 0 [124] s&& !decide (t.op=6)
 let p <- a5A aD l
 aX l [125]
 pure {t with pred:=if t.pred.op=0 then p else andP t.pred p}
def b0t:RM Ty:=λs=>
 if cF l 0 [123] s then a7y andP aD l ty s
 else if cF l 0 [40] s then(do
  let t <- ty
  aX l [41]
  pure t:RM Ty) ⟨s.pl+1,s.er,s.ln⟩
 else((dL kw l s).1.1,if (dL kw l s).1.2 then(dL kw l s).2 else mB l (dL kw l s).2)
def a5B(name:Nm):RM Ty:=do
 let args <- xL l (λs=>mR kw l 0 s||(uB l s||(cF l 0 [123] s||cF l 0 [40] s))) (λout=>do let t <- b0t kw andP aD l ty;pure (out++[t])) []
 let b <- gJ l [60]
 if b then do
  let ps <- oU l [44] (λout=>do
   let _ <- yA l [118]
   aX l [46]
   let p <- a5A aD l
   pure (out++[p])) []
  aX l [62]
  pure {wQ 4 name with args:=args,b1E:=ps}
 else pure {wQ 4 name with args:=args}
def a0k:RM Ty:=do
 aX l [40]
 let named <- zA λs=>mR kw l 0 s&&cF l 1 [58] s
 let (ns,ts) <- oU l [44] (λ(out:List Nm×List Ty)=>if named then(do
   let w <- eY kw l
   aX l [58]
   let t <- ty
   pure (out.1++[w],out.2++[t])) else(do
   let t <- ty
   pure (out.1,out.2++[t]))) ([],[])
 aX l [41]
 let c <- zA λs=>decide (ts.length=1)&&(!named&& !cF l 0 [45,62] s)
 if c then pure (ts.headD jK) else do
  aX l [45,62]
  let t <- ty
  pure {wQ 6 []with names:=ns,args:=ts++[t]}
def a5C:RM Ty:=λs=>
 if s.er=0 then
  (if cF l 0 [123] s then a7y andP aD l ty s
  else if cF l 0 [40] s then a0k kw l ty s
  else if (dL kw l s).1.2 then(if (dL kw l s).1.1.op=4 then a5B kw andP aD l ty (dL kw l s).1.1.name (dL kw l s).2 else((dL kw l s).1.1,(dL kw l s).2))
  else(jK,mB l (dL kw l s).2))
 else(jK,s)
end
def b0u:Nat->RM Ty
 |0=>λs=>(jK,s)
 |n+1=>a5C kw andP aD l (b0u n)
def wW:RM Ty:=b0u kw andP aD l (l.length+2)
def a5D:RM (List Ty):=do
 aX l [91]
 let out <- oU l [44] (λout=>do let t <- wW kw andP aD l;pure (out++[t])) []
 aX l [93]
 pure out
section
variable (ex:Nat->RM cP)
def tC:RM (List cP):=do
 aX l [40]
 let out <- oU l [44] (λout=>do let e <- ex 0;pure (out++[e])) []
 aX l [41]
 pure out
def b7t(op:Int):RM cP:=do
 aX l [40]
 let e <- ex 0
 aX l [41]
 pure (eA op [e])
def c3j(op:Int):RM cP:=do
 aX l [40]
 let a <- ex 0
 aX l [44]
 let b <- ex 0
 aX l [41]
 pure (eA op [a,b])
def c6O:RM cP:=λs=>
 if cF l 1 [45] s&&(decide ((gN l 2 s).kind=3)&&cF l 3 [41] s) then(⟨1,[], -(gN l 2 s).n,[],[],[],[]⟩,⟨s.pl+4,s.er,s.ln⟩)
 else(do
  aX l [40]
  let e <- ex 0
  let b <- gJ l [58]
  let e <- (if b then do let t <- wW kw andP aD l;pure {eA 26 [e]with types:=[t]} else pure e:RM cP)
  aX l [41]
  pure e:RM cP) s
def b0v(ti call:Bool)(nm:Nm):RM cP:=do
 let ts <- (zA (cF l 0 [91]) >>=λc=>if c then a5D kw andP aD l else pure []:RM (List Ty))
 let ks <- (zA (λs=>call||cF l 0 [40] s) >>=λc=>if c then tC l ex else pure []:RM (List cP))
 pure ⟨if call then 5 else if ti then 4 else 3,nm,0,ks,[],[],ts⟩
def b3t:RM cP:=λs=>b0v kw andP aD l ex (uB l s) (!uB l s&&(cF l 1 [91] s||cF l 1 [40] s)) (oT l true s).1 (oT l true s).2
def a8D:RM cP:=λs=>
 if s.er=0 then
  (if (gN l 0 s).kind=3 then(⟨1,[],(gN l 0 s).n,[],[],[],[]⟩,⟨s.pl+1,s.er,s.ln⟩)
  else if jU l [116,114,117,101] s then(⟨2,[],1,[],[],[],[]⟩,⟨s.pl+1,s.er,s.ln⟩)
  else if jU l [102,97,108,115,101] s then(⟨2,[],0,[],[],[],[]⟩,⟨s.pl+1,s.er,s.ln⟩)
  else if jU l [110,101,119] s then b7t l ex 22 ⟨s.pl+1,s.er,s.ln⟩
  else if jU l [103,101,116] s then b7t l ex 23 ⟨s.pl+1,s.er,s.ln⟩
  else if jU l [115,101,116] s then c3j l ex 24 ⟨s.pl+1,s.er,s.ln⟩
  else if cF l 0 [40] s then c6O kw andP aD l ex s
  else if mR kw l 0 s||uB l s then b3t kw andP aD l ex s
  else(pW,mB l s))
 else(pW,s)
def b4H:RM cP:=λs=>if cF l 0 [45] s then(do let e <- ex 7;pure (eA 15 [e]):RM cP) ⟨s.pl+1,s.er,s.ln⟩ else a8D kw andP aD l ex s
def wX(ops:List (Nm×Bool×Int))(s:dR):Int:=match ops.find? λp=>if p.2.1 then jU l p.1 s else cF l 0 p.1 s with
 |none=>0
 |some p=>p.2.2
def wA(ops:List (Nm×Bool×Int)):RM Int:=λs=>if wX l ops s=0 then(0,s) else(wX l ops s,⟨s.pl+1,s.er,s.ln⟩)
def zC(ops:List (Nm×Bool×Int))(one:RM cP):Nat->cP->RM cP
 |0,e=>λs=>(e,s)
 |g+1,e=>λs=>if s.er=0/\ ¬wX l ops s=0 then zC ops one g (eA (wX l ops s) [e,(one ⟨s.pl+1,s.er,s.ln⟩).1]) (one ⟨s.pl+1,s.er,s.ln⟩).2 else(e,s)
def b4I(ops:List (Nm×Bool×Int))(one:RM cP):RM cP:=do
 let e <- one
 zC l ops one (l.length+2) e
abbrev vG:Nat->List (Nm×Bool×Int)
 |1=>[([124,124],false,20)]
 |2=>[([38,38],false,19)]
 |4=>[([43],false,10),([45],false,11)]
 |5=>[([42],false,12),([100,105,118],true,13),([109,111,100],true,14)]
 |_=>[]
def e3v:RM cP:=b4I l (vG 5) (b4H kw andP aD l ex)
def a1g:RM cP:=b4I l (vG 4) (e3v kw andP aD l ex)
def b7u:RM cP:=do
 let e <- a1g kw andP aD l ex
 λs=>
  if (gN l 0 s).kind=4 then
   (if (gN l 0 s).text=[61,61] then(do let x <- a1g kw andP aD l ex;pure (eA 16 [e,x]):RM cP) ⟨s.pl+1,s.er,s.ln⟩
   else if (gN l 0 s).text=[33,61] then(do let x <- a1g kw andP aD l ex;pure (eA 21 [eA 16 [e,x]]):RM cP) ⟨s.pl+1,s.er,s.ln⟩
   else if (gN l 0 s).text=[60] then(do let x <- a1g kw andP aD l ex;pure (eA 17 [e,x]):RM cP) ⟨s.pl+1,s.er,s.ln⟩
   else if (gN l 0 s).text=[60,61] then(do let x <- a1g kw andP aD l ex;pure (eA 18 [e,x]):RM cP) ⟨s.pl+1,s.er,s.ln⟩
   else if (gN l 0 s).text=[62] then(do let x <- a1g kw andP aD l ex;pure (eA 17 [x,e]):RM cP) ⟨s.pl+1,s.er,s.ln⟩
   else if (gN l 0 s).text=[62,61] then(do let x <- a1g kw andP aD l ex;pure (eA 18 [x,e]):RM cP) ⟨s.pl+1,s.er,s.ln⟩
   else(e,s))
  else(e,s)
def b0w:RM cP:=λs=>if cF l 0 [33] s then(do let e <- ex 3;pure (eA 21 [e]):RM cP) ⟨s.pl+1,s.er,s.ln⟩ else b7u kw andP aD l ex s
def e9n:RM cP:=b4I l (vG 2) (b0w kw andP aD l ex)
def d7u:RM cP:=b4I l (vG 1) (e9n kw andP aD l ex)
def b2c:RM (List (Nm×List Nm×cP)):=do
 aX l [123]
 let alts <- oU l [59] (λout=>do
  let c <- vZ l
  let b <- zA (cF l 0 [40])
  let ns <- (if b then rV kw l else pure []:RM (List Nm))
  aX l [45,62]
  let b <- ex 0
  pure (out++[(c,ns,b)])) []
 aX l [125]
 pure alts
def a2x:RM (List (Nm×Ty)):=do
 aX l [40]
 let ps <- oU l [44] (λout=>do
  let w <- eY kw l
  let b <- gJ l [58]
  let t <- (if b then wW kw andP aD l else pure jK)
  pure (out++[(w,t)])) []
 aX l [41]
 pure ps
def b7v:RM cP:=do
 let name <- eY kw l
 let b <- gJ l [58]
 let ts <- (if b then do let t <- wW kw andP aD l;pure [t] else pure []:RM (List Ty))
 aX l [61]
 let a <- ex 0
 let _ <- yA l [105,110]
 let c <- ex 0
 pure {eA 7 [a,c]with name:=name,types:=ts}
def b7w:RM cP:=λs=>
 if s.er=0 then
  (if jU l [108,101,116] s then b7v kw andP aD l ex ⟨s.pl+1,s.er,s.ln⟩
  else if jU l [105,102] s then(do
   let a <- ex 0
   let _ <- yA l [116,104,101,110]
   let b <- ex 0
   let _ <- yA l [101,108,115,101]
   let c <- ex 0
   pure (eA 8 [a,b,c]):RM cP) ⟨s.pl+1,s.er,s.ln⟩
  else if jU l [99,97,115,101] s then(do
   let a <- ex 0
   let _ <- yA l [111,102]
   let alts <- b2c kw l ex
   pure {eA 9 [a]with alts:=alts}:RM cP) ⟨s.pl+1,s.er,s.ln⟩
  else if jU l [102,117,110] s then(do
   let ps <- a2x kw andP aD l
   aX l [45,62]
   let e <- ex 0
   pure {eA 6 [e]with params:=ps}:RM cP) ⟨s.pl+1,s.er,s.ln⟩
  else if jU l [117,115,101] s then(do
   let name <- eY kw l
   let ks <- tC l ex
   let _ <- yA l [105,110]
   let b <- ex 0
   pure {eA 25 (ks++[b])with name:=name}:RM cP) ⟨s.pl+1,s.er,s.ln⟩
  else d7u kw andP aD l ex s)
 else(pW,s)
end
def b2d:Nat->Nat->RM cP
 |0,_=>λs=>(pW,s)
 |n+1,k=>if k=7 then b4H kw andP aD l (b2d n) else if k=3 then b0w kw andP aD l (b2d n) else b7w kw andP aD l (b2d n)
def a3Z:RM cP:=b2d kw andP aD l (l.length+2) 0
def a0B:RM (List psV):=oU l [44] (λout=>do
 let c <- vZ l
 let w <- eY kw l
 pure (out++[(c,w)])) []
def a8E:RM pI:=do
 let name <- eY kw l
 aX l [40]
 let vs <- a1f kw l false
 aX l [41]
 let h <- a5A aD l
 aX l [45,62]
 let g <- a5A aD l
 aX l [46]
 pure ⟨name,vs,h,g⟩
def a2y(out:List pI):RM (List pI):=λs=>(a8E kw aD l >>=λb=>pure (out++[b]):RM (List pI)) ⟨s.pl+1,s.er,s.ln⟩
def b2e:RM Pr:=λs=>pF aD l (gM l (l.length+1) 0 s.pl) s
def a9C:RM zQ:=do
 let b <- wV l [102,111,114,97,108,108]
 let vs <- (if b then do
  let w <- eY kw l
  let ws <- xL l (mR kw l 0) (λout=>do let w <- eY kw l;pure (out++[w])) [w]
  aX l [46]
  pure ws else pure []:RM (List Nm))
 let b <- wV l [119,104,101,114,101]
 let ns <- (if b then do
  let ns <- a0B kw l
  aX l [46]
  pure ns else pure []:RM (List psV))
 let b <- gJ l [60]
 let abs <- (if b then do
  let abs <- a1f kw l false
  aX l [62]
  aX l [46]
  pure abs else pure []:RM (List psV))
 let bs <- xL l (jU l [98,111,117,110,100]) (a2y kw aD l) []
 let t <- wW kw andP aD l
 let b <- wV l [109,101,116,114,105,99]
 let ms <- (if b then oU l [44] (λout=>do
  let p <- b2e aD l
  pure (out++[p])) [] else pure []:RM (List Pr))
 pure ⟨vs,ns,abs,bs,t,ms⟩
def a1h:RM Int:=λs=>
 if jU l [100,101,102] s then(0,⟨s.pl+1,s.er,s.ln⟩)
 else if jU l [97,115,115,117,109,101] s then(1,⟨s.pl+1,s.er,s.ln⟩)
 else if jU l [114,101,102,108,101,99,116] s then(2,⟨s.pl+1,s.er,s.ln⟩)
 else(0,mB l s)
def b0x:RM (List Nm):=λs=>if cF l 0 [40] s&&cF l 1 [41] s then([],⟨s.pl+2,s.er,s.ln⟩) else if cF l 0 [40] s then rV kw l s else([],s)
def a2z:RM eL:=do
 let mode <- a1h l
 let name <- eY kw l
 let ps <- b0x kw l
 let c <- zA λs=> !decide (mode=0)||cF l 0 [58] s
 let sg <- (if c then do
  aX l [58]
  a9C kw andP aD l else pure uP:RM zQ)
 let e <- (if mode=1 then pure pW else do
  aX l [61]
  a3Z kw andP aD l:RM cP)
 pure ⟨name,ps,e,mode,c,sg⟩
def e3w:RM (List Nm×List Ty):=oU l [44] (λ(out:List Nm×List Ty)=>do
 let w <- eY kw l
 aX l [58]
 let t <- wW kw andP aD l
 pure (out.1++[w],out.2++[t])) ([],[])
def b4J:RM Unit:=λs=>((),if s.er=0/\ ¬(gN l 0 s).kind=0 then mB l s else s)
end
end
section
open Go Go.VM
variable {G:GT}
abbrev rfO(l:List Tok)(s:dR):bH:=.cells [.d (.sl (l.map bL)),.d (.int .i64 s.pl),.d (.int .i64 s.er),.d (.int .i64 s.ln)]
abbrev rfH(l:List Tok)(s:dR):List (Nat×bH):=[(100000,rfO l s)]
def RfG(G:GT){α:Type}(f:FuncId)(ds:List D)(l:List Tok)(s:dR)(y:α×dR)(enc:α->DV)(own:List (TypeId×List VM.Loc)):Prop:=CX prog G f ⟨.ptr 100000 0::ds.map .d,rfH l s,[]⟩ (.inl (enc y.1,rfH l y.2,own))
abbrev eG(G:GT){α:Type}(f:FuncId)(ds:List D)(l:List Tok)(s:dR)(y:α×dR)(enc:α->DV):Prop:=RfG G f ds l s y enc []
structure zS {α:Type} (Q:Exit->St->Prop) (rs:List ResultVar) (l:List Tok) (enc:α->DV) (own:List (TypeId×List VM.Loc)) (y:α×dR):Prop where
 ok:∀e s,(e=.normal\/e=.ret)->a5x prog s rs (enc y.1) (rfH l y.2) own->Q e s
section
variable {α β:Type} {Q:Exit->St->Prop} {rs:List ResultVar} {l:List Tok} {s s1:dR} {enc:β->DV} {own:List (TypeId×List VM.Loc)} {a:α}
theorem zS.step{x:RM α}{f:α->RM β}(h:zS Q rs l enc own ((x >>=f) s))(hx:x s=(a,s1)):zS Q rs l enc own (f a s1):=by rwa[bK,hx]at h
theorem zS.eq{y z:β×dR}(h:zS Q rs l enc own y)(hx:y=z):zS Q rs l enc own z:=hx▸h
variable{c:Prop}
theorem zS.uK[Decidable c]{x y:β×dR}(h:zS Q rs l enc own (if c then x else y))(hc:c):zS Q rs l enc own x:=by rwa[if_pos hc]at h
theorem zS.sK[Decidable c]{x y:β×dR}(h:zS Q rs l enc own (if c then x else y))(hc:¬c):zS Q rs l enc own y:=by rwa[if_neg hc]at h
variable{ds:List D}{f:FuncId}{fn:Func}{k:Nat}
theorem eG.xV{c:Code}{y:β×dR}(hf:prog.funcs[f]? =some fn)(hb:fn.body=some c)(hn:fn.ntmps=k)(hrs:fn.results.toList=rs)(h:∀Q:Exit->St->Prop,zS Q rs l enc own y->SW prog G c ⟨.ptr 100000 0::ds.map .d++List.replicate (k-(.ptr 100000 0::ds.map .d:List DV).length) (.cY []),rfH l s,[]⟩ Q):RfG G f ds l s y enc own:=
 CX.b7p hf hb hn hrs rfl λQ h1 h2=>h Q ⟨λe s he hs=>h1 _ _ _ e s rfl he hs⟩
theorem eG.bP{c:Code}{y:β×dR}(hf:prog.funcs[f]? =some fn)(hb:fn.body=some c)(hn:fn.ntmps=k)(hrs:fn.results.toList=rs)(h:∀Q:Exit->St->Prop,zS Q rs l enc own y->XK prog G [.code c] .normal ⟨.ptr 100000 0::ds.map .d++List.replicate (k-(.ptr 100000 0::ds.map .d:List DV).length) (.cY []),rfH l s,[]⟩ Q):RfG G f ds l s y enc own:=eG.xV hf hb hn hrs λQ hQ=>SW.xk (h Q hQ)
variable{av:List DV}{dst:Option Tmp}{st:St}{ls:List (Option VM.Loc)}
theorem rfZ{y:β×dR}{KK:St->Prop}(he:VM.Enters prog f)(hc:eG G f ds l s y enc)(oB:∀a s1,y=(a,s1)->KK ⟨kG dst (enc a) st.tmps,cE 100000 (rfO l s1) st.H,hZ dst (dropKey 100000 st.own)⟩)(hk:∀a,aY K1 (enc a)=true/\bI K1 (enc a)=enc a:=by intro a;exact⟨rfl,rfl⟩)(hw:WkT av (.ptr 100000 0::ds.map .d):=by simp)(hH:getKey 100000 st.H=some (rfO l s):=by simp):uI prog G f av ls dst st KK Q true:=by
 refine uI.mk (x:=.inl (enc y.1,rfH l y.2,[])) he hc K1 (λd H1 own1 hx=>?_) (λv hx=>by cases hx) ?_ ?_ rfl rfl (λd H1 own1 hx=>?_) (λv hx=>by cases hx) (rest:=st.own)
 .cases hx;simp[aR,aY,bB,bA,eX,bM,getKey,(hk y.1).1]
 .simpa[aZ,bI,rk,kI]using hw
 .simp only[dE,rfO,List.map_cons,List.map_nil,rk,if_true,dM,aZ,bI,WkH,and_true];exact⟨_,hH,by simp[WkO]⟩
 .cases hx;have:=oB y.1 y.2 rfl;simpa[bJ,bW,dM,aZ,bI,rk,eN,(hk y.1).2]using this
theorem cT{y:β×dR}{all:Array Oper}{ops:List Oper}{k:List XI}(he:VM.Enters prog f)(hc:eG G f ds l s y enc)(oB:∀a s1,y=(a,s1)->XK prog G (.ops all ops::k) .normal ⟨kG dst (enc a) st.tmps,cE 100000 (rfO l s1) st.H,hZ dst (dropKey 100000 st.own)⟩ Q)(hk:∀a,aY K1 (enc a)=true/\bI K1 (enc a)=enc a:=by intro a;exact⟨rfl,rfl⟩)(hw:WkT av (.ptr 100000 0::ds.map .d):=by simp)(hH:getKey 100000 st.H=some (rfO l s):=by simp):eB prog G f av ls dst all ops k st Q:=eB.mk (rfZ (hw:=hw) (hH:=hH) he hc oB hk)
end
attribute [simp] a8C
def cO(l:List Tok)(s:dR):Prop:=s.er=0->s.pl<l.length
theorem jJ:VM.Enters prog 21:=.mk func21 rfl
theorem sR:VM.Enters prog 70:=.mk func70 rfl
theorem bT:VM.Enters prog 60:=.mk func60 rfl
theorem oV:VM.Enters prog 53:=.mk func53 rfl
theorem pT:VM.Enters prog 105:=.mk func105 rfl
theorem rC:VM.Enters prog 104:=.mk func104 rfl
theorem dT:VM.Enters prog 59:=.mk func59 rfl
theorem pU:VM.Enters prog 23:=.mk func23 rfl
theorem cG:VM.Enters prog 35:=.mk func35 rfl
theorem cQ:VM.Enters prog 69:=.mk func69 rfl
theorem mG:VM.Enters prog 71:=.mk func71 rfl
section
variable {l:List Tok} (hl:l.length<=50000)
include hl
theorem oW(k:Nat)(s:dR)(hv:cO l s)(hk:k<=10):eG G 21 [.int .i64 k] l s (gN l k s,s) (λt=>.d (.agg (bL t))):=by
 obtain⟨i,e,ln⟩:=s;by_cases he:e=0
 .subst he;have hi:i<l.length:=hv rfl;obtain⟨m,hm⟩:∃m,i+k=m:=⟨_,rfl⟩;have hw:IntKind.i64.wrap ((i:Int)+(k:Int))=(m:Int):=by rw[wrap64 (by omega)];omega
  by_cases h:m<l.length
  .have hg:gN l k ⟨i,0,ln⟩=l[m]:=by simp[gN,aH,hm,h]
   have hn:¬l.length<=m:=by omega
   rw[hg];obtain⟨T,hT⟩:∃T,l[m]=T:=⟨_,rfl⟩;rw[hT];obtain⟨a,b,c,d⟩:=T
   show CH _ _ _ _ _
   refine CH.aW func21 rfl ntmps21 rfl (by simp) ?_;simp[hw,h,hn,hT,bL];exact⟨.mk,a7a.mk⟩
  .have hg:gN l k ⟨i,0,ln⟩=⟨0,[],0,0⟩:=by simp[gN,hm,h]
   have hn:l.length<=m:=by omega
   rw[hg]
   show CH _ _ _ _ _
   refine CH.aW func21 rfl ntmps21 rfl (by simp) ?_;simp[hw,hn,bL];exact a7a.mk
 .have hg:gN l k ⟨i,e,ln⟩=⟨0,[],0,0⟩:=by simp[gN,he]
  rw[hg]
  show CH _ _ _ _ _
  refine CH.aW func21 rfl ntmps21 rfl (by simp) ?_;simp[he,bL];exact a7a.mk
theorem xM(s:dR)(hv:cO l s):eG G 70 [] l s ((),mB l s) (λ_=>.cY []):=by
 have hp:eG G 21 [.int .i64 0] l s _ _:=oW hl 0 s hv (by omega);obtain⟨i,e,ln⟩:=s;refine eG.bP func70 rfl ntmps70 rfl ?_;intro Q Q0;by_cases he:e=0
 .subst he;have Q0:=Q0.eq (congrArg (Prod.mk ()) (if_pos rfl));simp;refine cT jJ hp (λT s1 h1=>?_);cases h1;generalize gN l 0 ⟨i,0,ln⟩=T at Q0|-;obtain⟨a,b,c,d⟩:=T;simp[bL];exact Q0.ok _ _ (.inl rfl) (by simp)
 .have Q0:=Q0.eq (congrArg (Prod.mk ()) (if_neg he));simp[he];exact Q0.ok _ _ (.inl rfl) (by simp)
theorem qF(k:Nat)(t:Nm)(s:dR)(hv:cO l s)(hk:k<=10):eG G 60 [.int .i64 k,.str t] l s (cF l k t s,s) (λb=>.d (.bool b)):=by
 have hp:=oW (G:=G) hl k s hv hk;obtain⟨i,e,ln⟩:=s;refine eG.bP func60 rfl ntmps60 rfl ?_;intro Q Q0;unfold cF at Q0;simp;refine cT jJ hp (λT s1 h1=>?_);cases h1;generalize gN l k ⟨i,e,ln⟩=T at Q0|-;obtain⟨a,b,c,d⟩:=T;by_cases h4:a=4
 .simp[bL,h4];exact Q0.ok _ _ (.inr rfl) (by simp[h4])
 .simp[bL,h4];exact Q0.ok _ _ (.inr rfl) (by simp[h4])
theorem tR(t:Nm)(s:dR)(hv:cO l s):eG G 53 [.str t] l s (jU l t s,s) (λb=>.d (.bool b)):=by
 have hp:eG G 21 [.int .i64 0] l s _ _:=oW hl 0 s hv (by omega);obtain⟨i,e,ln⟩:=s;refine eG.bP func53 rfl ntmps53 rfl ?_;intro Q Q0;unfold jU at Q0;simp;refine cT jJ hp (λT s1 h1=>?_);cases h1;generalize gN l 0 ⟨i,e,ln⟩=T at Q0|-;obtain⟨a,b,c,d⟩:=T;by_cases h4:a=1
 .simp[bL,h4];exact Q0.ok _ _ (.inr rfl) (by simp[h4])
 .simp[bL,h4];exact Q0.ok _ _ (.inr rfl) (by simp[h4])
theorem a5E(k:Nat)(s:dR)(hv:cO l s)(hk:k<=10):eG G 105 [.int .i64 k] l s (mR aL l k s,s) (λb=>.d (.bool b)):=by
 have hp:=oW (G:=G) hl k s hv hk;obtain⟨i,e,ln⟩:=s;refine eG.bP func105 rfl ntmps105 rfl ?_;intro Q Q0;unfold mR at Q0;simp;refine cT jJ hp (λT s1 h1=>?_);cases h1;generalize gN l k ⟨i,e,ln⟩=T at Q0|-;obtain⟨a,b,c,d⟩:=T;by_cases h4:a=1
 .simp[bL,h4];refine jT.mk (.mk func154 rfl) (a3P b) ?_;simp;exact Q0.ok _ _ (.inr rfl) (by simp[h4])
 .simp[bL,h4];exact Q0.ok _ _ (.inr rfl) (by simp[h4])
theorem sS(s:dR)(hv:cO l s):eG G 104 [] l s (uB l s,s) (λb=>.d (.bool b)):=by have hp:eG G 21 [.int .i64 0] l s _ _:=oW hl 0 s hv (by omega);obtain⟨i,e,ln⟩:=s;refine eG.bP func104 rfl ntmps104 rfl ?_;intro Q Q0;unfold uB at Q0;simp;refine cT jJ hp (λT s1 h1=>?_);cases h1;generalize gN l 0 ⟨i,e,ln⟩=T at Q0|-;obtain⟨a,b,c,d⟩:=T;simp[bL];exact Q0.ok _ _ (.inr rfl) (by simp)
theorem kJ(b:Bool)(s:dR)(hv:cO l s):eG G 59 [.bool b] l s (oT l b s) (λt=>.d (.str t)):=by
 have hp:eG G 21 [.int .i64 0] l s _ _:=oW hl 0 s hv (by omega);have hf:=xM (G:=G) hl s hv;obtain⟨i,e,ln⟩:=s;refine eG.bP func59 rfl ntmps59 rfl ?_;intro Q Q0;unfold oT at Q0;simp;refine cT jJ hp (λT s1 h1=>?_);cases h1;generalize gN l 0 ⟨i,e,ln⟩=T at Q0|-;obtain⟨a,x,c,d⟩:=T;cases b with
 |false=>have Q0:=Q0.sK (λh=>by cases h.1);simp[bL];refine cT sR hf (λu s1 h1=>?_);cases h1;simp;exact Q0.ok _ _ (.inr rfl) (by simp)
 |true=>
  by_cases he:e=0
  .subst he;have hi:i<l.length:=hv rfl;have hw:=bC (show i<9223372036854775807 by omega);have Q0:=Q0.uK ⟨rfl,rfl⟩;simp[bL,hw];exact Q0.ok _ _ (.inr rfl) (by simp)
  .have Q0:=Q0.sK (λh=>he h.2);simp[bL,he];refine cT sR hf (λu s1 h1=>?_);cases h1;simp;exact Q0.ok _ _ (.inr rfl) (by simp)
theorem rJ(t:Nm)(s:dR)(hv:cO l s):eG G 23 [.str t] l s (aX l t s) (λ_=>.cY []):=by have hp:eG G 60 [.int .i64 0,.str t] l s _ _:=qF hl 0 t s hv (by omega);have hf:=kJ (G:=G) hl (cF l 0 t s) s hv;unfold aX;obtain⟨i,e,ln⟩:=s;refine eG.bP func23 rfl ntmps23 rfl ?_;intro Q Q0;simp;refine cT bT hp (λT s1 h1=>?_);cases h1;simp;refine cT dT hf (λu s1 h1=>?_);rw[h1]at Q0;simp;exact Q0.ok _ _ (.inl rfl) (by simp)
theorem dO(t:Nm)(s:dR)(hv:cO l s):eG G 35 [.str t] l s (gJ l t s) (λb=>.d (.bool b)):=by
 have hp:eG G 60 [.int .i64 0,.str t] l s _ _:=qF hl 0 t s hv (by omega);have her:cF l 0 t s=true->s.er=0:=λh=>by
  by_cases he:s.er=0
  .exact he
  .simp[cF,gN,he]at h
 unfold gJ;obtain⟨i,e,ln⟩:=s;refine eG.bP func35 rfl ntmps35 rfl ?_;intro Q Q0;simp;refine cT bT hp (λT s1 h1=>?_);cases h1;cases hs:cF l 0 t ⟨i,e,ln⟩with
 |true=>have hi:i<l.length:=hv (her hs);have hw:=bC (show i<9223372036854775807 by omega);have Q0:=Q0.uK hs;simp[hw];exact Q0.ok _ _ (.inr rfl) (by simp)
 |false=>have Q0:=Q0.sK (by rw[hs];decide);simp;exact Q0.ok _ _ (.inr rfl) (by simp)
theorem dJ(t:Nm)(s:dR)(hv:cO l s):eG G 69 [.str t] l s (wV l t s) (λb=>.d (.bool b)):=by
 have hp:=tR (G:=G) hl t s hv;have her:jU l t s=true->s.er=0:=λh=>by
  by_cases he:s.er=0
  .exact he
  .simp[jU,gN,he]at h
 unfold wV;obtain⟨i,e,ln⟩:=s;refine eG.bP func69 rfl ntmps69 rfl ?_;intro Q Q0;simp;refine cT oV hp (λT s1 h1=>?_);cases h1;cases hs:jU l t ⟨i,e,ln⟩with
 |true=>have hi:i<l.length:=hv (her hs);have hw:=bC (show i<9223372036854775807 by omega);have Q0:=Q0.uK hs;simp[hw];exact Q0.ok _ _ (.inr rfl) (by simp)
 |false=>have Q0:=Q0.sK (by rw[hs];decide);simp;exact Q0.ok _ _ (.inr rfl) (by simp)
theorem oX(s:dR)(hv:cO l s):eG G 71 [] l s (eY aL l s) (λt=>.d (.str t)):=by have hp:eG G 105 [.int .i64 0] l s _ _:=a5E hl 0 s hv (by omega);have hf:=kJ (G:=G) hl (mR aL l 0 s) s hv;obtain⟨i,e,ln⟩:=s;refine eG.bP func71 rfl ntmps71 rfl ?_;intro Q Q0;simp;refine cT pT hp (λT s1 h1=>?_);cases h1;simp;refine cT dT hf (λu s1 h1=>?_);have Q0:=Q0.eq h1;simp;exact Q0.ok _ _ (.inr rfl) (by simp)
theorem c9P(s:dR)(hv:cO l s):eG G 110 [] l s (b7s aL l s) (λt=>.d (.str t)):=by
 have ht:=sS (G:=G) hl s hv;have hp:eG G 105 [.int .i64 0] l s _ _:=a5E hl 0 s hv (by omega);have hf:=kJ (G:=G) hl (uB l s||mR aL l 0 s) s hv;obtain⟨i,e,ln⟩:=s;refine eG.bP func110 rfl ntmps110 rfl ?_;intro Q Q0;simp;refine cT rC ht (λT s1 h1=>?_);cases h1;cases h:uB l ⟨i,e,ln⟩with
 |true=>rw[h,Bool.true_or]at hf;simp;refine cT dT hf (λu s1 h1=>?_);have Q0:=Q0.eq (show oT l (uB l ⟨i,e,ln⟩||mR aL l 0 ⟨i,e,ln⟩) ⟨i,e,ln⟩=(u,s1) by rw[h,Bool.true_or];exact h1);simp;exact Q0.ok _ _ (.inr rfl) (by simp)
 |false=>rw[h,Bool.false_or]at hf;simp;refine cT pT hp (λT s1 h1=>?_);cases h1;simp;refine cT dT hf (λu s1 h1=>?_);have Q0:=Q0.eq (show oT l (uB l ⟨i,e,ln⟩||mR aL l 0 ⟨i,e,ln⟩) ⟨i,e,ln⟩=(u,s1) by rw[h,Bool.false_or];exact h1);simp;exact Q0.ok _ _ (.inr rfl) (by simp)
end
end
section
def TkW(t:Tok):Prop:=t.kind=0\/t.kind=3\/(t.kind=1/\smU (t.text.headD 0)=true)\/(t.kind=2/\caU (t.text.headD 0)=true)\/(t.kind=4/\smU (t.text.headD 0)=false/\caU (t.text.headD 0)=false)
def sgN(s:Nm):Bool:= !smU (s.headD 0)&& !caU (s.headD 0)
variable{t:Tok}{s:Nm}
theorem TkW.sg(h:TkW t)(hs:sgN s=true):cI t s=(decide (t.kind=4)&&decide (t.text=s)):=by
 unfold cI;by_cases e:t.text=s
 .subst e;simp only[sgN,g2Z,g3v]at hs;rcases h with h|h|⟨h,h2⟩|⟨h,h2⟩|⟨h,h2⟩
  .simp[h]
  .simp[h]
  .rw[hs.1]at h2;cases h2
  .rw[hs.2]at h2;cases h2
  .simp[h]
 .simp[e]
theorem TkW.ky(h:TkW t)(hs:smU (s.headD 0)=true)(hc:caU (s.headD 0)=false):cI t s=(decide (t.kind=1)&&decide (t.text=s)):=by
 unfold cI;by_cases e:t.text=s
 .subst e;rcases h with h|h|⟨h,h2⟩|⟨h,h2⟩|⟨h,h2⟩
  .simp[h]
  .simp[h]
  .simp[h]
  .rw[hc]at h2;cases h2
  .rw[hs]at h2;cases h2.1
 .simp[e]
theorem TkW.ti(h:TkW t)(hs:caU (s.headD 0)=true)(hc:smU (s.headD 0)=false):cI t s=(decide (t.kind=2)&&decide (t.text=s)):=by
 unfold cI;by_cases e:t.text=s
 .subst e;rcases h with h|h|⟨h,h2⟩|⟨h,h2⟩|⟨h,h2⟩
  .simp[h]
  .simp[h]
  .rw[hc]at h2;cases h2
  .simp[h]
  .rw[hs]at h2;cases h2.2
 .simp[e]
def tS{α:Type}(ln:Int)(x:jA α)(y:α×dR):Prop:=match x with
 |.ok a j=>y=(a,⟨j,0,ln⟩)
 |.bad n e=>e≠0/\y.2.er=e/\y.2.ln=n
structure aK {α:Type} (l:List Tok) (low:Nat) (x:bE α) (y:RM α):Prop where
 sim:∀i ln,low<=i->i<l.length->tS ln (x i) (y ⟨i,0,ln⟩)
 rG:∀s,s.er≠0->(y s).2=s
 av:aB l 0 x
structure RfH (aD:List Tok->Nat->Nat->jA Pr) (l:List Tok):Prop where
 fin:pE l
 tkw:∀i,TkW (aH l i)
 oY:a5s aD l
 nz:∀i e n x,i<l.length->aD l i e=.bad n x->x≠0
 met:∀i p k,i<l.length->aD l i (gM l (l.length+1) 0 i)=.ok p k->aJ l k [44]=true->gM l (l.length+1) 0 (k+1)=gM l (l.length+1) 0 i
def sL{α:Type}(y:RM α):Prop:=∀s,s.er≠0->(y s).2=s
section
variable {kw:Nm->Bool} {l:List Tok} {low m:Nat} {α β:Type} {ln:Int}
variable{i k:Nat}
theorem aK.up{x:bE α}{y:RM α}(h:aK l low x y)(hk:low<=k):aK l k x y:=⟨λi ln h1 h2=>h.sim i ln (by omega) h2,h.rG,h.av⟩
theorem aK.bZ(a:α):aK l low (pure a) (pure a):=⟨λi ln _ _=>rfl,λs _=>rfl,aB.bZ a⟩
theorem sL.bZ(a:α):sL (pure a:RM α):=λs _=>rfl
theorem sL.dB{x:RM α}{f:α->RM β}(hx:sL x)(hf:∀a,sL (f a)):sL (x >>=f):=λs h=>by rw[bK];have h1:=hx s h;rw[hf _ _ (by rw[h1];exact h),h1]
theorem tS.dB{x:bE α}{y:RM α}{f:α->bE β}{g:α->RM β}(h:tS ln (x i) (y ⟨i,0,ln⟩))(hk:∀a,sL (g a))(hf:∀a j,x i=.ok a j->tS ln (f a j) (g a ⟨j,0,ln⟩)):tS ln ((x >>=f) i) ((y >>=g) ⟨i,0,ln⟩):=by
 rw[bX,bK];cases hx:x i with
 |ok a j=>rw[hx]at h;have h:y ⟨i,0,ln⟩=(a,⟨j,0,ln⟩):=h;rw[h];exact hf a j hx
 |bad n e=>
  rw[hx]at h;obtain⟨h1,h2,h3⟩:e≠0/\_:=h;have h4:=hk (y ⟨i,0,ln⟩).1 (y ⟨i,0,ln⟩).2 (by rw[h2];exact h1);refine⟨h1,?_,?_⟩
  .rw[h4];exact h2
  .rw[h4];exact h3
theorem aK.b0{x:bE α}{y:RM α}{f:α->bE β}{g:α->RM β}(hx:aK l low x y)(hf:∀a,aK l low (f a) (g a)):aK l low (x >>=f) (y >>=g):=
 ⟨λi ln h1 h2=>tS.dB (hx.sim i ln h1 h2) (λa=>(hf a).rG) λa j h=>(hf a).sim j ln (by have:=hx.av i a j h2 h;omega) (hx.av i a j h2 h).2,sL.dB hx.rG λa=>(hf a).rG,hx.av.bl λa=>(hf a).av⟩
theorem aK.ite{c:Bool}{x x':bE α}{y y':RM α}(h:aK l low x y)(h':aK l low x' y'):aK l low (if c then x else x') (if c then y else y'):=by
 cases c
 .exact h'
 .exact h
variable{c:dR->Bool}
theorem aK.test{x:bE α}{g:Bool->RM α}(hk:∀b,sL (g b))(ax:aB l 0 x)(h:∀i ln,low<=i->i<l.length->tS ln (x i) (g (c ⟨i,0,ln⟩) ⟨i,0,ln⟩)):aK l low x (zA c >>=g):=⟨h,λs hs=>hk _ s hs,ax⟩
variable {aD:List Tok->Nat->Nat->jA Pr} (H:RfH aD l)
theorem b7x(hE:pE l)(hi:¬i<l.length):(aH l i).kind=0:=by
 have h:=hE.2;have e:aH l i=aH l (l.length-1):=by have hp:0<l.length:=g3D.2 hE.1;unfold aH;rw[if_neg hi,if_pos (by omega)];rw[List.getLastD_eq_getLast?,List.getLast?_eq_getElem?,g4b]
 rw[e];exact h
theorem b5Q(h:i+k<l.length):gN l k ⟨i,0,ln⟩=aH l (i+k):=by unfold gN;rw[if_pos ⟨rfl,h⟩]
theorem a1i(h:i<l.length):gN l 0 ⟨i,0,ln⟩=aH l i:=by
 rw[b5Q (k:=0) h]
 rfl
variable{s:dR}
theorem b2f(h:s.er≠0):gN l k s=⟨0,[],0,0⟩:=by unfold gN;rw[if_neg (λh'=>h h'.1)]
theorem c1i(hE:pE l)(k i:Nat):(gN l k ⟨i,0,ln⟩).kind=(aH l (i+k)).kind:=by
 by_cases h:i+k<l.length
 .rw[b5Q h]
 .rw[b7x hE h];unfold gN;rw[if_neg (λh'=>h h'.2)]
variable{t:Nm}
include H in
theorem a5F(k i:Nat)(ht:sgN t=true):cF l k t ⟨i,0,ln⟩=aJ l (i+k) t:=by
 unfold cF aJ;rw[(H.tkw (i+k)).sg ht];by_cases h:i+k<l.length
 .rw[b5Q h]
 .rw[c1i H.fin,b7x H.fin h];simp
include H in
theorem pN(i:Nat)(ht:sgN t=true):cF l 0 t ⟨i,0,ln⟩=aJ l i t:=a5F H 0 i ht
include H in
theorem qL(hi:i<l.length)(h1:smU (t.headD 0)=true)(h2:caU (t.headD 0)=false):jU l t ⟨i,0,ln⟩=aJ l i t:=by unfold jU aJ;rw[(H.tkw i).ky h1 h2,a1i (by omega)]
theorem a3v(kw:Nm->Bool)(hi:i<l.length):mR kw l 0 ⟨i,0,ln⟩=gU kw (aH l i):=by unfold mR gU;rw[a1i (by omega)]
theorem a8F(hi:i<l.length):uB l ⟨i,0,ln⟩=pJ (aH l i):=by unfold uB pJ;rw[a1i (by omega)]
theorem rD(h:s.er≠0):cF l k t s=false:=by unfold cF;rw[b2f h];simp
theorem a3w(h:s.er≠0):jU l t s=false:=by unfold jU;rw[b2f h];simp
theorem b2g(h:s.er≠0):mR kw l k s=false:=by unfold mR;rw[b2f h];simp
theorem c3k(h:s.er≠0):uB l s=false:=by unfold uB;rw[b2f h];simp
theorem a4H(h:s.er≠0):mB l s=s:=by unfold mB;rw[if_neg h]
theorem wB(hi:i<l.length):mB l ⟨i,0,ln⟩=⟨i,14,(aH l i).line⟩:=by unfold mB;rw[if_pos rfl,a1i (by omega)]
theorem a8G(hi:i<l.length):(mB l ⟨i,0,ln⟩).er≠0:=by
 rw[wB hi]
 show(14:Int)≠0
 decide
theorem tS.fail(hi:i<l.length)(a:α):tS ln (dN l i) (a,mB l ⟨i,0,ln⟩):=by rw[wB hi];exact⟨by decide,rfl,rfl⟩
theorem sL.take(b:Bool):sL (oT l b):=λs h=>by unfold oT;rw[if_neg (λh'=>h h'.2)];exact a4H h
theorem sL.tk(c:dR->Bool):sL (a3Y l c):=λs h=>sL.take (c s) s h
theorem sL.b9K(t:Nm):sL (aX l t):=λs h=>sL.take _ s h
theorem sL.b2h(t:Nm):sL (gJ l t):=λs h=>by unfold gJ;rw[rD h];rfl
theorem sL.beg(t:Nm):sL (wV l t):=λs h=>by unfold wV;rw[a3w h];rfl
theorem aK.take{ok:Tok->Bool}(ax:aB l 1 (mH l ok))(h:∀i ln,low<=i->i<l.length->c ⟨i,0,ln⟩=ok (aH l i)):aK l low (mH l ok) (a3Y l c):=⟨λi ln h1 h2=>by
 unfold mH a3Y oT;rw[h i ln h1 h2];cases hk:ok (aH l i)with
 |true=>
  rw[if_pos rfl,if_pos ⟨rfl,rfl⟩,a1i (by omega)]
  rfl
 |false=>rw[if_neg (by decide),if_neg (λh=>by cases h.1)];exact tS.fail h2 _,sL.tk c,ax.le (by omega)⟩
theorem aK.word(H:RfH aD l:=by assumption):aK l low (bU kw l) (eY kw l):=aK.take (aB.word H.fin) λi ln _ h=>a3v kw h
theorem aK.title(H:RfH aD l:=by assumption):aK l low (jI l) (vZ l):=aK.take (aB.title H.fin) λi ln _ h=>a8F h
theorem aK.sort(H:RfH aD l:=by assumption):aK l low (yV kw l) (b7s kw l):=aK.take (aB.sort H.fin) λi ln _ h=>by rw[a8F h,a3v kw h,Bool.or_comm]
variable{r:List Nm}
theorem tS.tk(hi:i<l.length){g:Nm->RM β}{f:Unit->bE β}(hc:c ⟨i,0,ln⟩=aJ l i t)(hk:∀a,sL (g a))(hf:aJ l i t=true->∀a,tS ln ((aQ l r >>=f) (i+1)) (g a ⟨i+1,0,ln⟩)):tS ln ((aQ l (t::r) >>=f) i) ((a3Y l c >>=g) ⟨i,0,ln⟩):=by
 rw[bX,bK];unfold aQ a3Y oT;rw[hc];cases h:aJ l i t with
 |true=>rw[if_pos rfl,if_pos ⟨rfl,rfl⟩];have:=hf h (gN l 0 ⟨i,0,ln⟩).text;rw[bX]at this;exact this
 |false=>
  rw[if_neg (by decide),if_neg (λh=>by cases h.1)];have h4:=hk [] (mB l ⟨i,0,ln⟩) (a8G hi);refine⟨by decide,?_,?_⟩
  .rw[h4,wB hi]
  .rw[h4,wB hi]
theorem aB.exB(hE:pE l){f:Unit->bE β}(h:aB l 0 (aQ l r >>=f)):aB l 0 (aQ l (t::r) >>=f):=λi a j hi hx=>by
 rw[bX]at hx;unfold aQ at hx;cases hs:aJ l i t with
 |true=>rw[hs,if_pos rfl, <- bX (x:=aQ l r)]at hx;have:=h (i+1) a j (aV hE hi hs) hx;omega
 |false=>rw[hs]at hx;cases hx
theorem aK.key{g:Nm->RM β}{f:Unit->bE β}(hf:∀a,aK l (low+1) (aQ l r >>=f) (g a))(h1:smU (t.headD 0)=true:=by decide)(h2:caU (t.headD 0)=false:=by decide)(H:RfH aD l:=by assumption):aK l low (aQ l (t::r) >>=f) (yA l t >>=g):=
 ⟨λi ln h3 h4=>tS.tk h4 (qL H h4 h1 h2) (λa=>(hf a).rG) λhs a=>(hf a).sim (i+1) ln (by omega) (aV H.fin h4 hs),sL.dB (sL.tk _) λa=>(hf a).rG,aB.exB H.fin (hf []).av⟩
theorem aK.b9K{t:Nm}{r:List Nm}{g:Unit->RM β}{f:Unit->bE β}(hf:aK l (low+1) (aQ l r >>=f) (g ()))(ht:sgN t=true:=by decide)(H:RfH aD l:=by assumption):aK l low (aQ l (t::r) >>=f) (aX l t >>=g):=
 ⟨λi ln h3 h4=>by have:=tS.tk (ln:=ln) (t:=t) (r:=r) (c:=cF l 0 t) h4 (g:=λ_=>g ()) (f:=f) (pN H i ht) (λ_=>hf.rG) λhs _=>hf.sim (i+1) ln (by omega) (aV H.fin h4 hs);exact this,sL.dB (sL.b9K _) λ_=>hf.rG,aB.exB H.fin hf.av⟩
theorem aK.mus{g:Unit->RM β}{f:Unit->bE β}(hf:aK l (low+1) (f ()) (g ()))(ht:sgN t=true:=by decide)(H:RfH aD l:=by assumption):aK l low (aQ l [t] >>=f) (aX l t >>=g):=aK.b9K hf ht
theorem aK.nil{g:RM β}{f:Unit->bE β}(h:aK l low (f ()) g):aK l low (aQ l [] >>=f) g:=h
theorem aK.b2h{t:Nm}(ht:sgN t=true:=by decide)(H:RfH aD l:=by assumption):aK l low (cD l t) (gJ l t):=⟨λi ln h1 h2=>by
 unfold cD gJ;rw[pN H i ht];split
 .rfl
 .rfl,sL.b2h t,aB.skip H.fin t⟩
theorem aK.beg{t:Nm}(h1:smU (t.headD 0)=true:=by decide)(h2:caU (t.headD 0)=false:=by decide)(H:RfH aD l:=by assumption):aK l low (cD l t) (wV l t):=⟨λi ln _ hi=>by
 unfold cD wV;rw[qL H hi h1 h2];split
 .rfl
 .rfl,sL.beg t,aB.skip H.fin t⟩
theorem sL.loop{c:Nm}{one:α->RM α}(h:∀a,sL (one a)):∀(g:Nat)(a:α),sL (pM l c one g a)
 |0,a=>λs _=>rfl
 |g+1,a=>λs hs=>by unfold pM;rw[if_neg hs]
include H in
theorem tS.loop{c:Nm}(ht:sgN c=true){one:α->bE α}{one':α->RM α}(h0:∀a,aK l low (one a) (one' a)):∀(g:Nat)(a:α)(i:Nat),low<=i->i<l.length->l.length<g+i->tS ln (eT l c one g a i) (pM l c one' g a ⟨i,0,ln⟩)
 |0,a,i,h1,h2,h3=>absurd h3 (by omega)
 |g+1,a,i,h1,h2,h3=>by
  unfold eT pM;rw[if_pos rfl];have h:=(h0 a).sim i ln h1 h2;cases hx:one a i with
  |bad n e=>rw[hx]at h;obtain⟨k1,k2,k3⟩:e≠0/\_:=h;rw[rD (by rw[k2];exact k1),if_neg (by decide)];exact⟨k1,k2,k3⟩
  |ok b j=>
   rw[hx]at h;have h:one' a ⟨i,0,ln⟩=(b,⟨j,0,ln⟩):=h;have ha:=(h0 a).av i b j h2 hx;rw[h];simp only[pN H j ht];cases hs:aJ l j c with
   |true=>rw[if_pos rfl,if_pos rfl];exact tS.loop ht h0 g b (j+1) (by omega) (aV H.fin ha.2 hs) (by omega)
   |false=>
    rw[if_neg (by decide),if_neg (by decide)]
    rfl
theorem aK.list{c:Nm}{one:α->bE α}{one':α->RM α}(h0:∀a,aK l low (one a) (one' a))(a:α)(ht:sgN c=true:=by decide)(H:RfH aD l:=by assumption):aK l low (dI l c one a) (oU l c one' a):=
 ⟨λi ln h1 h2=>tS.loop H ht h0 _ a i h1 h2 (by omega),sL.loop (λa=>(h0 a).rG) _ a,aB.list H.fin (λa=>(h0 a).av) a⟩
theorem sL.b0o(hc:∀s,s.er≠0->c s=false){one:α->RM α}:∀(g:Nat)(a:α),sL (zB c one g a)
 |0,a=>λs _=>rfl
 |g+1,a=>λs hs=>by unfold zB;rw[hc s hs];rfl
theorem tS.b0o{c:Nat->Bool}{c':dR->Bool}(hc:∀s,s.er≠0->c' s=false)(hcc:∀i ln,i<l.length->c' ⟨i,0,ln⟩=c i){one:α->bE α}{one':α->RM α}(h0:∀a i ln,low<=i->i<l.length->c i=true->tS ln (one a i) (one' a ⟨i,0,ln⟩))(a1:∀a i b j,i<l.length->c i=true->one a i=.ok b j->i+1<=j/\j<l.length):∀(g:Nat)(a:α)(i:Nat),low<=i->i<l.length->l.length<g+i->tS ln (eE c one g a i) (zB c' one' g a ⟨i,0,ln⟩)
 |0,a,i,h1,h2,h3=>absurd h3 (by omega)
 |g+1,a,i,h1,h2,h3=>by
  unfold eE zB;rw[hcc i ln h2];cases hci:c i with
  |false=>
   rw[if_neg (by decide),if_neg (by decide)]
   rfl
  |true=>
   rw[if_pos rfl,if_pos rfl];have h:=h0 a i ln h1 h2 hci;cases hx:one a i with
   |bad n e=>rw[hx]at h;obtain⟨k1,k2,k3⟩:e≠0/\_:=h;have hk:=sL.b0o hc (one:=one') g (one' a ⟨i,0,ln⟩).1 (one' a ⟨i,0,ln⟩).2 (by rw[k2];exact k1);exact⟨k1,by rw[hk];exact k2,by rw[hk];exact k3⟩
   |ok b j=>rw[hx]at h;have h:one' a ⟨i,0,ln⟩=(b,⟨j,0,ln⟩):=h;have ha:=a1 a i b j h2 hci hx;rw[h];exact tS.b0o hc hcc h0 a1 g b j (by omega) ha.2 (by omega)
theorem aK.many{c:Nat->Bool}{c':dR->Bool}(hc:∀s,s.er≠0->c' s=false)(hcc:∀i ln,i<l.length->c' ⟨i,0,ln⟩=c i){one:α->bE α}{one':α->RM α}(h0:∀a i ln,low<=i->i<l.length->c i=true->tS ln (one a i) (one' a ⟨i,0,ln⟩))(a1:∀a i b j,i<l.length->c i=true->one a i=.ok b j->i+1<=j/\j<l.length)(a:α):aK l low (pK l c one a) (xL l c' one' a):=
 ⟨λi ln h1 h2=>tS.b0o hc hcc h0 a1 _ a i h1 h2 (by omega),sL.b0o hc _ a,aB.b0o (λa i b j hi hc h=>by have:=a1 a i b j hi hc h;omega) _ a⟩
end
end
section
open Go Go.VM
variable {G:GT}
variable{l:List Tok}{s s1:dR}{m:Nat}
theorem aK.oY{α:Type}{low:Nat}{x:bE α}{y:RM α}(h:aK l low x y)(ax:aB l m x){a:α}(hv:cO l s)(cN:s.er=0->low<=s.pl)(hy:y s=(a,s1)):s1.er=0->s.er=0/\s.pl+m<=s1.pl/\s1.pl<l.length:=λh1=>by
 by_cases he:s.er=0
 .obtain⟨i,e,ln⟩:=s;simp only at he;subst he;have hi:i<l.length:=hv rfl;have hs:=h.sim i ln (cN rfl) hi;rw[hy]at hs;cases hx:x i with
  |ok b j=>rw[hx]at hs;have hs:(a,s1)=(b,⟨j,0,ln⟩):=hs;cases hs;exact⟨rfl,ax i _ j hi hx⟩
  |bad n e=>rw[hx]at hs;obtain⟨k1,k2,k3⟩:e≠0/\_:=hs;exact absurd (k2.symm.trans h1) k1
 .have:=h.rG s he;rw[hy]at this;exact absurd (this▸h1) he
theorem aK.e3x{α:Type}{x:bE α}{y:RM α}(h:aK l 0 x y)(ax:aB l m x){a:α}(hv:cO l s)(hy:y s=(a,s1)):s1.er=0->s.er=0/\s.pl+m<=s1.pl/\s1.pl<l.length:=h.oY ax hv (λ_=>Nat.zero_le _) hy
theorem aK.d3G{α:Type}{x:bE α}{y:RM α}(h:aK l 0 x y){a:α}(hv:cO l s)(hy:y s=(a,s1)):s1.er=0->s.er=0/\s.pl+0<=s1.pl/\s1.pl<l.length:=h.e3x h.av hv hy
theorem cO.next{k:Nat}(h:s1.er=0->s.er=0/\s.pl+k<=s1.pl/\s1.pl<l.length):cO l s1:=λh1=>(h h1).2.2
theorem aK.next{α:Type}{l:List Tok}{x:bE α}{y:RM α}(h:aK l 0 x y){s s1:dR}{a:α}(hv:cO l s)(hy:y s=(a,s1)):cO l s1:=cO.next (h.d3G hv hy)
section
variable {α:Type} {l:List Tok} {c:Code} {st:St} {Q:Exit->St->Prop}
theorem a1V(hE:pE l){s:dR}{t:Nm}(h:cF l 0 t s=true):s.er=0/\s.pl+1<l.length:=by
 unfold cF gN at h;by_cases hs:s.er=0/\s.pl+0<l.length
 .rw[if_pos hs]at h;simp only[g2Z,g3N]at h;exact⟨hs.1,qZ hE (i:=s.pl) hs.2 (by have:=h.1;simp only[Nat.add_zero]at this;omega)⟩
 .rw[if_neg hs]at h;simp at h
theorem a5G(hE:pE l)(sep:Nm)(one:α->RM α)(len:α->Nat)(J:α->Prop)(tm:Nat)(ws:α->List (Nat×DV))(H:α->dR->List (Nat×bH))(own:α->List (TypeId×List VM.Loc))(g0:Nat)(a0:α)(s0:dR)(hg:l.length<g0)(hv:cO l s0)(hl0:len a0=0)(hJ:J a0)(h0:yE st (mJ c st ((tm,.d (.bool true))::ws a0) (H a0 s0) (own a0)))(hround:∀a s,s.er=0->s.pl<l.length->s0.er=0/\s0.pl<=s.pl->len a<=s.pl->J a->∀R:St->Prop,(∀st' b s1,one a s=(b,s1)->yE st' (mJ c st ((tm,.d (.bool (gJ l sep s1).1))::ws b) (H b (gJ l sep s1).2) (own b))->(s1.er=0->s.pl<=s1.pl/\s1.pl<l.length)->len b<=len a+1->J b->R st')->
   XK prog G [.code c] .normal (mJ c st ((tm,.d (.bool true))::ws a) (H a s) (own a)) λe st'=>match e with
   |.normal=>R st'
   |e=>Q e st')(c1j:∀a s m,(m=false\/s.er≠0)->(s.er=0->s0.er=0/\s0.pl<=s.pl)->len a<=l.length+1->J a->cO l s->pM l sep one g0 a0 s0=(a,s)->∀R:St->Prop,XK prog G [.code c] .normal (mJ c st ((tm,.d (.bool m))::ws a) (H a s) (own a)) λe st'=>match e with
   |.normal=>R st'
   |e=>Q e st'):SW prog G (.loop c) st Q:=by
 obtain⟨Y,hY⟩:∃Y,pM l sep one g0 a0 s0=Y:=⟨_,rfl⟩;simp only[hY]at c1j;refine SW.tK (ι:={x:α×dR×Option Nat//cO l x.2.1/\len x.1<=l.length+1/\J x.1/\(x.2.1.er=0->(len x.1<=x.2.1.pl\/x.2.2=none)/\s0.er=0/\s0.pl<=x.2.1.pl)/\(match x.2.2 with
  |some g=>(x.2.1.er=0->l.length<g+x.2.1.pl)/\pM l sep one g x.1 x.2.1=Y
  |none=>Y=(x.1,x.2.1))}) (λx=>(tm,.d (.bool x.1.2.2.isSome))::ws x.1.1) (λx=>H x.1.1 x.1.2.1) (λx=>own x.1.1) (λx=>match x.1.2.2 with
  |none=>0
  |some _=>l.length-x.1.2.1.pl+1) ⟨(a0,s0,some g0),hv,by simp only;omega,hJ,λh=>⟨.inl (by simp only;omega),h,g3p _⟩,λ_=>by simp only;omega,hY⟩ h0 ?_
 rintro⟨⟨a,s,og⟩,h1,h2,h3,h4,h5⟩;simp only at h1 h2 h3 h4 h5;cases og with
 |none=>exact c1j a s false (.inl rfl) (λh=>(h4 h).2) h2 h3 h1 h5 _
 |some g=>
  simp only at h5;by_cases he:s.er=0
  .have hi:=h1 he;have f6V:=h5.1 he;obtain⟨g,rfl⟩:∃k,g=k+1:=⟨g-1,by omega⟩;have hla:len a<=s.pl:=by
    rcases(h4 he).1 with h|h
    .exact h
    .cases h
   have hbs:=(h4 he).2;refine hround a s he hi hbs hla h3 _ λst' b s1 ho hw ha hl hJb=>?_;have heq:=h5.2;unfold pM at heq;rw[if_pos he,ho]at heq;cases hs:cF l 0 sep s1 with
   |true=>
    obtain⟨e1,e2⟩:=a1V hE hs;have a1:=ha e1;simp only[hs,if_true]at heq;have hh:gJ l sep s1=(true,⟨s1.pl+1,s1.er,s1.ln⟩):=by unfold gJ;rw[if_pos hs]
    rw[hh]at hw;exact bD.mk ⟨(b,⟨s1.pl+1,s1.er,s1.ln⟩,some g),λ_=>e2,by simp only;omega,hJb,λ_=>⟨.inl (by simp only;omega),hbs.1,by simp only;omega⟩,λ_=>by simp only;omega,heq⟩ hw (by simp only;omega)
   |false=>
    simp only[hs,g3t,if_false]at heq;have hh:gJ l sep s1=(false,s1):=by unfold gJ;rw[if_neg (by rw[hs];decide)]
    rw[hh]at hw;exact bD.mk ⟨(b,s1,none),λh=>(ha h).2,by simp only;omega,hJb,λh=>⟨.inr rfl,hbs.1,by have:=ha h;simp only;omega⟩,heq.symm⟩ hw (by simp only;omega)
  .refine c1j a s true (.inr he) (λh=>(h4 h).2) h2 h3 h1 ?_ _;rw[<-h5.2];cases g with
   |zero=>rfl
   |succ g=>unfold pM;rw[if_neg he]
theorem c3l(cnd:dR->Bool)(hc:∀s,s.er≠0->cnd s=false)(one:α->RM α)(len:α->Nat)(J:α->Prop)(ws:α->List (Nat×DV))(H:α->dR->List (Nat×bH))(own:α->List (TypeId×List VM.Loc))(g0:Nat)(a0:α)(s0:dR)(hg:l.length<g0)(hv:cO l s0)(hl0:len a0<=l.length+1/\(s0.er=0->len a0<=s0.pl))(hJ:J a0)(h0:yE st (mJ c st (ws a0) (H a0 s0) (own a0)))(hround:∀a s,s.er=0->s.pl<l.length->s0.er=0/\s0.pl<=s.pl->len a<=s.pl->J a->cnd s=true->∀R:St->Prop,(∀st' b s1,one a s=(b,s1)->yE st' (mJ c st (ws b) (H b s1) (own b))->(s1.er=0->s.pl+1<=s1.pl/\s1.pl<l.length)->len b<=len a+1->J b->R st')->
   XK prog G [.code c] .normal (mJ c st (ws a) (H a s) (own a)) λe st'=>match e with
   |.normal=>R st'
   |e=>Q e st')(c1j:∀a s,cnd s=false->(s.er=0->s0.er=0/\s0.pl<=s.pl)->len a<=l.length+1->J a->cO l s->zB cnd one g0 a0 s0=(a,s)->∀R:St->Prop,XK prog G [.code c] .normal (mJ c st (ws a) (H a s) (own a)) λe st'=>match e with
   |.normal=>R st'
   |e=>Q e st'):SW prog G (.loop c) st Q:=by
 obtain⟨Y,hY⟩:∃Y,zB cnd one g0 a0 s0=Y:=⟨_,rfl⟩;simp only[hY]at c1j;refine SW.tK (ι:={x:α×dR×Nat//cO l x.2.1/\len x.1<=l.length+1/\J x.1/\(x.2.1.er=0->len x.1<=x.2.1.pl/\s0.er=0/\s0.pl<=x.2.1.pl)/\(x.2.1.er=0->l.length<x.2.2+x.2.1.pl)/\zB cnd one x.2.2 x.1 x.2.1=Y}) (λx=>ws x.1.1) (λx=>H x.1.1 x.1.2.1) (λx=>own x.1.1) (λx=>if x.1.2.1.er=0 then l.length-x.1.2.1.pl+1 else 0) ⟨(a0,s0,g0),hv,hl0.1,hJ,λh=>⟨hl0.2 h,h,g3p _⟩,λ_=>by simp only;omega,hY⟩ h0 ?_;rintro⟨⟨a,s,g⟩,h1,h2,h3,h4,h5,h6⟩;simp only at h1 h2 h3 h4 h5 h6;cases hs:cnd s with
 |true=>
  have he:s.er=0:=by
   by_cases he:s.er=0
   .exact he
   .rw[hc s he]at hs;cases hs
  have hi:=h1 he;have f6V:=h5 he;obtain⟨g,rfl⟩:∃k,g=k+1:=⟨g-1,by omega⟩;have hbs:=(h4 he).2;refine hround a s he hi hbs (h4 he).1 h3 hs _ λst' b s1 ho hw ha hl hJb=>?_;unfold zB at h6;rw[hs,if_pos rfl,ho]at h6;have h4':=h4 he;refine bD.mk ⟨(b,s1,g),λh=>(ha h).2,by simp only;omega,hJb,λh=>⟨?_,hbs.1,?_⟩,λh=>?_,h6⟩ hw ?_
  .have:=ha h;simp only;omega
  .have:=ha h;simp only;omega
  .have:=ha h;simp only;omega
  .simp only[he,if_true];split
   .rename_i h;have:=ha h;omega
   .omega
 |false=>
  refine c1j a s hs (λh=>(h4 h).2) h2 h3 h1 ?_ _;rw[<-h6];cases g with
  |zero=>rfl
  |succ g=>unfold zB;rw[hs,if_neg (by decide)]
end
end
section
section
variable {kw:Nm->Bool} {andP:Pr->Pr->Pr} {aD:List Tok->Nat->Nat->jA Pr} {l:List Tok} {low m:Nat} {α β γ:Type} {ln:Int}
theorem a8H(x:bE α)(f:α->bE β)(g:β->bE γ):(x >>=f) >>=g=x >>=λa=>f a >>=g:=funext λi=>by
 rw[bX,bX,bX];cases x i with
 |ok a j=>simp only[bX]
 |bad n e=>rfl
theorem aK.assoc{x:bE α}{f:α->bE β}{g:β->bE γ}{y:RM γ}(h:aK l low ((x >>=f) >>=g) y):aK l low (x >>=λa=>f a >>=g) y:=by rwa[a8H]at h
theorem aK.d7v{x:bE γ}{y:RM α}{f:α->RM β}{g:β->RM γ}(h:aK l low x ((y >>=f) >>=g)):aK l low x (y >>=λa=>f a >>=g):=h
theorem aK.a1E{x:bE γ}{y:RM α}{f:α->RM β}{g:β->RM γ}(h:aK l low x (y >>=λa=>f a >>=g)):aK l low x ((y >>=f) >>=g):=h
theorem aK.f3e{x:bE β}{a:α}{g:α->RM β}(h:aK l low x (g a)):aK l low x (pure a >>=g):=h
theorem aK.c9R{x:bE α}{y:RM α}{f:α->bE β}{g:α->RM β}(P:α->Prop)(hx:aK l low x y)(hP:∀i a j,i<l.length->x i=.ok a j->P a)(hf:∀a,P a->aK l low (f a) (g a))(hk:∀a,sL (g a))(ah:∀a,aB l 0 (f a)):aK l low (x >>=f) (y >>=g):=
 ⟨λi ln h1 h2=>tS.dB (hx.sim i ln h1 h2) hk λa j h=>(hf a (hP i a j h2 h)).sim j ln (by have:=hx.av i a j h2 h;omega) (hx.av i a j h2 h).2,sL.dB hx.rG hk,hx.av.bl ah⟩
variable{i:Nat}
theorem tS.f6W{x y:bE α}{f:α->bE β}{z:β×dR}(h:x i=y i)(H:tS ln ((y >>=f) i) z):tS ln ((x >>=f) i) z:=by rw[bX]at H|-;rw[h];exact H
theorem b0y{c:Nm}{one:α->bE α}{P Q:α->Prop}(h:∀a i b j,P a->one a i=.ok b j->P b/\Q b):∀(g:Nat)(a:α)(i:Nat)(b:α)(j:Nat),P a->eT l c one g a i=.ok b j->Q b
 |0,a,i,b,j,_,h0=>by unfold eT at h0;cases h0
 |g+1,a,i,b,j,hp,h0=>by
  unfold eT at h0;split at h0
  .cases h0
  .rename_i a' j' ho;have h2:=h a i a' j' hp ho;split at h0
   .exact b0y h g a' (j'+1) b j h2.1 h0
   .cases h0;exact h2.2
variable{r:List Nm}{s:Nm}
theorem a7z{f:Unit->bE β}(h:aJ l i s=true):(aQ l (s::r) >>=f) i=(aQ l r >>=f) (i+1):=by
 have e:aQ l (s::r) i=aQ l r (i+1):=by
  show(if aJ l i s=true then _ else _)=_
  rw[if_pos h]
 rw[bX,bX,e]
theorem b7y{f:Unit->bE β}(h:aJ l i s=false):(aQ l (s::r) >>=f) i=dN l i:=by
 have e:aQ l (s::r) i=dN l i:=by
  show(if aJ l i s=true then _ else _)=_
  rw[if_neg (by rw[h];decide)]
 rw[bX,e]
 rfl
theorem tS.f3f{f:Unit->bE β}{z:β×dR}(h:aJ l i s=true)(H:tS ln (f () (i+1)) z):tS ln ((aQ l [s] >>=f) i) z:=by rw[a7z h];exact H
theorem tS.e2X{f:Unit->bE β}{z:β×dR}(h:aJ l i s=false)(H:tS ln (dN l i) z):tS ln ((aQ l (s::r) >>=f) i) z:=by rw[b7y h];exact H
theorem c1k{f:Bool->bE β}(h:aJ l i s=true):(cD l s >>=f) i=f true (i+1):=bS (by unfold cD;rw[h,if_pos rfl])
theorem c1l{f:Bool->bE β}(h:aJ l i s=false):(cD l s >>=f) i=f false i:=bS (by unfold cD;rw[h,if_neg (by decide)])
variable{c:dR->Bool}
theorem aK.e9p{g:Nm->RM α}(hc:∀i ln,c ⟨i,0,ln⟩=false)(hk:∀a,sL (g a)):aK l low (dN l) (a3Y l c >>=g):=⟨λi ln h1 h2=>by rw[bK];unfold a3Y oT;rw[hc i ln,if_neg (λh=>by cases h.1)];have h4:=hk [] (mB l ⟨i,0,ln⟩) (a8G h2);exact⟨by decide,by rw[h4,wB h2],by rw[h4,wB h2]⟩,sL.dB (sL.tk _) hk,aB.failed⟩
theorem d7w{s:dR}{A B:RM α}(h:c s=false):(zA c >>=λb=>if b then A else B) s=B s:=by
 show(if c s=true then A else B) s=B s
 rw[h]
 rfl
theorem e9q{b:Bool}(h:c ⟨i,0,ln⟩=b)(hi:i<l.length):a3Y l c ⟨i,0,ln⟩=if b then((aH l i).text,⟨i+1,0,ln⟩) else([],mB l ⟨i,0,ln⟩):=by subst h;unfold a3Y oT;rw[a1i hi];cases c ⟨i,0,ln⟩<;>rfl
theorem c9S{c:Bool}{A B:α->bE α}{z:α}:(if c then dI l s A z i else dI l s B z i)=dI l s (λout=>if c then A out else B out) z i:=by cases c<;>rfl
theorem c9T{s:dR}(h:s.er≠0):dL kw l s=((jK,false),s):=by
 unfold dL;rw[b2g h,c3k h]
 rfl
variable (H:RfH aD l)
include H
theorem aK.e9r:aK l low (dI l [44] (λout=>do let w <- bU kw l;pure (out++[w])) []) (eY kw l >>=a4G kw l):=⟨λi ln h1 h2=>by
 rw[bK];unfold dI;rw[eT]
 dsimp only
 have h:=(aK.word (kw:=kw) (l:=l) (low:=low)).sim i ln h1 h2;cases hx:bU kw l i with
 |bad n e=>rw[hx]at h;obtain⟨k1,k2,k3⟩:e≠0/\_:=h;unfold a4G;rw[kN hx,rD (by rw[k2];exact k1),if_neg (by decide)];exact⟨k1,k2,k3⟩
 |ok w j=>
  rw[hx]at h;have h:eY kw l ⟨i,0,ln⟩=(w,⟨j,0,ln⟩):=h;have ha:=aB.word (kw:=kw) H.fin i w j h2 hx;rw[bS hx,h];unfold a4G;simp only[kR,pN H j (by decide:sgN [44]=true),List.nil_append];cases hs:aJ l j [44]with
  |true=>rw[if_pos rfl,if_pos rfl];exact tS.loop H (low:=0) (by decide) (λa=>aK.b0 aK.word λw=>aK.bZ _) _ _ _ (by omega) (aV H.fin ha.2 hs) (by omega)
  |false=>
   rw[if_neg (by decide),if_neg (by decide)]
   rfl,sL.dB (sL.tk _) λw s hs=>by unfold a4G;rw[rD hs];rfl,aB.list H.fin (λa=>(aB.word H.fin).bz λ_=>aB.bZ _) _⟩
theorem aK.words:aK l low (gD kw l) (rV kw l):=by unfold gD rV;exact aK.mus (aK.d7v (aK.b0 (aK.e9r H) λout=>aK.mus (aK.bZ _)))
theorem aK.f3g(v:Bool):aK l low ((if v then cD l [118] else pure false) >>=λb=>if b then pure [118] else bU kw l) (a3Y l λs=>mR kw l 0 s||v&&jU l [118] s):=⟨λi ln h1 h2=>by
 have b6A:tS ln (dN (α:=Nm) l i) ([],mB l ⟨i,0,ln⟩):=tS.fail h2 _;rw[e9q (b:=gU kw (aH l i)||v&&aJ l i [118]) (by rw[a3v kw h2,qL H h2 (by decide) (by decide)]) h2];have hw:∀b:Bool,b=false->tS ln (bU kw l i) (if (gU kw (aH l i)||b)=true then((aH l i).text,(⟨i+1,0,ln⟩:dR)) else([],mB l ⟨i,0,ln⟩)):=λb hb=>by
  subst hb;unfold bU mH;rw[Bool.or_false];cases gU kw (aH l i)with
  |true=>rfl
  |false=>exact b6A
 cases v with
 |false=>
  show tS ln ((pure false >>=λb=>if b=true then pure [118] else bU kw l:bE Nm) i) _
  rw[bS (kR),if_neg (by decide)];exact hw _ rfl
 |true=>
  show tS ln ((cD l [118] >>=λb=>if b=true then pure [118] else bU kw l) i) _
  cases hs:aJ l i [118]with
  |true=>
   have ht:(aH l i).text=[118]:=by unfold aJ cI at hs;simp only[g2Z,g3N]at hs;exact hs.2
   rw[c1k hs,ht,if_pos rfl,if_pos (by simp)]
   rfl
  |false=>rw[c1l hs,if_neg (by decide)];exact hw _ rfl,sL.tk _,(aB.ite (aB.skip H.fin _) (aB.bZ _)).bl λb=>aB.ite (aB.bZ _) ((aB.word H.fin).le (by omega))⟩
theorem aK.vars(v:Bool):aK l low (qC kw l v) (a1f kw l v):=by unfold qC a1f;exact aK.list (λa=>aK.assoc (aK.b0 (aK.f3g H v) λnm=>aK.mus (aK.b0 aK.sort λs=>aK.bZ _))) _
theorem d7x(hi:i<l.length):
  (∃t,gO kw l i=.ok (some t) (i+1)/\dL kw l ⟨i,0,ln⟩=((t,true),⟨i+1,0,ln⟩)/\t.op≠4/\aJ l i [123]=false/\aJ l i [40]=false)\/
  (gO kw l i=.ok none i/\pJ (aH l i)=true/\dL kw l ⟨i,0,ln⟩=((wQ 4 (aH l i).text,true),⟨i+1,0,ln⟩)/\aJ l i [123]=false/\aJ l i [40]=false)\/
  (gO kw l i=.ok none i/\pJ (aH l i)=false/\dL kw l ⟨i,0,ln⟩=((jK,false),⟨i,0,ln⟩)):=by
 unfold dL;rw[a3v kw hi,a8F hi,a1i (by omega)];unfold gO;have e1:aJ l i [73,110,116]=_:=(H.tkw i).ti (by decide) (by decide);have e2:aJ l i [66,111,111,108]=_:=(H.tkw i).ti (by decide) (by decide);have e3:aJ l i [67,101,108,108]=_:=(H.tkw i).ti (by decide) (by decide);have e4:aJ l i [123]=_:=(H.tkw i).sg (by decide);have e5:aJ l i [40]=_:=(H.tkw i).sg (by decide);rw[e1,e2,e3,e4,e5];generalize aH l i=t;obtain⟨k,x,n,ln'⟩:=t;simp only[gU,pJ];by_cases k1:k=1
 .subst k1;by_cases hk:kw x=true
  .exact .inr (.inr ⟨by simp[hk],by simp,by simp[hk]⟩)
  .exact .inl ⟨wQ 5 x,by simp[hk],by simp[hk],by simp[wQ],by simp,by simp⟩
 by_cases k2:k=2
 .subst k2;by_cases x1:x=[73,110,116]
  .exact .inl ⟨wQ 1 [],by simp[x1],by simp[x1],by simp[wQ],by simp,by simp⟩
  by_cases x2:x=[66,111,111,108]
  .exact .inl ⟨wQ 2 [],by simp[x2],by simp[x2],by simp[wQ],by simp,by simp⟩
  by_cases x3:x=[67,101,108,108]
  .exact .inl ⟨wQ 3 [],by simp[x3],by simp[x3],by simp[wQ],by simp,by simp⟩
  exact .inr (.inl ⟨by simp[x1,x2,x3],by simp,by simp[x1,x2,x3],by simp,by simp⟩)
 exact .inr (.inr ⟨by simp[k1,k2],by simp[k2],by simp[k1,k2]⟩)
theorem tS.bef(hi:i<l.length)(e:Nat):tS ln (aD l i e) (pF aD l e ⟨i,0,ln⟩):=by
 unfold pF;rw[if_pos rfl];cases h:aD l i e with
 |ok p j=>simp only[h];rfl
 |bad n x=>simp only[h];exact⟨H.nz _ _ _ _ hi h,rfl,rfl⟩
omit H in
theorem sL.bef(e:Nat):sL (pF aD l e):=λs hs=>by unfold pF;rw[if_neg hs]
theorem aK.pred:aK l low (kY aD l) (a5A aD l):=⟨λi ln _ h2=>tS.bef H h2 _,sL.bef _,H.oY.pred⟩
section
variable {ty:bE Ty} {ty':RM Ty} (mU:aK l (low+1) ty ty') (yF:aB l 1 ty)
include mU yF
theorem aK.b6Y:aK l low (vC andP aD l ty) (a7y andP aD l ty'):=by
 unfold vC a7y;refine aK.b9K (aK.key λ_=>aK.mus ?_);refine aK.b0 (mU.up (by omega)) λt=>?_;have hk:∀low,aK l low (kY aD l >>=λp=>aQ l [[125]] >>=λ_=>pure {t with pred:=if t.pred.op=0 then p else andP t.pred p}) (a5A aD l >>=λp=>aX l [125] >>=λ_=>pure {t with pred:=if t.pred.op=0 then p else andP t.pred p}):=λlow=>aK.b0 (aK.pred H) λp=>aK.mus (aK.bZ _);by_cases h6:t.op=6
 .rw[if_pos h6];exact aK.e9p (λi ln=>by simp[h6]) (λa=>(hk 0).rG)
 .rw[if_neg h6];exact⟨λi ln h1 h2=>tS.tk h2 (by rw[pN H i (t:=[124]) (by decide)];simp[h6]) (λa=>(hk 0).rG) λhs a=>(hk 0).sim (i+1) ln (by omega) (aV H.fin h2 hs),sL.dB (sL.tk _) λa=>(hk 0).rG,aB.exB H.fin (hk 0).av⟩
theorem aK.f3h:aK l low (kO kw andP aD l ty) (b0t kw andP aD l ty'):=⟨λi ln h1 h2=>by
 unfold kO b0t;rw[pN H i (t:=[123]) (by decide),pN H i (t:=[40]) (by decide)];rcases d7x H (kw:=kw) (ln:=ln) h2 with⟨t,b1,b2,b3,b4,b5⟩|⟨b1,b2,b3,b4,b5⟩|⟨b1,b2,b3⟩
 .rw[bS b1,b2,b4,b5]
  rfl
 .rw[bS b1,b3,b4,b5];simp only[b2,if_true]
  rfl
 .rw[bS b1,b3];simp only[b2,g3t,if_false];cases s1:aJ l i [123]with
  |true=>rw[if_pos rfl,if_pos rfl];exact(aK.b6Y H mU yF).sim i ln h1 h2
  |false=>
   rw[if_neg (by decide),if_neg (by decide)];cases s2:aJ l i [40]with
   |true=>rw[if_pos rfl,a7z s2];have h:aK l (low+1) (ty >>=λt=>aQ l [[41]] >>=λ_=>pure t) (ty' >>=λt=>aX l [41] >>=λ_=>pure t):=aK.b0 mU λt=>aK.mus (aK.bZ _);exact h.sim (i+1) ln (by omega) (aV H.fin h2 s2)
   |false=>rw[if_neg (by decide),b7y s2];exact tS.fail h2 _,λs hs=>by
 unfold b0t;rw[rD hs,rD hs,c9T hs,if_neg (by decide),if_neg (by decide),if_neg (λh=>by cases h)];exact a4H hs,(aB.a1e H.fin (yF.le (by omega)) H.oY.pred).le (by omega)⟩
theorem aK.f3i(name:Nm):aK l low (do
  let args <- pK l (b1I kw l) (λout=>do let t <- kO kw andP aD l ty;pure (out++[t])) []
  let b <- cD l [60]
  if b then do
   let ps <- dI l [44] (λout=>do
    aQ l [[118],[46]]
    let p <- kY aD l
    pure (out++[p])) []
   aQ l [[62]]
   pure {wQ 4 name with args:=args,b1E:=ps}
  else pure {wQ 4 name with args:=args}:bE Ty) (a5B kw andP aD l ty' name):=by
 have aS:aB l 1 (kO kw andP aD l ty):=aB.a1e H.fin (yF.le (by omega)) H.oY.pred;unfold a5B;refine aK.b0 (aK.many (λs hs=>?_) (λi ln hi=>?_) (λa i ln h1 h2 _=>(aK.b0 (aK.f3h H mU yF) λt=>aK.bZ _).sim i ln h1 h2) (λa i b j hi _ hx=>(aS.bl λt=>aB.bZ _) i b j hi hx) _) λargs=>?_
 .rw[b2g hs,c3k hs,rD hs,rD hs];rfl
 .unfold b1I;rw[a3v kw hi,a8F hi,pN H i (t:=[123]) (by decide),pN H i (t:=[40]) (by decide),Bool.or_assoc,Bool.or_assoc]
 exact aK.b0 aK.b2h λb=>aK.ite (aK.b0 (aK.list (λa=>aK.key λ_=>aK.mus (aK.b0 (aK.pred H) λp=>aK.bZ _)) _) λps=>aK.mus (aK.bZ _)) (aK.bZ _)
theorem aK.c6k:aK l low (vD kw l ty) (a0k kw l ty'):=by
 unfold vD a0k;refine aK.mus ?_;have aI:∀p:List Nm×List Ty,aB l 0 (λi=>if decide (p.1.length=0)&&decide (p.2.length=1)&& !aJ l i [45,62] then .ok (p.2.headD jK) i else(aQ l [[45,62]] >>=λ_=>ty >>=λt=>pure {wQ 6 []with names:=p.1,args:=p.2++[t]}:bE Ty) i:bE Ty):=λp i a j hi h=>by
  simp only at h;split at h
  .cases h;omega
  .exact((aB.exp H.fin _ _).bz λ_=>mU.av.bl λ_=>aB.bZ _) i a j hi h
 have hK:∀(named:Bool)(p:List Nm×List Ty),decide (p.1.length=0)= !named->aK l (low+1) (aQ l [[41]] >>=λ_=>(λi=>
   if decide (p.1.length=0)&&decide (p.2.length=1)&& !aJ l i [45,62] then .ok (p.2.headD jK) i
   else(do
    aQ l [[45,62]]
    let t <- ty
    pure {wQ 6 []with names:=p.1,args:=p.2++[t]}:bE Ty) i:bE Ty)) (aX l [41] >>=λ_=>zA (λs=>decide (p.2.length=1)&&(!named&& !cF l 0 [45,62] s)) >>=λc=>if c then pure (p.2.headD jK) else aX l [45,62] >>=λ_=>ty' >>=λt=>pure {wQ 6 []with names:=p.1,args:=p.2++[t]}):=λnamed p hn=>by
  have hr:aK l (low+1) (do
    aQ l [[45,62]]
    let t <- ty
    pure {wQ 6 []with names:=p.1,args:=p.2++[t]}:bE Ty) (aX l [45,62] >>=λ_=>ty' >>=λt=>pure {wQ 6 []with names:=p.1,args:=p.2++[t]}):=aK.mus (aK.b0 (mU.up (by omega)) λt=>aK.bZ _)
  refine aK.mus (aK.test (λb=>?_) (aI p) λi ln h1 h2=>?_)
  .cases b
   .exact hr.rG
   .exact sL.bZ _
  .rw[pN H i (t:=[45,62]) (by decide),hn];have e:(decide (p.2.length=1)&&(!named&& !aJ l i [45,62]))=(!named&&decide (p.2.length=1)&& !aJ l i [45,62]):=by cases named<;>simp
   rw[e];cases (!named&&decide (p.2.length=1)&& !aJ l i [45,62])with
   |true=>rfl
   |false=>exact hr.sim i ln (by omega) h2
 have hB:∀named:Bool,aK l (low+1) (dI l [44] (λ(out:List Nm×List Ty)=>if named then bU kw l >>=λw=>aQ l [[58]] >>=λ_=>ty >>=λt=>pure (out.1++[w],out.2++[t]) else ty >>=λt=>pure (out.1,out.2++[t])) ([],[])) (oU l [44] (λ(out:List Nm×List Ty)=>if named then eY kw l >>=λw=>aX l [58] >>=λ_=>ty' >>=λt=>pure (out.1++[w],out.2++[t]) else ty' >>=λt=>pure (out.1,out.2++[t])) ([],[])):=λnamed=>aK.list (λa=>aK.ite (aK.b0 aK.word λw=>aK.mus (aK.b0 (mU.up (by omega)) λt=>aK.bZ _)) (aK.b0 mU λt=>aK.bZ _)) _;have hI:∀(named:Bool) i a j,i<l.length->dI l [44] (λ(out:List Nm×List Ty)=>if named then bU kw l >>=λw=>aQ l [[58]] >>=λ_=>ty >>=λt=>pure (out.1++[w],out.2++[t]) else ty >>=λt=>pure (out.1,out.2++[t])) ([],[]) i=.ok a j->decide (a.1.length=0)= !named:=λnamed i a j hi h=>by
  cases named with
  |true=>
   refine b0y (P:=λ_=>True) (Q:=λp=>decide (p.1.length=0)=false) (λa i b j _ hx=>⟨trivial,?_⟩) _ _ _ _ _ trivial h;rw[if_pos rfl]at hx;simp only[bX]at hx
   repeat' split at hx
   all_goals first
    |cases hx
    |skip
   simp
  |false=>
   refine b0y (P:=λp=>p.1=[]) (Q:=λp=>decide (p.1.length=0)=true) (λa i b j h1 hx=>?_) _ _ _ _ _ rfl h;rw[if_neg (by decide)]at hx;simp only[bX]at hx
   repeat' split at hx
   all_goals first
    |cases hx
    |skip
   simp[h1]
 have key:∀named:Bool,aK l (low+1) _ _:=λnamed=>aK.c9R (λp=>decide (p.1.length=0)= !named) (hB named) (hI named) (hK named) (λp=>by
  by_cases hp:decide (p.1.length=0)= !named
  .exact(hK named p hp).rG
  .refine sL.dB (sL.b9K _) λ_ s hs=>?_;rw[bK]
   show((if (decide (p.2.length=1)&&(!named&& !cF l 0 [45,62] s))=true then _ else _:RM Ty) s).2=s
   split
   .rfl
   .exact(sL.dB (sL.b9K _) λ_=>sL.dB mU.rG λ_=>sL.bZ _) s hs) λp=>(aB.exp H.fin _ _).bz λ_=>aI p
 refine aK.test (λb=>(key b).rG) (aB.bl (λi a j hi h=>?_) λp=>(aB.exp H.fin _ _).bz λ_=>aI p) λi ln h1 h2=>?_
 .split at h
  .exact(hB true).av i a j hi h
  .exact(hB false).av i a j hi h
 have e:(mR kw l 0 ⟨i,0,ln⟩&&cF l 1 [58] ⟨i,0,ln⟩)=(gU kw (aH l i)&&cI (aH l (i+1)) [58]):=by
  rw[a3v kw h2,a5F H 1 i (t:=[58]) (by decide)]
  rfl
 rw[e];have hs:=(key (gU kw (aH l i)&&cI (aH l (i+1)) [58])).sim i ln h1 h2;refine tS.f6W (y:=dI l [44] (λ(out:List Nm×List Ty)=>if (gU kw (aH l i)&&cI (aH l (i+1)) [58]) then bU kw l >>=λw=>aQ l [[58]] >>=λ_=>ty >>=λt=>pure (out.1++[w],out.2++[t]) else ty >>=λt=>pure (out.1,out.2++[t])) ([],[])) ?_ hs;exact c9S
theorem aK.c2O:aK l low (wO kw andP aD l ty) (a5C kw andP aD l ty'):=⟨λi ln h1 h2=>by
 unfold wO a5C;rw[if_pos rfl,pN H i (t:=[123]) (by decide),pN H i (t:=[40]) (by decide)];rcases d7x H (kw:=kw) (ln:=ln) h2 with⟨t,b1,b2,b3,b4,b5⟩|⟨b1,b2,b3,b4,b5⟩|⟨b1,b2,b3⟩
 .rw[bS b1,b2,b4,b5,if_neg (by decide),if_neg (by decide),if_pos rfl,if_neg b3]
  rfl
 .rw[bS b1,b3,b4,b5];simp only[b2,if_true,g3t,if_false];have hn:=a8q H.fin h2 b2;have e:tB kw andP aD l ty i=_:=bS (x:=jI l) (show jI l i=.ok (aH l i).text (i+1) by unfold jI mH;rw[b2,if_pos rfl]);rw[e];exact(aK.f3i H mU yF _).sim (i+1) ln (by omega) hn
 .rw[bS b1,b3];simp only[b2,g3t,if_false];cases s1:aJ l i [123]with
  |true=>rw[if_pos rfl,if_pos rfl];exact(aK.b6Y H mU yF).sim i ln h1 h2
  |false=>
   rw[if_neg (by decide),if_neg (by decide)];cases s2:aJ l i [40]with
   |true=>rw[if_pos rfl];exact(aK.c6k H mU yF).sim i ln h1 h2
   |false=>rw[if_neg (by decide)];unfold vD;rw[b7y s2];exact tS.fail h2 _,λs hs=>by
 unfold a5C;rw[if_neg hs],(aB.c2O H.fin (yF.le (by omega)) H.oY.pred).le (by omega)⟩
end
theorem aK.a7n:∀(n low:Nat),l.length<n+low->aK l low (xJ kw andP aD l n) (b0u kw andP aD l n)
 |0,low,h=>⟨λi ln h1 h2=>absurd h (by omega),λs _=>rfl,(aB.a7n H.fin H.oY.pred 0).le (by omega)⟩
 |n+1,low,h=>aK.c2O H (aK.a7n n (low+1) (by omega)) (aB.a7n H.fin H.oY.pred n)
theorem aK.typ:aK l low (mP kw andP aD l) (wW kw andP aD l):=aK.a7n H _ _ (by omega)
theorem aK.types:aK l low (qW kw andP aD l) (zA (cF l 0 [91]) >>=λc=>if c then a5D kw andP aD l else pure []):=by
 have hr:∀low,aK l low (dI l [44] (λout=>mP kw andP aD l >>=λt=>pure (out++[t])) [] >>=λout=>aQ l [[93]] >>=λ_=>pure out) (oU l [44] (λout=>wW kw andP aD l >>=λt=>pure (out++[t])) [] >>=λout=>aX l [93] >>=λ_=>pure out):=λlow=>aK.b0 (aK.list (λa=>aK.b0 (aK.typ H) λt=>aK.bZ _) _) λout=>aK.mus (aK.bZ _);have hm:aK l 0 (aQ l [[91]] >>=λ_=>dI l [44] (λout=>mP kw andP aD l >>=λt=>pure (out++[t])) [] >>=λout=>aQ l [[93]] >>=λ_=>pure out) (a5D kw andP aD l):=aK.b9K (hr _);refine aK.test (λb=>?_) (aB.types H.fin H.oY.pred) λi ln h1 h2=>?_
 .cases b
  .exact sL.bZ _
  .exact hm.rG
 .rw[pN H i (t:=[91]) (by decide)];unfold qW;cases hs:aJ l i [91]with
  |true=>have h:=hm.sim i ln (by omega) h2;rw[a7z hs]at h;rw[bS (show cD l [91] i=.ok true (i+1) by unfold cD;rw[hs,if_pos rfl])];exact h
  |false=>
   rw[bS (show cD l [91] i=.ok false i by unfold cD;rw[hs,if_neg (by decide)])]
   rfl
end
end
section
open Go Go.VM
variable {G:GT}
variable{l:List Tok}{r:List Nm}{i:Nat}{s:Nm}
theorem c3m(h:aJ l i s=true):aQ l (s::r) i=aQ l r (i+1):=by
 show(if aJ l i s=true then aQ l r (i+1) else dN l i)=_
 rw[if_pos h]
theorem e3y(h:aJ l i s=false):aQ l (s::r) i=dN l i:=by
 show(if aJ l i s=true then aQ l r (i+1) else dN l i)=_
 rw[if_neg (by rw[h];decide)]
theorem pO(l:List Tok)(ss:List Nm)(i:Nat)(hi:i<l.length)(hl:l.length<=2000000)(hE:pE l)(hss:ss.length<=1000:=by simp):tL G 19 [.sl (strs ss)] l i (aQ l ss i) (λ_=>.cY []):=by
 refine pX.bP func19 rfl ntmps19 rfl (by simp) ?_;intro Q hQ;simp;refine SW.tK (ι:={k:Nat//k<=ss.length/\i+k<l.length/\aQ l (ss.drop k) (i+k)=aQ l ss i}) (λk=>[(8,.d (.int .i64 k.1))]) (λk=>rH l (i+k.1)) (λ_=>[]) (λk=>ss.length-k.1) ⟨0,by simp[hi]⟩ (by simp) ?_;rintro⟨k,hk,hik,hp⟩;rw[<-hp]at hQ;by_cases aG:k<ss.length
 .have hg:=b6B aG;have hw:=bC (show k<9223372036854775807 by omega);have hd:ss.drop k=ss[k]::ss.drop (k+1):=g3m aG;rw[hd]at hQ hp;simp[aG,hg];cases hs:aJ l (i+k) ss[k]with
  |true=>have hn:=aV hE hik hs;rw[c3m hs]at hp;refine pY (ds:=[.str ss[k]]) (d:=.d (.bool true)) kP (tQ l (i+k) ss[k] hik hl hs) ?_;simp[hw];exact bD.mk ⟨k+1,aG,by omega,hp⟩ (by simp[Nat.add_assoc]) (by simp;omega)
  |false=>rw[e3y hs]at hQ;refine pY (ds:=[.str ss[k]]) (d:=.d (.bool false)) kP (b3s l (i+k) ss[k] hik hl hs) ?_;simp;refine rdX (ds:=[]) xZ (a0j (α:=Unit) l (i+k) hik hl λ_=>.cY []) (λa j hx=>by unfold dN at hx;cases hx) (λn e hx=>?_);simp;exact hQ.bad n e _ hx
 .have hd:ss.drop k=[]:=List.drop_eq_nil_of_le (by omega);rw[hd]at hQ;simp[aG];exact hQ.ok () (i+k) _ _ rfl (.inl rfl) (by simp)
section
variable {α β:Type} {Q Q':Exit->St->Prop} {rs:List ResultVar} {l:List Tok} {i:Nat} {enc:β->DV} {Y:β->List (Nat×bH)} {own:List (TypeId×List VM.Loc)} {av:List DV} {A:Prop} {st:St} {ls:List (Option VM.Loc)} {dst:Option Tmp} {all:Array Oper} {ops:List Oper} {k:List XI}
variable{s:Nm}
theorem eP{r:List Nm}{g:Unit->bE β}(Q0:uJ Q rs l enc Y own ((aQ l (s::r) >>=g) i))(p0:A/\i<l.length)(hF:pE l)(oB:∀a j,aQ l (s::r) i=.ok a j->uJ Q rs l enc Y own (g a j)->i+1<=j/\j<l.length->XK prog G (.ops all ops::k) .normal ⟨kG dst (.cY []) st.tmps,cE 100000 (rdO l j) st.H,hZ dst (dropKey 100000 st.own)⟩ Q')(hl:l.length<=2000000:=by omega)(hss:(s::r).length<=1000:=by simp)(hq:∀v s,(∀s,Q (.panic v) s)->Q' (.panic v) s:=by first|exact λ_ _ h=>h _|(intro v s h;simp;first|exact h _|exact h))(hw:WkT av (.ptr 100000 0::[D.sl (strs (s::r))].map .d):=by simp[strs])(hH:getKey 100000 st.H=some (rdO l i):=by simp):eB prog G 19 av ls dst all ops k st Q':=
 uA (hw:=hw) (hH:=hH) Q0 p0 oC (pO l _ i p0.2 hl hF hss) (aB.exp hF s r) oB hq
theorem rdT(h:aJ l i s=true)(p0:A/\i<l.length)(hF:pE l)(hX:i+1<=i+1/\i+1<l.length->XK prog G (.ops all ops::k) .normal ⟨kG dst (.d (.bool true)) st.tmps,cE 100000 (rdO l (i+1)) st.H,hZ dst (dropKey 100000 st.own)⟩ Q)(hl:l.length<=2000000:=by omega)(hw:WkT av (.ptr 100000 0::[D.str s].map .d):=by simp)(hH:getKey 100000 st.H=some (rdO l i):=by simp):eB prog G 33 av ls dst all ops k st Q:=
 pY (hw:=hw) (hH:=hH) (d:=.d (.bool true)) kP (tQ l i s p0.2 hl h) (hX ⟨g3p _,aV hF p0.2 h⟩)
theorem rdF(h:aJ l i s=false)(p0:A/\i<l.length)(hX:XK prog G (.ops all ops::k) .normal ⟨kG dst (.d (.bool false)) st.tmps,cE 100000 (rdO l i) st.H,hZ dst (dropKey 100000 st.own)⟩ Q)(hl:l.length<=2000000:=by omega)(hw:WkT av (.ptr 100000 0::[D.str s].map .d):=by simp)(hH:getKey 100000 st.H=some (rdO l i):=by simp):eB prog G 33 av ls dst all ops k st Q:=
 pY (hw:=hw) (hH:=hH) (d:=.d (.bool false)) kP (b3s l i s p0.2 hl h) hX
end
theorem b0z(l:List Tok)(i:Nat)(ok:Tok->Bool)(hi:i<l.length)(hl:l.length<=2000000):tL G 128 [.bool (ok (aH l i))] l i (mH l ok i) (λs=>.d (.str s)):=by
 have ht:=dK (G:=G) l (i+1) i (-1) (by omega) (by omega) (by intro e;subst e;simp at hi) hl;have hw:=bC (show i<9223372036854775807 by omega);refine pX.bP func128 rfl ntmps128 rfl (by simp) ?_;intro Q hQ;cases h:ok (aH l i)with
 |true=>simp[hw];refine pY (i:=i+1) (ds:=[.int .i64 (-1)]) cH ht ?_;generalize hT:aH l i=T at hQ ht h|-;have hk:=hQ.ok T.text (i+1) .ret;obtain⟨k,s,n,ln⟩:=T;simp[bL];exact hk _ (by unfold mH;rw[hT,if_pos h]) (.inr rfl) (by simp)
 |false=>simp;refine rdX (ds:=[]) xZ (a0j (α:=Nm) l i hi hl λ_=>.cY []) (λa j hx=>by unfold dN at hx;cases hx) (λn e hx=>?_);exact hQ.bad n e _ (by unfold mH;rw[if_neg (by rw[h];decide)];exact hx)
section
variable (hG:G 1=some gC)
include hG
theorem eH(l:List Tok)(i:Nat)(hi:i<l.length)(hl:l.length<=2000000):tL G 81 [] l i (bU aL l i) (λs=>.d (.str s)):=by have ht:=dK (G:=G) l i i 0 (by omega) (by omega) (by intro e;subst e;simp at hi) hl;refine pX.bP func81 rfl ntmps81 rfl (by simp) ?_;intro Q hQ;simp;refine pY (ds:=[.int .i64 0]) cH ht ?_;simp;refine jT.mk oH (pS hG (aH l i)) ?_;simp;refine rdX (ds:=[.bool (gU aL (aH l i))]) a3t (b0z l i (gU aL) hi hl) (λs j hx=>?_) (λn e hx=>hQ.bad n e _ hx);simp;exact hQ.ok s j _ _ hx (.inr rfl) (by simp)
theorem a5H(l:List Tok)(i:Nat)(hi:i<l.length)(hl:l.length<=2000000):tL G 99 [] l i (yV aL l i) (λs=>.d (.str s)):=by
 have ht:=dK (G:=G) l i i 0 (by omega) (by omega) (by intro e;subst e;simp at hi) hl;refine pX.bP func99 rfl ntmps99 rfl (by simp) ?_;intro Q hQ;simp;refine pY (ds:=[.int .i64 0]) cH ht ?_;simp;refine jT.mk oH (pS hG (aH l i)) ?_;have hc:=b0z (G:=G) l i (λt=>gU aL t||pJ t) hi hl;cases h:gU aL (aH l i)with
 |true=>simp only[h,Bool.true_or]at hc;simp;refine rdX (ds:=[.bool true]) a3t hc (λs j hx=>?_) (λn e hx=>hQ.bad n e _ hx);simp;exact hQ.ok s j _ _ hx (.inr rfl) (by simp)
 |false=>simp only[h,Bool.false_or]at hc;simp;refine pY (ds:=[.int .i64 0]) cH ht ?_;generalize hT:aH l i=T at hc|-;obtain⟨k,x,n,ln⟩:=T;simp[bL];refine rdX (hw:=by simp[pJ]) (ds:=[.bool (pJ ⟨k,x,n,ln⟩)]) a3t hc (λs j hx=>?_) (λn e hx=>hQ.bad n e _ hx);simp;exact hQ.ok s j _ _ hx (.inr rfl) (by simp)
end
theorem oI(l:List Tok)(i:Nat)(hi:i<l.length)(hl:l.length<=2000000:=by omega):tL G 90 [] l i (jI l i) (λs=>.d (.str s)):=by have ht:=dK (G:=G) l i i 0 (by omega) (by omega) (by intro e;subst e;simp at hi) hl;have hc:=b0z (G:=G) l i pJ hi hl;refine pX.bP func90 rfl ntmps90 rfl (by simp) ?_;intro Q hQ;simp;refine pY (ds:=[.int .i64 0]) cH ht ?_;generalize hT:aH l i=T at hc|-;obtain⟨k,x,n,ln⟩:=T;simp[bL];refine rdX (hw:=by simp[pJ]) (ds:=[.bool (pJ ⟨k,x,n,ln⟩)]) a3t hc (λs j hx=>?_) (λn e hx=>hQ.bad n e _ hx);simp;exact hQ.ok s j _ _ hx (.inr rfl) (by simp)
abbrev d3H:Pr->DV:=λp=>.d (.agg (prD p))
structure rP (G:GT) (aD:List Tok->Nat->Nat->jA Pr) (l:List Tok):Prop where
 kw:G 1=some gC
 len:l.length<=50000
 fin:pE l
 bef:∀i e,i<l.length->e<=l.length->tL G 116 [.int .i64 e] l i (aD l i e) d3H
 oY:a5s aD l
 nod:∀i e p j,i<l.length->aD l i e=.ok p j->bO p+i<=j/\p.op≠0
theorem sT:VM.Enters prog 102:=.mk func102 rfl
theorem eQ:VM.Enters prog 93:=.mk func93 rfl
section
variable {aD:List Tok->Nat->Nat->jA Pr} {l:List Tok} (hV:rP G aD l)
include hV
theorem vH(i:Nat)(hi:i<l.length):tL G 102 [] l i (kY aD l i) d3H:=by have hl:=hV.len;refine pX.bP func102 rfl ntmps102 rfl (by simp) ?_;intro Q hQ;simp;refine rdX (ds:=[.int .i64 l.length]) (.mk func116 rfl) (hV.bef i l.length hi (g3p _)) (λp j hx=>?_) (λn e hx=>hQ.bad n e _ hx);simp;exact hQ.ok p j _ _ hx (.inr rfl) (by simp)
omit hV in
structure a2A {α:Type} (l:List Tok) (K:List (Nat×Nat)) (c2d:List DV) (X:α->List (Nat×bH)) (own:List (TypeId×List VM.Loc)):Prop where
 fit:∀a b i j,aR K ⟨c2d,rH l i++X a,own⟩ (.cY []) (rH l j++X b)=true
 f3j:∀a i,aR K ⟨c2d,rH l i++X a,own⟩ .undef (rH l i++X a)=true
 cap:WkT c2d (aZ K c2d)
 hh:∀a i,WkH (rH l i++X a) (dE K (rH l i++X a))
 tk:∀a i tmps,xW ⟨tmps,rH l i++X a,own⟩ own (own.map (sB K []))=some []
 ow:∀t,own.map (kU K (some t))=own
 arg:∀n,a1d n [] own=true
 st:∀a b i j,bW K (rH l j++X b) ((100000,rdO l i)::X a)=(100000,rdO l j)::X b
 dk:dropKey 100000 own=own
 d0:∀t:Nat,dF (.t t) own=own
 dl:∀t:Nat,List.map (λc=>(c.1,List.filter (λx=> !decide (x=VM.Loc.t t)) c.2)) own=own
 tt:(own.all λc=>c.2.all λl=>match l with|.t i=>decide (i<3)|_=>true)=true
 wk:∀a i t1 t2,WkT t1 t2->yE ⟨t1,rH l i++X a,own⟩ ⟨t2,rH l i++X a,own⟩
 ed:∀a i (s:St),s.H=rH l i++X a->s.own=own->a5x prog s [] (.cY []) (rH l i++X a) own
variable{c:Nm}{g i:Nat}
theorem c1m{α:Type}{one:α->bE α}{a b:α}{j:Nat}(h:one a i=.ok b j):eT l c one (g+1) a i=if aJ l j c then eT l c one g b (j+1) else .ok b j:=by rw[eT];simp only[h]
theorem b7A{α:Type}{one:α->bE α}{a:α}{n e:Int}(h:one a i=.bad n e):eT l c one (g+1) a i=.bad n e:=by rw[eT];simp only[h]
theorem b0A:∀K:List (Nat×Nat),eN K []=[]
 |[]=>rfl
 |p::r=>by unfold eN;exact b0A r
theorem jG{α:Type}(c:Nm){F:FuncId}{c2d:List DV}{X:α->List (Nat×bH)}{own:List (TypeId×List VM.Loc)}{K:List (Nat×Nat)}(one:α->bE α)(Inv:α->Nat->Prop)(low:Nat)(he:VM.Enters prog F)(hX:a2A l K c2d X own)(wC:∀a,aB l 0 (one a))(kK:∀a i,low<=i->i<l.length->Inv a i->pX G F c2d (X a) own l i (one a i) (λ_=>.cY []) X)(hinv:∀a i b j,i<l.length->Inv a i->one a i=.ok b j->Inv b j)(e6p:∀a i,Inv a i->Inv a (i+1))(a0:α)(i0:Nat)(cN:low<=i0)(hi0:i0<l.length)(h0:Inv a0 i0):pX G 93 [.ptr 100000 0,.d (.str c),.clo F c2d] (X a0) own l i0 (dI l c one a0 i0) (λ_=>.cY []) X:=by
 have hl:=hV.len;refine pX.bP func93 rfl ntmps93 rfl hX.tt ?_;intro Q hQ;unfold dI at hQ;simp[hX.dl];refine eB.mk (a1D he (kK a0 i0 cN hi0 h0) K (λa j hx=>hX.fit _ _ _ _) (hX.f3j _ _) hX.cap (hX.hh _ _) (hX.tk _ _ _) (hX.arg _) (λb j hx=>?_) (λn e hx=>hQ.bad n e _ (b7A hV hx)));rw[c1m hV hx]at hQ;simp only[bJ,hX.st,hX.ow,b0A hV,bI,hZ,kG,dF,List.map_nil,List.append_nil];simp[aZ];refine SW.tK (ι:={x:α×Nat×Nat//low<=x.2.1/\x.2.1<l.length/\l.length<x.2.2+x.2.1/\Inv x.1 x.2.1/\(if aJ l x.2.1 c=true then eT l c one x.2.2 x.1 (x.2.1+1) else .ok x.1 x.2.1)=(if aJ l j c=true then eT l c one (l.length+1) b (j+1) else .ok b j)}) (λ_=>[]) (λx=>rH l x.1.2.1++X x.1.1) (λ_=>own) (λx=>l.length-x.1.2.1) ⟨(b,j,l.length+1),?_⟩ ?_ ?_
 .have h1:=wC a0 i0 b j hi0 hx;exact⟨by simp only;omega,h1.2,by simp only;omega,hinv a0 i0 b j hi0 h0 hx,rfl⟩
 .refine hX.wk b j _ _ ?_;simp
 .rintro⟨⟨b1,j1,g1⟩,hl1,tM,hg1,hI1,hp1⟩;simp only at hl1 tM hg1 hI1 hp1;rw[<-hp1]at hQ;simp[hX.dl];by_cases hs:aJ l j1 c=true
  .have hn:=aV hV.fin tM hs;rw[hs,if_pos rfl]at hQ hp1;obtain⟨g2,rfl⟩:∃g,g1=g+1:=⟨g1-1,by omega⟩;refine pY (ds:=[.str c]) (d:=.d (.bool true)) kP (tQ l j1 c tM (by omega) hs) ?_;simp only[hZ,hX.dk,hX.d0];simp[hX.dl];refine eB.mk (a1D he (kK b1 (j1+1) (by omega) hn (e6p _ _ hI1)) K (λa j hx=>hX.fit _ _ _ _) (hX.f3j _ _) hX.cap (hX.hh _ _) (hX.tk _ _ _) (hX.arg _) (λb2 j2 hx2=>?_) (λn e hx2=>?_))
   .have ha:=wC b1 (j1+1) b2 j2 hn hx2;rw[c1m hV hx2]at hp1;simp only[bJ,hX.st,hX.ow,b0A hV,bI,hZ,kG,dF,List.map_nil,List.append_nil];simp[aZ];refine bD.mk ⟨(b2,j2,g2),by simp only;omega,ha.2,by simp only;omega,hinv _ _ _ _ hn (e6p _ _ hI1) hx2,hp1⟩ ?_ (by simp;omega);refine hX.wk b2 j2 _ _ ?_;simp
   .simp;exact hQ.bad n e _ (b7A hV hx2)
  .have hs:=Bool.eq_false_iff.2 hs;rw[hs,if_neg (by decide)]at hQ;refine pY (ds:=[.str c]) (d:=.d (.bool false)) kP (b3s l j1 c tM (by omega) hs) ?_;simp only[hZ,hX.dk,hX.d0];simp[hX.dl];exact hQ.ok b1 j1 _ _ rfl (.inl rfl) (hX.ed b1 j1 _ rfl rfl)
end
theorem a1X(l:List Nm)(s:Nm):strs (l++[s])=strs l++[[.str s]]:=by simp[strs]
abbrev K3:List (Nat×Nat):=[(100000,100000),(100001,100001),(100002,100002)]
theorem a3x:VM.Enters prog 92:=.mk func92 rfl
section
variable {aD:List Tok->Nat->Nat->jA Pr} {l:List Tok} (hV:rP G aD l)
include hV
def a4a(out:List Nm):List (Nat×bH):=[(100001,.cells [.d (.sl (strs out))]),(100002,.cells [.ptr 100000 0])]
abbrev d7z:List (TypeId×List VM.Loc):=[(9,[.c 100001 0])]
abbrev a1j(l:List Tok)(out:List Nm):bE (List Nm):=do let w <- bU aL l;pure (out++[w])
theorem c3n(out:List Nm)(i:Nat)(hi:i<l.length)(vT:out.length<=i):pX G 147 [.ptr 100001 0,.ptr 100002 0] (a4a out) d7z l i (a1j l out i) (λ_=>.cY []) a4a:=by
 have hl:=hV.len;refine pX.bP func147 rfl ntmps147 rfl (by simp) ?_;intro Q hQ;simp[a4a];refine mK 2 [1] (.op 0 (.call [3,4,5] .none) (.call [0,3,4,5] .none)) (kV (bU aL l i)) (by kernel_rfl) (by kernel_rfl) ?_;simp;refine⟨?_,?_⟩
 all_goals
  refine rdZ (ds:=[]) dS (eH hV.kw l i hi (by omega)) (λw j hx=>?_) (λn e hx=>hQ.fail hx _);have hQ2:=hQ.step hx;refine cS.mk ?_;simp;refine cJ (by omega) ?_;simp;exact hQ2.ok _ j _ _ rfl (.inl rfl) (by simp[a4a,a1X])
theorem c9U:a2A l K3 [.ptr 100001 0,.ptr 100002 0] a4a d7z:=by
 constructor
 all_goals intros
 all_goals first
  |rfl
  |simp[a4a,aR,aY,bB,bA,bM,getKey,aZ,bI,dE,rk,dM,bW, *]
theorem a7A(i:Nat)(hi:i<l.length):tL G 101 [] l i (gD aL l i) (λws=>.d (.sl (strs ws))):=by
 have hl:=hV.len;refine pX.bP func101 rfl ntmps101 rfl (by simp) ?_;intro Q hQ;unfold gD at hQ;simp;refine rdX (hw:=by simp[strs]) (ds:=[.sl (strs [[40]])]) oC (pO l [[40]] i hi (by omega) hV.fin) (λu j hx=>?_) (λn e hx=>hQ.fail hx _);have hQ2:=hQ.step hx;have hj:=aB.exp hV.fin _ _ i u j hi hx;simp;have kK:=jG hV [44] (a1j l) (λout i=>out.length<=i) 0 (.mk func147 rfl) (c9U hV) (λa=>(aB.word hV.fin).bz λ_=>aB.bZ _) (λa i _ hi h=>c3n hV a i hi h) (λa i b j hi h hx=>?_) (λa i h=>by omega) [] j (by omega) hj.2 (by simp)
 .refine eB.mk (a1D eQ kK [(100000,100000),(100001,3),(100002,1)] (λa j hx=>?_) ?_ ?_ ?_ rfl rfl (λws j2 hx2=>?_) (λn e hx2=>hQ2.fail hx2 _))
  .simp[a4a,aR,aY,bB,bA,bM,getKey]
  .simp[a4a,aR,aY,bB,bA,bM,getKey]
  .simp[aZ,bI,rk]
  .simp[a4a,aZ,bI,rk,dE,dM]
  .have hQ3:=hQ2.step hx2;have vB:=aB.list hV.fin (m:=0) (λa=>(aB.word hV.fin).bz λ_=>aB.bZ _) [] j ws j2 hj.2 hx2;simp[bJ,a4a,aZ,bI,rk,dE,dM,bW,kU,jF,eN];refine rdX (hw:=by simp[strs]) (ds:=[.sl (strs [[41]])]) oC (pO l [[41]] j2 vB.2 (by omega) hV.fin) (λu j hx=>?_) (λn e hx=>hQ3.fail hx _);have hQ4:=hQ3.step hx;simp;exact hQ4.ok _ j _ _ rfl (.inr rfl) (by simp)
 .simp only[a1j]at hx;rw[bX]at hx;cases hw:bU aL l i with
  |bad n e=>rw[hw]at hx;cases hx
  |ok w k=>rw[hw]at hx;have:=aB.word (kw:=aL) hV.fin i w k hi hw;cases hx;simp;omega
end
theorem mS(h:aJ l i s=true):cD l s i=.ok true (i+1):=by unfold cD;rw[if_pos h]
theorem mT(h:aJ l i s=false):cD l s i=.ok false i:=by unfold cD;rw[if_neg (by rw[h];decide)]
section
variable {aD:List Tok->Nat->Nat->jA Pr} {l:List Tok} (hV:rP G aD l)
include hV
def a6k(v:Bool)(out:List psV):List (Nat×bH):=[(100001,.cells [.d (.bool v)]),(100002,.cells [.ptr 100000 0]),(100003,.cells [.d (.sl (out.map eD))])]
abbrev e6q:List (TypeId×List VM.Loc):=[(166,[.c 100003 0])]
abbrev K4:List (Nat×Nat):=[(100000,100000),(100001,100001),(100002,100002),(100003,100003)]
abbrev c1n(l:List Tok)(v:Bool)(out:List psV):bE (List psV):=do
 let b <- (if v then cD l [118] else pure false)
 let name <- (if b then pure [118] else bU aL l)
 aQ l [[58]]
 let s <- yV aL l
 pure (out++[(name,s)])
theorem a8I(l:List psV)(x:psV):(l++[x]).map eD=l.map eD++[[.str x.1,.str x.2]]:=by simp[eD]
theorem d7B(l:List psV):∀x∈l.map eD,x.length=2:=λx hx=>by
 obtain⟨y,_,rfl⟩:=g3u.1 hx
 rfl
theorem c6R(v:Bool)(out:List psV)(j0:Nat)(hi:j0<l.length)(vT:out.length<=j0):pX G 145 [.ptr 100001 0,.ptr 100002 0,.ptr 100003 0] (a6k v out) e6q l j0 (c1n l v out j0) (λ_=>.cY []) (a6k v):=by
 have hl:=hV.len;refine pX.bP func145 rfl ntmps145 rfl (by simp) ?_;intro Q Q0;have p0:=gQ hi;simp[a6k];cases v with
 |false=>
  have Q1:=Q0.step (x:=pure false) rfl;rw[if_neg (by decide)]at Q1;simp;obtain⟨j1,rfl⟩:∃j1,j1=j0:=⟨_,rfl⟩;have p1:=p0;refine uA Q1 p1 dS (eH hV.kw l j1 p1.2 (by omega)) (aB.word hV.fin) λs j2 x2 Q2 p2=>?_;simp;refine eP Q2 p2 hV.fin λu5 j5 x5 Q5 p5=>?_;simp;refine eV [1] 3 [2] (.op 0 (.call [4,5,6,7] .none) (.call [0,4,5,6,7] .none)) (kV (yV aL l j5)) (by kernel_rfl) (by kernel_rfl) ?_;simp;refine⟨?_,?_⟩
  all_goals
   refine rT Q5 p5 a3u (a5H hV.kw l j5 p5.2 (by omega)) (aB.sort hV.fin) λw j6 x6 Q6 p6=>cS.mk ?_;simp;refine cJ (by simp[eD];omega) ?_;simp;exact Q6.ok _ j6 _ _ rfl (.inl rfl) (by simp[a6k,a8I hV])
 |true=>
  cases hs:aJ l j0 [118]with
  |true=>
   have Q1:=Q0.step (x:=cD l [118]) (mS hs);rw[if_pos rfl]at Q1;have Q2:=Q1.step (x:=pure [118]) rfl;simp;refine rdT hs p0 hV.fin λp2=>?_;obtain⟨j2,vB⟩:∃j2,j0+1=j2:=⟨_,rfl⟩;rw[vB]at Q2 p2|-;simp;refine eP Q2 p2 hV.fin λu5 j5 x5 Q5 p5=>?_;simp;refine eV [1] 3 [2] (.op 0 (.call [4,5,6,7] .none) (.call [0,4,5,6,7] .none)) (kV (yV aL l j5)) (by kernel_rfl) (by kernel_rfl) ?_;simp;refine⟨?_,?_⟩
   all_goals
    refine rT Q5 p5 a3u (a5H hV.kw l j5 p5.2 (by omega)) (aB.sort hV.fin) λw j6 x6 Q6 p6=>cS.mk ?_;simp;refine cJ (by simp[eD];omega) ?_;simp;exact Q6.ok _ j6 _ _ rfl (.inl rfl) (by simp[a6k,a8I hV])
  |false=>
   have Q1:=Q0.step (x:=cD l [118]) (mT hs);rw[if_neg (by decide)]at Q1;simp;refine rdF hs p0 ?_;simp;obtain⟨j1,rfl⟩:∃j1,j1=j0:=⟨_,rfl⟩;have p1:=p0;refine uA Q1 p1 dS (eH hV.kw l j1 p1.2 (by omega)) (aB.word hV.fin) λs j2 x2 Q2 p2=>?_;simp;refine eP Q2 p2 hV.fin λu5 j5 x5 Q5 p5=>?_;simp;refine eV [1] 3 [2] (.op 0 (.call [4,5,6,7] .none) (.call [0,4,5,6,7] .none)) (kV (yV aL l j5)) (by kernel_rfl) (by kernel_rfl) ?_;simp;refine⟨?_,?_⟩
   all_goals
    refine rT Q5 p5 a3u (a5H hV.kw l j5 p5.2 (by omega)) (aB.sort hV.fin) λw j6 x6 Q6 p6=>cS.mk ?_;simp;refine cJ (by simp[eD];omega) ?_;simp;exact Q6.ok _ j6 _ _ rfl (.inl rfl) (by simp[a6k,a8I hV])
theorem d3J(v:Bool):a2A l K4 [.ptr 100001 0,.ptr 100002 0,.ptr 100003 0] (a6k v) e6q:=by
 constructor
 all_goals intros
 all_goals first
  |rfl
  |simp[a6k,aR,aY,bB,bA,bM,getKey,aZ,bI,dE,rk,dM,bW, *]
theorem b3u(v:Bool)(out:List psV):aB l 1 (c1n l v out):=by refine aB.br (aB.ite (aB.skip hV.fin _) (aB.bZ _)) λb=>?_;refine aB.br (aB.ite (aB.bZ _) ((aB.word hV.fin).le (by omega))) λnm=>?_;exact(aB.exp hV.fin _ _).bl λ_=>(aB.sort hV.fin).bz λ_=>aB.bZ _
theorem c1o(v:Bool)(a:List psV)(i:Nat)(b:List psV)(j:Nat)(h:c1n l v a i=.ok b j):b.length=a.length+1:=by
 simp only[c1n,bX]at h
 repeat' split at h
 all_goals first|cases h|skip
 all_goals simp
theorem a5J(v:Bool)(i:Nat)(hi:i<l.length):tL G 92 [.bool v] l i (qC aL l v i) (λws=>.d (.sl (ws.map eD))):=by
 have hl:=hV.len;refine pX.bP func92 rfl ntmps92 rfl (by simp) ?_;intro Q Q0;unfold qC at Q0;simp;have kK:=jG hV [44] (c1n l v) (λout i=>out.length<=i) 0 (.mk func145 rfl) (d3J hV v) (λa=>(b3u hV v a).le (by omega)) (λa i _ hi h=>c6R hV v a i hi h) (λa i b j hi h hx=>?_) (λa i h=>by omega) [] i (by omega) hi (by simp)
 .refine eB.mk (a1D eQ kK [(100000,100000),(100001,3),(100002,2),(100003,5)] (λa j hx=>?_) ?_ ?_ ?_ rfl rfl (λws j2 hx2=>?_) (λn e hx2=>Q0.bad n e _ hx2))
  .simp[a6k,aR,aY,bB,bA,bM,getKey]
  .simp[a6k,aR,aY,bB,bA,bM,getKey]
  .simp[aZ,bI,rk]
  .simp[a6k,aZ,bI,rk,dE,dM]
  .simp[bJ,a6k,aZ,bI,rk,dE,dM,bW,kU,jF,eN];exact Q0.ok _ j2 _ _ hx2 (.inr rfl) (by simp)
 .have h1:=b3u hV v a i b j hi hx;have h2:=c1o hV v a i b j hx;omega
end
end
end Go.Proofs.YtmfbjecjccipfaaGreatDoor
section
section
namespace Go.Proofs.YtmfbjecjccipfaaGreatDoor
open Go Go.VM
variable {G:GT}
mutual
def a1F:Pr->Pr->Bool
 |⟨o,n,k,l⟩,⟨o',n',k',l'⟩=>decide (o=o')&&(decide (n=n')&&(decide (k=k')&&(decide (l.length=l'.length)&&yB l l')))
def yB:List Pr->List Pr->Bool
 |a::r,b::s=>a1F a b&&yB r s
 |[],_=>true
 |_::_,[]=>true
end
theorem d1R(a b:Pr):a1F a b=(decide (a.op=b.op)&&(decide (a.name=b.name)&&(decide (a.n=b.n)&&(decide (a.kids.length=b.kids.length)&&yB a.kids b.kids)))):=by cases a;cases b;rfl
mutual
theorem b2i:∀a b:Pr,a1F a b=true↔a=b
 |⟨o,n,k,l⟩,⟨o',n',k',l'⟩=>by
  have:=c1p l l';simp only[a1F,g2Z,g3N,Pr.mk.injEq];constructor
  .rintro⟨h1,h2,h3,h4,h5⟩;exact⟨h1,h2,h3,(this h4).1 h5⟩
  .rintro⟨h1,h2,h3,rfl⟩;exact⟨h1,h2,h3,rfl,(this rfl).2 rfl⟩
theorem c1p:∀l k:List Pr,l.length=k.length->(yB l k=true↔l=k)
 |[],[],_=>by simp[yB]
 |a::r,b::s,h=>by have h1:=b2i a b;have h2:=c1p r s (by simpa using h);simp only[yB,g2Z,h1,h2,List.cons.injEq]
 |[],_::_,h=>by simp at h
 |_::_,[],h=>by simp at h
end
theorem b7B{l k:List Pr}{i:Nat}(h:i<l.length)(h':i<k.length):yB (l.drop i) (k.drop i)=(a1F l[i] k[i]&&yB (l.drop (i+1)) (k.drop (i+1))):=by
 rw[g3m h,g3m h']
 rfl
theorem c1q(l k:List Pr):yB (l.drop l.length) k=true:=by simp[yB]
end Go.Proofs.YtmfbjecjccipfaaGreatDoor
end
section
namespace Go.Proofs.YtmfbjecjccipfaaGreatDoor
open Go Go.VM
variable {G:GT}
theorem rE:VM.Enters prog 65:=.mk func65 rfl
theorem vI:∀t u:Pr,bO t<=900000000->CS prog G 65 [.agg (prD t),.agg (prD u)] (.d (.bool (a1F t u))) none:=by
 refine Pr.ind λt ih=>?_;obtain⟨op,nm,n,l⟩:=t;intro u hN;obtain⟨op',nm',n',l'⟩:=u;simp only at ih;have hn:=qT ⟨op,nm,n,l⟩;have hq:=d1R ⟨op,nm,n,l⟩ ⟨op',nm',n',l'⟩;simp only at hn hq;have hl:=jY l;refine CS.aW func65 rfl ntmps65 rfl ?_;by_cases h1:op=op'
 .by_cases h2:nm=nm'
  .by_cases h4:n=n'
   .by_cases h3:l.length=l'.length
    .simp only[h1,h2,h3,h4,decide_true,Bool.true_and]at hq;simp[h1,h2,h3,h4];refine SW.gA (ι:={i:Nat//i<=l.length/\yB (l.drop i) (l'.drop i)=yB l l' }) (λi=>[(37,.d (.int .i64 i.1))]) (λi=>[(2,.cells [.d (.int .i64 op'),.d (.str nm'),.d (.int .i64 n'),.d (.sl (l.map qO))]),(3,.cells [.d (.int .i64 op'),.d (.str nm'),.d (.int .i64 n'),.d (.sl (l'.map qO))])]) (λ_=>[]) (λi=>l.length-i.1) ⟨0,by simp⟩ (by simp) ?_;rintro⟨i,hi,hR⟩
     try simp only at hi hR
     by_cases aG:i<l.length
     .have c2J:i<l'.length:=by omega
      have hg:=xB aG;have hg':=xB c2J;have hw:=bC (show i<9223372036854775807 by omega);have hb2:=tA aG;have hb3:=kW l (i+1);rw[b7B aG c2J]at hR;simp[c2J,aG,hg,hg'];refine⟨.mk,?_⟩;refine aC.mk rE (ih l[i] (g3y aG) l'[i] (by omega)) ?_;cases hs:a1F l[i] l'[i]
      .rw[hs,Bool.false_and]at hR;simp[hs,hq, <- hR]
      .rw[hs,Bool.true_and]at hR;simp[hs];exact bD.mk ⟨i+1,aG,hR⟩ (by simp[hw]) (by simp;omega)
     .have:i=l.length:=by omega
      subst this;rw[c1q]at hR;simp[hq, <- hR, <- h3]
    .simp only[h1,h2,h3,h4,decide_true,decide_false,Bool.true_and,Bool.false_and]at hq;have h3':¬((l.length:Int)=(l'.length:Int)):=by omega
     simp[h1,h2,h3,h3',h4,hq]
   .simp only[h1,h2,h4,decide_true,decide_false,Bool.true_and,Bool.false_and]at hq;simp[h1,h2,h4,hq]
  .simp only[h1,h2,decide_true,decide_false,Bool.true_and,Bool.false_and]at hq;simp[h1,h2,hq]
 .simp only[h1,decide_false,Bool.false_and]at hq;simp[h1,hq]
def d3K(l l':List Pr):Bool:=decide (l.length=l'.length)&&yB l l'
end Go.Proofs.YtmfbjecjccipfaaGreatDoor
end
end
