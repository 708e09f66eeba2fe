/- Lemmas. No condition. -/
import Derived.Test.YtmfbjecjccipfaaGreatDoorOvd
set_option linter.unusedVariables false
set_option linter.unusedSimpArgs false
set_option linter.unusedSectionVars false
set_option maxRecDepth 100000
set_option maxHeartbeats 64000000
open Go.Proofs.Tryz
section
section
namespace Go.Proofs.YtmfbjecjccipfaaGreatDoor
structure cP where
 op:Int
 name:Nm
 n:Int
 kids:List cP
 params:List (Nm×Ty)
 alts:List (Nm×List Nm×cP)
 types:List Ty
abbrev psV:=Nm×Nm
structure pI where
 name:Nm
 vars:List psV
 hyp:Pr
 goal:Pr
structure zQ where
 vars:List Nm
 yU:List psV
 abs:List psV
 bounds:List pI
 type:Ty
 a5q:List Pr
structure eL where
 name:Nm
 params:List Nm
 body:cP
 mode:Int
 typed:Bool
 sig:zQ
structure a9u where
 name:Nm
 names:List Nm
 fields:List Ty
structure b6Q where
 name:Nm
 vars:List Nm
 b1E:List psV
 cons:List a9u
structure b1G where
 name:Nm
 var:Nm
 methods:List (Nm×Ty)
structure b6R where
 cls:Nm
 type:Ty
 yU:List psV
 defs:List eL
structure b6S where
 name:Nm
 data:Nm
 result:Nm
 cases:List (Nm×List Nm×Pr)
 inv:Pr
structure b6T where
 name:Nm
 vars:List psV
 body:Pr
structure sC where
 b6U:List b6Q
 b1H:List b1G
 insts:List b6R
 b6V:List b6S
 c6i:List b6T
 defs:List eL
def eI:Pr:=⟨0,[],0,[]⟩
def jK:Ty:=⟨0,[],[],[],eI,[]⟩
def pW:cP:=⟨0,[],0,[],[],[],[]⟩
def uP:zQ:=⟨[],[],[],[],jK,[]⟩
def wQ(op:Int)(name:Nm):Ty:=⟨op,name,[],[],eI,[]⟩
def eA(op:Int)(kids:List cP):cP:=⟨op,[],0,kids,[],[],[]⟩
inductive jA (α:Type) where
 |ok (a:α) (at':Nat)
 |bad (line err:Int)
def bE(α:Type):=Nat->jA α
def bE.bZ{α:Type}(a:α):bE α:=λi=>.ok a i
def bE.dB{α β:Type}(x:bE α)(f:α->bE β):bE β:=λi=>match x i with
 |.ok a j=>f a j
 |.bad n e=>.bad n e
instance:Monad bE where
 pure:=bE.bZ
 bind:=bE.dB
variable{i:Nat}
@[simp] theorem kR{α:Type}{a:α}:(pure a:bE α) i=.ok a i:=rfl
theorem bX{α β:Type}(x:bE α)(f:α->bE β)(i:Nat):(x >>=f) i=match x i with
 |.ok a j=>f a j
 |.bad n e=>.bad n e:=rfl
theorem bS{α β:Type}{x:bE α}{f:α->bE β}{j:Nat}{a:α}(h:x i=.ok a j):(x >>=f) i=f a j:=by rw[bX,h]
theorem kN{α β:Type}{x:bE α}{f:α->bE β}{n e:Int}(h:x i=.bad n e):(x >>=f) i=.bad n e:=by rw[bX,h]
section
variable (kw:Nm->Bool) (andP:Pr->Pr->Pr) (aD:List Tok->Nat->Nat->jA Pr) (l:List Tok)
def aH(i:Nat):Tok:=if i<l.length then l.getD i ⟨0,[],0,0⟩ else l.getLastD ⟨0,[],0,0⟩
def cI(t:Tok)(s:Nm):Bool:=(decide (t.kind=1)||decide (t.kind=4)||decide (t.kind=2))&&decide (t.text=s)
def gU(t:Tok):Bool:=decide (t.kind=1)&& !kw t.text
def pJ(t:Tok):Bool:=decide (t.kind=2)
def aJ(i:Nat)(s:Nm):Bool:=cI (aH l i) s
def dN{α:Type}:bE α:=λi=>.bad (aH l i).line 14
def cD(s:Nm):bE Bool:=λi=>if aJ l i s then .ok true (i+1) else .ok false i
def aQ:List Nm->bE Unit
 |[]=>pure ()
 |s::r=>λi=>if aJ l i s then aQ r (i+1) else dN l i
def mH(ok:Tok->Bool):bE Nm:=λi=>if ok (aH l i) then .ok (aH l i).text (i+1) else dN l i
def bU:bE Nm:=mH l (gU kw)
def jI:bE Nm:=mH l pJ
def yV:bE Nm:=mH l λt=>gU kw t||pJ t
def eT{α:Type}(c:Nm)(one:α->bE α):Nat->α->bE α
 |0,_=>λ_=>.bad 0 1
 |g+1,a=>λi=>match one a i with
  |.bad n e=>.bad n e
  |.ok b j=>if aJ l j c then eT c one g b (j+1) else .ok b j
def dI{α:Type}(c:Nm)(one:α->bE α)(a:α):bE α:=eT l c one (l.length+2) a
def eE{α:Type}(c:Nat->Bool)(one:α->bE α):Nat->α->bE α
 |0,_=>λ_=>.bad 0 1
 |g+1,a=>λi=>if c i then(match one a i with
  |.bad n e=>.bad n e
  |.ok b j=>eE c one g b j) else .ok a i
def pK{α:Type}(c:Nat->Bool)(one:α->bE α)(a:α):bE α:=eE c one (l.length+2) a
def kY:bE Pr:=λi=>aD l i l.length
def gD:bE (List Nm):=do
 aQ l [[40]]
 let out <- dI l [44] (λout=>do let w <- bU kw l;pure (out++[w])) []
 aQ l [[41]]
 pure out
def qC(v:Bool):bE (List psV):=dI l [44] (λout=>do
 let b <- (if v then cD l [118] else pure false)
 let name <- (if b then pure [118] else bU kw l)
 aQ l [[58]]
 let s <- yV kw l
 pure (out++[(name,s)])) []
def gO:bE (Option Ty):=λi=>
 if aJ l i [73,110,116] then .ok (some (wQ 1 [])) (i+1)
 else if aJ l i [66,111,111,108] then .ok (some (wQ 2 [])) (i+1)
 else if aJ l i [67,101,108,108] then .ok (some (wQ 3 [])) (i+1)
 else if gU kw (aH l i) then .ok (some (wQ 5 (aH l i).text)) (i+1)
 else .ok none i
section
variable (ty:bE Ty)
def vC:bE Ty:=do
 aQ l [[123],[118],[58]]
 let t <- ty
 if t.op=6 then dN l else do
 aQ l [[124]]
 let p <- kY aD l
 aQ l [[125]]
 pure {t with pred:=if t.pred.op=0 then p else andP t.pred p}
def b1I(i:Nat):Bool:=gU kw (aH l i)||pJ (aH l i)||aJ l i [123]||aJ l i [40]
def kO:bE Ty:=do
 let b <- gO kw l
 match b with
 |some t=>pure t
 |none=>
  λi=>
  if pJ (aH l i) then .ok (wQ 4 (aH l i).text) (i+1)
  else if aJ l i [123] then vC andP aD l ty i
  else(do
   aQ l [[40]]
   let t <- ty
   aQ l [[41]]
   pure t:bE Ty) i
def tB:bE Ty:=do
 let name <- jI l
 let args <- pK l (b1I kw l) (λout=>do let t <- kO kw andP aD l ty;pure (out++[t])) []
 let b <- cD l [60]
 if b then do
  let ps <- dI l [44] (λout=>do
   aQ l [[118],[46]]
   let p <- kY aD l
   pure (out++[p])) []
  aQ l [[62]]
  pure {wQ 4 name with args:=args,b1E:=ps}
 else pure {wQ 4 name with args:=args}
def vD:bE Ty:=do
 aQ l [[40]]
 let (ns,ts) <- (λi=>if gU kw (aH l i)&&cI (aH l (i+1)) [58] then
   dI l [44] (λ(out:List Nm×List Ty)=>do
    let w <- bU kw l
    aQ l [[58]]
    let t <- ty
    pure (out.1++[w],out.2++[t])) ([],[]) i
  else dI l [44] (λ(out:List Nm×List Ty)=>do
    let t <- ty
    pure (out.1,out.2++[t])) ([],[]) i:bE (List Nm×List Ty))
 aQ l [[41]]
 λi=>
  if decide (ns.length=0)&&decide (ts.length=1)&& !aJ l i [45,62] then .ok (ts.headD jK) i
  else(do
   aQ l [[45,62]]
   let t <- ty
   pure {wQ 6 []with names:=ns,args:=ts++[t]}:bE Ty) i
def wO:bE Ty:=do
 let b <- gO kw l
 match b with
 |some t=>pure t
 |none=>
  λi=>
  if pJ (aH l i) then tB kw andP aD l ty i
  else if aJ l i [123] then vC andP aD l ty i
  else vD kw l ty i
end
def xJ:Nat->bE Ty
 |0=>λ_=>.bad 0 1
 |n+1=>wO kw andP aD l (xJ n)
def mP:bE Ty:=xJ kw andP aD l (l.length+2)
def qW:bE (List Ty):=do
 let b <- cD l [91]
 if b then do
  let out <- dI l [44] (λout=>do let t <- mP kw andP aD l;pure (out++[t])) []
  aQ l [[93]]
  pure out
 else pure []
section
variable (ex:Nat->bE cP)
def jB:bE (List cP):=do
 aQ l [[40]]
 let out <- dI l [44] (λout=>do let e <- ex 0;pure (out++[e])) []
 aQ l [[41]]
 pure out
def a0d:bE cP:=do
 let name <- bU kw l
 let b <- cD l [58]
 let ts <- (if b then do let t <- mP kw andP aD l;pure [t] else pure []:bE (List Ty))
 aQ l [[61]]
 let a <- ex 0
 aQ l [[105,110]]
 let c <- ex 0
 pure {eA 7 [a,c]with name:=name,types:=ts}
def sD:bE cP:=do
 let e <- ex 0
 aQ l [[111,102],[123]]
 let alts <- dI l [59] (λout=>do
  let c <- jI l
  let ns <- (λi=>if aJ l i [40] then gD kw l i else .ok [] i:bE (List Nm))
  aQ l [[45,62]]
  let b <- ex 0
  pure (out++[(c,ns,b)])) []
 aQ l [[125]]
 pure {eA 9 [e]with alts:=alts}
def a0e:bE cP:=do
 aQ l [[40]]
 let ps <- dI l [44] (λout=>do
  let w <- bU kw l
  let b <- cD l [58]
  let t <- (if b then mP kw andP aD l else pure jK)
  pure (out++[(w,t)])) []
 aQ l [[41],[45,62]]
 let e <- ex 0
 pure {eA 6 [e]with params:=ps}
def yW(op:Int):bE cP:=do
 aQ l [[40]]
 let e <- ex 0
 aQ l [[41]]
 pure (eA op [e])
def oN:bE cP:=do
 aQ l [[40]]
 λi=>
  if aJ l i [45]&&decide ((aH l (i+1)).kind=3)&&cI (aH l (i+2)) [41] then .ok ⟨1,[], -(aH l (i+1)).n,[],[],[],[]⟩ (i+3)
  else(do
   let e <- ex 0
   let b <- cD l [58]
   let e <- (if b then do let t <- mP kw andP aD l;pure {eA 26 [e]with types:=[t]} else pure e:bE cP)
   aQ l [[41]]
   pure e:bE cP) i
def uF:bE cP:=λi=>
 if (aH l i).kind=3 then .ok ⟨1,[],(aH l i).n,[],[],[],[]⟩ (i+1)
 else if aJ l i [116,114,117,101] then .ok ⟨2,[],1,[],[],[],[]⟩ (i+1)
 else if aJ l i [102,97,108,115,101] then .ok ⟨2,[],0,[],[],[],[]⟩ (i+1)
 else if aJ l i [110,101,119] then yW l ex 22 (i+1)
 else if aJ l i [103,101,116] then yW l ex 23 (i+1)
 else if aJ l i [115,101,116] then(do
  aQ l [[40]]
  let a <- ex 0
  aQ l [[44]]
  let b <- ex 0
  aQ l [[41]]
  pure (eA 24 [a,b]):bE cP) (i+1)
 else if gU kw (aH l i) then
  (if !aJ l (i+1) [91]&& !aJ l (i+1) [40] then .ok {eA 3 []with name:=(aH l i).text} (i+1)
  else(do
   let ts <- qW kw andP aD l
   let ks <- jB l ex
   pure {eA 5 ks with name:=(aH l i).text,types:=ts}:bE cP) (i+1))
 else if pJ (aH l i) then(do
  let ts <- qW kw andP aD l
  let ks <- (λj=>if aJ l j [40] then jB l ex j else .ok [] j:bE (List cP))
  pure {eA 4 ks with name:=(aH l i).text,types:=ts}:bE cP) (i+1)
 else oN kw andP aD l ex i
def a2t:bE cP:=λi=>if aJ l i [45] then(do let e <- ex 7;pure (eA 15 [e]):bE cP) (i+1) else uF kw andP aD l ex i
def eU(ops:List (Nm×Int))(one:bE cP):Nat->cP->bE cP
 |0,_=>λ_=>.bad 0 1
 |g+1,e=>λi=>match ops.find? λp=>aJ l i p.1 with
  |none=>.ok e i
  |some p=>match one (i+1)with
   |.bad n e=>.bad n e
   |.ok x j=>eU ops one g (eA p.2 [e,x]) j
def yX(ops:List (Nm×Int))(one:bE cP):bE cP:=do
 let e <- one
 eU l ops one (l.length+2) e
def a8p:bE cP:=yX l [([42],12),([100,105,118],13),([109,111,100],14)] (a2t kw andP aD l ex)
def pL:bE cP:=yX l [([43],10),([45],11)] (a8p kw andP aD l ex)
def a0f:bE cP:=do
 let e <- pL kw andP aD l ex
 λi=>
  if aJ l i [61,61] then(do let x <- pL kw andP aD l ex;pure (eA 16 [e,x]):bE cP) (i+1)
  else if aJ l i [33,61] then(do let x <- pL kw andP aD l ex;pure (eA 21 [eA 16 [e,x]]):bE cP) (i+1)
  else if aJ l i [60] then(do let x <- pL kw andP aD l ex;pure (eA 17 [e,x]):bE cP) (i+1)
  else if aJ l i [60,61] then(do let x <- pL kw andP aD l ex;pure (eA 18 [e,x]):bE cP) (i+1)
  else if aJ l i [62] then(do let x <- pL kw andP aD l ex;pure (eA 17 [x,e]):bE cP) (i+1)
  else if aJ l i [62,61] then(do let x <- pL kw andP aD l ex;pure (eA 18 [x,e]):bE cP) (i+1)
  else .ok e i
def xK:bE cP:=λi=>if aJ l i [33] then(do let e <- ex 3;pure (eA 21 [e]):bE cP) (i+1) else a0f kw andP aD l ex i
def b3p:bE cP:=yX l [([38,38],19)] (xK kw andP aD l ex)
def c0V:bE cP:=yX l [([124,124],20)] (b3p kw andP aD l ex)
def a3n:bE cP:=λi=>
 if aJ l i [108,101,116] then a0d kw andP aD l ex (i+1)
 else if aJ l i [105,102] then(do
  let a <- ex 0
  aQ l [[116,104,101,110]]
  let b <- ex 0
  aQ l [[101,108,115,101]]
  let c <- ex 0
  pure (eA 8 [a,b,c]):bE cP) (i+1)
 else if aJ l i [99,97,115,101] then sD kw l ex (i+1)
 else if aJ l i [102,117,110] then a0e kw andP aD l ex (i+1)
 else if aJ l i [117,115,101] then(do
  let name <- bU kw l
  let ks <- jB l ex
  aQ l [[105,110]]
  let b <- ex 0
  pure {eA 25 (ks++[b])with name:=name}:bE cP) (i+1)
 else c0V kw andP aD l ex i
end
def uG:Nat->Nat->bE cP
 |0,_=>λ_=>.bad 0 1
 |n+1,k=>if k=7 then a2t kw andP aD l (uG n) else if k=3 then xK kw andP aD l (uG n) else a3n kw andP aD l (uG n)
def qD:bE cP:=uG kw andP aD l (l.length+2) 0
def qX:bE (List psV):=dI l [44] (λout=>do
 let c <- jI l
 let w <- bU kw l
 pure (out++[(c,w)])) []
def qY:bE pI:=do
 let name <- bU kw l
 aQ l [[40]]
 let vs <- qC kw l false
 aQ l [[41]]
 let h <- kY aD l
 aQ l [[45,62]]
 let g <- kY aD l
 aQ l [[46]]
 pure ⟨name,vs,h,g⟩
def gM:Nat->Int->Nat->Nat
 |0,_,_=>l.length
 |g+1,d,i=>if i<l.length then(if cI (aH l i) [40] then gM g (d+1) (i+1) else if cI (aH l i) [41] then gM g (d-1) (i+1) else if cI (aH l i) [61]&&decide (d<=0) then i else gM g d (i+1)) else l.length
def rN:bE zQ:=do
 let b <- cD l [102,111,114,97,108,108]
 let vs <- (if b then do
  let w <- bU kw l
  let ws <- pK l (λi=>gU kw (aH l i)) (λout=>do let w <- bU kw l;pure (out++[w])) [w]
  aQ l [[46]]
  pure ws else pure []:bE (List Nm))
 let b <- cD l [119,104,101,114,101]
 let ns <- (if b then do
  let ns <- qX kw l
  aQ l [[46]]
  pure ns else pure []:bE (List psV))
 let b <- cD l [60]
 let abs <- (if b then do
  let abs <- qC kw l false
  aQ l [[62],[46]]
  pure abs else pure []:bE (List psV))
 let bs <- pK l (λi=>aJ l i [98,111,117,110,100]) (λout=>do
  aQ l [[98,111,117,110,100]]
  let b <- qY kw aD l
  pure (out++[b])) []
 let t <- mP kw andP aD l
 let b <- cD l [109,101,116,114,105,99]
 let ms <- (if b then(λi=>dI l [44] (λout=>do
  let p <- (λj=>aD l j (gM l (l.length+1) 0 i):bE Pr)
  pure (out++[p])) [] i) else pure []:bE (List Pr))
 pure ⟨vs,ns,abs,bs,t,ms⟩
def tZ(mode:Int):bE eL:=do
 let name <- bU kw l
 let ps <- (λi=>if aJ l i [40] then(if cI (aH l (i+1)) [41] then .ok [] (i+2) else gD kw l i) else .ok [] i:bE (List Nm))
 pure ⟨name,ps,pW,mode,false,uP⟩
def vE(d:eL):bE (Option eL):=do
 aQ l [[61]]
 let e <- qD kw andP aD l
 pure (some {d with body:=e})
def uH:bE (Option eL):=λi=>
 if aJ l i [100,101,102] then(do
  let d <- tZ kw l 0
  let b <- cD l [58]
  let d <- (if b then do let s <- rN kw andP aD l;pure {d with typed:=true,sig:=s} else pure d:bE eL)
  vE kw andP aD l d:bE (Option eL)) (i+1)
 else if aJ l i [97,115,115,117,109,101] then(do
  let d <- tZ kw l 1
  aQ l [[58]]
  let s <- rN kw andP aD l
  pure (some {d with typed:=true,sig:=s}):bE (Option eL)) (i+1)
 else if aJ l i [114,101,102,108,101,99,116] then(do
  let d <- tZ kw l 2
  aQ l [[58]]
  let s <- rN kw andP aD l
  vE kw andP aD l {d with typed:=true,sig:=s}:bE (Option eL)) (i+1)
 else .ok none i
def b6W:bE a9u:=do
 let name <- jI l
 let b <- cD l [40]
 if b then do
  let (ns,ts) <- dI l [44] (λ(out:List Nm×List Ty)=>do
   let w <- bU kw l
   aQ l [[58]]
   let t <- mP kw andP aD l
   pure (out.1++[w],out.2++[t])) ([],[])
  aQ l [[41]]
  pure ⟨name,ns,ts⟩
 else pure ⟨name,[],[]⟩
def a5r:bE b6Q:=do
 let name <- jI l
 let vs <- pK l (λi=>gU kw (aH l i)) (λout=>do let w <- bU kw l;pure (out++[w])) []
 let b <- cD l [60]
 let ps <- (if b then do
  let ps <- qC kw l false
  aQ l [[62]]
  pure ps else pure []:bE (List psV))
 aQ l [[61]]
 let cs <- dI l [124] (λout=>do let c <- b6W kw andP aD l;pure (out++[c])) []
 pure ⟨name,vs,ps,cs⟩
def a1A:bE b1G:=do
 let name <- jI l
 let v <- bU kw l
 aQ l [[119,105,116,104]]
 let ms <- dI l [44] (λout=>do
  let w <- bU kw l
  aQ l [[58]]
  let t <- mP kw andP aD l
  pure (out++[(w,t)])) []
 pure ⟨name,v,ms⟩
def a7j:bE b6R:=do
 let c <- jI l
 let t <- kO kw andP aD l (mP kw andP aD l)
 let b <- cD l [119,104,101,114,101]
 let ns <- (if b then qX kw l else pure [])
 aQ l [[123]]
 let ds <- pK l (λi=>aJ l i [100,101,102]) (λout=>do
  let d <- uH kw andP aD l
  aQ l [[59]]
  pure (out++[d.getD ⟨[],[],pW,0,false,uP⟩])) []
 aQ l [[125]]
 pure ⟨c,t,ns,ds⟩
def a7k:bE b6S:=do
 let name <- bU kw l
 aQ l [[58]]
 let d <- jI l
 aQ l [[45,62]]
 let s <- yV kw l
 aQ l [[123]]
 let cs <- dI l [59] (λout=>do
  let c <- jI l
  let ns <- (λi=>if aJ l i [40] then gD kw l i else .ok [] i:bE (List Nm))
  aQ l [[61]]
  let p <- kY aD l
  pure (out++[(c,ns,p)])) []
 aQ l [[125]]
 let b <- cD l [105,110,118,97,114,105,97,110,116]
 let p <- (if b then kY aD l else pure eI)
 pure ⟨name,d,s,cs,p⟩
def a7l:bE b6T:=do
 let name <- bU kw l
 aQ l [[40]]
 let vs <- qC kw l true
 aQ l [[41],[58]]
 let p <- kY aD l
 pure ⟨name,vs,p⟩
def a2u(m:sC):bE sC:=λi=>
 if aJ l i [100,97,116,97] then(do let x <- a5r kw andP aD l;pure {m with b6U:=m.b6U++[x]}:bE sC) (i+1)
 else if aJ l i [99,108,97,115,115] then(do let x <- a1A kw andP aD l;pure {m with b1H:=m.b1H++[x]}:bE sC) (i+1)
 else if aJ l i [105,110,115,116] then(do let x <- a7j kw andP aD l;pure {m with insts:=m.insts++[x]}:bE sC) (i+1)
 else if aJ l i [109,101,97,115,117,114,101] then(do let x <- a7k kw aD l;pure {m with b6V:=m.b6V++[x]}:bE sC) (i+1)
 else if aJ l i [113,117,97,108] then(do let x <- a7l kw aD l;pure {m with c6i:=m.c6i++[x]}:bE sC) (i+1)
 else(do
  let d <- uH kw andP aD l
  match d with
  |some d=>pure {m with defs:=m.defs++[d]}
  |none=>dN l:bE sC) i
def a2v:bE Unit:=λi=>if (aH l i).kind=0 then .ok () i else dN l i
def b6X:bE sC:=pK l (λi=> !decide ((aH l i).kind=0)) (λm=>do
 let m <- a2u kw andP aD l m
 aQ l [[59]]
 pure m) ⟨[],[],[],[],[],[]⟩
end
end Go.Proofs.YtmfbjecjccipfaaGreatDoor
end
section
namespace Go.Proofs.YtmfbjecjccipfaaGreatDoor
def pE(l:List Tok):Prop:=l≠[]/\(aH l (l.length-1)).kind=0
def aB{α:Type}(l:List Tok)(m:Nat)(x:bE α):Prop:=∀(i:Nat)(a:α)(j:Nat),i<l.length->x i=.ok a j->i+m<=j/\j<l.length
section
variable {kw:Nm->Bool} {andP:Pr->Pr->Pr} {aD:List Tok->Nat->Nat->jA Pr} {l:List Tok} {α β:Type} {m k:Nat}
theorem aB.le{x:bE α}(h:aB l m x)(hk:k<=m):aB l k x:=λi a j hi hx=>by have:=h i a j hi hx;omega
theorem aB.bZ(a:α):aB l 0 (pure a:bE α):=λi b j hi h=>by rw[kR]at h;cases h;omega
theorem aB.bl{x:bE α}{f:α->bE β}(hx:aB l m x)(hf:∀a,aB l 0 (f a)):aB l m (x >>=f):=λi b j hi h=>by
 rw[bX]at h;cases hxi:x i with
 |bad n e=>rw[hxi]at h;cases h
 |ok a j'=>rw[hxi]at h;have h1:=hx i a j' hi hxi;have h2:=hf a j' b j h1.2 h;omega
theorem aB.br{x:bE α}{f:α->bE β}(hx:aB l 0 x)(hf:∀a,aB l m (f a)):aB l m (x >>=f):=λi b j hi h=>by
 rw[bX]at h;cases hxi:x i with
 |bad n e=>rw[hxi]at h;cases h
 |ok a j'=>rw[hxi]at h;have h1:=hx i a j' hi hxi;have h2:=hf a j' b j h1.2 h;omega
theorem aB.bz{x:bE α}{f:α->bE β}(hx:aB l 1 x)(hf:∀a,aB l 0 (f a)):aB l 0 (x >>=f):=(hx.le (by omega)).bl hf
theorem aB.ite{c:Prop}[Decidable c]{x y:bE α}(hx:aB l m x)(hy:aB l m y):aB l m (if c then x else y):=by
 split
 .exact hx
 .exact hy
theorem aB.failed:aB l m (dN l:bE α):=λi a j hi h=>by unfold dN at h;cases h
variable (hE:pE l)
include hE
variable{i j:Nat}
theorem qZ(hi:i<l.length)(h:(aH l i).kind≠0):i+1<l.length:=by
 rcases Nat.lt_or_ge (i+1) l.length with h'|h'
 .exact h'
 .have:i=l.length-1:=by omega
  rw[this]at h;exact absurd hE.2 h
variable{s:Nm}
theorem a0g{t:Tok}(h:cI t s=true):t.kind≠0:=by unfold cI at h;simp only[g2Z,g3l,g3N]at h;omega
theorem aV(hi:i<l.length)(h:aJ l i s=true):i+1<l.length:=qZ hE hi (a0g hE h)
theorem a8q(hi:i<l.length)(h:pJ (aH l i)=true):i+1<l.length:=qZ hE hi (by unfold pJ at h;simp only[g3N]at h;omega)
theorem a8r(hi:i<l.length)(h:gU kw (aH l i)=true):i+1<l.length:=qZ hE hi (by unfold gU at h;simp only[g2Z,g3N]at h;omega)
theorem aB.e2X:∀(s:List Nm),aB l s.length (aQ l s)
 |[]=>aB.bZ ()
 |s::r=>λi a j hi h=>by
  unfold aQ at h;split at h
  .rename_i hs;have:=aB.e2X r (i+1) a j (aV hE hi hs) h;simp only[List.length_cons];omega
  .unfold dN at h;cases h
theorem aB.exp(s:Nm)(r:List Nm):aB l 1 (aQ l (s::r)):=(aB.e2X hE (s::r)).le (by simp only[List.length_cons];omega)
theorem aB.skip(s:Nm):aB l 0 (cD l s):=λi a j hi h=>by
 unfold cD at h;split at h
 .rename_i hs;have:=aV hE hi hs;cases h;omega
 .cases h;omega
theorem aB.take{ok:Tok->Bool}(hk:∀t,ok t=true->t.kind≠0):aB l 1 (mH l ok):=λi a j hi h=>by
 unfold mH at h;split at h
 .rename_i hs;have:=qZ hE hi (hk _ hs);cases h;omega
 .unfold dN at h;cases h
theorem aB.word:aB l 1 (bU kw l):=aB.take hE λt h=>by unfold gU at h;simp only[g2Z,g3N]at h;omega
theorem aB.title:aB l 1 (jI l):=aB.take hE λt h=>by unfold pJ at h;simp only[g3N]at h;omega
theorem aB.sort:aB l 1 (yV kw l):=aB.take hE λt h=>by unfold gU pJ at h;simp only[g3l,g2Z,g3N]at h;omega
theorem aB.loop{c:Nm}{one:α->bE α}(h1:∀a,aB l m (one a)):∀(g:Nat)(a:α),aB l m (eT l c one g a)
 |0,a=>λi b j hi h=>by unfold eT at h;cases h
 |g+1,a=>λi b j hi h=>by
  unfold eT at h;split at h
  .cases h
  .rename_i a' j' ho;have h2:=h1 a i a' j' hi ho;split at h
   .rename_i hs;have h3:=aB.loop h1 g a' (j'+1) b j (aV hE h2.2 hs) h;omega
   .cases h;exact h2
theorem aB.list{c:Nm}{one:α->bE α}(h1:∀a,aB l m (one a))(a:α):aB l m (dI l c one a):=aB.loop hE h1 _ a
omit hE in
theorem aB.b0o{c:Nat->Bool}{one:α->bE α}(h1:∀a i b j,i<l.length->c i=true->one a i=.ok b j->i<=j/\j<l.length):∀(g:Nat)(a:α),aB l 0 (eE c one g a)
 |0,a=>λi b j hi h=>by unfold eE at h;cases h
 |g+1,a=>λi b j hi h=>by
  unfold eE at h;split at h
  .rename_i hc;split at h
   .cases h
   .rename_i a' j' ho;have h2:=h1 a i a' j' hi hc ho;have h3:=aB.b0o h1 g a' j' b j h2.2 h;omega
  .cases h;omega
omit hE in
theorem aB.many{c:Nat->Bool}{one:α->bE α}(h1:∀a,aB l 0 (one a))(a:α):aB l 0 (pK l c one a):=aB.b0o (λa i b j hi _ h=>by have:=h1 a i b j hi h;omega) _ a
theorem aB.words:aB l 1 (gD kw l):=by unfold gD;exact(aB.exp hE _ _).bl λ_=>(aB.list hE (m:=0) (λa=>((aB.word hE).bz λ_=>aB.bZ _)) _).bl λ_=>(aB.exp hE _ _).bz λ_=>aB.bZ _
theorem aB.vars(v:Bool):aB l 1 (qC kw l v):=by unfold qC;refine aB.list hE (λa=>?_) _;refine aB.br (aB.ite (aB.skip hE _) (aB.bZ _)) λb=>?_;refine aB.br (aB.ite (aB.bZ _) ((aB.word hE).le (by omega))) λnm=>?_;exact(aB.exp hE _ _).bl λ_=>(aB.sort hE).bz λ_=>aB.bZ _
theorem a7m{t:Ty}(hi:i<l.length)(h:gO kw l i=.ok (some t) j):j=i+1/\j<l.length:=by
 unfold gO at h
 repeat' split at h
 all_goals first|cases h|skip
 all_goals rename_i hs
 all_goals first
  |exact⟨rfl,a8r hE hi hs⟩
  |exact⟨rfl,aV hE hi hs⟩
omit hE in
theorem xX(h:gO kw l i=.ok none j):j=i:=by
 unfold gO at h
 repeat' split at h
 all_goals first|(cases h;rfl)|cases h
theorem aB.base:aB l 0 (gO kw l):=λi a j hi h=>by
 cases a with
 |none=>have:=xX h;omega
 |some t=>have:=a7m hE hi h;omega
section
variable {ty:bE Ty} (mU:aB l 0 ty) (hP:aB l 0 (kY aD l))
include mU hP
theorem aB.b6Y:aB l 1 (vC andP aD l ty):=by unfold vC;refine(aB.exp hE _ _).bl λ_=>mU.bl λt=>?_;refine aB.ite aB.failed ?_;exact(aB.exp hE _ _).bz λ_=>hP.bl λ_=>(aB.exp hE _ _).bz λ_=>aB.bZ _
theorem aB.a1e:aB l 1 (kO kw andP aD l ty):=λi a j hi h=>by
 unfold kO at h;rw[bX]at h;cases hb:gO kw l i with
 |bad n e=>rw[hb]at h;cases h
 |ok o j'=>
  rw[hb]at h;cases o with
  |some t=>have:=a7m hE hi hb;simp only[kR]at h;cases h;omega
  |none=>
   have:=xX hb;subst this;simp only at h;split at h
   .rename_i hs;have:=a8q hE hi hs;cases h;omega
   .split at h
    .exact aB.b6Y hE mU hP _ a j hi h
    .exact((aB.exp hE _ _).bl λ_=>mU.bl λ_=>(aB.exp hE _ _).bz λ_=>aB.bZ _) _ a j hi h
theorem aB.c6j:aB l 1 (tB kw andP aD l ty):=by
 unfold tB;refine(aB.title hE).bl λname=>aB.bl (aB.many (λa=>?_) _) λargs=>(aB.skip hE _).bl λb=>aB.ite ?_ (aB.bZ _)
 .exact(aB.a1e hE mU hP).bz λ_=>aB.bZ _
 .refine aB.bl (aB.list hE (λa=>?_) _) λ_=>(aB.exp hE _ _).bz λ_=>aB.bZ _;exact(aB.exp hE _ _).bz λ_=>hP.bl λ_=>aB.bZ _
theorem aB.c6k:aB l 1 (vD kw l ty):=by
 unfold vD;refine(aB.exp hE _ _).bl λ_=>aB.bl (m:=0) (λi a j hi h=>?_) λp=>?_
 .split at h
  .exact aB.list hE (λa=>(aB.word hE).bz λ_=>(aB.exp hE _ _).bz λ_=>mU.bl λ_=>aB.bZ _) _ i a j hi h
  .exact aB.list hE (λa=>mU.bl λ_=>aB.bZ _) _ i a j hi h
 .refine(aB.exp hE _ _).bz λ_=>λi a j hi h=>?_;split at h
  .cases h;omega
  .exact((aB.exp hE _ _).bz λ_=>mU.bl λ_=>aB.bZ _) i a j hi h
theorem aB.c2O:aB l 1 (wO kw andP aD l ty):=λi a j hi h=>by
 unfold wO at h;rw[bX]at h;cases hb:gO kw l i with
 |bad n e=>rw[hb]at h;cases h
 |ok o j'=>
  rw[hb]at h;cases o with
  |some t=>have:=a7m hE hi hb;simp only[kR]at h;cases h;omega
  |none=>
   have:=xX hb;subst this;simp only at h;split at h
   .exact aB.c6j hE mU hP _ a j hi h
   .split at h
    .exact aB.b6Y hE mU hP _ a j hi h
    .exact aB.c6k hE mU hP _ a j hi h
end
theorem aB.a7n(hP:aB l 0 (kY aD l)):∀n,aB l 1 (xJ kw andP aD l n)
 |0=>λi a j hi h=>by unfold xJ at h;cases h
 |n+1=>aB.c2O hE ((aB.a7n hP n).le (by omega)) hP
theorem aB.typ(hP:aB l 0 (kY aD l)):aB l 1 (mP kw andP aD l):=aB.a7n hE hP _
theorem aB.types(hP:aB l 0 (kY aD l)):aB l 0 (qW kw andP aD l):=by unfold qW;refine(aB.skip hE _).bl λb=>aB.ite ?_ (aB.bZ _);exact aB.bl (aB.list hE (λa=>(aB.typ hE hP).bz λ_=>aB.bZ _) _) λ_=>(aB.exp hE _ _).bz λ_=>aB.bZ _
end
end Go.Proofs.YtmfbjecjccipfaaGreatDoor
end
section
namespace Go.Proofs.YtmfbjecjccipfaaGreatDoor
section
variable {kw:Nm->Bool} {andP:Pr->Pr->Pr} {aD:List Tok->Nat->Nat->jA Pr} {l:List Tok} {α β:Type} {m k:Nat}
theorem aB.nxt{x:bE α}(hx:aB l 0 x){i j:Nat}{a:α}(hi:i+1<l.length)(h:x (i+1)=.ok a j):i+1<=j/\j<l.length:=by have:=hx (i+1) a j hi h;omega
variable (hE:pE l)
include hE
section
variable {ex:Nat->bE cP} (hx:∀k,aB l 1 (ex k))
include hx
theorem aB.kZ:aB l 1 (jB l ex):=by unfold jB;exact(aB.exp hE _ _).bl λ_=>aB.bl (aB.list hE (λa=>(hx 0).bz λ_=>aB.bZ _) _) λ_=>(aB.exp hE _ _).bz λ_=>aB.bZ _
theorem aB.c6l(op:Int):aB l 1 (yW l ex op):=by unfold yW;exact(aB.exp hE _ _).bl λ_=>(hx 0).bz λ_=>(aB.exp hE _ _).bz λ_=>aB.bZ _
theorem aB.b7a:aB l 1 (sD kw l ex):=by
 unfold sD;refine(hx 0).bl λ_=>(aB.exp hE _ _).bz λ_=>aB.bl (aB.list hE (λa=>?_) _) λ_=>(aB.exp hE _ _).bz λ_=>aB.bZ _;refine(aB.title hE).bz λ_=>aB.bl (λi b j hi h=>?_) λ_=>(aB.exp hE _ _).bz λ_=>(hx 0).bz λ_=>aB.bZ _;split at h
 .exact((aB.words hE).le (by omega)) _ _ _ hi h
 .cases h;omega
section
variable (hP:aB l 0 (kY aD l))
include hP
theorem aB.d6U:aB l 1 (a0d kw andP aD l ex):=by unfold a0d;refine(aB.word hE).bl λ_=>(aB.skip hE _).bl λ_=>aB.bl (aB.ite ((aB.typ hE hP).bz λ_=>aB.bZ _) (aB.bZ _)) λ_=>?_;exact(aB.exp hE _ _).bz λ_=>(hx 0).bz λ_=>(aB.exp hE _ _).bz λ_=>(hx 0).bz λ_=>aB.bZ _
theorem aB.d6V:aB l 1 (a0e kw andP aD l ex):=by unfold a0e;refine(aB.exp hE _ _).bl λ_=>aB.bl (aB.list hE (λa=>?_) _) λ_=>(aB.exp hE _ _).bz λ_=>(hx 0).bz λ_=>aB.bZ _;exact(aB.word hE).bz λ_=>(aB.skip hE _).bl λ_=>aB.bl (aB.ite ((aB.typ hE hP).le (by omega)) (aB.bZ _)) λ_=>aB.bZ _
theorem aB.c2P:aB l 1 (oN kw andP aD l ex):=by
 unfold oN;refine(aB.exp hE _ _).bl λ_=>λi a j hi h=>?_;split at h
 .rename_i hc;simp only[g2Z,g3N]at hc;have h2:=qZ hE hi (a0g hE (show cI (aH l i) [45]=true from hc.1.1));have h3:=qZ hE h2 (by omega);have h4:=qZ hE h3 (a0g hE hc.2);cases h;omega
 .exact((hx 0).bz λe=>(aB.skip hE _).bl λb=>aB.bl (aB.ite ((aB.typ (kw:=kw) (andP:=andP) hE hP).bz λt=>aB.bZ _) (aB.bZ _)) λe=>(aB.exp hE _ _).bz λ_=>aB.bZ _) i a j hi h
theorem aB.b1J:aB l 1 (uF kw andP aD l ex):=λi a j hi h=>by
 unfold uF at h;split at h
 .rename_i hk;have:=qZ hE hi (by omega);cases h;omega
 split at h
 .rename_i hs;have:=aV hE hi hs;cases h;omega
 split at h
 .rename_i hs;have:=aV hE hi hs;cases h;omega
 split at h
 .rename_i hs;exact((aB.c6l hE hx _).le (by omega)).nxt (aV hE hi hs) h
 split at h
 .rename_i hs;exact((aB.c6l hE hx _).le (by omega)).nxt (aV hE hi hs) h
 split at h
 .rename_i hs;exact((aB.exp hE _ _).bz λ_=>(hx 0).bz λ_=>(aB.exp hE _ _).bz λ_=>(hx 0).bz λ_=>(aB.exp hE _ _).bz λ_=>aB.bZ _).nxt (aV hE hi hs) h
 split at h
 .rename_i hs;have hn:=a8r hE hi hs;split at h
  .cases h;omega
  .exact((aB.types hE hP).bl λ_=>(aB.kZ hE hx).bz λ_=>aB.bZ _).nxt hn h
 split at h
 .rename_i hs;refine((aB.types hE hP).bl λ_=>aB.bl (m:=0) (λi a j hi h=>?_) λ_=>aB.bZ _).nxt (a8q hE hi hs) h;split at h
  .exact((aB.kZ hE hx).le (by omega)) _ _ _ hi h
  .cases h;omega
 exact aB.c2P hE hx hP _ _ _ hi h
theorem aB.unG:aB l 1 (a2t kw andP aD l ex):=λi a j hi h=>by
 unfold a2t at h;split at h
 .rename_i hs;exact((hx 7).bz λ_=>aB.bZ _).nxt (aV hE hi hs) h
 .exact aB.b1J hE hx hP _ _ _ hi h
omit hx hP in
theorem aB.chain{ops:List (Nm×Int)}{one:bE cP}(h1:aB l 0 one):∀(g:Nat)(e:cP),aB l 0 (eU l ops one g e)
 |0,e=>λi b j hi h=>by unfold eU at h;cases h
 |g+1,e=>λi b j hi h=>by
  unfold eU at h;split at h
  .cases h;omega
  .rename_i p hp;have hs:aJ l i p.1=true:=List.find?_some (p:=λp:Nm×Int=>aJ l i p.1) hp;split at h
   .cases h
   .rename_i x j' ho;have h2:=h1.nxt (aV hE hi hs) ho;have h3:=aB.chain h1 g _ j' b j h2.2 h;omega
omit hx hP in
theorem aB.lvl{ops:List (Nm×Int)}{one:bE cP}(h1:aB l 1 one):aB l 1 (yX l ops one):=by unfold yX;exact h1.bl λ_=>aB.chain hE (h1.le (by omega)) _ _
theorem aB.d6W:aB l 1 (a8p kw andP aD l ex):=aB.lvl hE (aB.unG hE hx hP)
theorem aB.a6w:aB l 1 (pL kw andP aD l ex):=aB.lvl hE (aB.d6W hE hx hP)
theorem aB.a3T:aB l 1 (a0f kw andP aD l ex):=by
 unfold a0f;refine(aB.a6w hE hx hP).bl λe=>λi a j hi h=>?_
 repeat' split at h
 all_goals first
  |(cases h;omega)
  |(rename_i hs
    have:=((aB.a6w hE hx hP).bz λ_=>aB.bZ _).nxt (aV hE hi hs) h;omega)
theorem aB.a8X:aB l 1 (xK kw andP aD l ex):=λi a j hi h=>by
 unfold xK at h;split at h
 .rename_i hs;exact((hx 3).bz λ_=>aB.bZ _).nxt (aV hE hi hs) h
 .exact aB.a3T hE hx hP _ _ _ hi h
theorem aB.orG:aB l 1 (c0V kw andP aD l ex):=aB.lvl hE (aB.lvl hE (aB.a8X hE hx hP))
theorem aB.exG:aB l 1 (a3n kw andP aD l ex):=λi a j hi h=>by
 unfold a3n at h;split at h
 .rename_i hs;exact((aB.d6U hE hx hP).le (by omega)).nxt (aV hE hi hs) h
 split at h
 .rename_i hs;exact((hx 0).bz λ_=>(aB.exp hE _ _).bz λ_=>(hx 0).bz λ_=>(aB.exp hE _ _).bz λ_=>(hx 0).bz λ_=>aB.bZ _).nxt (aV hE hi hs) h
 split at h
 .rename_i hs;exact((aB.b7a hE hx).le (by omega)).nxt (aV hE hi hs) h
 split at h
 .rename_i hs;exact((aB.d6V hE hx hP).le (by omega)).nxt (aV hE hi hs) h
 split at h
 .rename_i hs;exact((aB.word hE).bz λ_=>(aB.kZ hE hx).bz λ_=>(aB.exp hE _ _).bz λ_=>(hx 0).bz λ_=>aB.bZ _).nxt (aV hE hi hs) h
 exact aB.orG hE hx hP _ _ _ hi h
end
end
theorem aB.exF(hP:aB l 0 (kY aD l)):∀n k,aB l 1 (uG kw andP aD l n k)
 |0,k=>λi a j hi h=>by unfold uG at h;cases h
 |n+1,k=>by unfold uG;exact aB.ite (aB.unG hE (aB.exF hP n) hP) (aB.ite (aB.a8X hE (aB.exF hP n) hP) (aB.exG hE (aB.exF hP n) hP))
theorem aB.expr(hP:aB l 0 (kY aD l)):aB l 1 (qD kw andP aD l):=aB.exF hE hP _ _
end
end Go.Proofs.YtmfbjecjccipfaaGreatDoor
end
section
namespace Go.Proofs.YtmfbjecjccipfaaGreatDoor
section
variable {kw:Nm->Bool} {andP:Pr->Pr->Pr} {aD:List Tok->Nat->Nat->jA Pr} {l:List Tok} {α β:Type} {m k:Nat}
variable (hE:pE l)
include hE
theorem aB.yU:aB l 1 (qX kw l):=by unfold qX;exact aB.list hE (λa=>(aB.title hE).bl λ_=>(aB.word hE).bz λ_=>aB.bZ _) _
theorem aB.head(mode:Int):aB l 1 (tZ kw l mode):=by
 unfold tZ;refine(aB.word hE).bl λname=>aB.bl (m:=0) (λi a j hi h=>?_) λ_=>aB.bZ _;split at h
 .rename_i hs;have h1:=aV hE hi hs;split at h
  .rename_i hf;have h2:=qZ hE h1 (a0g hE hf);cases h;omega
  .exact((aB.words hE).le (by omega)) _ _ _ hi h
 .cases h;omega
variable (hP:aB l 0 (kY aD l))
include hP
theorem aB.bound:aB l 1 (qY kw aD l):=by unfold qY;exact(aB.word hE).bl λ_=>(aB.exp hE _ _).bz λ_=>(aB.vars hE _).bz λ_=>(aB.exp hE _ _).bz λ_=>hP.bl λ_=>(aB.exp hE _ _).bz λ_=>hP.bl λ_=>(aB.exp hE _ _).bz λ_=>aB.bZ _
theorem aB.con:aB l 1 (b6W kw andP aD l):=by unfold b6W;refine(aB.title hE).bl λ_=>(aB.skip hE _).bl λb=>aB.ite ?_ (aB.bZ _);refine aB.bl (aB.list hE (λa=>?_) _) λ_=>(aB.exp hE _ _).bz λ_=>aB.bZ _;exact(aB.word hE).bz λ_=>(aB.exp hE _ _).bz λ_=>(aB.typ hE hP).bz λ_=>aB.bZ _
theorem aB.data:aB l 1 (a5r kw andP aD l):=by unfold a5r;refine(aB.title hE).bl λ_=>aB.bl (aB.many (λa=>(aB.word hE).bz λ_=>aB.bZ _) _) λ_=>(aB.skip hE _).bl λb=>?_;refine aB.bl (aB.ite ((aB.vars hE _).bz λ_=>(aB.exp hE _ _).bz λ_=>aB.bZ _) (aB.bZ _)) λ_=>(aB.exp hE _ _).bz λ_=>?_;exact aB.bl (aB.list hE (λa=>(aB.con hE hP).bz λ_=>aB.bZ _) _) λ_=>aB.bZ _
theorem aB.cls:aB l 1 (a1A kw andP aD l):=by unfold a1A;refine(aB.title hE).bl λ_=>(aB.word hE).bz λ_=>(aB.exp hE _ _).bz λ_=>aB.bl (aB.list hE (λa=>?_) _) λ_=>aB.bZ _;exact(aB.word hE).bz λ_=>(aB.exp hE _ _).bz λ_=>(aB.typ hE hP).bz λ_=>aB.bZ _
theorem aB.e2Y:aB l 1 (a7k kw aD l):=by
 unfold a7k;refine(aB.word hE).bl λ_=>(aB.exp hE _ _).bz λ_=>(aB.title hE).bz λ_=>(aB.exp hE _ _).bz λ_=>(aB.sort hE).bz λ_=>(aB.exp hE _ _).bz λ_=>?_;refine aB.bl (aB.list hE (λa=>?_) _) λ_=>(aB.exp hE _ _).bz λ_=>(aB.skip hE _).bl λb=>(aB.ite hP (aB.bZ _)).bl λ_=>aB.bZ _;refine(aB.title hE).bz λ_=>aB.bl (m:=0) (λi a j hi h=>?_) λ_=>(aB.exp hE _ _).bz λ_=>hP.bl λ_=>aB.bZ _;split at h
 .exact((aB.words hE).le (by omega)) _ _ _ hi h
 .cases h;omega
theorem aB.e2Z:aB l 1 (a7l kw aD l):=by unfold a7l;exact(aB.word hE).bl λ_=>(aB.exp hE _ _).bz λ_=>(aB.vars hE _).bz λ_=>(aB.exp hE _ _).bz λ_=>hP.bl λ_=>aB.bZ _
theorem aB.body(d:eL):aB l 1 (vE kw andP aD l d):=by unfold vE;exact(aB.exp hE _ _).bl λ_=>(aB.expr hE hP).bz λ_=>aB.bZ _
def a5s(aD:List Tok->Nat->Nat->jA Pr)(l:List Tok):Prop:=∀e i p j,i<l.length->aD l i e=.ok p j->i<=j/\j<l.length
omit hE hP in
theorem a5s.pred(h:a5s aD l):aB l 0 (kY aD l):=λi a j hi hx=>by have:=h l.length i a j hi hx;omega
end
section
variable {kw:Nm->Bool} {andP:Pr->Pr->Pr} {aD:List Tok->Nat->Nat->jA Pr} {l:List Tok}
variable (hE:pE l) (hB:a5s aD l)
include hE hB
theorem aB.sig:aB l 1 (rN kw andP aD l):=by have hP:=hB.pred;unfold rN;refine aB.br (aB.skip hE _) λb=>aB.br (aB.ite ((aB.word hE).bz λ_=>(aB.many (λa=>(aB.word hE).bz λ_=>aB.bZ _) _).bl λ_=>(aB.exp hE _ _).bz λ_=>aB.bZ _) (aB.bZ _)) λ_=>?_;refine aB.br (aB.skip hE _) λb=>aB.br (aB.ite ((aB.yU hE).bz λ_=>(aB.exp hE _ _).bz λ_=>aB.bZ _) (aB.bZ _)) λ_=>?_;refine aB.br (aB.skip hE _) λb=>aB.br (aB.ite ((aB.vars hE _).bz λ_=>(aB.exp hE _ _).bz λ_=>aB.bZ _) (aB.bZ _)) λ_=>?_;refine aB.br (aB.many (λa=>(aB.exp hE _ _).bz λ_=>(aB.bound hE hP).bz λ_=>aB.bZ _) _) λ_=>?_;refine(aB.typ hE hP).bl λ_=>(aB.skip hE _).bl λb=>aB.bl (aB.ite (λi a j hi h=>?_) (aB.bZ _)) λ_=>aB.bZ _;refine aB.list hE (m:=0) (λa=>aB.bl (m:=0) (λi' p j' hi' h'=>?_) λ_=>aB.bZ _) _ i a j hi h;have:=hB _ _ _ _ hi' h';omega
theorem aB.defn{i j:Nat}{d:Option eL}(hi:i<l.length)(h:uH kw andP aD l i=.ok d j):(d=none/\j=i)\/(i+1<=j/\j<l.length):=by
 have hP:=hB.pred;unfold uH at h;split at h
 .rename_i hs;refine .inr ((((aB.head hE _).bz λ_=>(aB.skip hE _).bl λ_=>aB.bl (aB.ite ((aB.sig hE hB).bz λ_=>aB.bZ _) (aB.bZ _)) λ_=>((aB.body hE hP _).le (by omega:0<=1)))).nxt (aV hE hi hs) h)
 split at h
 .rename_i hs;exact .inr (((aB.head hE _).bz λ_=>(aB.exp hE _ _).bz λ_=>(aB.sig hE hB).bz λ_=>aB.bZ _).nxt (aV hE hi hs) h)
 split at h
 .rename_i hs;exact .inr (((aB.head hE _).bz λ_=>(aB.exp hE _ _).bz λ_=>(aB.sig hE hB).bz λ_=>((aB.body hE hP _).le (by omega:0<=1))).nxt (aV hE hi hs) h)
 cases h;exact .inl ⟨rfl,rfl⟩
theorem aB.c2Q:aB l 0 (uH kw andP aD l):=λi d j hi h=>by
 rcases aB.defn hE hB hi h with⟨_,rfl⟩|h'
 .omega
 .omega
theorem aB.inst:aB l 1 (a7j kw andP aD l):=by have hP:=hB.pred;unfold a7j;refine(aB.title hE).bl λ_=>(aB.a1e hE ((aB.typ hE hP).le (by omega)) hP).bz λ_=>(aB.skip hE _).bl λb=>(aB.ite ((aB.yU hE).le (by omega)) (aB.bZ _)).bl λ_=>(aB.exp hE _ _).bz λ_=>?_;exact aB.bl (aB.many (λa=>(aB.c2Q hE hB).bl λ_=>(aB.exp hE _ _).bz λ_=>aB.bZ _) _) λ_=>(aB.exp hE _ _).bz λ_=>aB.bZ _
theorem aB.decl(m:sC):aB l 1 (a2u kw andP aD l m):=λi a j hi h=>by
 have hP:=hB.pred;unfold a2u at h;split at h
 .rename_i hs;exact((aB.data hE hP).bz λ_=>aB.bZ _).nxt (aV hE hi hs) h
 split at h
 .rename_i hs;exact((aB.cls hE hP).bz λ_=>aB.bZ _).nxt (aV hE hi hs) h
 split at h
 .rename_i hs;exact((aB.inst hE hB).bz λ_=>aB.bZ _).nxt (aV hE hi hs) h
 split at h
 .rename_i hs;exact((aB.e2Y hE hP).bz λ_=>aB.bZ _).nxt (aV hE hi hs) h
 split at h
 .rename_i hs;exact((aB.e2Z hE hP).bz λ_=>aB.bZ _).nxt (aV hE hi hs) h
 rw[bX]at h;cases hd:uH kw andP aD l i with
 |bad n e=>rw[hd]at h;cases h
 |ok d j'=>
  rw[hd]at h;rcases aB.defn hE hB hi hd with⟨rfl,rfl⟩|h'
  .simp only[dN]at h;cases h
  .cases d with
   |none=>simp only[dN]at h;cases h
   |some d=>simp only[kR]at h;cases h;exact h'
end
end Go.Proofs.YtmfbjecjccipfaaGreatDoor
end
section
namespace Go.Proofs.YtmfbjecjccipfaaGreatDoor
def zR{α:Type}:jA α->jA α->Prop
 |.ok a j,.ok b k=>a=b/\j=k
 |.bad _ e,.bad _ f=>e=f
 |_,_=>False
def kB{α:Type}(x y:bE α):Prop:=∀i,zR (x i) (y i)
structure c6m (l l':List Tok):Prop where
 len:l'.length=l.length
 kind:∀i,(aH l' i).kind=(aH l i).kind
 text:∀i,(aH l' i).text=(aH l i).text
 n:∀i,(aH l' i).n=(aH l i).n
section
variable {α β:Type}
theorem zR.refl(r:jA α):zR r r:=by cases r<;>simp[zR]
theorem kB.refl(x:bE α):kB x x:=λi=>zR.refl _
theorem kB.dB{x y:bE α}{f g:α->bE β}(h:kB x y)(hf:∀a,kB (f a) (g a)):kB (x >>=f) (y >>=g):=λi=>by
 have h1:=h i;rw[bX,bX];cases hx:x i with
 |ok a j=>cases hy:y i with
  |ok b k=>rw[hx,hy]at h1;obtain⟨rfl,rfl⟩:=h1;exact hf a j
  |bad n e=>rw[hx,hy]at h1;exact h1.elim
 |bad n e=>cases hy:y i with
  |ok b k=>rw[hx,hy]at h1;exact h1.elim
  |bad n' e'=>rw[hx,hy]at h1;exact h1
variable{c:Prop}
theorem kB.ite[Decidable c]{x y x' y':bE α}(h:kB x x')(h':kB y y'):kB (if c then x else y) (if c then x' else y'):=by
 split
 .exact h
 .exact h'
theorem zR.ite{c':Prop}[Decidable c][Decidable c'](hc:c↔c'){x y x' y':jA α}(h:zR x x')(h':zR y y'):zR (if c then x else y) (if c' then x' else y'):=by
 by_cases h1:c
 .rw[if_pos h1,if_pos (hc.1 h1)];exact h
 .rw[if_neg h1,if_neg (λh2=>h1 (hc.2 h2))];exact h'
variable {kw:Nm->Bool} {andP:Pr->Pr->Pr} {aD:List Tok->Nat->Nat->jA Pr} {l l':List Tok} (hS:c6m l l')
include hS
theorem c6m.fix(i:Nat)(s:Nm):cI (aH l' i) s=cI (aH l i) s:=by unfold cI;rw[hS.kind,hS.text]
theorem c6m.is(i:Nat)(s:Nm):aJ l' i s=aJ l i s:=hS.fix i s
theorem c6m.wd(i:Nat):gU kw (aH l' i)=gU kw (aH l i):=by unfold gU;rw[hS.kind,hS.text]
theorem c6m.ti(i:Nat):pJ (aH l' i)=pJ (aH l i):=by unfold pJ;rw[hS.kind]
theorem kB.exp:∀s,kB (aQ l' s) (aQ l s)
 |[]=>kB.refl _
 |s::r=>λi=>by unfold aQ;rw[hS.is];exact zR.ite Iff.rfl (kB.exp r (i+1)) rfl
theorem kB.skip(s:Nm):kB (cD l' s) (cD l s):=λi=>by unfold cD;rw[hS.is];exact zR.refl _
theorem kB.word:kB (bU kw l') (bU kw l):=λi=>by unfold bU mH;rw[hS.wd,hS.text];exact zR.ite Iff.rfl (zR.refl _) rfl
theorem kB.sort:kB (yV kw l') (yV kw l):=λi=>by unfold yV mH;simp only[hS.ti,hS.wd,hS.text];exact zR.ite Iff.rfl (zR.refl _) rfl
theorem kB.loop{c:Nm}{one one':α->bE α}(h:∀a,kB (one' a) (one a)):∀(g:Nat)(a:α),kB (eT l' c one' g a) (eT l c one g a)
 |0,a=>λi=>rfl
 |g+1,a=>λi=>by
  unfold eT;have h1:=h a i;cases hx:one' a i with
  |ok b j=>cases hy:one a i with
   |ok b' j'=>rw[hx,hy]at h1;obtain⟨rfl,rfl⟩:=h1;simp only;rw[hS.is];exact zR.ite Iff.rfl (kB.loop h g b (j+1)) (zR.refl _)
   |bad n e=>rw[hx,hy]at h1;exact h1.elim
  |bad n e=>cases hy:one a i with
   |ok b' j'=>rw[hx,hy]at h1;exact h1.elim
   |bad n' e'=>rw[hx,hy]at h1;exact h1
theorem kB.list{c:Nm}{one one':α->bE α}(h:∀a,kB (one' a) (one a))(a:α):kB (dI l' c one' a) (dI l c one a):=by unfold dI;rw[hS.len];exact kB.loop hS h _ a
theorem kB.vars(v:Bool):kB (qC kw l' v) (qC kw l v):=by unfold qC;exact kB.list hS (λa=>(kB.ite (kB.skip hS _) (kB.refl _)).dB λb=>(kB.ite (kB.refl _) (kB.word hS)).dB λ_=>(kB.exp hS _).dB λ_=>(kB.sort hS).dB λ_=>kB.refl _) _
theorem kB.base:kB (gO kw l') (gO kw l):=λi=>by unfold gO;simp only[hS.is,hS.wd,hS.text];exact zR.refl _
end
end Go.Proofs.YtmfbjecjccipfaaGreatDoor
end
section
namespace Go.Proofs.YtmfbjecjccipfaaGreatDoor
open Go Go.VM
def eD(x:psV):List D:=[.str x.1,.str x.2]
def a5t(p:Nm×Ty):List D:=.str p.1::tyC p.2
def a1B:cP->List D
 |⟨op,nm,n,ks,ps,al,ts⟩=>[.int .i64 op,.str nm,.int .i64 n,.sl (ks.map a1B),.sl (ps.map a5t),.sl (al.attach.map λa=>.str a.1.1::.sl (strs a.1.2.1)::a1B a.1.2.2),.sl (ts.map tyC)]
termination_by e=>SizeOf.sizeOf e
decreasing_by
 .have:=List.sizeOf_lt_of_mem ‹_∈ks›;simp only[cP.mk.sizeOf_spec];omega
 .obtain⟨⟨a,b,c⟩,ha⟩:=a;have:=List.sizeOf_lt_of_mem ha;simp only[Prod.mk.sizeOf_spec]at this;simp only[cP.mk.sizeOf_spec];omega
def b1K(a:Nm×List Nm×cP):List D:=.str a.1::.sl (strs a.2.1)::a1B a.2.2
theorem bY(e:cP):a1B e=[.int .i64 e.op,.str e.name,.int .i64 e.n,.sl (e.kids.map a1B),.sl (e.params.map a5t),.sl (e.alts.map b1K),.sl (e.types.map tyC)]:=by
 cases e;rw[a1B];simp only[List.cons.injEq,D.sl.injEq,true_and,and_true]
 first
  |exact List.attach_map_val (f:=b1K)
  |exact List.attach_map_val _ b1K
  |(conv=>rhs;rw[<-List.attach_map_subtype_val ‹List (Nm×List Nm×cP)›,List.map_map]
    rfl)
def b0p(b:pI):List D:=[.str b.name,.sl (b.vars.map eD)]++qO b.hyp++qO b.goal
def e3a(s:zQ):List D:=[.sl (strs s.vars),.sl (s.yU.map eD),.sl (s.abs.map eD),.sl (s.bounds.map b0p)]++tyC s.type++[.sl (s.a5q.map qO)]
def c2R(d:eL):List D:=[.str d.name,.sl (strs d.params)]++a1B d.body++[.int .i64 d.mode,.bool d.typed]++e3a d.sig
def c0W(c:a9u):List D:=[.str c.name,.sl (strs c.names),.sl (c.fields.map tyC)]
def b7b(d:b6Q):List D:=[.str d.name,.sl (strs d.vars),.sl (d.b1E.map eD),.sl (d.cons.map c0W)]
def c6n(c:b1G):List D:=[.str c.name,.str c.var,.sl (c.methods.map a5t)]
def d1J(x:b6R):List D:=[.str x.cls]++tyC x.type++[.sl (x.yU.map eD),.sl (x.defs.map c2R)]
def c6o(x:b6S):List D:=[.str x.name,.str x.data,.str x.result,.sl (x.cases.map λc=>.str c.1::.sl (strs c.2.1)::qO c.2.2)]++qO x.inv
def d1K(q:b6T):List D:=[.str q.name,.sl (q.vars.map eD)]++qO q.body
def a9v(m:sC):List D:=[.sl (m.b6U.map b7b),.sl (m.b1H.map c6n),.sl (m.insts.map d1J),.sl (m.b6V.map c6o),.sl (m.c6i.map d1K),.sl (m.defs.map c2R)]
end Go.Proofs.YtmfbjecjccipfaaGreatDoor
end
end
