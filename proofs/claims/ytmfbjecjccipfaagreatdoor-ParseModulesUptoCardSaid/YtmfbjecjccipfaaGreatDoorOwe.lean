/- Lemmas. No condition. -/
import Derived.Test.YtmfbjecjccipfaaGreatDoorOwd
set_option linter.unusedVariables false
set_option linter.unusedSimpArgs false
set_option linter.unusedSectionVars false
set_option maxRecDepth 100000
set_option maxHeartbeats 64000000
open Go.Proofs.Tryz
section
section
namespace Go.Proofs.YtmfbjecjccipfaaGreatDoor
structure cP where
 op:Int
 name:Nm
 n:Int
 kids:List cP
 params:List (Nm×Ty)
 alts:List (Nm×List Nm×cP)
 types:List Ty
abbrev psV:=Nm×Nm
structure pR where
 name:Nm
 vars:List psV
 hyp:Pr
 goal:Pr
structure a0i where
 vars:List Nm
 wN:List psV
 abs:List psV
 bounds:List pR
 type:Ty
 a5K:List Pr
structure gB where
 name:Nm
 params:List Nm
 body:cP
 mode:Int
 typed:Bool
 sig:a0i
structure a1M where
 name:Nm
 names:List Nm
 fields:List Ty
structure a4s where
 name:Nm
 vars:List Nm
 a6B:List psV
 cons:List a1M
structure xK where
 name:Nm
 var:Nm
 methods:List (Nm×Ty)
structure a7G where
 cls:Nm
 type:Ty
 wN:List psV
 defs:List gB
structure a7H where
 name:Nm
 data:Nm
 result:Nm
 cases:List (Nm×List Nm×Pr)
 inv:Pr
structure a7I where
 name:Nm
 vars:List psV
 body:Pr
structure eK where
 a2S:List a4s
 vY:List xK
 insts:List a7G
 a2T:List a7H
 a4Z:List a7I
 defs:List gB
def eE:Pr:=⟨0,[],0,[]⟩
def jZ:Ty:=⟨0,[],[],[],eE,[]⟩
def qP:cP:=⟨0,[],0,[],[],[],[]⟩
def vZ:a0i:=⟨[],[],[],[],jZ,[]⟩
def wW(op:Int)(name:Nm):Ty:=⟨op,name,[],[],eE,[]⟩
def eD(op:Int)(kids:List cP):cP:=⟨op,[],0,kids,[],[],[]⟩
inductive gO (α:Type) where
 |ok (a:α) (at':Nat)
 |bad (line err:Int)
def bF(α:Type):=Nat->gO α
def bF.bP{α:Type}(a:α):bF α:=λi=>.ok a i
def bF.xW{α β:Type}(x:bF α)(f:α->bF β):bF β:=λi=>match x i with
 |.ok a j=>f a j
 |.bad n e=>.bad n e
instance:Monad bF where
 pure:=bF.bP
 bind:=bF.xW
variable{i:Nat}
@[simp] theorem kB{α:Type}{a:α}:(pure a:bF α) i=.ok a i:=rfl
theorem cR{α β:Type}(x:bF α)(f:α->bF β)(i:Nat):(x >>=f) i=match x i with
 |.ok a j=>f a j
 |.bad n e=>.bad n e:=rfl
theorem bU{α β:Type}{x:bF α}{f:α->bF β}{j:Nat}{a:α}(h:x i=.ok a j):(x >>=f) i=f a j:=by rw[cR,h]
theorem kT{α β:Type}{x:bF α}{f:α->bF β}{n e:Int}(h:x i=.bad n e):(x >>=f) i=.bad n e:=by rw[cR,h]
section
variable (kw:Nm->Bool) (andP:Pr->Pr->Pr) (rdP:List Tok->Nat->Nat->gO Pr) (l:List Tok)
def aJ(i:Nat):Tok:=if i<l.length then l.getD i ⟨0,[],0,0⟩ else l.getLastD ⟨0,[],0,0⟩
def cQ(t:Tok)(s:Nm):Bool:=(decide (t.kind=1)||decide (t.kind=4)||decide (t.kind=2))&&decide (t.text=s)
def kL(t:Tok):Bool:=decide (t.kind=1)&& !kw t.text
def rW(t:Tok):Bool:=decide (t.kind=2)
def aL(i:Nat)(s:Nm):Bool:=cQ (aJ l i) s
def eV{α:Type}:bF α:=λi=>.bad (aJ l i).line 14
def cS(s:Nm):bF Bool:=λi=>if aL l i s then .ok true (i+1) else .ok false i
def aR:List Nm->bF Unit
 |[]=>pure ()
 |s::r=>λi=>if aL l i s then aR r (i+1) else eV l i
def pD(ok:Tok->Bool):bF Nm:=λi=>if ok (aJ l i) then .ok (aJ l i).text (i+1) else eV l i
def bV:bF Nm:=pD l (kL kw)
def mC:bF Nm:=pD l rW
def a1x:bF Nm:=pD l λt=>kL kw t||rW t
def jC{α:Type}(c:Nm)(one:α->bF α):Nat->α->bF α
 |0,_=>λ_=>.bad 0 1
 |g+1,a=>λi=>match one a i with
  |.bad n e=>.bad n e
  |.ok b j=>if aL l j c then jC c one g b (j+1) else .ok b j
def dJ{α:Type}(c:Nm)(one:α->bF α)(a:α):bF α:=jC l c one (l.length+2) a
def gE{α:Type}(c:Nat->Bool)(one:α->bF α):Nat->α->bF α
 |0,_=>λ_=>.bad 0 1
 |g+1,a=>λi=>if c i then(match one a i with
  |.bad n e=>.bad n e
  |.ok b j=>gE c one g b j) else .ok a i
def rJ{α:Type}(c:Nat->Bool)(one:α->bF α)(a:α):bF α:=gE c one (l.length+2) a
def pE:bF Pr:=λi=>rdP l i l.length
def jD:bF (List Nm):=do
 aR l [[40]]
 let out <- dJ l [44] (λout=>do let w <- bV kw l;pure (out++[w])) []
 aR l [[41]]
 pure out
def sE(v:Bool):bF (List psV):=dJ l [44] (λout=>do
 let b <- (if v then cS l [118] else pure false)
 let name <- (if b then pure [118] else bV kw l)
 aR l [[58]]
 let s <- a1x kw l
 pure (out++[(name,s)])) []
def jI:bF (Option Ty):=λi=>
 if aL l i [73,110,116] then .ok (some (wW 1 [])) (i+1)
 else if aL l i [66,111,111,108] then .ok (some (wW 2 [])) (i+1)
 else if aL l i [67,101,108,108] then .ok (some (wW 3 [])) (i+1)
 else if kL kw (aJ l i) then .ok (some (wW 5 (aJ l i).text)) (i+1)
 else .ok none i
section
variable (ty:bF Ty)
def zN:bF Ty:=do
 aR l [[123],[118],[58]]
 let t <- ty
 if t.op=6 then eV l else do
 aR l [[124]]
 let p <- pE rdP l
 aR l [[125]]
 pure {t with pred:=if t.pred.op=0 then p else andP t.pred p}
def b5a(i:Nat):Bool:=kL kw (aJ l i)||rW (aJ l i)||aL l i [123]||aL l i [40]
def oP:bF Ty:=do
 let b <- jI kw l
 match b with
 |some t=>pure t
 |none=>
  λi=>
  if rW (aJ l i) then .ok (wW 4 (aJ l i).text) (i+1)
  else if aL l i [123] then zN andP rdP l ty i
  else(do
   aR l [[40]]
   let t <- ty
   aR l [[41]]
   pure t:bF Ty) i
def xL:bF Ty:=do
 let name <- mC l
 let args <- rJ l (b5a kw l) (λout=>do let t <- oP kw andP rdP l ty;pure (out++[t])) []
 let b <- cS l [60]
 if b then do
  let ps <- dJ l [44] (λout=>do
   aR l [[118],[46]]
   let p <- pE rdP l
   pure (out++[p])) []
  aR l [[62]]
  pure {wW 4 name with args:=args,a6B:=ps}
 else pure {wW 4 name with args:=args}
def zO:bF Ty:=do
 aR l [[40]]
 let (ns,ts) <- (λi=>if kL kw (aJ l i)&&cQ (aJ l (i+1)) [58] then
   dJ l [44] (λ(out:List Nm×List Ty)=>do
    let w <- bV kw l
    aR l [[58]]
    let t <- ty
    pure (out.1++[w],out.2++[t])) ([],[]) i
  else dJ l [44] (λ(out:List Nm×List Ty)=>do
    let t <- ty
    pure (out.1,out.2++[t])) ([],[]) i:bF (List Nm×List Ty))
 aR l [[41]]
 λi=>
  if decide (ns.length=0)&&decide (ts.length=1)&& !aL l i [45,62] then .ok (ts.headD jZ) i
  else(do
   aR l [[45,62]]
   let t <- ty
   pure {wW 6 []with names:=ns,args:=ts++[t]}:bF Ty) i
def a0w:bF Ty:=do
 let b <- jI kw l
 match b with
 |some t=>pure t
 |none=>
  λi=>
  if rW (aJ l i) then xL kw andP rdP l ty i
  else if aL l i [123] then zN andP rdP l ty i
  else zO kw l ty i
end
def a1y:Nat->bF Ty
 |0=>λ_=>.bad 0 1
 |n+1=>a0w kw andP rdP l (a1y n)
def mD:bF Ty:=a1y kw andP rdP l (l.length+2)
def uM:bF (List Ty):=do
 let b <- cS l [91]
 if b then do
  let out <- dJ l [44] (λout=>do let t <- mD kw andP rdP l;pure (out++[t])) []
  aR l [[93]]
  pure out
 else pure []
section
variable (ex:Nat->bF cP)
def kW:bF (List cP):=do
 aR l [[40]]
 let out <- dJ l [44] (λout=>do let e <- ex 0;pure (out++[e])) []
 aR l [[41]]
 pure out
def a4t:bF cP:=do
 let name <- bV kw l
 let b <- cS l [58]
 let ts <- (if b then do let t <- mD kw andP rdP l;pure [t] else pure []:bF (List Ty))
 aR l [[61]]
 let a <- ex 0
 aR l [[105,110]]
 let c <- ex 0
 pure {eD 7 [a,c]with name:=name,types:=ts}
def xC:bF cP:=do
 let e <- ex 0
 aR l [[111,102],[123]]
 let alts <- dJ l [59] (λout=>do
  let c <- mC l
  let ns <- (λi=>if aL l i [40] then jD kw l i else .ok [] i:bF (List Nm))
  aR l [[45,62]]
  let b <- ex 0
  pure (out++[(c,ns,b)])) []
 aR l [[125]]
 pure {eD 9 [e]with alts:=alts}
def a4u:bF cP:=do
 aR l [[40]]
 let ps <- dJ l [44] (λout=>do
  let w <- bV kw l
  let b <- cS l [58]
  let t <- (if b then mD kw andP rdP l else pure jZ)
  pure (out++[(w,t)])) []
 aR l [[41],[45,62]]
 let e <- ex 0
 pure {eD 6 [e]with params:=ps}
def a2U(op:Int):bF cP:=do
 aR l [[40]]
 let e <- ex 0
 aR l [[41]]
 pure (eD op [e])
def sF:bF cP:=do
 aR l [[40]]
 λi=>
  if aL l i [45]&&decide ((aJ l (i+1)).kind=3)&&cQ (aJ l (i+2)) [41] then .ok ⟨1,[], -(aJ l (i+1)).n,[],[],[],[]⟩ (i+3)
  else(do
   let e <- ex 0
   let b <- cS l [58]
   let e <- (if b then do let t <- mD kw andP rdP l;pure {eD 26 [e]with types:=[t]} else pure e:bF cP)
   aR l [[41]]
   pure e:bF cP) i
def zP:bF cP:=λi=>
 if (aJ l i).kind=3 then .ok ⟨1,[],(aJ l i).n,[],[],[],[]⟩ (i+1)
 else if aL l i [116,114,117,101] then .ok ⟨2,[],1,[],[],[],[]⟩ (i+1)
 else if aL l i [102,97,108,115,101] then .ok ⟨2,[],0,[],[],[],[]⟩ (i+1)
 else if aL l i [110,101,119] then a2U l ex 22 (i+1)
 else if aL l i [103,101,116] then a2U l ex 23 (i+1)
 else if aL l i [115,101,116] then(do
  aR l [[40]]
  let a <- ex 0
  aR l [[44]]
  let b <- ex 0
  aR l [[41]]
  pure (eD 24 [a,b]):bF cP) (i+1)
 else if kL kw (aJ l i) then
  (if !aL l (i+1) [91]&& !aL l (i+1) [40] then .ok {eD 3 []with name:=(aJ l i).text} (i+1)
  else(do
   let ts <- uM kw andP rdP l
   let ks <- kW l ex
   pure {eD 5 ks with name:=(aJ l i).text,types:=ts}:bF cP) (i+1))
 else if rW (aJ l i) then(do
  let ts <- uM kw andP rdP l
  let ks <- (λj=>if aL l j [40] then kW l ex j else .ok [] j:bF (List cP))
  pure {eD 4 ks with name:=(aJ l i).text,types:=ts}:bF cP) (i+1)
 else sF kw andP rdP l ex i
def a6C:bF cP:=λi=>if aL l i [45] then(do let e <- ex 7;pure (eD 15 [e]):bF cP) (i+1) else zP kw andP rdP l ex i
def jE(ops:List (Nm×Int))(one:bF cP):Nat->cP->bF cP
 |0,_=>λ_=>.bad 0 1
 |g+1,e=>λi=>match ops.find? λp=>aL l i p.1 with
  |none=>.ok e i
  |some p=>match one (i+1)with
   |.bad n e=>.bad n e
   |.ok x j=>jE ops one g (eD p.2 [e,x]) j
def a1N(ops:List (Nm×Int))(one:bF cP):bF cP:=do
 let e <- one
 jE l ops one (l.length+2) e
def a8M:bF cP:=a1N l [([42],12),([100,105,118],13),([109,111,100],14)] (a6C kw andP rdP l ex)
def qT:bF cP:=a1N l [([43],10),([45],11)] (a8M kw andP rdP l ex)
def a4v:bF cP:=do
 let e <- qT kw andP rdP l ex
 λi=>
  if aL l i [61,61] then(do let x <- qT kw andP rdP l ex;pure (eD 16 [e,x]):bF cP) (i+1)
  else if aL l i [33,61] then(do let x <- qT kw andP rdP l ex;pure (eD 21 [eD 16 [e,x]]):bF cP) (i+1)
  else if aL l i [60] then(do let x <- qT kw andP rdP l ex;pure (eD 17 [e,x]):bF cP) (i+1)
  else if aL l i [60,61] then(do let x <- qT kw andP rdP l ex;pure (eD 18 [e,x]):bF cP) (i+1)
  else if aL l i [62] then(do let x <- qT kw andP rdP l ex;pure (eD 17 [x,e]):bF cP) (i+1)
  else if aL l i [62,61] then(do let x <- qT kw andP rdP l ex;pure (eD 18 [x,e]):bF cP) (i+1)
  else .ok e i
def a1z:bF cP:=λi=>if aL l i [33] then(do let e <- ex 3;pure (eD 21 [e]):bF cP) (i+1) else a4v kw andP rdP l ex i
def b3L:bF cP:=a1N l [([38,38],19)] (a1z kw andP rdP l ex)
def c1L:bF cP:=a1N l [([124,124],20)] (b3L kw andP rdP l ex)
def a7J:bF cP:=λi=>
 if aL l i [108,101,116] then a4t kw andP rdP l ex (i+1)
 else if aL l i [105,102] then(do
  let a <- ex 0
  aR l [[116,104,101,110]]
  let b <- ex 0
  aR l [[101,108,115,101]]
  let c <- ex 0
  pure (eD 8 [a,b,c]):bF cP) (i+1)
 else if aL l i [99,97,115,101] then xC kw l ex (i+1)
 else if aL l i [102,117,110] then a4u kw andP rdP l ex (i+1)
 else if aL l i [117,115,101] then(do
  let name <- bV kw l
  let ks <- kW l ex
  aR l [[105,110]]
  let b <- ex 0
  pure {eD 25 (ks++[b])with name:=name}:bF cP) (i+1)
 else c1L kw andP rdP l ex i
end
def yM:Nat->Nat->bF cP
 |0,_=>λ_=>.bad 0 1
 |n+1,k=>if k=7 then a6C kw andP rdP l (yM n) else if k=3 then a1z kw andP rdP l (yM n) else a7J kw andP rdP l (yM n)
def sG:bF cP:=yM kw andP rdP l (l.length+2) 0
def uN:bF (List psV):=dJ l [44] (λout=>do
 let c <- mC l
 let w <- bV kw l
 pure (out++[(c,w)])) []
def uO:bF pR:=do
 let name <- bV kw l
 aR l [[40]]
 let vs <- sE kw l false
 aR l [[41]]
 let h <- pE rdP l
 aR l [[45,62]]
 let g <- pE rdP l
 aR l [[46]]
 pure ⟨name,vs,h,g⟩
def kC:Nat->Int->Nat->Nat
 |0,_,_=>l.length
 |g+1,d,i=>if i<l.length then(if cQ (aJ l i) [40] then kC g (d+1) (i+1) else if cQ (aJ l i) [41] then kC g (d-1) (i+1) else if cQ (aJ l i) [61]&&decide (d<=0) then i else kC g d (i+1)) else l.length
def tP:bF a0i:=do
 let b <- cS l [102,111,114,97,108,108]
 let vs <- (if b then do
  let w <- bV kw l
  let ws <- rJ l (λi=>kL kw (aJ l i)) (λout=>do let w <- bV kw l;pure (out++[w])) [w]
  aR l [[46]]
  pure ws else pure []:bF (List Nm))
 let b <- cS l [119,104,101,114,101]
 let ns <- (if b then do
  let ns <- uN kw l
  aR l [[46]]
  pure ns else pure []:bF (List psV))
 let b <- cS l [60]
 let abs <- (if b then do
  let abs <- sE kw l false
  aR l [[62],[46]]
  pure abs else pure []:bF (List psV))
 let bs <- rJ l (λi=>aL l i [98,111,117,110,100]) (λout=>do
  aR l [[98,111,117,110,100]]
  let b <- uO kw rdP l
  pure (out++[b])) []
 let t <- mD kw andP rdP l
 let b <- cS l [109,101,116,114,105,99]
 let ms <- (if b then(λi=>dJ l [44] (λout=>do
  let p <- (λj=>rdP l j (kC l (l.length+1) 0 i):bF Pr)
  pure (out++[p])) [] i) else pure []:bF (List Pr))
 pure ⟨vs,ns,abs,bs,t,ms⟩
def xY(mode:Int):bF gB:=do
 let name <- bV kw l
 let ps <- (λi=>if aL l i [40] then(if cQ (aJ l (i+1)) [41] then .ok [] (i+2) else jD kw l i) else .ok [] i:bF (List Nm))
 pure ⟨name,ps,qP,mode,false,vZ⟩
def zQ(d:gB):bF (Option gB):=do
 aR l [[61]]
 let e <- sG kw andP rdP l
 pure (some {d with body:=e})
def xD:bF (Option gB):=λi=>
 if aL l i [100,101,102] then(do
  let d <- xY kw l 0
  let b <- cS l [58]
  let d <- (if b then do let s <- tP kw andP rdP l;pure {d with typed:=true,sig:=s} else pure d:bF gB)
  zQ kw andP rdP l d:bF (Option gB)) (i+1)
 else if aL l i [97,115,115,117,109,101] then(do
  let d <- xY kw l 1
  aR l [[58]]
  let s <- tP kw andP rdP l
  pure (some {d with typed:=true,sig:=s}):bF (Option gB)) (i+1)
 else if aL l i [114,101,102,108,101,99,116] then(do
  let d <- xY kw l 2
  aR l [[58]]
  let s <- tP kw andP rdP l
  zQ kw andP rdP l {d with typed:=true,sig:=s}:bF (Option gB)) (i+1)
 else .ok none i
def a9P:bF a1M:=do
 let name <- mC l
 let b <- cS l [40]
 if b then do
  let (ns,ts) <- dJ l [44] (λ(out:List Nm×List Ty)=>do
   let w <- bV kw l
   aR l [[58]]
   let t <- mD kw andP rdP l
   pure (out.1++[w],out.2++[t])) ([],[])
  aR l [[41]]
  pure ⟨name,ns,ts⟩
 else pure ⟨name,[],[]⟩
def a0x:bF a4s:=do
 let name <- mC l
 let vs <- rJ l (λi=>kL kw (aJ l i)) (λout=>do let w <- bV kw l;pure (out++[w])) []
 let b <- cS l [60]
 let ps <- (if b then do
  let ps <- sE kw l false
  aR l [[62]]
  pure ps else pure []:bF (List psV))
 aR l [[61]]
 let cs <- dJ l [124] (λout=>do let c <- a9P kw andP rdP l;pure (out++[c])) []
 pure ⟨name,vs,ps,cs⟩
def wA:bF xK:=do
 let name <- mC l
 let v <- bV kw l
 aR l [[119,105,116,104]]
 let ms <- dJ l [44] (λout=>do
  let w <- bV kw l
  aR l [[58]]
  let t <- mD kw andP rdP l
  pure (out++[(w,t)])) []
 pure ⟨name,v,ms⟩
def a1A:bF a7G:=do
 let c <- mC l
 let t <- oP kw andP rdP l (mD kw andP rdP l)
 let b <- cS l [119,104,101,114,101]
 let ns <- (if b then uN kw l else pure [])
 aR l [[123]]
 let ds <- rJ l (λi=>aL l i [100,101,102]) (λout=>do
  let d <- xD kw andP rdP l
  aR l [[59]]
  pure (out++[d.getD ⟨[],[],qP,0,false,vZ⟩])) []
 aR l [[125]]
 pure ⟨c,t,ns,ds⟩
def a1B:bF a7H:=do
 let name <- bV kw l
 aR l [[58]]
 let d <- mC l
 aR l [[45,62]]
 let s <- a1x kw l
 aR l [[123]]
 let cs <- dJ l [59] (λout=>do
  let c <- mC l
  let ns <- (λi=>if aL l i [40] then jD kw l i else .ok [] i:bF (List Nm))
  aR l [[61]]
  let p <- pE rdP l
  pure (out++[(c,ns,p)])) []
 aR l [[125]]
 let b <- cS l [105,110,118,97,114,105,97,110,116]
 let p <- (if b then pE rdP l else pure eE)
 pure ⟨name,d,s,cs,p⟩
def a1C:bF a7I:=do
 let name <- bV kw l
 aR l [[40]]
 let vs <- sE kw l true
 aR l [[41],[58]]
 let p <- pE rdP l
 pure ⟨name,vs,p⟩
def vI(m:eK):bF eK:=λi=>
 if aL l i [100,97,116,97] then(do let x <- a0x kw andP rdP l;pure {m with a2S:=m.a2S++[x]}:bF eK) (i+1)
 else if aL l i [99,108,97,115,115] then(do let x <- wA kw andP rdP l;pure {m with vY:=m.vY++[x]}:bF eK) (i+1)
 else if aL l i [105,110,115,116] then(do let x <- a1A kw andP rdP l;pure {m with insts:=m.insts++[x]}:bF eK) (i+1)
 else if aL l i [109,101,97,115,117,114,101] then(do let x <- a1B kw rdP l;pure {m with a2T:=m.a2T++[x]}:bF eK) (i+1)
 else if aL l i [113,117,97,108] then(do let x <- a1C kw rdP l;pure {m with a4Z:=m.a4Z++[x]}:bF eK) (i+1)
 else(do
  let d <- xD kw andP rdP l
  match d with
  |some d=>pure {m with defs:=m.defs++[d]}
  |none=>eV l:bF eK) i
def a5a:bF Unit:=λi=>if (aJ l i).kind=0 then .ok () i else eV l i
def a7K:bF eK:=rJ l (λi=> !decide ((aJ l i).kind=0)) (λm=>do
 let m <- vI kw andP rdP l m
 aR l [[59]]
 pure m) ⟨[],[],[],[],[],[]⟩
end
end Go.Proofs.YtmfbjecjccipfaaGreatDoor
end
section
namespace Go.Proofs.YtmfbjecjccipfaaGreatDoor
def pK(l:List Tok):Prop:=l≠[]/\(aJ l (l.length-1)).kind=0
def aB{α:Type}(l:List Tok)(m:Nat)(x:bF α):Prop:=∀(i:Nat)(a:α)(j:Nat),i<l.length->x i=.ok a j->i+m<=j/\j<l.length
section
variable {kw:Nm->Bool} {andP:Pr->Pr->Pr} {rdP:List Tok->Nat->Nat->gO Pr} {l:List Tok} {α β:Type} {m k:Nat}
theorem aB.le{x:bF α}(h:aB l m x)(hk:k<=m):aB l k x:=λi a j hi hx=>by have:=h i a j hi hx;omega
theorem aB.bP(a:α):aB l 0 (pure a:bF α):=λi b j hi h=>by rw[kB]at h;cases h;omega
theorem aB.bl{x:bF α}{f:α->bF β}(hx:aB l m x)(hf:∀a,aB l 0 (f a)):aB l m (x >>=f):=λi b j hi h=>by
 rw[cR]at h;cases hxi:x i with
 |bad n e=>rw[hxi]at h;cases h
 |ok a j'=>rw[hxi]at h;have h1:=hx i a j' hi hxi;have h2:=hf a j' b j h1.2 h;omega
theorem aB.br{x:bF α}{f:α->bF β}(hx:aB l 0 x)(hf:∀a,aB l m (f a)):aB l m (x >>=f):=λi b j hi h=>by
 rw[cR]at h;cases hxi:x i with
 |bad n e=>rw[hxi]at h;cases h
 |ok a j'=>rw[hxi]at h;have h1:=hx i a j' hi hxi;have h2:=hf a j' b j h1.2 h;omega
theorem aB.bz{x:bF α}{f:α->bF β}(hx:aB l 1 x)(hf:∀a,aB l 0 (f a)):aB l 0 (x >>=f):=(hx.le (by omega)).bl hf
theorem aB.ite{c:Prop}[Decidable c]{x y:bF α}(hx:aB l m x)(hy:aB l m y):aB l m (if c then x else y):=by
 split
 .exact hx
 .exact hy
theorem aB.failed:aB l m (eV l:bF α):=λi a j hi h=>by unfold eV at h;cases h
variable (hE:pK l)
include hE
variable{i j:Nat}
theorem rD(hi:i<l.length)(h:(aJ l i).kind≠0):i+1<l.length:=by
 rcases Nat.lt_or_ge (i+1) l.length with h'|h'
 .exact h'
 .have:i=l.length-1:=by omega
  rw[this]at h;exact absurd hE.2 h
variable{s:Nm}
theorem a2V{t:Tok}(h:cQ t s=true):t.kind≠0:=by unfold cQ at h;simp only[g3q,g3C,g4e]at h;omega
theorem aV(hi:i<l.length)(h:aL l i s=true):i+1<l.length:=rD hE hi (a2V hE h)
theorem a8N(hi:i<l.length)(h:rW (aJ l i)=true):i+1<l.length:=rD hE hi (by unfold rW at h;simp only[g4e]at h;omega)
theorem a8O(hi:i<l.length)(h:kL kw (aJ l i)=true):i+1<l.length:=rD hE hi (by unfold kL at h;simp only[g3q,g4e]at h;omega)
theorem aB.e3v:∀(s:List Nm),aB l s.length (aR l s)
 |[]=>aB.bP ()
 |s::r=>λi a j hi h=>by
  unfold aR at h;split at h
  .rename_i hs;have:=aB.e3v r (i+1) a j (aV hE hi hs) h;simp only[List.length_cons];omega
  .unfold eV at h;cases h
theorem aB.exp(s:Nm)(r:List Nm):aB l 1 (aR l (s::r)):=(aB.e3v hE (s::r)).le (by simp only[List.length_cons];omega)
theorem aB.skip(s:Nm):aB l 0 (cS l s):=λi a j hi h=>by
 unfold cS at h;split at h
 .rename_i hs;have:=aV hE hi hs;cases h;omega
 .cases h;omega
theorem aB.take{ok:Tok->Bool}(hk:∀t,ok t=true->t.kind≠0):aB l 1 (pD l ok):=λi a j hi h=>by
 unfold pD at h;split at h
 .rename_i hs;have:=rD hE hi (hk _ hs);cases h;omega
 .unfold eV at h;cases h
theorem aB.word:aB l 1 (bV kw l):=aB.take hE λt h=>by unfold kL at h;simp only[g3q,g4e]at h;omega
theorem aB.title:aB l 1 (mC l):=aB.take hE λt h=>by unfold rW at h;simp only[g4e]at h;omega
theorem aB.sort:aB l 1 (a1x kw l):=aB.take hE λt h=>by unfold kL rW at h;simp only[g3C,g3q,g4e]at h;omega
theorem aB.loop{c:Nm}{one:α->bF α}(h1:∀a,aB l m (one a)):∀(g:Nat)(a:α),aB l m (jC l c one g a)
 |0,a=>λi b j hi h=>by unfold jC at h;cases h
 |g+1,a=>λi b j hi h=>by
  unfold jC at h;split at h
  .cases h
  .rename_i a' j' ho;have h2:=h1 a i a' j' hi ho;split at h
   .rename_i hs;have h3:=aB.loop h1 g a' (j'+1) b j (aV hE h2.2 hs) h;omega
   .cases h;exact h2
theorem aB.list{c:Nm}{one:α->bF α}(h1:∀a,aB l m (one a))(a:α):aB l m (dJ l c one a):=aB.loop hE h1 _ a
omit hE in
theorem aB.b5U{c:Nat->Bool}{one:α->bF α}(h1:∀a i b j,i<l.length->c i=true->one a i=.ok b j->i<=j/\j<l.length):∀(g:Nat)(a:α),aB l 0 (gE c one g a)
 |0,a=>λi b j hi h=>by unfold gE at h;cases h
 |g+1,a=>λi b j hi h=>by
  unfold gE at h;split at h
  .rename_i hc;split at h
   .cases h
   .rename_i a' j' ho;have h2:=h1 a i a' j' hi hc ho;have h3:=aB.b5U h1 g a' j' b j h2.2 h;omega
  .cases h;omega
omit hE in
theorem aB.many{c:Nat->Bool}{one:α->bF α}(h1:∀a,aB l 0 (one a))(a:α):aB l 0 (rJ l c one a):=aB.b5U (λa i b j hi _ h=>by have:=h1 a i b j hi h;omega) _ a
theorem aB.words:aB l 1 (jD kw l):=by unfold jD;exact(aB.exp hE _ _).bl λ_=>(aB.list hE (m:=0) (λa=>((aB.word hE).bz λ_=>aB.bP _)) _).bl λ_=>(aB.exp hE _ _).bz λ_=>aB.bP _
theorem aB.vars(v:Bool):aB l 1 (sE kw l v):=by unfold sE;refine aB.list hE (λa=>?_) _;refine aB.br (aB.ite (aB.skip hE _) (aB.bP _)) λb=>?_;refine aB.br (aB.ite (aB.bP _) ((aB.word hE).le (by omega))) λnm=>?_;exact(aB.exp hE _ _).bl λ_=>(aB.sort hE).bz λ_=>aB.bP _
theorem a7L{t:Ty}(hi:i<l.length)(h:jI kw l i=.ok (some t) j):j=i+1/\j<l.length:=by
 unfold jI at h
 repeat' split at h
 all_goals first|cases h|skip
 all_goals rename_i hs
 all_goals first
  |exact⟨rfl,a8O hE hi hs⟩
  |exact⟨rfl,aV hE hi hs⟩
omit hE in
theorem yN(h:jI kw l i=.ok none j):j=i:=by
 unfold jI at h
 repeat' split at h
 all_goals first|(cases h;rfl)|cases h
theorem aB.base:aB l 0 (jI kw l):=λi a j hi h=>by
 cases a with
 |none=>have:=yN h;omega
 |some t=>have:=a7L hE hi h;omega
section
variable {ty:bF Ty} (pO:aB l 0 ty) (hP:aB l 0 (pE rdP l))
include pO hP
theorem aB.c6O:aB l 1 (zN andP rdP l ty):=by unfold zN;refine(aB.exp hE _ _).bl λ_=>pO.bl λt=>?_;refine aB.ite aB.failed ?_;exact(aB.exp hE _ _).bz λ_=>hP.bl λ_=>(aB.exp hE _ _).bz λ_=>aB.bP _
theorem aB.a2W:aB l 1 (oP kw andP rdP l ty):=λi a j hi h=>by
 unfold oP at h;rw[cR]at h;cases hb:jI kw l i with
 |bad n e=>rw[hb]at h;cases h
 |ok o j'=>
  rw[hb]at h;cases o with
  |some t=>have:=a7L hE hi hb;simp only[kB]at h;cases h;omega
  |none=>
   have:=yN hb;subst this;simp only at h;split at h
   .rename_i hs;have:=a8N hE hi hs;cases h;omega
   .split at h
    .exact aB.c6O hE pO hP _ a j hi h
    .exact((aB.exp hE _ _).bl λ_=>pO.bl λ_=>(aB.exp hE _ _).bz λ_=>aB.bP _) _ a j hi h
theorem aB.d7A:aB l 1 (xL kw andP rdP l ty):=by
 unfold xL;refine(aB.title hE).bl λname=>aB.bl (aB.many (λa=>?_) _) λargs=>(aB.skip hE _).bl λb=>aB.ite ?_ (aB.bP _)
 .exact(aB.a2W hE pO hP).bz λ_=>aB.bP _
 .refine aB.bl (aB.list hE (λa=>?_) _) λ_=>(aB.exp hE _ _).bz λ_=>aB.bP _;exact(aB.exp hE _ _).bz λ_=>hP.bl λ_=>aB.bP _
theorem aB.d3Z:aB l 1 (zO kw l ty):=by
 unfold zO;refine(aB.exp hE _ _).bl λ_=>aB.bl (m:=0) (λi a j hi h=>?_) λp=>?_
 .split at h
  .exact aB.list hE (λa=>(aB.word hE).bz λ_=>(aB.exp hE _ _).bz λ_=>pO.bl λ_=>aB.bP _) _ i a j hi h
  .exact aB.list hE (λa=>pO.bl λ_=>aB.bP _) _ i a j hi h
 .refine(aB.exp hE _ _).bz λ_=>λi a j hi h=>?_;split at h
  .cases h;omega
  .exact((aB.exp hE _ _).bz λ_=>pO.bl λ_=>aB.bP _) i a j hi h
theorem aB.d0l:aB l 1 (a0w kw andP rdP l ty):=λi a j hi h=>by
 unfold a0w at h;rw[cR]at h;cases hb:jI kw l i with
 |bad n e=>rw[hb]at h;cases h
 |ok o j'=>
  rw[hb]at h;cases o with
  |some t=>have:=a7L hE hi hb;simp only[kB]at h;cases h;omega
  |none=>
   have:=yN hb;subst this;simp only at h;split at h
   .exact aB.d7A hE pO hP _ a j hi h
   .split at h
    .exact aB.c6O hE pO hP _ a j hi h
    .exact aB.d3Z hE pO hP _ a j hi h
end
theorem aB.b1Y(hP:aB l 0 (pE rdP l)):∀n,aB l 1 (a1y kw andP rdP l n)
 |0=>λi a j hi h=>by unfold a1y at h;cases h
 |n+1=>aB.d0l hE ((aB.b1Y hP n).le (by omega)) hP
theorem aB.typ(hP:aB l 0 (pE rdP l)):aB l 1 (mD kw andP rdP l):=aB.b1Y hE hP _
theorem aB.types(hP:aB l 0 (pE rdP l)):aB l 0 (uM kw andP rdP l):=by unfold uM;refine(aB.skip hE _).bl λb=>aB.ite ?_ (aB.bP _);exact aB.bl (aB.list hE (λa=>(aB.typ hE hP).bz λ_=>aB.bP _) _) λ_=>(aB.exp hE _ _).bz λ_=>aB.bP _
end
end Go.Proofs.YtmfbjecjccipfaaGreatDoor
end
section
namespace Go.Proofs.YtmfbjecjccipfaaGreatDoor
section
variable {kw:Nm->Bool} {andP:Pr->Pr->Pr} {rdP:List Tok->Nat->Nat->gO Pr} {l:List Tok} {α β:Type} {m k:Nat}
theorem aB.nxt{x:bF α}(hx:aB l 0 x){i j:Nat}{a:α}(hi:i+1<l.length)(h:x (i+1)=.ok a j):i+1<=j/\j<l.length:=by have:=hx (i+1) a j hi h;omega
variable (hE:pK l)
include hE
section
variable {ex:Nat->bF cP} (hx:∀k,aB l 1 (ex k))
include hx
theorem aB.qG:aB l 1 (kW l ex):=by unfold kW;exact(aB.exp hE _ _).bl λ_=>aB.bl (aB.list hE (λa=>(hx 0).bz λ_=>aB.bP _) _) λ_=>(aB.exp hE _ _).bz λ_=>aB.bP _
theorem aB.d7B(op:Int):aB l 1 (a2U l ex op):=by unfold a2U;exact(aB.exp hE _ _).bl λ_=>(hx 0).bz λ_=>(aB.exp hE _ _).bz λ_=>aB.bP _
theorem aB.d0m:aB l 1 (xC kw l ex):=by
 unfold xC;refine(hx 0).bl λ_=>(aB.exp hE _ _).bz λ_=>aB.bl (aB.list hE (λa=>?_) _) λ_=>(aB.exp hE _ _).bz λ_=>aB.bP _;refine(aB.title hE).bz λ_=>aB.bl (λi b j hi h=>?_) λ_=>(aB.exp hE _ _).bz λ_=>(hx 0).bz λ_=>aB.bP _;split at h
 .exact((aB.words hE).le (by omega)) _ _ _ hi h
 .cases h;omega
section
variable (hP:aB l 0 (pE rdP l))
include hP
theorem aB.e9o:aB l 1 (a4t kw andP rdP l ex):=by unfold a4t;refine(aB.word hE).bl λ_=>(aB.skip hE _).bl λ_=>aB.bl (aB.ite ((aB.typ hE hP).bz λ_=>aB.bP _) (aB.bP _)) λ_=>?_;exact(aB.exp hE _ _).bz λ_=>(hx 0).bz λ_=>(aB.exp hE _ _).bz λ_=>(hx 0).bz λ_=>aB.bP _
theorem aB.e9p:aB l 1 (a4u kw andP rdP l ex):=by unfold a4u;refine(aB.exp hE _ _).bl λ_=>aB.bl (aB.list hE (λa=>?_) _) λ_=>(aB.exp hE _ _).bz λ_=>(hx 0).bz λ_=>aB.bP _;exact(aB.word hE).bz λ_=>(aB.skip hE _).bl λ_=>aB.bl (aB.ite ((aB.typ hE hP).le (by omega)) (aB.bP _)) λ_=>aB.bP _
theorem aB.e3w:aB l 1 (sF kw andP rdP l ex):=by
 unfold sF;refine(aB.exp hE _ _).bl λ_=>λi a j hi h=>?_;split at h
 .rename_i hc;simp only[g3q,g4e]at hc;have h2:=rD hE hi (a2V hE (show cQ (aJ l i) [45]=true from hc.1.1));have h3:=rD hE h2 (by omega);have h4:=rD hE h3 (a2V hE hc.2);cases h;omega
 .exact((hx 0).bz λe=>(aB.skip hE _).bl λb=>aB.bl (aB.ite ((aB.typ (kw:=kw) (andP:=andP) hE hP).bz λt=>aB.bP _) (aB.bP _)) λe=>(aB.exp hE _ _).bz λ_=>aB.bP _) i a j hi h
theorem aB.b7z:aB l 1 (zP kw andP rdP l ex):=λi a j hi h=>by
 unfold zP at h;split at h
 .rename_i hk;have:=rD hE hi (by omega);cases h;omega
 split at h
 .rename_i hs;have:=aV hE hi hs;cases h;omega
 split at h
 .rename_i hs;have:=aV hE hi hs;cases h;omega
 split at h
 .rename_i hs;exact((aB.d7B hE hx _).le (by omega)).nxt (aV hE hi hs) h
 split at h
 .rename_i hs;exact((aB.d7B hE hx _).le (by omega)).nxt (aV hE hi hs) h
 split at h
 .rename_i hs;exact((aB.exp hE _ _).bz λ_=>(hx 0).bz λ_=>(aB.exp hE _ _).bz λ_=>(hx 0).bz λ_=>(aB.exp hE _ _).bz λ_=>aB.bP _).nxt (aV hE hi hs) h
 split at h
 .rename_i hs;have hn:=a8O hE hi hs;split at h
  .cases h;omega
  .exact((aB.types hE hP).bl λ_=>(aB.qG hE hx).bz λ_=>aB.bP _).nxt hn h
 split at h
 .rename_i hs;refine((aB.types hE hP).bl λ_=>aB.bl (m:=0) (λi a j hi h=>?_) λ_=>aB.bP _).nxt (a8N hE hi hs) h;split at h
  .exact((aB.qG hE hx).le (by omega)) _ _ _ hi h
  .cases h;omega
 exact aB.e3w hE hx hP _ _ _ hi h
theorem aB.unG:aB l 1 (a6C kw andP rdP l ex):=λi a j hi h=>by
 unfold a6C at h;split at h
 .rename_i hs;exact((hx 7).bz λ_=>aB.bP _).nxt (aV hE hi hs) h
 .exact aB.b7z hE hx hP _ _ _ hi h
omit hx hP in
theorem aB.chain{ops:List (Nm×Int)}{one:bF cP}(h1:aB l 0 one):∀(g:Nat)(e:cP),aB l 0 (jE l ops one g e)
 |0,e=>λi b j hi h=>by unfold jE at h;cases h
 |g+1,e=>λi b j hi h=>by
  unfold jE at h;split at h
  .cases h;omega
  .rename_i p hp;have hs:aL l i p.1=true:=List.find?_some (p:=λp:Nm×Int=>aL l i p.1) hp;split at h
   .cases h
   .rename_i x j' ho;have h2:=h1.nxt (aV hE hi hs) ho;have h3:=aB.chain h1 g _ j' b j h2.2 h;omega
omit hx hP in
theorem aB.lvl{ops:List (Nm×Int)}{one:bF cP}(h1:aB l 1 one):aB l 1 (a1N l ops one):=by unfold a1N;exact h1.bl λ_=>aB.chain hE (h1.le (by omega)) _ _
theorem aB.d7C:aB l 1 (a8M kw andP rdP l ex):=aB.lvl hE (aB.unG hE hx hP)
theorem aB.b0J:aB l 1 (qT kw andP rdP l ex):=aB.lvl hE (aB.d7C hE hx hP)
theorem aB.a9w:aB l 1 (a4v kw andP rdP l ex):=by
 unfold a4v;refine(aB.b0J hE hx hP).bl λe=>λi a j hi h=>?_
 repeat' split at h
 all_goals first
  |(cases h;omega)
  |(rename_i hs
    have:=((aB.b0J hE hx hP).bz λ_=>aB.bP _).nxt (aV hE hi hs) h;omega)
theorem aB.b3M:aB l 1 (a1z kw andP rdP l ex):=λi a j hi h=>by
 unfold a1z at h;split at h
 .rename_i hs;exact((hx 3).bz λ_=>aB.bP _).nxt (aV hE hi hs) h
 .exact aB.a9w hE hx hP _ _ _ hi h
theorem aB.orG:aB l 1 (c1L kw andP rdP l ex):=aB.lvl hE (aB.lvl hE (aB.b3M hE hx hP))
theorem aB.exG:aB l 1 (a7J kw andP rdP l ex):=λi a j hi h=>by
 unfold a7J at h;split at h
 .rename_i hs;exact((aB.e9o hE hx hP).le (by omega)).nxt (aV hE hi hs) h
 split at h
 .rename_i hs;exact((hx 0).bz λ_=>(aB.exp hE _ _).bz λ_=>(hx 0).bz λ_=>(aB.exp hE _ _).bz λ_=>(hx 0).bz λ_=>aB.bP _).nxt (aV hE hi hs) h
 split at h
 .rename_i hs;exact((aB.d0m hE hx).le (by omega)).nxt (aV hE hi hs) h
 split at h
 .rename_i hs;exact((aB.e9p hE hx hP).le (by omega)).nxt (aV hE hi hs) h
 split at h
 .rename_i hs;exact((aB.word hE).bz λ_=>(aB.qG hE hx).bz λ_=>(aB.exp hE _ _).bz λ_=>(hx 0).bz λ_=>aB.bP _).nxt (aV hE hi hs) h
 exact aB.orG hE hx hP _ _ _ hi h
end
end
theorem aB.exF(hP:aB l 0 (pE rdP l)):∀n k,aB l 1 (yM kw andP rdP l n k)
 |0,k=>λi a j hi h=>by unfold yM at h;cases h
 |n+1,k=>by unfold yM;exact aB.ite (aB.unG hE (aB.exF hP n) hP) (aB.ite (aB.b3M hE (aB.exF hP n) hP) (aB.exG hE (aB.exF hP n) hP))
theorem aB.expr(hP:aB l 0 (pE rdP l)):aB l 1 (sG kw andP rdP l):=aB.exF hE hP _ _
end
end Go.Proofs.YtmfbjecjccipfaaGreatDoor
end
section
namespace Go.Proofs.YtmfbjecjccipfaaGreatDoor
section
variable {kw:Nm->Bool} {andP:Pr->Pr->Pr} {rdP:List Tok->Nat->Nat->gO Pr} {l:List Tok} {α β:Type} {m k:Nat}
variable (hE:pK l)
include hE
theorem aB.wN:aB l 1 (uN kw l):=by unfold uN;exact aB.list hE (λa=>(aB.title hE).bl λ_=>(aB.word hE).bz λ_=>aB.bP _) _
theorem aB.head(mode:Int):aB l 1 (xY kw l mode):=by
 unfold xY;refine(aB.word hE).bl λname=>aB.bl (m:=0) (λi a j hi h=>?_) λ_=>aB.bP _;split at h
 .rename_i hs;have h1:=aV hE hi hs;split at h
  .rename_i hf;have h2:=rD hE h1 (a2V hE hf);cases h;omega
  .exact((aB.words hE).le (by omega)) _ _ _ hi h
 .cases h;omega
variable (hP:aB l 0 (pE rdP l))
include hP
theorem aB.bound:aB l 1 (uO kw rdP l):=by unfold uO;exact(aB.word hE).bl λ_=>(aB.exp hE _ _).bz λ_=>(aB.vars hE _).bz λ_=>(aB.exp hE _ _).bz λ_=>hP.bl λ_=>(aB.exp hE _ _).bz λ_=>hP.bl λ_=>(aB.exp hE _ _).bz λ_=>aB.bP _
theorem aB.con:aB l 1 (a9P kw andP rdP l):=by unfold a9P;refine(aB.title hE).bl λ_=>(aB.skip hE _).bl λb=>aB.ite ?_ (aB.bP _);refine aB.bl (aB.list hE (λa=>?_) _) λ_=>(aB.exp hE _ _).bz λ_=>aB.bP _;exact(aB.word hE).bz λ_=>(aB.exp hE _ _).bz λ_=>(aB.typ hE hP).bz λ_=>aB.bP _
theorem aB.data:aB l 1 (a0x kw andP rdP l):=by unfold a0x;refine(aB.title hE).bl λ_=>aB.bl (aB.many (λa=>(aB.word hE).bz λ_=>aB.bP _) _) λ_=>(aB.skip hE _).bl λb=>?_;refine aB.bl (aB.ite ((aB.vars hE _).bz λ_=>(aB.exp hE _ _).bz λ_=>aB.bP _) (aB.bP _)) λ_=>(aB.exp hE _ _).bz λ_=>?_;exact aB.bl (aB.list hE (λa=>(aB.con hE hP).bz λ_=>aB.bP _) _) λ_=>aB.bP _
theorem aB.cls:aB l 1 (wA kw andP rdP l):=by unfold wA;refine(aB.title hE).bl λ_=>(aB.word hE).bz λ_=>(aB.exp hE _ _).bz λ_=>aB.bl (aB.list hE (λa=>?_) _) λ_=>aB.bP _;exact(aB.word hE).bz λ_=>(aB.exp hE _ _).bz λ_=>(aB.typ hE hP).bz λ_=>aB.bP _
theorem aB.d4a:aB l 1 (a1B kw rdP l):=by
 unfold a1B;refine(aB.word hE).bl λ_=>(aB.exp hE _ _).bz λ_=>(aB.title hE).bz λ_=>(aB.exp hE _ _).bz λ_=>(aB.sort hE).bz λ_=>(aB.exp hE _ _).bz λ_=>?_;refine aB.bl (aB.list hE (λa=>?_) _) λ_=>(aB.exp hE _ _).bz λ_=>(aB.skip hE _).bl λb=>(aB.ite hP (aB.bP _)).bl λ_=>aB.bP _;refine(aB.title hE).bz λ_=>aB.bl (m:=0) (λi a j hi h=>?_) λ_=>(aB.exp hE _ _).bz λ_=>hP.bl λ_=>aB.bP _;split at h
 .exact((aB.words hE).le (by omega)) _ _ _ hi h
 .cases h;omega
theorem aB.d4b:aB l 1 (a1C kw rdP l):=by unfold a1C;exact(aB.word hE).bl λ_=>(aB.exp hE _ _).bz λ_=>(aB.vars hE _).bz λ_=>(aB.exp hE _ _).bz λ_=>hP.bl λ_=>aB.bP _
theorem aB.body(d:gB):aB l 1 (zQ kw andP rdP l d):=by unfold zQ;exact(aB.exp hE _ _).bl λ_=>(aB.expr hE hP).bz λ_=>aB.bP _
def a5L(rdP:List Tok->Nat->Nat->gO Pr)(l:List Tok):Prop:=∀e i p j,i<l.length->rdP l i e=.ok p j->i<=j/\j<l.length
omit hE hP in
theorem a5L.pred(h:a5L rdP l):aB l 0 (pE rdP l):=λi a j hi hx=>by have:=h l.length i a j hi hx;omega
end
section
variable {kw:Nm->Bool} {andP:Pr->Pr->Pr} {rdP:List Tok->Nat->Nat->gO Pr} {l:List Tok}
variable (hE:pK l) (hB:a5L rdP l)
include hE hB
theorem aB.sig:aB l 1 (tP kw andP rdP l):=by have hP:=hB.pred;unfold tP;refine aB.br (aB.skip hE _) λb=>aB.br (aB.ite ((aB.word hE).bz λ_=>(aB.many (λa=>(aB.word hE).bz λ_=>aB.bP _) _).bl λ_=>(aB.exp hE _ _).bz λ_=>aB.bP _) (aB.bP _)) λ_=>?_;refine aB.br (aB.skip hE _) λb=>aB.br (aB.ite ((aB.wN hE).bz λ_=>(aB.exp hE _ _).bz λ_=>aB.bP _) (aB.bP _)) λ_=>?_;refine aB.br (aB.skip hE _) λb=>aB.br (aB.ite ((aB.vars hE _).bz λ_=>(aB.exp hE _ _).bz λ_=>aB.bP _) (aB.bP _)) λ_=>?_;refine aB.br (aB.many (λa=>(aB.exp hE _ _).bz λ_=>(aB.bound hE hP).bz λ_=>aB.bP _) _) λ_=>?_;refine(aB.typ hE hP).bl λ_=>(aB.skip hE _).bl λb=>aB.bl (aB.ite (λi a j hi h=>?_) (aB.bP _)) λ_=>aB.bP _;refine aB.list hE (m:=0) (λa=>aB.bl (m:=0) (λi' p j' hi' h'=>?_) λ_=>aB.bP _) _ i a j hi h;have:=hB _ _ _ _ hi' h';omega
theorem aB.defn{i j:Nat}{d:Option gB}(hi:i<l.length)(h:xD kw andP rdP l i=.ok d j):(d=none/\j=i)\/(i+1<=j/\j<l.length):=by
 have hP:=hB.pred;unfold xD at h;split at h
 .rename_i hs;refine .inr ((((aB.head hE _).bz λ_=>(aB.skip hE _).bl λ_=>aB.bl (aB.ite ((aB.sig hE hB).bz λ_=>aB.bP _) (aB.bP _)) λ_=>((aB.body hE hP _).le (by omega:0<=1)))).nxt (aV hE hi hs) h)
 split at h
 .rename_i hs;exact .inr (((aB.head hE _).bz λ_=>(aB.exp hE _ _).bz λ_=>(aB.sig hE hB).bz λ_=>aB.bP _).nxt (aV hE hi hs) h)
 split at h
 .rename_i hs;exact .inr (((aB.head hE _).bz λ_=>(aB.exp hE _ _).bz λ_=>(aB.sig hE hB).bz λ_=>((aB.body hE hP _).le (by omega:0<=1))).nxt (aV hE hi hs) h)
 cases h;exact .inl ⟨rfl,rfl⟩
theorem aB.c0o:aB l 0 (xD kw andP rdP l):=λi d j hi h=>by
 rcases aB.defn hE hB hi h with⟨_,rfl⟩|h'
 .omega
 .omega
theorem aB.inst:aB l 1 (a1A kw andP rdP l):=by have hP:=hB.pred;unfold a1A;refine(aB.title hE).bl λ_=>(aB.a2W hE ((aB.typ hE hP).le (by omega)) hP).bz λ_=>(aB.skip hE _).bl λb=>(aB.ite ((aB.wN hE).le (by omega)) (aB.bP _)).bl λ_=>(aB.exp hE _ _).bz λ_=>?_;exact aB.bl (aB.many (λa=>(aB.c0o hE hB).bl λ_=>(aB.exp hE _ _).bz λ_=>aB.bP _) _) λ_=>(aB.exp hE _ _).bz λ_=>aB.bP _
theorem aB.decl(m:eK):aB l 1 (vI kw andP rdP l m):=λi a j hi h=>by
 have hP:=hB.pred;unfold vI at h;split at h
 .rename_i hs;exact((aB.data hE hP).bz λ_=>aB.bP _).nxt (aV hE hi hs) h
 split at h
 .rename_i hs;exact((aB.cls hE hP).bz λ_=>aB.bP _).nxt (aV hE hi hs) h
 split at h
 .rename_i hs;exact((aB.inst hE hB).bz λ_=>aB.bP _).nxt (aV hE hi hs) h
 split at h
 .rename_i hs;exact((aB.d4a hE hP).bz λ_=>aB.bP _).nxt (aV hE hi hs) h
 split at h
 .rename_i hs;exact((aB.d4b hE hP).bz λ_=>aB.bP _).nxt (aV hE hi hs) h
 rw[cR]at h;cases hd:xD kw andP rdP l i with
 |bad n e=>rw[hd]at h;cases h
 |ok d j'=>
  rw[hd]at h;rcases aB.defn hE hB hi hd with⟨rfl,rfl⟩|h'
  .simp only[eV]at h;cases h
  .cases d with
   |none=>simp only[eV]at h;cases h
   |some d=>simp only[kB]at h;cases h;exact h'
end
end Go.Proofs.YtmfbjecjccipfaaGreatDoor
end
section
namespace Go.Proofs.YtmfbjecjccipfaaGreatDoor
def a0j{α:Type}:gO α->gO α->Prop
 |.ok a j,.ok b k=>a=b/\j=k
 |.bad _ e,.bad _ f=>e=f
 |_,_=>False
def kD{α:Type}(x y:bF α):Prop:=∀i,a0j (x i) (y i)
structure c6P (l l':List Tok):Prop where
 len:l'.length=l.length
 kind:∀i,(aJ l' i).kind=(aJ l i).kind
 text:∀i,(aJ l' i).text=(aJ l i).text
 n:∀i,(aJ l' i).n=(aJ l i).n
section
variable {α β:Type}
theorem a0j.refl(r:gO α):a0j r r:=by cases r<;>simp[a0j]
theorem kD.refl(x:bF α):kD x x:=λi=>a0j.refl _
theorem kD.xW{x y:bF α}{f g:α->bF β}(h:kD x y)(hf:∀a,kD (f a) (g a)):kD (x >>=f) (y >>=g):=λi=>by
 have h1:=h i;rw[cR,cR];cases hx:x i with
 |ok a j=>cases hy:y i with
  |ok b k=>rw[hx,hy]at h1;obtain⟨rfl,rfl⟩:=h1;exact hf a j
  |bad n e=>rw[hx,hy]at h1;exact h1.elim
 |bad n e=>cases hy:y i with
  |ok b k=>rw[hx,hy]at h1;exact h1.elim
  |bad n' e'=>rw[hx,hy]at h1;exact h1
variable{c:Prop}
theorem kD.ite[Decidable c]{x y x' y':bF α}(h:kD x x')(h':kD y y'):kD (if c then x else y) (if c then x' else y'):=by
 split
 .exact h
 .exact h'
theorem a0j.ite{c':Prop}[Decidable c][Decidable c'](hc:c↔c'){x y x' y':gO α}(h:a0j x x')(h':a0j y y'):a0j (if c then x else y) (if c' then x' else y'):=by
 by_cases h1:c
 .rw[if_pos h1,if_pos (hc.1 h1)];exact h
 .rw[if_neg h1,if_neg (λh2=>h1 (hc.2 h2))];exact h'
variable {kw:Nm->Bool} {andP:Pr->Pr->Pr} {rdP:List Tok->Nat->Nat->gO Pr} {l l':List Tok} (hS:c6P l l')
include hS
theorem c6P.fix(i:Nat)(s:Nm):cQ (aJ l' i) s=cQ (aJ l i) s:=by unfold cQ;rw[hS.kind,hS.text]
theorem c6P.is(i:Nat)(s:Nm):aL l' i s=aL l i s:=hS.fix i s
theorem c6P.wd(i:Nat):kL kw (aJ l' i)=kL kw (aJ l i):=by unfold kL;rw[hS.kind,hS.text]
theorem c6P.ti(i:Nat):rW (aJ l' i)=rW (aJ l i):=by unfold rW;rw[hS.kind]
theorem kD.exp:∀s,kD (aR l' s) (aR l s)
 |[]=>kD.refl _
 |s::r=>λi=>by unfold aR;rw[hS.is];exact a0j.ite Iff.rfl (kD.exp r (i+1)) rfl
theorem kD.skip(s:Nm):kD (cS l' s) (cS l s):=λi=>by unfold cS;rw[hS.is];exact a0j.refl _
theorem kD.word:kD (bV kw l') (bV kw l):=λi=>by unfold bV pD;rw[hS.wd,hS.text];exact a0j.ite Iff.rfl (a0j.refl _) rfl
theorem kD.sort:kD (a1x kw l') (a1x kw l):=λi=>by unfold a1x pD;simp only[hS.ti,hS.wd,hS.text];exact a0j.ite Iff.rfl (a0j.refl _) rfl
theorem kD.loop{c:Nm}{one one':α->bF α}(h:∀a,kD (one' a) (one a)):∀(g:Nat)(a:α),kD (jC l' c one' g a) (jC l c one g a)
 |0,a=>λi=>rfl
 |g+1,a=>λi=>by
  unfold jC;have h1:=h a i;cases hx:one' a i with
  |ok b j=>cases hy:one a i with
   |ok b' j'=>rw[hx,hy]at h1;obtain⟨rfl,rfl⟩:=h1;simp only;rw[hS.is];exact a0j.ite Iff.rfl (kD.loop h g b (j+1)) (a0j.refl _)
   |bad n e=>rw[hx,hy]at h1;exact h1.elim
  |bad n e=>cases hy:one a i with
   |ok b' j'=>rw[hx,hy]at h1;exact h1.elim
   |bad n' e'=>rw[hx,hy]at h1;exact h1
theorem kD.list{c:Nm}{one one':α->bF α}(h:∀a,kD (one' a) (one a))(a:α):kD (dJ l' c one' a) (dJ l c one a):=by unfold dJ;rw[hS.len];exact kD.loop hS h _ a
theorem kD.vars(v:Bool):kD (sE kw l' v) (sE kw l v):=by unfold sE;exact kD.list hS (λa=>(kD.ite (kD.skip hS _) (kD.refl _)).xW λb=>(kD.ite (kD.refl _) (kD.word hS)).xW λ_=>(kD.exp hS _).xW λ_=>(kD.sort hS).xW λ_=>kD.refl _) _
theorem kD.base:kD (jI kw l') (jI kw l):=λi=>by unfold jI;simp only[hS.is,hS.wd,hS.text];exact a0j.refl _
end
end Go.Proofs.YtmfbjecjccipfaaGreatDoor
end
section
namespace Go.Proofs.YtmfbjecjccipfaaGreatDoor
open Go Go.VM
def dP(x:psV):List D:=[.str x.1,.str x.2]
def a0y(p:Nm×Ty):List D:=.str p.1::tyC p.2
def a2c:cP->List D
 |⟨op,nm,n,ks,ps,al,ts⟩=>[.int .i64 op,.str nm,.int .i64 n,.sl (ks.map a2c),.sl (ps.map a0y),.sl (al.attach.map λa=>.str a.1.1::.sl (strs a.1.2.1)::a2c a.1.2.2),.sl (ts.map tyC)]
termination_by e=>SizeOf.sizeOf e
decreasing_by
 .have:=List.sizeOf_lt_of_mem ‹_∈ks›;simp only[cP.mk.sizeOf_spec];omega
 .obtain⟨⟨a,b,c⟩,ha⟩:=a;have:=List.sizeOf_lt_of_mem ha;simp only[Prod.mk.sizeOf_spec]at this;simp only[cP.mk.sizeOf_spec];omega
def b1Z(a:Nm×List Nm×cP):List D:=.str a.1::.sl (strs a.2.1)::a2c a.2.2
theorem cB(e:cP):a2c e=[.int .i64 e.op,.str e.name,.int .i64 e.n,.sl (e.kids.map a2c),.sl (e.params.map a0y),.sl (e.alts.map b1Z),.sl (e.types.map tyC)]:=by
 cases e;rw[a2c];simp only[List.cons.injEq,D.sl.injEq,true_and,and_true]
 first
  |exact List.attach_map_val (f:=b1Z)
  |exact List.attach_map_val _ b1Z
  |(conv=>rhs;rw[<-List.attach_map_subtype_val ‹List (Nm×List Nm×cP)›,List.map_map]
    rfl)
def b0K(b:pR):List D:=[.str b.name,.sl (b.vars.map dP)]++qF b.hyp++qF b.goal
def e3x(s:a0i):List D:=[.sl (strs s.vars),.sl (s.wN.map dP),.sl (s.abs.map dP),.sl (s.bounds.map b0K)]++tyC s.type++[.sl (s.a5K.map qF)]
def a2X(d:gB):List D:=[.str d.name,.sl (strs d.params)]++a2c d.body++[.int .i64 d.mode,.bool d.typed]++e3x d.sig
def a5b(c:a1M):List D:=[.str c.name,.sl (strs c.names),.sl (c.fields.map tyC)]
def yO(d:a4s):List D:=[.str d.name,.sl (strs d.vars),.sl (d.a6B.map dP),.sl (d.cons.map a5b)]
def a0k(c:xK):List D:=[.str c.name,.str c.var,.sl (c.methods.map a0y)]
def a2Y(x:a7G):List D:=[.str x.cls]++tyC x.type++[.sl (x.wN.map dP),.sl (x.defs.map a2X)]
def a1O(x:a7H):List D:=[.str x.name,.str x.data,.str x.result,.sl (x.cases.map λc=>.str c.1::.sl (strs c.2.1)::qF c.2.2)]++qF x.inv
def a2Z(q:a7I):List D:=[.str q.name,.sl (q.vars.map dP)]++qF q.body
def a1j(m:eK):List D:=[.sl (m.a2S.map yO),.sl (m.vY.map a0k),.sl (m.insts.map a2Y),.sl (m.a2T.map a1O),.sl (m.a4Z.map a2Z),.sl (m.defs.map a2X)]
end Go.Proofs.YtmfbjecjccipfaaGreatDoor
end
end
