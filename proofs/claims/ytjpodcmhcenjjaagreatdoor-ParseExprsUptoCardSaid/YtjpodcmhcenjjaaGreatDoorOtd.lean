/- Lemmas that the law of this claim needs (ZJ ZV VmR). No condition. -/
import Derived.Test.YtjpodcmhcenjjaaGreatDoorOta
import Derived.Test.YtjpodcmhcenjjaaGreatDoorOtc
import Derived.Laws.CopyRow
import Derived.Laws.MakeOwn
import Derived.RangeFuncOwn
set_option linter.unusedVariables false
set_option linter.unusedSimpArgs false
set_option linter.unusedSectionVars false
set_option maxRecDepth 100000
set_option maxHeartbeats 64000000
open Go.Proofs.Tryz
section
section
namespace Go.Proofs.YtjpodcmhcenjjaaGreatDoor
structure cG where
 op:Int
 name:Nm
 n:Int
 kids:List cG
 params:List (Nm×Ty)
 alts:List (Nm×List Nm×cG)
 types:List Ty
abbrev psV:=Nm×Nm
structure uO where
 name:Nm
 vars:List psV
 hyp:Pr
 goal:Pr
structure c0c where
 vars:List Nm
 a5r:List psV
 abs:List psV
 bounds:List uO
 type:Ty
 c1T:List Pr
structure rL where
 name:Nm
 params:List Nm
 body:cG
 mode:Int
 typed:Bool
 sig:c0c
structure a8x where
 name:Nm
 names:List Nm
 fields:List Ty
structure b5V where
 name:Nm
 vars:List Nm
 b0F:List psV
 cons:List a8x
structure b0H where
 name:Nm
 var:Nm
 methods:List (Nm×Ty)
structure b5W where
 cls:Nm
 type:Ty
 a5r:List psV
 defs:List rL
structure b5X where
 name:Nm
 data:Nm
 result:Nm
 cases:List (Nm×List Nm×Pr)
 inv:Pr
structure b5Y where
 name:Nm
 vars:List psV
 body:Pr
structure qT where
 b5Z:List b5V
 b0I:List b0H
 insts:List b5W
 b6a:List b5X
 c5m:List b5Y
 defs:List rL
def eY:Pr:=⟨0,[],0,[]⟩
def mO:Ty:=⟨0,[],[],[],eY,[]⟩
def xS:cG:=⟨0,[],0,[],[],[],[]⟩
def b8H:c0c:=⟨[],[],[],[],mO,[]⟩
def vP(op:Int)(name:Nm):Ty:=⟨op,name,[],[],eY,[]⟩
def cD(op:Int)(kids:List cG):cG:=⟨op,[],0,kids,[],[],[]⟩
inductive kJ (α:Type) where
 |ok (a:α) (at':Nat)
 |bad (line err:Int)
def bE(α:Type):=Nat->kJ α
def bE.bY{α:Type}(a:α):bE α:=λi=>.ok a i
def bE.yK{α β:Type}(x:bE α)(f:α->bE β):bE β:=λi=>match x i with
 | .ok a j=>f a j
 | .bad n e=>.bad n e
instance:Monad bE where
 pure:=bE.bY
 bind:=bE.yK
@[simp] theorem jG{α:Type}(a:α)(i:Nat):(pure a:bE α) i=.ok a i:=rfl
theorem dN{α β:Type}(x:bE α)(f:α->bE β)(i:Nat):(x >>=f) i=match x i with
 | .ok a j=>f a j
 | .bad n e=>.bad n e:=rfl
theorem bP{α β:Type}{x:bE α}{f:α->bE β}{i j:Nat}{a:α}(h:x i=.ok a j):(x >>=f) i=f a j:=by rw[dN,h]
theorem jU{α β:Type}{x:bE α}{f:α->bE β}{i:Nat}{n e:Int}(h:x i=.bad n e):(x >>=f) i=.bad n e:=by rw[dN,h]
section
variable (kw:Nm->Bool) (andP:Pr->Pr->Pr) (aE:List Tok->Nat->Nat->kJ Pr) (l:List Tok)
def aG(i:Nat):Tok:=if i<l.length then l.getD i ⟨0,[],0,0⟩ else l.getLastD ⟨0,[],0,0⟩
def cV(t:Tok)(s:Nm):Bool:=(decide (t.kind=1)||decide (t.kind=4)||decide (t.kind=2))&&decide (t.text=s)
def jV(t:Tok):Bool:=decide (t.kind=1)&& !kw t.text
def qJ(t:Tok):Bool:=decide (t.kind=2)
def aH(i:Nat)(s:Nm):Bool:=cV (aG l i) s
def eH{α:Type}:bE α:=λi=>.bad (aG l i).line 14
def cQ(s:Nm):bE Bool:=λi=>if aH l i s then .ok true (i+1) else .ok false i
def aY:List Nm->bE Unit
 |[]=>pure ()
 |s::r=>λi=>if aH l i s then aY r (i+1) else eH l i
def oQ(ok:Tok->Bool):bE Nm:=λi=>if ok (aG l i) then .ok (aG l i).text (i+1) else eH l i
def bW:bE Nm:=oQ l (jV kw)
def gT:bE Nm:=oQ l qJ
def yX:bE Nm:=oQ l λt=>jV kw t||qJ t
def gN{α:Type}(c:Nm)(one:α->bE α):Nat->α->bE α
 |0,_=>λ_=>.bad 0 1
 |g+1,a=>λi=>match one a i with
  | .bad n e=>.bad n e
  | .ok b j=>if aH l j c then gN c one g b (j+1) else .ok b j
def dP{α:Type}(c:Nm)(one:α->bE α)(a:α):bE α:=gN l c one (l.length+2) a
def eD{α:Type}(c:Nat->Bool)(one:α->bE α):Nat->α->bE α
 |0,_=>λ_=>.bad 0 1
 |g+1,a=>λi=>if c i then(match one a i with
  | .bad n e=>.bad n e
  | .ok b j=>eD c one g b j) else .ok a i
def sW{α:Type}(c:Nat->Bool)(one:α->bE α)(a:α):bE α:=eD c one (l.length+2) a
def mP:bE Pr:=λi=>aE l i l.length
def gA:bE (List Nm):=do
 aY l [[40]]
 let out <- dP l [44] (λout=>do let w <- bW kw l;pure (out++[w])) []
 aY l [[41]]
 pure out
def sX(v:Bool):bE (List psV):=dP l [44] (λout=>do
 let b <- (if v then cQ l [118] else pure false)
 let name <- (if b then pure [118] else bW kw l)
 aY l [[58]]
 let s <- yX kw l
 pure (out++[(name,s)])) []
def gO:bE (Option Ty):=λi=>
 if aH l i [73,110,116] then .ok (some (vP 1 [])) (i+1)
 else if aH l i [66,111,111,108] then .ok (some (vP 2 [])) (i+1)
 else if aH l i [67,101,108,108] then .ok (some (vP 3 [])) (i+1)
 else if jV kw (aG l i) then .ok (some (vP 5 (aG l i).text)) (i+1)
 else .ok none i
section
variable (ty:bE Ty)
def xU:bE Ty:=do
 aY l [[123],[118],[58]]
 let t <- ty
 if t.op=6 then eH l else do
 aY l [[124]]
 let p <- mP aE l
 aY l [[125]]
 pure {t with pred:=if t.pred.op=0 then p else andP t.pred p}
def b3t(i:Nat):Bool:=jV kw (aG l i)||qJ (aG l i)||aH l i [123]||aH l i [40]
def kW:bE Ty:=do
 let b <- gO kw l
 match b with
 |some t=>pure t
 |none=>
  λi=>
  if qJ (aG l i) then .ok (vP 4 (aG l i).text) (i+1)
  else if aH l i [123] then xU andP aE l ty i
  else(do
   aY l [[40]]
   let t <- ty
   aY l [[41]]
   pure t:bE Ty) i
def vX:bE Ty:=do
 let name <- gT l
 let args <- sW l (b3t kw l) (λout=>do let t <- kW kw andP aE l ty;pure (out++[t])) []
 let b <- cQ l [60]
 if b then do
  let ps <- dP l [44] (λout=>do
   aY l [[118],[46]]
   let p <- mP aE l
   pure (out++[p])) []
  aY l [[62]]
  pure {vP 4 name with args:=args,b0F:=ps}
 else pure {vP 4 name with args:=args}
def xV:bE Ty:=do
 aY l [[40]]
 let (ns,ts) <- (λi=>if jV kw (aG l i)&&cV (aG l (i+1)) [58] then
   dP l [44] (λ(out:List Nm×List Ty)=>do
    let w <- bW kw l
    aY l [[58]]
    let t <- ty
    pure (out.1++[w],out.2++[t])) ([],[]) i
  else dP l [44] (λ(out:List Nm×List Ty)=>do
    let t <- ty
    pure (out.1,out.2++[t])) ([],[]) i:bE (List Nm×List Ty))
 aY l [[41]]
 λi=>
  if decide (ns.length=0)&&decide (ts.length=1)&& !aH l i [45,62] then .ok (ts.headD mO) i
  else(do
   aY l [[45,62]]
   let t <- ty
   pure {vP 6 []with names:=ns,args:=ts++[t]}:bE Ty) i
def yY:bE Ty:=do
 let b <- gO kw l
 match b with
 |some t=>pure t
 |none=>
  λi=>
  if qJ (aG l i) then vX kw andP aE l ty i
  else if aH l i [123] then xU andP aE l ty i
  else xV kw l ty i
end
def yZ:Nat->bE Ty
 |0=>λ_=>.bad 0 1
 |n+1=>yY kw andP aE l (yZ n)
def jI:bE Ty:=yZ kw andP aE l (l.length+2)
def rY:bE (List Ty):=do
 let b <- cQ l [91]
 if b then do
  let out <- dP l [44] (λout=>do let t <- jI kw andP aE l;pure (out++[t])) []
  aY l [[93]]
  pure out
 else pure []
section
variable (ex:Nat->bE cG)
def jH:bE (List cG):=do
 aY l [[40]]
 let out <- dP l [44] (λout=>do let e <- ex 0;pure (out++[e])) []
 aY l [[41]]
 pure out
def a3j:bE cG:=do
 let name <- bW kw l
 let b <- cQ l [58]
 let ts <- (if b then do let t <- jI kw andP aE l;pure [t] else pure []:bE (List Ty))
 aY l [[61]]
 let a <- ex 0
 aY l [[105,110]]
 let c <- ex 0
 pure {cD 7 [a,c]with name:=name,types:=ts}
def vQ:bE cG:=do
 let e <- ex 0
 aY l [[111,102],[123]]
 let alts <- dP l [59] (λout=>do
  let c <- gT l
  let ns <- (λi=>if aH l i [40] then gA kw l i else .ok [] i:bE (List Nm))
  aY l [[45,62]]
  let b <- ex 0
  pure (out++[(c,ns,b)])) []
 aY l [[125]]
 pure {cD 9 [e]with alts:=alts}
def a3k:bE cG:=do
 aY l [[40]]
 let ps <- dP l [44] (λout=>do
  let w <- bW kw l
  let b <- cQ l [58]
  let t <- (if b then jI kw andP aE l else pure mO)
  pure (out++[(w,t)])) []
 aY l [[41],[45,62]]
 let e <- ex 0
 pure {cD 6 [e]with params:=ps}
def a1Q(op:Int):bE cG:=do
 aY l [[40]]
 let e <- ex 0
 aY l [[41]]
 pure (cD op [e])
def pU:bE cG:=do
 aY l [[40]]
 λi=>
  if aH l i [45]&&decide ((aG l (i+1)).kind=3)&&cV (aG l (i+2)) [41] then .ok ⟨1,[], -(aG l (i+1)).n,[],[],[],[]⟩ (i+3)
  else(do
   let e <- ex 0
   let b <- cQ l [58]
   let e <- (if b then do let t <- jI kw andP aE l;pure {cD 26 [e]with types:=[t]} else pure e:bE cG)
   aY l [[41]]
   pure e:bE cG) i
def xW:bE cG:=λi=>
 if (aG l i).kind=3 then .ok ⟨1,[],(aG l i).n,[],[],[],[]⟩ (i+1)
 else if aH l i [116,114,117,101] then .ok ⟨2,[],1,[],[],[],[]⟩ (i+1)
 else if aH l i [102,97,108,115,101] then .ok ⟨2,[],0,[],[],[],[]⟩ (i+1)
 else if aH l i [110,101,119] then a1Q l ex 22 (i+1)
 else if aH l i [103,101,116] then a1Q l ex 23 (i+1)
 else if aH l i [115,101,116] then(do
  aY l [[40]]
  let a <- ex 0
  aY l [[44]]
  let b <- ex 0
  aY l [[41]]
  pure (cD 24 [a,b]):bE cG) (i+1)
 else if jV kw (aG l i) then
  (if !aH l (i+1) [91]&& !aH l (i+1) [40] then .ok {cD 3 []with name:=(aG l i).text} (i+1)
  else(do
   let ts <- rY kw andP aE l
   let ks <- jH l ex
   pure {cD 5 ks with name:=(aG l i).text,types:=ts}:bE cG) (i+1))
 else if qJ (aG l i) then(do
  let ts <- rY kw andP aE l
  let ks <- (λj=>if aH l j [40] then jH l ex j else .ok [] j:bE (List cG))
  pure {cD 4 ks with name:=(aG l i).text,types:=ts}:bE cG) (i+1)
 else pU kw andP aE l ex i
def a3K:bE cG:=λi=>if aH l i [45] then(do let e <- ex 7;pure (cD 15 [e]):bE cG) (i+1) else xW kw andP aE l ex i
def gB(ops:List (Nm×Int))(one:bE cG):Nat->cG->bE cG
 |0,_=>λ_=>.bad 0 1
 |g+1,e=>λi=>match ops.find? λp=>aH l i p.1 with
  |none=>.ok e i
  |some p=>match one (i+1)with
   | .bad n e=>.bad n e
   | .ok x j=>gB ops one g (cD p.2 [e,x]) j
def a0M(ops:List (Nm×Int))(one:bE cG):bE cG:=do
 let e <- one
 gB l ops one (l.length+2) e
def a7z:bE cG:=a0M l [([42],12),([100,105,118],13),([109,111,100],14)] (a3K kw andP aE l ex)
def oR:bE cG:=a0M l [([43],10),([45],11)] (a7z kw andP aE l ex)
def a3l:bE cG:=do
 let e <- oR kw andP aE l ex
 λi=>
  if aH l i [61,61] then(do let x <- oR kw andP aE l ex;pure (cD 16 [e,x]):bE cG) (i+1)
  else if aH l i [33,61] then(do let x <- oR kw andP aE l ex;pure (cD 21 [cD 16 [e,x]]):bE cG) (i+1)
  else if aH l i [60] then(do let x <- oR kw andP aE l ex;pure (cD 17 [e,x]):bE cG) (i+1)
  else if aH l i [60,61] then(do let x <- oR kw andP aE l ex;pure (cD 18 [e,x]):bE cG) (i+1)
  else if aH l i [62] then(do let x <- oR kw andP aE l ex;pure (cD 17 [x,e]):bE cG) (i+1)
  else if aH l i [62,61] then(do let x <- oR kw andP aE l ex;pure (cD 18 [x,e]):bE cG) (i+1)
  else .ok e i
def zA:bE cG:=λi=>if aH l i [33] then(do let e <- ex 3;pure (cD 21 [e]):bE cG) (i+1) else a3l kw andP aE l ex i
def b2n:bE cG:=a0M l [([38,38],19)] (zA kw andP aE l ex)
def b6b:bE cG:=a0M l [([124,124],20)] (b2n kw andP aE l ex)
def a6u:bE cG:=λi=>
 if aH l i [108,101,116] then a3j kw andP aE l ex (i+1)
 else if aH l i [105,102] then(do
  let a <- ex 0
  aY l [[116,104,101,110]]
  let b <- ex 0
  aY l [[101,108,115,101]]
  let c <- ex 0
  pure (cD 8 [a,b,c]):bE cG) (i+1)
 else if aH l i [99,97,115,101] then vQ kw l ex (i+1)
 else if aH l i [102,117,110] then a3k kw andP aE l ex (i+1)
 else if aH l i [117,115,101] then(do
  let name <- bW kw l
  let ks <- jH l ex
  aY l [[105,110]]
  let b <- ex 0
  pure {cD 25 (ks++[b])with name:=name}:bE cG) (i+1)
 else b6b kw andP aE l ex i
end
def vD:Nat->Nat->bE cG
 |0,_=>λ_=>.bad 0 1
 |n+1,k=>if k=7 then a3K kw andP aE l (vD n) else if k=3 then zA kw andP aE l (vD n) else a6u kw andP aE l (vD n)
def a4B:bE cG:=vD kw andP aE l (l.length+2) 0
def zU:bE (List psV):=dP l [44] (λout=>do
 let c <- gT l
 let w <- bW kw l
 pure (out++[(c,w)])) []
def a0W:bE uO:=do
 let name <- bW kw l
 aY l [[40]]
 let vs <- sX kw l false
 aY l [[41]]
 let h <- mP aE l
 aY l [[45,62]]
 let g <- mP aE l
 aY l [[46]]
 pure ⟨name,vs,h,g⟩
def pE:Nat->Int->Nat->Nat
 |0,_,_=>l.length
 |g+1,d,i=>if i<l.length then(if cV (aG l i) [40] then pE g (d+1) (i+1) else if cV (aG l i) [41] then pE g (d-1) (i+1) else if cV (aG l i) [61]&&decide (d<=0) then i else pE g d (i+1)) else l.length
def a6v:bE c0c:=do
 let b <- cQ l [102,111,114,97,108,108]
 let vs <- (if b then do
  let w <- bW kw l
  let ws <- sW l (λi=>jV kw (aG l i)) (λout=>do let w <- bW kw l;pure (out++[w])) [w]
  aY l [[46]]
  pure ws else pure []:bE (List Nm))
 let b <- cQ l [119,104,101,114,101]
 let ns <- (if b then do
  let ns <- zU kw l
  aY l [[46]]
  pure ns else pure []:bE (List psV))
 let b <- cQ l [60]
 let abs <- (if b then do
  let abs <- sX kw l false
  aY l [[62],[46]]
  pure abs else pure []:bE (List psV))
 let bs <- sW l (λi=>aH l i [98,111,117,110,100]) (λout=>do
  aY l [[98,111,117,110,100]]
  let b <- a0W kw aE l
  pure (out++[b])) []
 let t <- jI kw andP aE l
 let b <- cQ l [109,101,116,114,105,99]
 let ms <- (if b then(λi=>dP l [44] (λout=>do
  let p <- (λj=>aE l j (pE l (l.length+1) 0 i):bE Pr)
  pure (out++[p])) [] i) else pure []:bE (List Pr))
 pure ⟨vs,ns,abs,bs,t,ms⟩
def a4C(mode:Int):bE rL:=do
 let name <- bW kw l
 let ps <- (λi=>if aH l i [40] then(if cV (aG l (i+1)) [41] then .ok [] (i+2) else gA kw l i) else .ok [] i:bE (List Nm))
 pure ⟨name,ps,xS,mode,false,b8H⟩
def a6w(d:rL):bE (Option rL):=do
 aY l [[61]]
 let e <- a4B kw andP aE l
 pure (some {d with body:=e})
def a3L:bE (Option rL):=λi=>
 if aH l i [100,101,102] then(do
  let d <- a4C kw l 0
  let b <- cQ l [58]
  let d <- (if b then do let s <- a6v kw andP aE l;pure {d with typed:=true,sig:=s} else pure d:bE rL)
  a6w kw andP aE l d:bE (Option rL)) (i+1)
 else if aH l i [97,115,115,117,109,101] then(do
  let d <- a4C kw l 1
  aY l [[58]]
  let s <- a6v kw andP aE l
  pure (some {d with typed:=true,sig:=s}):bE (Option rL)) (i+1)
 else if aH l i [114,101,102,108,101,99,116] then(do
  let d <- a4C kw l 2
  aY l [[58]]
  let s <- a6v kw andP aE l
  a6w kw andP aE l {d with typed:=true,sig:=s}:bE (Option rL)) (i+1)
 else .ok none i
def b6c:bE a8x:=do
 let name <- gT l
 let b <- cQ l [40]
 if b then do
  let (ns,ts) <- dP l [44] (λ(out:List Nm×List Ty)=>do
   let w <- bW kw l
   aY l [[58]]
   let t <- jI kw andP aE l
   pure (out.1++[w],out.2++[t])) ([],[])
  aY l [[41]]
  pure ⟨name,ns,ts⟩
 else pure ⟨name,[],[]⟩
def a4D:bE b5V:=do
 let name <- gT l
 let vs <- sW l (λi=>jV kw (aG l i)) (λout=>do let w <- bW kw l;pure (out++[w])) []
 let b <- cQ l [60]
 let ps <- (if b then do
  let ps <- sX kw l false
  aY l [[62]]
  pure ps else pure []:bE (List psV))
 aY l [[61]]
 let cs <- dP l [124] (λout=>do let c <- b6c kw andP aE l;pure (out++[c])) []
 pure ⟨name,vs,ps,cs⟩
def a0X:bE b0H:=do
 let name <- gT l
 let v <- bW kw l
 aY l [[119,105,116,104]]
 let ms <- dP l [44] (λout=>do
  let w <- bW kw l
  aY l [[58]]
  let t <- jI kw andP aE l
  pure (out++[(w,t)])) []
 pure ⟨name,v,ms⟩
def a6x:bE b5W:=do
 let c <- gT l
 let t <- kW kw andP aE l (jI kw andP aE l)
 let b <- cQ l [119,104,101,114,101]
 let ns <- (if b then zU kw l else pure [])
 aY l [[123]]
 let ds <- sW l (λi=>aH l i [100,101,102]) (λout=>do
  let d <- a3L kw andP aE l
  aY l [[59]]
  pure (out++[d.getD ⟨[],[],xS,0,false,b8H⟩])) []
 aY l [[125]]
 pure ⟨c,t,ns,ds⟩
def a6y:bE b5X:=do
 let name <- bW kw l
 aY l [[58]]
 let d <- gT l
 aY l [[45,62]]
 let s <- yX kw l
 aY l [[123]]
 let cs <- dP l [59] (λout=>do
  let c <- gT l
  let ns <- (λi=>if aH l i [40] then gA kw l i else .ok [] i:bE (List Nm))
  aY l [[61]]
  let p <- mP aE l
  pure (out++[(c,ns,p)])) []
 aY l [[125]]
 let b <- cQ l [105,110,118,97,114,105,97,110,116]
 let p <- (if b then mP aE l else pure eY)
 pure ⟨name,d,s,cs,p⟩
def a6z:bE b5Y:=do
 let name <- bW kw l
 aY l [[40]]
 let vs <- sX kw l true
 aY l [[41],[58]]
 let p <- mP aE l
 pure ⟨name,vs,p⟩
def a1R(m:qT):bE qT:=λi=>
 if aH l i [100,97,116,97] then(do let x <- a4D kw andP aE l;pure {m with b5Z:=m.b5Z++[x]}:bE qT) (i+1)
 else if aH l i [99,108,97,115,115] then(do let x <- a0X kw andP aE l;pure {m with b0I:=m.b0I++[x]}:bE qT) (i+1)
 else if aH l i [105,110,115,116] then(do let x <- a6x kw andP aE l;pure {m with insts:=m.insts++[x]}:bE qT) (i+1)
 else if aH l i [109,101,97,115,117,114,101] then(do let x <- a6y kw aE l;pure {m with b6a:=m.b6a++[x]}:bE qT) (i+1)
 else if aH l i [113,117,97,108] then(do let x <- a6z kw aE l;pure {m with c5m:=m.c5m++[x]}:bE qT) (i+1)
 else(do
  let d <- a3L kw andP aE l
  match d with
  |some d=>pure {m with defs:=m.defs++[d]}
  |none=>eH l:bE qT) i
def a3M:bE Unit:=λi=>if (aG l i).kind=0 then .ok () i else eH l i
def b6d:bE qT:=sW l (λi=> !decide ((aG l i).kind=0)) (λm=>do
 let m <- a1R kw andP aE l m
 aY l [[59]]
 pure m) ⟨[],[],[],[],[],[]⟩
end
end Go.Proofs.YtjpodcmhcenjjaaGreatDoor
end
section
namespace Go.Proofs.YtjpodcmhcenjjaaGreatDoor
def oK(l:List Tok):Prop:=l≠[]/\(aG l (l.length-1)).kind=0
def aB{α:Type}(l:List Tok)(m:Nat)(x:bE α):Prop:=∀(i:Nat) (a:α) (j:Nat),i<l.length->x i=.ok a j->i+m<=j/\j<l.length
section
variable {kw:Nm->Bool} {andP:Pr->Pr->Pr} {aE:List Tok->Nat->Nat->kJ Pr} {l:List Tok} {α β:Type} {m k:Nat}
theorem aB.le{x:bE α}(h:aB l m x)(hk:k<=m):aB l k x:=λi a j hi hx=>by have:=h i a j hi hx;omega
theorem aB.bY(a:α):aB l 0 (pure a:bE α):=λi b j hi h=>by rw[jG]at h;cases h;omega
theorem aB.bl{x:bE α}{f:α->bE β}(hx:aB l m x)(hf:∀a,aB l 0 (f a)):aB l m (x >>=f):=λi b j hi h=>by
 rw[dN]at h;cases hxi:x i with
 |bad n e=>rw[hxi]at h;cases h
 |ok a j'=>rw[hxi]at h;have h1:=hx i a j' hi hxi;have h2:=hf a j' b j h1.2 h;omega
theorem aB.br{x:bE α}{f:α->bE β}(hx:aB l 0 x)(hf:∀a,aB l m (f a)):aB l m (x >>=f):=λi b j hi h=>by
 rw[dN]at h;cases hxi:x i with
 |bad n e=>rw[hxi]at h;cases h
 |ok a j'=>rw[hxi]at h;have h1:=hx i a j' hi hxi;have h2:=hf a j' b j h1.2 h;omega
theorem aB.ite{c:Prop}[Decidable c]{x y:bE α}(hx:aB l m x)(hy:aB l m y):aB l m (if c then x else y):=by
 split
 .exact hx
 .exact hy
theorem aB.failed:aB l m (eH l:bE α):=λi a j hi h=>by unfold eH at h;cases h
variable (hE:oK l)
include hE
theorem qM{i:Nat}(hi:i<l.length)(h:(aG l i).kind≠0):i+1<l.length:=by
 rcases Nat.lt_or_ge (i+1) l.length with h'|h'
 .exact h'
 .have:i=l.length-1:=by omega
  rw[this]at h;exact absurd hE.2 h
theorem a4E{t:Tok}{s:Nm}(h:cV t s=true):t.kind≠0:=by unfold cV at h;simp only[g0W,g1i,decide_eq_true_eq]at h;omega
theorem aK{i:Nat}{s:Nm}(hi:i<l.length)(h:aH l i s=true):i+1<l.length:=qM hE hi (a4E hE h)
theorem a3N{i:Nat}(hi:i<l.length)(h:qJ (aG l i)=true):i+1<l.length:=qM hE hi (by unfold qJ at h;simp only[decide_eq_true_eq]at h;omega)
theorem a3O{i:Nat}(hi:i<l.length)(h:jV kw (aG l i)=true):i+1<l.length:=qM hE hi (by unfold jV at h;simp only[g0W,decide_eq_true_eq]at h;omega)
theorem aB.e1H:∀(s:List Nm),aB l s.length (aY l s)
 |[]=>aB.bY ()
 |s::r=>λi a j hi h=>by
  unfold aY at h;split at h
  .rename_i hs;have:=aB.e1H r (i+1) a j (aK hE hi hs) h;simp only[List.length_cons];omega
  .unfold eH at h;cases h
theorem aB.exp(s:Nm)(r:List Nm):aB l 1 (aY l (s::r)):=(aB.e1H hE (s::r)).le (by simp only[List.length_cons];omega)
theorem aB.skip(s:Nm):aB l 0 (cQ l s):=λi a j hi h=>by
 unfold cQ at h;split at h
 .rename_i hs;have:=aK hE hi hs;cases h;omega
 .cases h;omega
theorem aB.take{ok:Tok->Bool}(hk:∀t,ok t=true->t.kind≠0):aB l 1 (oQ l ok):=λi a j hi h=>by
 unfold oQ at h;split at h
 .rename_i hs;have:=qM hE hi (hk _ hs);cases h;omega
 .unfold eH at h;cases h
theorem aB.word:aB l 1 (bW kw l):=aB.take hE λt h=>by unfold jV at h;simp only[g0W,decide_eq_true_eq]at h;omega
theorem aB.title:aB l 1 (gT l):=aB.take hE λt h=>by unfold qJ at h;simp only[decide_eq_true_eq]at h;omega
theorem aB.sort:aB l 1 (yX kw l):=aB.take hE λt h=>by unfold jV qJ at h;simp only[g1i,g0W,decide_eq_true_eq]at h;omega
theorem aB.loop{c:Nm}{one:α->bE α}(h1:∀a,aB l m (one a)):∀(g:Nat) (a:α),aB l m (gN l c one g a)
 |0,a=>λi b j hi h=>by unfold gN at h;cases h
 |g+1,a=>λi b j hi h=>by
  unfold gN at h;split at h
  .cases h
  .rename_i a' j' ho;have h2:=h1 a i a' j' hi ho;split at h
   .rename_i hs;have h3:=aB.loop h1 g a' (j'+1) b j (aK hE h2.2 hs) h;omega
   .cases h;exact h2
theorem aB.list{c:Nm}{one:α->bE α}(h1:∀a,aB l m (one a))(a:α):aB l m (dP l c one a):=aB.loop hE h1 _ a
omit hE in
theorem aB.b6e{c:Nat->Bool}{one:α->bE α}(h1:∀a,aB l 0 (one a)):∀(g:Nat) (a:α),aB l 0 (eD c one g a)
 |0,a=>λi b j hi h=>by unfold eD at h;cases h
 |g+1,a=>λi b j hi h=>by
  unfold eD at h;split at h
  .split at h
   .cases h
   .rename_i a' j' ho;have h2:=h1 a i a' j' hi ho;have h3:=aB.b6e h1 g a' j' b j h2.2 h;omega
  .cases h;omega
omit hE in
theorem aB.many{c:Nat->Bool}{one:α->bE α}(h1:∀a,aB l 0 (one a))(a:α):aB l 0 (sW l c one a):=aB.b6e h1 _ a
theorem aB.words:aB l 1 (gA kw l):=by unfold gA;exact(aB.exp hE _ _).bl λ_=>(aB.list hE (m:=0) (λa=>(((aB.word hE).le (by omega)).bl λ_=>aB.bY _)) _).bl λ_=>((aB.exp hE _ _).le (by omega)).bl λ_=>aB.bY _
theorem aB.vars(v:Bool):aB l 1 (sX kw l v):=by unfold sX;refine aB.list hE (λa=>?_) _;refine aB.br (aB.ite (aB.skip hE _) (aB.bY _)) λb=>?_;refine aB.br (aB.ite (aB.bY _) ((aB.word hE).le (by omega))) λnm=>?_;exact(aB.exp hE _ _).bl λ_=>((aB.sort hE).le (by omega)).bl λ_=>aB.bY _
theorem a6A{i j:Nat}{t:Ty}(hi:i<l.length)(h:gO kw l i=.ok (some t) j):j=i+1/\j<l.length:=by
 unfold gO at h
 repeat' split at h
 all_goals first|cases h|skip
 all_goals rename_i hs
 all_goals first
  |exact⟨rfl,a3O hE hi hs⟩
  |exact⟨rfl,aK hE hi hs⟩
omit hE in
theorem wQ{i j:Nat}(h:gO kw l i=.ok none j):j=i:=by
 unfold gO at h
 repeat' split at h
 all_goals first|(cases h;rfl)|cases h
theorem aB.base:aB l 0 (gO kw l):=λi a j hi h=>by
 cases a with
 |none=>have:=wQ h;omega
 |some t=>have:=a6A hE hi h;omega
section
variable {ty:bE Ty} (oW:aB l 0 ty) (hP:aB l 0 (mP aE l))
include oW hP
theorem aB.c1U:aB l 1 (xU andP aE l ty):=by unfold xU;refine(aB.exp hE _ _).bl λ_=>oW.bl λt=>?_;refine aB.ite aB.failed ?_;exact((aB.exp hE _ _).le (by omega)).bl λ_=>hP.bl λ_=>((aB.exp hE _ _).le (by omega)).bl λ_=>aB.bY _
theorem aB.a3m:aB l 1 (kW kw andP aE l ty):=λi a j hi h=>by
 unfold kW at h;rw[dN]at h;cases hb:gO kw l i with
 |bad n e=>rw[hb]at h;cases h
 |ok o j'=>
  rw[hb]at h;cases o with
  |some t=>have:=a6A hE hi hb;simp only[jG]at h;cases h;omega
  |none=>
   have:=wQ hb;subst this;simp only at h;split at h
   .rename_i hs;have:=a3N hE hi hs;cases h;omega
   .split at h
    .exact aB.c1U hE oW hP _ a j hi h
    .exact((aB.exp hE _ _).bl λ_=>oW.bl λ_=>((aB.exp hE _ _).le (by omega)).bl λ_=>aB.bY _) _ a j hi h
theorem aB.d5G:aB l 1 (vX kw andP aE l ty):=by
 unfold vX;refine(aB.title hE).bl λname=>aB.bl (aB.many (λa=>?_) _) λargs=>(aB.skip hE _).bl λb=>aB.ite ?_ (aB.bY _)
 .exact((aB.a3m hE oW hP).le (by omega)).bl λ_=>aB.bY _
 .refine aB.bl (aB.list hE (λa=>?_) _) λ_=>((aB.exp hE _ _).le (by omega)).bl λ_=>aB.bY _;exact((aB.exp hE _ _).le (by omega)).bl λ_=>hP.bl λ_=>aB.bY _
theorem aB.d2d:aB l 1 (xV kw l ty):=by
 unfold xV;refine(aB.exp hE _ _).bl λ_=>aB.bl (m:=0) (λi a j hi h=>?_) λp=>?_
 .split at h
  .exact aB.list hE (λa=>((aB.word hE).le (by omega)).bl λ_=>((aB.exp hE _ _).le (by omega)).bl λ_=>oW.bl λ_=>aB.bY _) _ i a j hi h
  .exact aB.list hE (λa=>oW.bl λ_=>aB.bY _) _ i a j hi h
 .refine((aB.exp hE _ _).le (by omega)).bl λ_=>λi a j hi h=>?_;split at h
  .cases h;omega
  .exact(((aB.exp hE _ _).le (by omega:0<=1)).bl λ_=>oW.bl λ_=>aB.bY _) i a j hi h
theorem aB.d2e:aB l 1 (yY kw andP aE l ty):=λi a j hi h=>by
 unfold yY at h;rw[dN]at h;cases hb:gO kw l i with
 |bad n e=>rw[hb]at h;cases h
 |ok o j'=>
  rw[hb]at h;cases o with
  |some t=>have:=a6A hE hi hb;simp only[jG]at h;cases h;omega
  |none=>
   have:=wQ hb;subst this;simp only at h;split at h
   .exact aB.d5G hE oW hP _ a j hi h
   .split at h
    .exact aB.c1U hE oW hP _ a j hi h
    .exact aB.d2d hE oW hP _ a j hi h
end
theorem aB.b0J(hP:aB l 0 (mP aE l)):∀n,aB l 1 (yZ kw andP aE l n)
 |0=>λi a j hi h=>by unfold yZ at h;cases h
 |n+1=>aB.d2e hE ((aB.b0J hP n).le (by omega)) hP
theorem aB.typ(hP:aB l 0 (mP aE l)):aB l 1 (jI kw andP aE l):=aB.b0J hE hP _
theorem aB.types(hP:aB l 0 (mP aE l)):aB l 0 (rY kw andP aE l):=by unfold rY;refine(aB.skip hE _).bl λb=>aB.ite ?_ (aB.bY _);exact aB.bl (aB.list hE (λa=>((aB.typ hE hP).le (by omega)).bl λ_=>aB.bY _) _) λ_=>((aB.exp hE _ _).le (by omega)).bl λ_=>aB.bY _
end
end Go.Proofs.YtjpodcmhcenjjaaGreatDoor
end
section
namespace Go.Proofs.YtjpodcmhcenjjaaGreatDoor
section
variable {kw:Nm->Bool} {andP:Pr->Pr->Pr} {aE:List Tok->Nat->Nat->kJ Pr} {l:List Tok} {α β:Type} {m k:Nat}
theorem aB.nxt{x:bE α}(hx:aB l 0 x){i j:Nat}{a:α}(hi:i+1<l.length)(h:x (i+1)=.ok a j):i+1<=j/\j<l.length:=by have:=hx (i+1) a j hi h;omega
variable (hE:oK l)
include hE
section
variable {ex:Nat->bE cG} (hx:∀k,aB l 1 (ex k))
include hx
theorem aB.mZ:aB l 1 (jH l ex):=by unfold jH;exact(aB.exp hE _ _).bl λ_=>aB.bl (aB.list hE (λa=>((hx 0).le (by omega)).bl λ_=>aB.bY _) _) λ_=>((aB.exp hE _ _).le (by omega)).bl λ_=>aB.bY _
theorem aB.d5H(op:Int):aB l 1 (a1Q l ex op):=by unfold a1Q;exact(aB.exp hE _ _).bl λ_=>((hx 0).le (by omega)).bl λ_=>((aB.exp hE _ _).le (by omega)).bl λ_=>aB.bY _
theorem aB.c8z:aB l 1 (vQ kw l ex):=by
 unfold vQ;refine(hx 0).bl λ_=>((aB.exp hE _ _).le (by omega)).bl λ_=>aB.bl (aB.list hE (λa=>?_) _) λ_=>((aB.exp hE _ _).le (by omega)).bl λ_=>aB.bY _;refine((aB.title hE).le (by omega)).bl λ_=>aB.bl (λi b j hi h=>?_) λ_=>((aB.exp hE _ _).le (by omega)).bl λ_=>((hx 0).le (by omega)).bl λ_=>aB.bY _;split at h
 .exact((aB.words hE).le (by omega)) _ _ _ hi h
 .cases h;omega
section
variable (hP:aB l 0 (mP aE l))
include hP
theorem aB.e7j:aB l 1 (a3j kw andP aE l ex):=by unfold a3j;refine(aB.word hE).bl λ_=>(aB.skip hE _).bl λ_=>aB.bl (aB.ite (((aB.typ hE hP).le (by omega)).bl λ_=>aB.bY _) (aB.bY _)) λ_=>?_;exact((aB.exp hE _ _).le (by omega)).bl λ_=>((hx 0).le (by omega)).bl λ_=>((aB.exp hE _ _).le (by omega)).bl λ_=>((hx 0).le (by omega)).bl λ_=>aB.bY _
theorem aB.e7k:aB l 1 (a3k kw andP aE l ex):=by unfold a3k;refine(aB.exp hE _ _).bl λ_=>aB.bl (aB.list hE (λa=>?_) _) λ_=>((aB.exp hE _ _).le (by omega)).bl λ_=>((hx 0).le (by omega)).bl λ_=>aB.bY _;exact((aB.word hE).le (by omega)).bl λ_=>(aB.skip hE _).bl λ_=>aB.bl (aB.ite ((aB.typ hE hP).le (by omega)) (aB.bY _)) λ_=>aB.bY _
theorem aB.e1I:aB l 1 (pU kw andP aE l ex):=by
 unfold pU;refine(aB.exp hE _ _).bl λ_=>λi a j hi h=>?_;split at h
 .rename_i hc;simp only[g0W,decide_eq_true_eq]at hc;have h2:=qM hE hi (a4E hE (show cV (aG l i) [45]=true from hc.1.1));have h3:=qM hE h2 (by omega);have h4:=qM hE h3 (a4E hE hc.2);cases h;omega
 .exact(((hx 0).le (by omega:0<=1)).bl λe=>(aB.skip hE _).bl λb=>aB.bl (aB.ite (((aB.typ (kw:=kw) (andP:=andP) hE hP).le (by omega:0<=1)).bl λt=>aB.bY _) (aB.bY _)) λe=>((aB.exp hE _ _).le (by omega:0<=1)).bl λ_=>aB.bY _) i a j hi h
theorem aB.c0d:aB l 1 (xW kw andP aE l ex):=λi a j hi h=>by
 unfold xW at h;split at h
 .rename_i hk;have:=qM hE hi (by omega);cases h;omega
 split at h
 .rename_i hs;have:=aK hE hi hs;cases h;omega
 split at h
 .rename_i hs;have:=aK hE hi hs;cases h;omega
 split at h
 .rename_i hs;exact((aB.d5H hE hx _).le (by omega)).nxt (aK hE hi hs) h
 split at h
 .rename_i hs;exact((aB.d5H hE hx _).le (by omega)).nxt (aK hE hi hs) h
 split at h
 .rename_i hs;exact(((aB.exp hE _ _).le (by omega:0<=1)).bl λ_=>((hx 0).le (by omega:0<=1)).bl λ_=>((aB.exp hE _ _).le (by omega:0<=1)).bl λ_=>((hx 0).le (by omega:0<=1)).bl λ_=>((aB.exp hE _ _).le (by omega:0<=1)).bl λ_=>aB.bY _).nxt (aK hE hi hs) h
 split at h
 .rename_i hs;have hn:=a3O hE hi hs;split at h
  .cases h;omega
  .exact((aB.types hE hP).bl λ_=>((aB.mZ hE hx).le (by omega:0<=1)).bl λ_=>aB.bY _).nxt hn h
 split at h
 .rename_i hs;refine((aB.types hE hP).bl λ_=>aB.bl (m:=0) (λi a j hi h=>?_) λ_=>aB.bY _).nxt (a3N hE hi hs) h;split at h
  .exact((aB.mZ hE hx).le (by omega)) _ _ _ hi h
  .cases h;omega
 exact aB.e1I hE hx hP _ _ _ hi h
theorem aB.unG:aB l 1 (a3K kw andP aE l ex):=λi a j hi h=>by
 unfold a3K at h;split at h
 .rename_i hs;exact(((hx 7).le (by omega:0<=1)).bl λ_=>aB.bY _).nxt (aK hE hi hs) h
 .exact aB.c0d hE hx hP _ _ _ hi h
omit hx hP in
theorem aB.chain{ops:List (Nm×Int)}{one:bE cG}(h1:aB l 0 one):∀(g:Nat) (e:cG),aB l 0 (gB l ops one g e)
 |0,e=>λi b j hi h=>by unfold gB at h;cases h
 |g+1,e=>λi b j hi h=>by
  unfold gB at h;split at h
  .cases h;omega
  .rename_i p hp;have hs:aH l i p.1=true:=List.find?_some (p:=λp:Nm×Int=>aH l i p.1) hp;split at h
   .cases h
   .rename_i x j' ho;have h2:=h1.nxt (aK hE hi hs) ho;have h3:=aB.chain h1 g _ j' b j h2.2 h;omega
omit hx hP in
theorem aB.lvl{ops:List (Nm×Int)}{one:bE cG}(h1:aB l 1 one):aB l 1 (a0M l ops one):=by unfold a0M;exact h1.bl λ_=>aB.chain hE (h1.le (by omega)) _ _
theorem aB.c5n:aB l 1 (a7z kw andP aE l ex):=aB.lvl hE (aB.unG hE hx hP)
theorem aB.a6B:aB l 1 (oR kw andP aE l ex):=aB.lvl hE (aB.c5n hE hx hP)
theorem aB.a8g:aB l 1 (a3l kw andP aE l ex):=by
 unfold a3l;refine(aB.a6B hE hx hP).bl λe=>λi a j hi h=>?_
 repeat' split at h
 all_goals first
  |(cases h;omega)
  |(rename_i hs
    have:=(((aB.a6B hE hx hP).le (by omega:0<=1)).bl λ_=>aB.bY _).nxt (aK hE hi hs) h;omega)
theorem aB.a8h:aB l 1 (zA kw andP aE l ex):=λi a j hi h=>by
 unfold zA at h;split at h
 .rename_i hs;exact(((hx 3).le (by omega:0<=1)).bl λ_=>aB.bY _).nxt (aK hE hi hs) h
 .exact aB.a8g hE hx hP _ _ _ hi h
theorem aB.orG:aB l 1 (b6b kw andP aE l ex):=aB.lvl hE (aB.lvl hE (aB.a8h hE hx hP))
theorem aB.exG:aB l 1 (a6u kw andP aE l ex):=λi a j hi h=>by
 unfold a6u at h;split at h
 .rename_i hs;exact((aB.e7j hE hx hP).le (by omega)).nxt (aK hE hi hs) h
 split at h
 .rename_i hs;exact(((hx 0).le (by omega:0<=1)).bl λ_=>((aB.exp hE _ _).le (by omega:0<=1)).bl λ_=>((hx 0).le (by omega:0<=1)).bl λ_=>((aB.exp hE _ _).le (by omega:0<=1)).bl λ_=>((hx 0).le (by omega:0<=1)).bl λ_=>aB.bY _).nxt (aK hE hi hs) h
 split at h
 .rename_i hs;exact((aB.c8z hE hx).le (by omega)).nxt (aK hE hi hs) h
 split at h
 .rename_i hs;exact((aB.e7k hE hx hP).le (by omega)).nxt (aK hE hi hs) h
 split at h
 .rename_i hs;exact(((aB.word hE).le (by omega:0<=1)).bl λ_=>((aB.mZ hE hx).le (by omega:0<=1)).bl λ_=>((aB.exp hE _ _).le (by omega:0<=1)).bl λ_=>((hx 0).le (by omega:0<=1)).bl λ_=>aB.bY _).nxt (aK hE hi hs) h
 exact aB.orG hE hx hP _ _ _ hi h
end
end
theorem aB.exF(hP:aB l 0 (mP aE l)):∀n k,aB l 1 (vD kw andP aE l n k)
 |0,k=>λi a j hi h=>by unfold vD at h;cases h
 |n+1,k=>by unfold vD;exact aB.ite (aB.unG hE (aB.exF hP n) hP) (aB.ite (aB.a8h hE (aB.exF hP n) hP) (aB.exG hE (aB.exF hP n) hP))
theorem aB.expr(hP:aB l 0 (mP aE l)):aB l 1 (a4B kw andP aE l):=aB.exF hE hP _ _
end
end Go.Proofs.YtjpodcmhcenjjaaGreatDoor
end
section
namespace Go.Proofs.YtjpodcmhcenjjaaGreatDoor
section
variable {kw:Nm->Bool} {andP:Pr->Pr->Pr} {aE:List Tok->Nat->Nat->kJ Pr} {l:List Tok} {α β:Type} {m k:Nat}
variable (hE:oK l)
include hE
theorem aB.a5r:aB l 1 (zU kw l):=by unfold zU;exact aB.list hE (λa=>(aB.title hE).bl λ_=>((aB.word hE).le (by omega)).bl λ_=>aB.bY _) _
theorem aB.head(mode:Int):aB l 1 (a4C kw l mode):=by
 unfold a4C;refine(aB.word hE).bl λname=>aB.bl (m:=0) (λi a j hi h=>?_) λ_=>aB.bY _;split at h
 .rename_i hs;have h1:=aK hE hi hs;split at h
  .rename_i hf;have h2:=qM hE h1 (a4E hE hf);cases h;omega
  .exact((aB.words hE).le (by omega)) _ _ _ hi h
 .cases h;omega
variable (hP:aB l 0 (mP aE l))
include hP
theorem aB.bound:aB l 1 (a0W kw aE l):=by unfold a0W;exact(aB.word hE).bl λ_=>((aB.exp hE _ _).le (by omega)).bl λ_=>((aB.vars hE _).le (by omega)).bl λ_=>((aB.exp hE _ _).le (by omega)).bl λ_=>hP.bl λ_=>((aB.exp hE _ _).le (by omega)).bl λ_=>hP.bl λ_=>((aB.exp hE _ _).le (by omega)).bl λ_=>aB.bY _
theorem aB.con:aB l 1 (b6c kw andP aE l):=by unfold b6c;refine(aB.title hE).bl λ_=>(aB.skip hE _).bl λb=>aB.ite ?_ (aB.bY _);refine aB.bl (aB.list hE (λa=>?_) _) λ_=>((aB.exp hE _ _).le (by omega)).bl λ_=>aB.bY _;exact((aB.word hE).le (by omega)).bl λ_=>((aB.exp hE _ _).le (by omega)).bl λ_=>((aB.typ hE hP).le (by omega)).bl λ_=>aB.bY _
theorem aB.data:aB l 1 (a4D kw andP aE l):=by unfold a4D;refine(aB.title hE).bl λ_=>aB.bl (aB.many (λa=>((aB.word hE).le (by omega)).bl λ_=>aB.bY _) _) λ_=>(aB.skip hE _).bl λb=>?_;refine aB.bl (aB.ite (((aB.vars hE _).le (by omega)).bl λ_=>((aB.exp hE _ _).le (by omega)).bl λ_=>aB.bY _) (aB.bY _)) λ_=>((aB.exp hE _ _).le (by omega)).bl λ_=>?_;exact aB.bl (aB.list hE (λa=>((aB.con hE hP).le (by omega)).bl λ_=>aB.bY _) _) λ_=>aB.bY _
theorem aB.cls:aB l 1 (a0X kw andP aE l):=by unfold a0X;refine(aB.title hE).bl λ_=>((aB.word hE).le (by omega)).bl λ_=>((aB.exp hE _ _).le (by omega)).bl λ_=>aB.bl (aB.list hE (λa=>?_) _) λ_=>aB.bY _;exact((aB.word hE).le (by omega)).bl λ_=>((aB.exp hE _ _).le (by omega)).bl λ_=>((aB.typ hE hP).le (by omega)).bl λ_=>aB.bY _
theorem aB.e1J:aB l 1 (a6y kw aE l):=by
 unfold a6y;refine(aB.word hE).bl λ_=>((aB.exp hE _ _).le (by omega)).bl λ_=>((aB.title hE).le (by omega)).bl λ_=>((aB.exp hE _ _).le (by omega)).bl λ_=>((aB.sort hE).le (by omega)).bl λ_=>((aB.exp hE _ _).le (by omega)).bl λ_=>?_;refine aB.bl (aB.list hE (λa=>?_) _) λ_=>((aB.exp hE _ _).le (by omega)).bl λ_=>(aB.skip hE _).bl λb=>(aB.ite hP (aB.bY _)).bl λ_=>aB.bY _;refine((aB.title hE).le (by omega)).bl λ_=>aB.bl (m:=0) (λi a j hi h=>?_) λ_=>((aB.exp hE _ _).le (by omega)).bl λ_=>hP.bl λ_=>aB.bY _;split at h
 .exact((aB.words hE).le (by omega)) _ _ _ hi h
 .cases h;omega
theorem aB.e1K:aB l 1 (a6z kw aE l):=by unfold a6z;exact(aB.word hE).bl λ_=>((aB.exp hE _ _).le (by omega)).bl λ_=>((aB.vars hE _).le (by omega)).bl λ_=>((aB.exp hE _ _).le (by omega)).bl λ_=>hP.bl λ_=>aB.bY _
theorem aB.body(d:rL):aB l 1 (a6w kw andP aE l d):=by unfold a6w;exact(aB.exp hE _ _).bl λ_=>((aB.expr hE hP).le (by omega)).bl λ_=>aB.bY _
def a1S(aE:List Tok->Nat->Nat->kJ Pr)(l:List Tok):Prop:=∀e i p j,i<l.length->aE l i e=.ok p j->i<=j/\j<l.length
omit hE hP in
theorem a1S.pred(h:a1S aE l):aB l 0 (mP aE l):=λi a j hi hx=>by have:=h l.length i a j hi hx;omega
end
section
variable {kw:Nm->Bool} {andP:Pr->Pr->Pr} {aE:List Tok->Nat->Nat->kJ Pr} {l:List Tok}
variable (hE:oK l) (hB:a1S aE l)
include hE hB
theorem aB.sig:aB l 1 (a6v kw andP aE l):=by have hP:=hB.pred;unfold a6v;refine aB.br (aB.skip hE _) λb=>aB.br (aB.ite (((aB.word hE).le (by omega)).bl λ_=>(aB.many (λa=>((aB.word hE).le (by omega)).bl λ_=>aB.bY _) _).bl λ_=>((aB.exp hE _ _).le (by omega)).bl λ_=>aB.bY _) (aB.bY _)) λ_=>?_;refine aB.br (aB.skip hE _) λb=>aB.br (aB.ite (((aB.a5r hE).le (by omega)).bl λ_=>((aB.exp hE _ _).le (by omega)).bl λ_=>aB.bY _) (aB.bY _)) λ_=>?_;refine aB.br (aB.skip hE _) λb=>aB.br (aB.ite (((aB.vars hE _).le (by omega)).bl λ_=>((aB.exp hE _ _).le (by omega)).bl λ_=>aB.bY _) (aB.bY _)) λ_=>?_;refine aB.br (aB.many (λa=>((aB.exp hE _ _).le (by omega)).bl λ_=>((aB.bound hE hP).le (by omega)).bl λ_=>aB.bY _) _) λ_=>?_;refine(aB.typ hE hP).bl λ_=>(aB.skip hE _).bl λb=>aB.bl (aB.ite (λi a j hi h=>?_) (aB.bY _)) λ_=>aB.bY _;refine aB.list hE (m:=0) (λa=>aB.bl (m:=0) (λi' p j' hi' h'=>?_) λ_=>aB.bY _) _ i a j hi h;have:=hB _ _ _ _ hi' h';omega
theorem aB.defn{i j:Nat}{d:Option rL}(hi:i<l.length)(h:a3L kw andP aE l i=.ok d j):(d=none/\j=i)\/(i+1<=j/\j<l.length):=by
 have hP:=hB.pred;unfold a3L at h;split at h
 .rename_i hs;refine .inr (((((aB.head hE _).le (by omega:0<=1)).bl λ_=>(aB.skip hE _).bl λ_=>aB.bl (aB.ite (((aB.sig hE hB).le (by omega:0<=1)).bl λ_=>aB.bY _) (aB.bY _)) λ_=>((aB.body hE hP _).le (by omega:0<=1)))).nxt (aK hE hi hs) h)
 split at h
 .rename_i hs;exact .inr ((((aB.head hE _).le (by omega:0<=1)).bl λ_=>((aB.exp hE _ _).le (by omega:0<=1)).bl λ_=>((aB.sig hE hB).le (by omega:0<=1)).bl λ_=>aB.bY _).nxt (aK hE hi hs) h)
 split at h
 .rename_i hs;exact .inr ((((aB.head hE _).le (by omega:0<=1)).bl λ_=>((aB.exp hE _ _).le (by omega:0<=1)).bl λ_=>((aB.sig hE hB).le (by omega:0<=1)).bl λ_=>((aB.body hE hP _).le (by omega:0<=1))).nxt (aK hE hi hs) h)
 cases h;exact .inl ⟨rfl,rfl⟩
theorem aB.e7l:aB l 0 (a3L kw andP aE l):=λi d j hi h=>by
 rcases aB.defn hE hB hi h with⟨_,rfl⟩|h'
 .omega
 .omega
theorem aB.inst:aB l 1 (a6x kw andP aE l):=by have hP:=hB.pred;unfold a6x;refine(aB.title hE).bl λ_=>((aB.a3m hE ((aB.typ hE hP).le (by omega)) hP).le (by omega)).bl λ_=>(aB.skip hE _).bl λb=>(aB.ite ((aB.a5r hE).le (by omega)) (aB.bY _)).bl λ_=>((aB.exp hE _ _).le (by omega)).bl λ_=>?_;exact aB.bl (aB.many (λa=>(aB.e7l hE hB).bl λ_=>((aB.exp hE _ _).le (by omega)).bl λ_=>aB.bY _) _) λ_=>((aB.exp hE _ _).le (by omega)).bl λ_=>aB.bY _
theorem aB.decl(m:qT):aB l 1 (a1R kw andP aE l m):=λi a j hi h=>by
 have hP:=hB.pred;unfold a1R at h;split at h
 .rename_i hs;exact(((aB.data hE hP).le (by omega:0<=1)).bl λ_=>aB.bY _).nxt (aK hE hi hs) h
 split at h
 .rename_i hs;exact(((aB.cls hE hP).le (by omega:0<=1)).bl λ_=>aB.bY _).nxt (aK hE hi hs) h
 split at h
 .rename_i hs;exact(((aB.inst hE hB).le (by omega:0<=1)).bl λ_=>aB.bY _).nxt (aK hE hi hs) h
 split at h
 .rename_i hs;exact(((aB.e1J hE hP).le (by omega:0<=1)).bl λ_=>aB.bY _).nxt (aK hE hi hs) h
 split at h
 .rename_i hs;exact(((aB.e1K hE hP).le (by omega:0<=1)).bl λ_=>aB.bY _).nxt (aK hE hi hs) h
 rw[dN]at h;cases hd:a3L kw andP aE l i with
 |bad n e=>rw[hd]at h;cases h
 |ok d j'=>
  rw[hd]at h;rcases aB.defn hE hB hi hd with⟨rfl,rfl⟩|h'
  .simp only[eH]at h;cases h
  .cases d with
   |none=>simp only[eH]at h;cases h
   |some d=>simp only[jG]at h;cases h;exact h'
end
end Go.Proofs.YtjpodcmhcenjjaaGreatDoor
end
section
namespace Go.Proofs.YtjpodcmhcenjjaaGreatDoor
def yM{α:Type}:kJ α->kJ α->Prop
 | .ok a j,.ok b k=>a=b/\j=k
 | .bad _ e,.bad _ f=>e=f
 |_,_=>False
def jJ{α:Type}(x y:bE α):Prop:=∀i,yM (x i) (y i)
structure c5o (l l':List Tok):Prop where
 len:l'.length=l.length
 kind:∀i,(aG l' i).kind=(aG l i).kind
 text:∀i,(aG l' i).text=(aG l i).text
 n:∀i,(aG l' i).n=(aG l i).n
section
variable {α β:Type}
theorem yM.refl(r:kJ α):yM r r:=by cases r<;>simp[yM]
theorem jJ.refl(x:bE α):jJ x x:=λi=>yM.refl _
theorem jJ.yK{x y:bE α}{f g:α->bE β}(h:jJ x y)(hf:∀a,jJ (f a) (g a)):jJ (x >>=f) (y >>=g):=λi=>by
 have h1:=h i;rw[dN,dN];cases hx:x i with
 |ok a j=>cases hy:y i with
  |ok b k=>rw[hx,hy]at h1;obtain⟨rfl,rfl⟩:=h1;exact hf a j
  |bad n e=>rw[hx,hy]at h1;exact h1.elim
 |bad n e=>cases hy:y i with
  |ok b k=>rw[hx,hy]at h1;exact h1.elim
  |bad n' e'=>rw[hx,hy]at h1;exact h1
theorem jJ.ite{c:Prop}[Decidable c]{x y x' y':bE α}(h:jJ x x')(h':jJ y y'):jJ (if c then x else y) (if c then x' else y'):=by
 split
 .exact h
 .exact h'
theorem yM.ite{c c':Prop}[Decidable c][Decidable c'](hc:c↔c'){x y x' y':kJ α}(h:yM x x')(h':yM y y'):yM (if c then x else y) (if c' then x' else y'):=by
 by_cases h1:c
 .rw[if_pos h1,if_pos (hc.1 h1)];exact h
 .rw[if_neg h1,if_neg (λh2=>h1 (hc.2 h2))];exact h'
variable {kw:Nm->Bool} {andP:Pr->Pr->Pr} {aE:List Tok->Nat->Nat->kJ Pr} {l l':List Tok} (hS:c5o l l')
include hS
theorem c5o.fix(i:Nat)(s:Nm):cV (aG l' i) s=cV (aG l i) s:=by unfold cV;rw[hS.kind,hS.text]
theorem c5o.is(i:Nat)(s:Nm):aH l' i s=aH l i s:=hS.fix i s
theorem c5o.wd(i:Nat):jV kw (aG l' i)=jV kw (aG l i):=by unfold jV;rw[hS.kind,hS.text]
theorem c5o.ti(i:Nat):qJ (aG l' i)=qJ (aG l i):=by unfold qJ;rw[hS.kind]
theorem jJ.exp:∀s,jJ (aY l' s) (aY l s)
 |[]=>jJ.refl _
 |s::r=>λi=>by unfold aY;rw[hS.is];exact yM.ite Iff.rfl (jJ.exp r (i+1)) rfl
theorem jJ.skip(s:Nm):jJ (cQ l' s) (cQ l s):=λi=>by unfold cQ;rw[hS.is];exact yM.refl _
theorem jJ.word:jJ (bW kw l') (bW kw l):=λi=>by unfold bW oQ;rw[hS.wd,hS.text];exact yM.ite Iff.rfl (yM.refl _) rfl
theorem jJ.sort:jJ (yX kw l') (yX kw l):=λi=>by unfold yX oQ;simp only[hS.ti,hS.wd,hS.text];exact yM.ite Iff.rfl (yM.refl _) rfl
theorem jJ.loop{c:Nm}{one pP:α->bE α}(h:∀a,jJ (pP a) (one a)):∀(g:Nat) (a:α),jJ (gN l' c pP g a) (gN l c one g a)
 |0,a=>λi=>rfl
 |g+1,a=>λi=>by
  unfold gN;have h1:=h a i;cases hx:pP a i with
  |ok b j=>cases hy:one a i with
   |ok b' j'=>rw[hx,hy]at h1;obtain⟨rfl,rfl⟩:=h1;simp only;rw[hS.is];exact yM.ite Iff.rfl (jJ.loop h g b (j+1)) (yM.refl _)
   |bad n e=>rw[hx,hy]at h1;exact h1.elim
  |bad n e=>cases hy:one a i with
   |ok b' j'=>rw[hx,hy]at h1;exact h1.elim
   |bad n' e'=>rw[hx,hy]at h1;exact h1
theorem jJ.list{c:Nm}{one pP:α->bE α}(h:∀a,jJ (pP a) (one a))(a:α):jJ (dP l' c pP a) (dP l c one a):=by unfold dP;rw[hS.len];exact jJ.loop hS h _ a
theorem jJ.vars(v:Bool):jJ (sX kw l' v) (sX kw l v):=by unfold sX;exact jJ.list hS (λa=>(jJ.ite (jJ.skip hS _) (jJ.refl _)).yK λb=>(jJ.ite (jJ.refl _) (jJ.word hS)).yK λ_=>(jJ.exp hS _).yK λ_=>(jJ.sort hS).yK λ_=>jJ.refl _) _
theorem jJ.base:jJ (gO kw l') (gO kw l):=λi=>by unfold gO;simp only[hS.is,hS.wd,hS.text];exact yM.refl _
end
end Go.Proofs.YtjpodcmhcenjjaaGreatDoor
end
section
namespace Go.Proofs.YtjpodcmhcenjjaaGreatDoor
open Go Go.VM
def pQ(x:psV):List D:=[.str x.1,.str x.2]
def a4F(p:Nm×Ty):List D:=.str p.1::tyC p.2
def a0Y:cG->List D
 |⟨op,nm,n,ks,ps,al,ts⟩=>[.int .i64 op,.str nm,.int .i64 n,.sl (ks.map a0Y),.sl (ps.map a4F),.sl (al.attach.map λa=>.str a.1.1::.sl (strs a.1.2.1)::a0Y a.1.2.2),.sl (ts.map tyC)]
termination_by e=>SizeOf.sizeOf e
decreasing_by
 .have:=List.sizeOf_lt_of_mem ‹_∈ks›;simp only[cG.mk.sizeOf_spec];omega
 .obtain⟨⟨a,b,c⟩,ha⟩:=a;have:=List.sizeOf_lt_of_mem ha;simp only[Prod.mk.sizeOf_spec]at this;simp only[cG.mk.sizeOf_spec];omega
def b0K(a:Nm×List Nm×cG):List D:=.str a.1::.sl (strs a.2.1)::a0Y a.2.2
theorem bT(e:cG):a0Y e=[.int .i64 e.op,.str e.name,.int .i64 e.n,.sl (e.kids.map a0Y),.sl (e.params.map a4F),.sl (e.alts.map b0K),.sl (e.types.map tyC)]:=by
 cases e;rw[a0Y];simp only[List.cons.injEq,D.sl.injEq,true_and,and_true]
 first
  |exact List.attach_map_val (f:=b0K)
  |exact List.attach_map_val _ b0K
  |(conv=>rhs;rw[<-List.attach_map_subtype_val ‹List (Nm×List Nm×cG)›,List.map_map]
    rfl)
def c8A(b:uO):List D:=[.str b.name,.sl (b.vars.map pQ)]++rW b.hyp++rW b.goal
def e1L(s:c0c):List D:=[.sl (strs s.vars),.sl (s.a5r.map pQ),.sl (s.abs.map pQ),.sl (s.bounds.map c8A)]++tyC s.type++[.sl (s.c1T.map rW)]
def c1V(d:rL):List D:=[.str d.name,.sl (strs d.params)]++a0Y d.body++[.int .i64 d.mode,.bool d.typed]++e1L d.sig
def c0e(c:a8x):List D:=[.str c.name,.sl (strs c.names),.sl (c.fields.map tyC)]
def b6f(d:b5V):List D:=[.str d.name,.sl (strs d.vars),.sl (d.b0F.map pQ),.sl (d.cons.map c0e)]
def c5p(c:b0H):List D:=[.str c.name,.str c.var,.sl (c.methods.map a4F)]
def d0y(x:b5W):List D:=[.str x.cls]++tyC x.type++[.sl (x.a5r.map pQ),.sl (x.defs.map c1V)]
def c5q(x:b5X):List D:=[.str x.name,.str x.data,.str x.result,.sl (x.cases.map λc=>.str c.1::.sl (strs c.2.1)::rW c.2.2)]++rW x.inv
def d0z(q:b5Y):List D:=[.str q.name,.sl (q.vars.map pQ)]++rW q.body
def a8y(m:qT):List D:=[.sl (m.b5Z.map b6f),.sl (m.b0I.map c5p),.sl (m.insts.map d0y),.sl (m.b6a.map c5q),.sl (m.c5m.map d0z),.sl (m.defs.map c1V)]
end Go.Proofs.YtjpodcmhcenjjaaGreatDoor
end
end
section
section
namespace Go.VM
open Go Go.RowKit
section
variable {P:Program} {G:GT} {st:St} {Q:Exit->St->Prop}
theorem SW.jW{x y:Code}(h:SW P G x st λe s=>match e with
  | .normal=>SW P G y s Q
  |e=>Q e s):SW P G (.seq x y) st Q:=λbase R μ a w hr=>
 wp_seq (wp_mono (h base R μ a w hr) λe a1 w1 ⟨s,R1,μ1,q1,q2,q3⟩=>by
  cases e with
  |normal=>exact wp_mono (q1 base R1 μ1 a1 w1 q2) λe2 a2 w2 ⟨s2,R2,μ2,p1,p2,p3⟩=>⟨s2,R2,μ2,p1,p2,q3.trans p3⟩
  |_=>exact⟨s,R1,μ1,q1,q2,q3⟩)
theorem SW.vk{c:Code}(h:VK P G [.code c] .normal st Q):SW P G c st Q:=a5p _ _ _ (c4I h)
theorem CS.a4G{f:FuncId}{fn:Func}{c:Code}{n:Nat}{ds:List D}{r:DV}{own:Option TypeId}(hf:P.funcs[f]? =some fn)(hb:fn.body=some c)(hn:fn.ntmps=n){rs:List ResultVar}(hrs:fn.results.toList=rs)(h:SW P G c (a1J ds n) λe s=>(e=.normal\/e=.ret)/\c4z (d1L P s rs) r/\c4A s rs own):CS P G f ds r own:=by
 subst hrs;intro w R args hg hR hl hv;refine calls_of_wp hf hb ?_;have mW:=Rel.init (P:=P) (G:=G) fn hg hR hl hv;rw[<-hn]at h;refine wp_mono (h (a0u w.heap.size) R _ _ w mW) λe a' w' ⟨s,R',μ',⟨he,kF,mN⟩,gD,hs⟩=>?_;obtain⟨r0,kF,hwk⟩:=b5D kF;obtain⟨v,hv1,hv2⟩:=d0l gD kF;have a6k:a'.defers=[]/\∃v,(results fn a'.tmps).run P w'=.ok v w'/\∃v' R',Ending.returned v=.returned v'/\(∀μ,TV R' μ w' v' r)/\Step (a0u w.heap.size) R w R' w'/\(∀b o,R' b o->b<w'.heap.size)/\(∀e,own=some e->qO P (a0u w.heap.size) R' w' e v'):=
  ⟨gD.defers,v,hv1,v,R',rfl,λμ=>(hv2 μ).wk hwk,hs,gD.qP,λe he'=>by subst he';exact c4B gD mN hv1⟩
 rcases he with rfl|rfl
 .exact a6k
 .exact a6k
theorem dV(a:Act){d:Nat}(v:Value)(h:d<a.tmps.size):(a.put (some d) v).eval (.tmp d)=v:=by simp[Act.put,Act.eval,h]
theorem cA(a:Act){d x:Nat}(v:Value)(h:x≠d):(a.put (some d) v).eval (.tmp x)=a.eval (.tmp x):=by simp[Act.put,Act.eval,Array.getElem?_setIfInBounds,Ne.symm h]
theorem size_put(a:Act)(d:Option Tmp)(v:Value):(a.put d v).tmps.size=a.tmps.size:=by cases d<;>simp[Act.put]
theorem c1W(w:World)(z cs:Array Value)(e:TypeId):(w.alloc (.cells z e)).setRow w.heap.size cs=w.alloc (.cells cs e):=by
 unfold World.setRow World.alloc;cases w with
 |mk heap tape drawn os output=>
  simp only;congr 1;apply Array.ext
  .simp
  .intro k h1 h2;simp only[Array.getElem_modify,Array.getElem_push];split
   .rename_i hk;subst hk;simp
   .rename_i hk;have hk2:k<heap.size:=by simp at h2;omega
    simp[hk2]
end
end Go.VM
end
section
namespace Go.VM
open Go Go.RowKit
def qU(k n:Nat):Array Bool:=((List.range n).map λj=>decide (j<k)).toArray
def a6C(ops:Array Oper)(m:Nat):Nat->Nat->Array Bool->Bool
 |0,_,listed=>decide (listed=qU m ops.size)
 |fuel+1,k,listed=>(Region.ready .any ops listed).contains k&&
  (match ops[k]? with
  |none=>false
  |some oi=>
   (List.range ops.size).all λj=>j==k||listed.getD j true||jL ops ops.size j k||(match ops[j]? with
    |some oj=>oi.apart ops oj&&rR ops oi oj
    |none=>true))&&
  a6C ops m fuel (k+1) (listed.setIfInBounds k true)
def zV(ops:Array Oper)(m:Nat):Bool:=(List.range ops.size).all λj=>decide (j<m)||(List.range m).all λi=>jL ops ops.size j i
def d5I(ops:Array Oper)(m:Nat):Bool:=((gE ops).isEmpty||(ops.toList.all (d1C ops)&&decide ((gE ops).Nodup)))&&(decide (m<=ops.size)&&zV ops m)&&a6C ops m m 0 (Array.replicate ops.size false)
section
variable {P:Program} {G:GT} {st:St}
theorem a8z{k n j:Nat}(h:(qU k n).getD j true=false):k<=j/\j<n:=by
 unfold qU at h;rw[g0Y]at h;by_cases hj:j<n
 .simp[hj]at h;omega
 .simp[hj]at h
theorem a9t{ops:Array Oper}{m j i:Nat}{o:Oper}(h:zV ops m=true)(hj:m<=j)(ho:ops[j]? =some o)(hi:i<m):jL ops ops.size j i=true:=by
 unfold zV at h;have hjs:=(g1f.1 ho).1;have h1:=g0Z.1 h j (List.mem_range.2 hjs);simp only[g1i,decide_eq_true_eq]at h1;rcases h1 with h1|h1
 .omega
 .exact g0Z.1 h1 i (List.mem_range.2 hi)
def b3u(P:Program)(G:GT)(ops:Array Oper)(m:Nat)(Q:St->Prop):Nat->Array Bool->St->Prop
 |0,listed,st=>listed=qU m ops.size/\Q st
 |fuel+1,listed,st=>Region.ready .any ops listed≠[]/\∀i∈Region.ready .any ops listed,i<m/\match ops[i]? with
  |none=>b3u P G ops m Q fuel (listed.setIfInBounds i true) st
  |some o=>pC P G true ops o (b3u P G ops m Q fuel (listed.setIfInBounds i true)) st
theorem b6g{ops:Array Oper}{m r:Nat}{Q:St->Prop}{QQ:Exit->Act->World->Prop}:∀(fuel:Nat) (listed:Array Bool) (st:St),b3u P G ops m Q fuel listed st->∀(base:dH) (R:Nat->Nat->Prop) (μ:Nat->Nat) (a:Act) (w:World),Rel P G base R μ st a w->
  (∀s a' w' R' μ',Q s->Rel P G base R' μ' s a' w'->Step base R w R' w'->wpAny P .any ops QQ r (qU m ops.size) a' w')->wpAny P .any ops QQ (fuel+r) listed a w
 |0,_,st,h,base,R,μ,a,w,hr,hk=>by rw[Nat.zero_add,h.1];exact hk st a w R μ h.2 hr (.refl _ _ _)
 |fuel+1,listed,st,h,base,R,μ,a,w,hr,hk=>by
  rw[show fuel+1+r=(fuel+r)+1 by omega];refine⟨λh0=>absurd h0 h.1,λi hi=>?_⟩;have h1:=(h.2 i hi).2;unfold wpOp;split
  .rename_i ho;rw[ho]at h1;exact b6g fuel _ st h1 base R μ a w hr hk
  .rename_i o ho;rw[ho]at h1;exact tE h1 hr λs v w' R' μ' h' gD rE=>b6g fuel _ s h' base R' μ' _ w' gD λs a' w2 R2 μ2 q1 q2 q3=>hk s a' w2 R2 μ2 q1 q2 (rE.trans q3)
theorem b6h{listed:Array Bool}{i j:Nat}(hj:listed.getD j true=false)(eU:j≠i):(listed.setIfInBounds i true).getD j true=false:=by rw[getD_set_ne true (Ne.symm eU)];exact hj
theorem c5r{ops:Array Oper}{m:Nat}{Q:St->Prop}{i:Nat}{oi:Oper}(him:i<m)(hT:zV ops m=true)(hA:qR ops)(hi:ops[i]? =some oi)(hsi:(dI oi.op=true/\oO ops oi=false)\/qH oi=true):
  ∀(fuel:Nat) (listed:Array Bool) (st s:St),gF ops listed->
   (∀j oj,ops[j]? =some oj->j≠i->listed.getD j true=false->jL ops ops.size j i=false->oi.apart ops oj=true/\rR ops oi oj=true)->
   i∈Region.ready .any ops listed->rT ops listed st->Eff P G ops oi st s->
   b3u P G ops m Q fuel (listed.setIfInBounds i true) s->b3u P G ops m Q (fuel+1) listed st:=by
 have low:∀(listed:Array Bool),gF ops listed->i∈Region.ready .any ops listed->∀j∈Region.ready .any ops listed,j<m:=λlisted pM hr j hj=>by apply Classical.byContradiction;intro hjm;obtain⟨_,oj,hoj,dR⟩:=mem_ready.1 hj;obtain⟨a3e,_⟩:=mem_ready.1 hr;have h1:=a9t hT (Nat.le_of_not_lt hjm) hoj him;rw[dL pM a3e ops.size j λo ho=>by rw[hoj]at ho;cases ho;exact dR]at h1;cases h1
 intro fuel
 induction fuel with
 |zero=>
  intro listed st s pM _ hr _ hy H;refine⟨λh=>(by rw[h]at hr;cases hr),λj hj=>⟨low listed pM hr j hj,?_⟩⟩;by_cases hji:j=i
  .subst hji;rw[hi];exact(dY hsi).2 ⟨s,hy,H⟩
  .exfalso;obtain⟨yV,oj,hoj,dR⟩:=mem_ready.1 hj;obtain⟨a3e,_⟩:=mem_ready.1 hr;have h1:=b6h yV hji;rw[H.1]at h1;have h2:=a8z h1;have:=low listed pM hr j hj;omega
 |succ fuel ih=>
  intro listed st s pM a0g hr hI hy H;refine⟨λh=>(by rw[h]at hr;cases hr),λj hj=>⟨low listed pM hr j hj,?_⟩⟩;by_cases hji:j=i
  .subst hji;rw[hi];exact(dY hsi).2 ⟨s,hy,H⟩
  .have h1:=(H.2 j (ready_mono hj hji)).2;obtain⟨yV,oj,hoj,dR⟩:=mem_ready.1 hj;rw[hoj]at h1|-;simp only at h1|-;obtain⟨a3e,oi',c1D,b0w⟩:=mem_ready.1 hr;have a5G:jL ops ops.size j i=false:=dL pM a3e _ _ λo ho=>by rw[hoj]at ho;cases ho;exact dR
   obtain⟨hap,hpo⟩:=a0g j oj hoj hji yV a5G;have hsj:(dI oj.op=true/\oO ops oj=false)\/qH oj=true:=by
    by_cases hs:qH oj=true
    .exact .inr hs
    .refine .inl ⟨?_,?_⟩
     .unfold rR at hpo;simp only[qH,g1i,g0W,Bool.not_eq_true']at hpo hs;rcases hpo with((((((h|h)|h)|h)|h)|h)|h)|h
      .exact h.1.2
      .exact absurd (.inl (.inl h.1.2)) hs
      .exact h.1.1.2
      .exact absurd (.inl (.inr h.2)) hs
      .exact h.1.2
      .exact absurd (.inl h.1.2) hs
      .exact absurd (.inr h.2) hs
      .exact(pD (G:=G) (st:=st) h.1.2).1
     .cases hx:oO ops oj with
      |false=>rfl
      |true=>
       have aF:i<ops.size:=(g1f.1 hi).1;rcases wH hx hoj aF (λe=>hji e.symm)with h'|h'
       .have:=dL pM yV ops.size i λo ho=>by rw[c1D]at ho;cases ho;exact b0w
        rw[h']at this;cases this
       .rw[a5G]at h';cases h'
   obtain⟨s12,hu,hk⟩:=(dY hsj).1 h1;obtain⟨s2,e1,e2⟩:=b0v hap hpo (λhn d hd=>hI i oi d hi hn a3e hd) (λhn d hd=>hI j oj d hoj hn yV hd) hy hu;refine(dY hsj).2 ⟨s2,e1,?_⟩;refine ih (listed.setIfInBounds j true) s2 s12 (pM.set hj) (λk ok hk' hki hun tS=>?_) (ready_mono hr (Ne.symm hji)) (hI.step hA hoj λk hf hn=>vN e1 hf hn) e2 ?_
   .exact a0g k ok hk' hki (uM hun).2 tS
   .rw[Array.setIfInBounds_comm _ _ hji];exact hk
theorem c0f{ops:Array Oper}{m:Nat}{Q:St->Prop}(hTA:zV ops m=true)(hA:qR ops)(hT:gE ops=[]\/∀o∈ops.toList,d1C ops o=true):∀(l:List Oper) (k:Nat) (listed:Array Bool) (st:St),k+l.length=m->(∀j,j<l.length->l[j]? =ops[k+j]?)->gF ops listed->rT ops listed st->
  a6C ops m l.length k listed=true->vG P G true ops l st Q->b3u P G ops m Q l.length listed st
 |[],_,_,_,_,_,_,_,hB,h=>⟨by simpa[a6C]using hB,h⟩
 |o::l,k,listed,st,hkm,hl,pM,hI,hB,h=>by
  have f0B:k<m:=by simp only[List.length_cons]at hkm;omega
  have h0:ops[k]? =some o:=by simpa using (hl 0 (by simp)).symm
  simp only[List.length_cons,a6C,g0W,h0]at hB;obtain⟨⟨hr,hf⟩,hB'⟩:=hB;have hrk:k∈Region.ready .any ops listed:=by simpa using hr
  have sH:∀s,rT ops (listed.setIfInBounds k true) s->vG P G true ops l s Q->b3u P G ops m Q l.length (listed.setIfInBounds k true) s:=λs hs h=>c0f hTA hA hT l (k+1) _ s (by simp only[List.length_cons]at hkm;omega) (λj hj=>by have:=hl (j+1) (by simpa using hj);simpa[Nat.add_assoc,Nat.add_comm 1 j]using this) (pM.set hrk) hs hB' h
  have b5j:∀j oj,ops[j]? =some oj->j≠k->listed.getD j true=false->jL ops ops.size j k=false->o.apart ops oj=true/\rR ops o oj=true:=by intro j oj hj eU hun tS;rw[g0Z]at hf;have h1:=hf j (List.mem_range.2 (g1f.1 hj).1);simp only[hj,g1i,beq_iff_eq,eU,false_or,hun,Bool.false_eq_true,tS,g0W]at h1;exact h1
  have only:(∀j oj,ops[j]? =some oj->j≠k->listed.getD j true=false->jL ops ops.size j k=false->False)->b3u P G ops m Q (l.length+1) listed st:=λtS=>by
   have low:∀j∈Region.ready .any ops listed,j<m:=λj hj=>by apply Classical.byContradiction;intro hjm;obtain⟨_,oj,hoj,dR⟩:=mem_ready.1 hj;obtain⟨a3e,_⟩:=mem_ready.1 hrk;have h1:=a9t hTA (Nat.le_of_not_lt hjm) hoj f0B;rw[dL pM a3e ops.size j λo ho=>by rw[hoj]at ho;cases ho;exact dR]at h1;cases h1
   refine⟨λh'=>(by rw[h']at hrk;cases hrk),λj hj=>⟨low j hj,?_⟩⟩;by_cases hjk:j=k
   .subst hjk;rw[h0];have b9N:pC P G true ops o (λs=>vG P G true ops l s Q/\rT ops (listed.setIfInBounds j true) s) st:=by
     by_cases hT0:gE ops=[]
     .refine gY (λs hs=>⟨hs,λi oi d hi hn _ hd=>?_⟩) h;have:d∈gE ops:=List.mem_filterMap.2 ⟨oi,by rw[Array.mem_toList_iff];exact Array.mem_of_getElem? hi,by rw[if_pos hn];exact hd⟩;rw[hT0]at this;cases this
     .have hT:=hT.resolve_left hT0;refine gY (λs hs=>⟨hs.1,hI.step hA h0 hs.2⟩) (b9M hT0 (hT o (by rw[Array.mem_toList_iff];exact Array.mem_of_getElem? h0)) h)
    exact gY (λs hs=>sH s hs.2 hs.1) b9N
   .obtain⟨yV,oj,hoj,dR⟩:=mem_ready.1 hj;have a5G:jL ops ops.size j k=false:=dL pM (mem_ready.1 hrk).1 _ _ λo' wD=>by rw[hoj]at wD;cases wD;exact dR
    exact(tS j oj hoj hjk yV a5G).elim
  by_cases hs:(dI o.op=true/\oO ops o=false)\/qH o=true
  .obtain⟨s,hd,hk⟩:=(dY hs).1 h;exact c5r f0B hTA hA h0 hs l.length listed st s pM (λj oj hj eU hun tS=>b5j j oj hj eU hun tS) hrk hI hd (sH _ (hI.step hA h0 λk hf hn=>vN hd hf hn) hk)
  .refine only λj oj hj eU hun tS=>?_;obtain⟨_,hpo⟩:=b5j j oj hj eU hun tS;cases hal:oO ops o with
   |true=>
    obtain⟨_,ok,oI,d4H⟩:=mem_ready.1 hrk;have d4I:jL ops ops.size k j=false:=dL pM hun _ _ λo' wD=>by rw[oI]at wD;cases wD;exact d4H
    rcases wH hal h0 (g1f.1 hj).1 eU with h'|h'
    .rw[tS]at h';cases h'
    .rw[d4I]at h';cases h'
   |false=>
    unfold rR at hpo;simp only[qH,g1i,g0W,Bool.not_eq_true']at hpo hs;rcases hpo with((((((h'|h')|h')|h')|h')|h')|h')|h'
    .exact hs (.inl ⟨h'.1.1,hal⟩)
    .exact hs (.inl ⟨h'.1.1,hal⟩)
    .exact hs (.inr (.inl (.inl h'.1.1.1)))
    .exact hs (.inl ⟨h'.1,hal⟩)
    .exact hs (.inr (.inl (.inr h'.1.1)))
    .exact hs (.inr (.inl h'.1.1))
    .exact hs (.inl ⟨(pD (G:=G) (st:=st) h'.1.1).1,hal⟩)
    .exact hs (.inr (.inr h'.1.1))
theorem b6i{id:Nat}{ops:Array Oper}{m:Nat}{T:St->Prop}{Q:Exit->St->Prop}(hm:P.follows .mixedOrders=true)(hB:d5I ops m=true)(hF:b2d ops st=true)(h:vG P G true ops (ops.toList.take m) st T)(hT:∀s base R μ a w (QQ:Exit->Act->World->Prop),T s->Rel P G base R μ s a w->(∀s' a' w' R' μ',Q .normal s'->Rel P G base R' μ' s' a' w'->Step base R w R' w'->QQ .normal a' w')->wpAny P .any ops QQ (ops.size-m) (qU m ops.size) a w):SW P G (.region id ops true) st Q:=by
 intro base R μ a w hr;obtain⟨gD,rE⟩:=hr.drew;unfold d5I at hB;rw[g0W,g0W,g0W,decide_eq_true_eq]at hB;obtain⟨⟨hN,f0C,hTA⟩,hB⟩:=hB;rw[g1i,List.isEmpty_iff,g0W,g0Z,decide_eq_true_eq]at hN;have mem:∀ {i oi d},ops[i]? =some oi->eW oi=true->oi.dst=some d->d∈gE ops:=λhi hn hd=>List.mem_filterMap.2 ⟨_,by rw[Array.mem_toList_iff];exact Array.mem_of_getElem? hi,by rw[if_pos hn];exact hd⟩;have hA:qR ops:=λi j oi oj d hi hj hni hnj hdi hdj=>by
  rcases hN with hN|⟨_,hN⟩
  .have:=mem hi hni hdi;rw[hN]at this;cases this
  .exact b5y (l:=ops.toList) (f:=λo=>if eW o then o.dst else none) hN i j (by simpa using hi) (by simpa using hj) (by rw[if_pos hni];exact hdi) (by rw[if_pos hnj];exact hdj)
 have hI:rT ops (Array.replicate ops.size false) st:=λj oj d hj hn _ hd=>g0Z.1 hF d (mem hj hn hd);have hlen:(ops.toList.take m).length=m:=by simp;omega
 have h1:=c0f (P:=P) (G:=G) hTA hA (hN.imp (λh=>h) (λh=>h.1)) (ops.toList.take m) 0 (Array.replicate ops.size false) st (by rw[hlen];omega) (λj hj=>by
  rw[hlen]at hj;rw[List.getElem?_take,if_pos hj];simp) (λk hk=>by
  rcases Nat.lt_or_ge k ops.size with h'|h'
  .simp[h']at hk
  .simp[Nat.not_lt.2 h']at hk) hI (by rw[hlen];exact hB) h
 rw[hlen]at h1;refine wp_region_any hm ?_;have h2:=b6g (r:=ops.size-m) (QQ:=λe a' w'=>∃s' R' μ',Q e s'/\Rel P G base R' μ' s' a' w'/\Step base R w R' w') m _ st h1 base R μ a w.drew gD λs a' w' R' μ' q1 q2 q3=>hT s base R' μ' a' w' _ q1 q2 λs2 a2 w2 R2 μ2 p1 p2 p3=>⟨s2,R2,μ2,p1,p2,(rE.trans q3).trans p3⟩
 rw[show m+(ops.size-m)=ops.size by omega]at h2;exact h2
end
end Go.VM
end
section
namespace Go.VM
open Go Go.RowKit
def spl(cur:Array Value)(off:Nat)(l:List Value):Array Value:=(cur.toList.take off++l++cur.toList.drop (off+l.length)).toArray
theorem b0M{cur:Array Value}{off:Nat}{l:List Value}(h:off+l.length<=cur.size)(k:Nat):(spl cur off l)[k]? =if k<off then cur[k]? else if k<off+l.length then l[k-off]? else cur[k]? :=by unfold spl;rw[List.getElem?_toArray,a4q _ _ _ (by simpa using h)];simp
theorem b6j{cur:Array Value}{off:Nat}{l:List Value}(h:off+l.length<=cur.size):(spl cur off l).size=cur.size:=by unfold spl;simp only[List.size_toArray,List.length_append,List.length_take,List.length_drop,Array.length_toList];omega
theorem e1M{cur:Array Value}{off:Nat}{l l':List Value}(h:off+l.length<=cur.size)(hl:l'.length=l.length):spl (spl cur off l) off l'=spl cur off l':=by
 apply Array.ext_getElem?;intro k;have h1:=b6j h;rw[b0M (by rw[h1];omega),b0M h,b0M (by omega)];rw[hl];split
 .rfl
 .split
  .rfl
  .rfl
theorem e1N(a b c:List Value)(b':List Value)(h:b'.length=b.length):spl (a.toArray++b.toArray++c.toArray) a.length b'=a.toArray++b'.toArray++c.toArray:=by unfold spl;rw[h];simp
theorem setRow_setRow(w:World)(g:Nat)(a b:Array Value):(w.setRow g a).setRow g b=w.setRow g b:=by
 unfold World.setRow;cases w with
 |mk heap tape drawn os output=>
  simp only;congr 1;apply Array.ext
  .simp
  .intro k h1 h2;simp only[Array.getElem_modify];by_cases hk:g=k
   .simp only[hk,if_true];generalize heap[k]'(by simpa using h1)=o;cases o<;>rfl
   .simp[hk]
theorem b3v(w:World){g b:Nat}(eU:g≠b)(x y:Array Value):(w.setRow g x).setRow b y=(w.setRow b y).setRow g x:=by
 unfold World.setRow;cases w with
 |mk heap tape drawn os output=>
  simp only;congr 1;apply Array.ext
  .simp
  .intro k h1 h2;simp only[Array.getElem_modify];by_cases hk:g=k
   .subst hk;simp[Ne.symm eU]
   .by_cases hb:b=k
    .subst hb;simp[hk]
    .simp[hk,hb]
section
variable {P:Program} {G:GT} {st:St}
theorem uP{a:Act}{w:World}{o:Oper}{t:TypeId}{ad x:Operand}(ho:o.op=.store t ad x){b off:Nat}{cur:Array Value}{T:TypeId}(had:a.eval ad=.pointer (some ⟨b,off,none⟩))(hh:w.heap[b]? =some (.cells cur T (0,0)))(jZ:(a.eval x).cells.size=P.cellsOf t)(eU:P.cellsOf t≠0)(jS:∀u∈(a.eval x).cells.toList,u.oneCell'=true)(kU:off+(a.eval x).cells.size<=cur.size):
  (execOp a.eval o).run P w=.ok .skip (w.setRow b (spl cur off (a.eval x).cells.toList)):=by
 have mU:=run_storeCells_at P b off T (a.eval x).cells.toList 0 cur w hh (by simpa using kU) jS;simp only[Nat.add_zero]at mU;have hnn: ¬((a.eval x).cells.size≠P.cellsOf t):=by rw[jZ];simp
 unfold spl;simp only[execOp,ho,Sem.run_bind,had,Instr.storeAt,Instr.sureAddr,storeVar,Sem.run_pure,Result.andThen_ok,qL (eL eU) w,if_neg hnn,mU]
theorem a3P{a:Act}{w:World}{o:Oper}{t e:TypeId}{x i:Operand}(ho:o.op=.indexAddr t x i)(hu:P.underlying t=some (.slice e)){b n cap k:Nat}{kd:IntKind}(hx:a.eval x=.slice (some ⟨b,0,none⟩) n cap)(hi:a.eval i=.int kd (k:Int))(hk:k<n)(hs:0<P.cellsOf e):
  (execOp a.eval o).run P w=.ok (.value (.pointer (some ⟨b,k*P.cellsOf e,none⟩))) w:=by
 have hso:=qL (eL (P:=P) (t:=e) (by omega)) w;have hkn: ¬(n<=k):=by omega
 simp[execOp,ho,hx,hi,Instr.indexAt,run_underlying hu,asIntOf,hk,hso,oJ]
theorem b3w{base:dH}{R:Nat->Nat->Prop}{μ:Nat->Nat}{a:Act}{w:World}(hr:Rel P G base R μ st a w){t ty e:TypeId}(oI:jK P e=true)(hu:P.underlying t=some (.slice e)){i:Tmp}{x:Operand}{xs:List (List D)}{z0:List D}{eP:List (TypeId×List Loc)}(hsx:st.eval G (.tmp i)=.d (.sl xs))(htk:jD (.t i) st.own=some (e,eP))(hlx:∀c∈xs,c.length=P.cellsOf e)(hx:st.eval G x=.d (.sl [z0]))(hz0:z0.length=P.cellsOf e)(hbd:(xs.length+1)*(P.bytesOf e+1)<=140737488355328):
  ∃g cap a3n w1,(Builtin.append_ #[t,t] ty #[a.eval (.tmp i),a.eval x]).run P w=.ok (.slice (some ⟨g,0,none⟩) (xs.length+1) cap) w1/\w1.heap[g]? =some (.cells a3n e (0,0))/\xs.length*P.cellsOf e+P.cellsOf e<=a3n.size/\
   (∀k o,getKey k st.H=some o->μ k≠g/\w1.heap[μ k]? =w.heap[μ k]?)/\
   ∀(news:List Value) (c:List D),news.length=P.cellsOf e->c.length=P.cellsOf e->(∀u∈news,u.oneCell'=true)->(∀(j:Nat) (d:D),c[j]? =some d->d.one=true/\∃v,news[j]? =some v/\V R w v d)->
    ∃R1,Rel P G base R1 μ {st with own:=eP} a (w1.setRow g (spl a3n (xs.length*P.cellsOf e) news))/\V R1 (w1.setRow g (spl a3n (xs.length*P.cellsOf e) news)) (.slice (some ⟨g,0,none⟩) (xs.length+1) cap) (.sl (xs++[c]))/\
     a5R P base R1 μ {st with own:=eP} a (w1.setRow g (spl a3n (xs.length*P.cellsOf e) news)) (.slice (some ⟨g,0,none⟩) (xs.length+1) cap) (.fresh e)/\Step base R w R1 (w1.setRow g (spl a3n (xs.length*P.cellsOf e) news)):=by
 obtain⟨ti,z,hi,xK,a9g,a1E,hz,hzs⟩:=a0d oI;have hb1:xs.length+1<=140737488355328:=by rw[Nat.mul_add]at hbd;omega
 have hb2:(xs.length+1)*P.bytesOf e<=140737488355328:=by rw[Nat.mul_add]at hbd;omega
 obtain⟨ao2,e1O,hv2,a8A⟩:=b9B (ys:=[z0]) hr (by rw[hx];rfl);obtain⟨b2,e1P,f0D,rfl,q1,q2,q3⟩:=a8A (by simp);have f4q:f0D=P.cellsOf e:=by rw[<-q2 z0 (.head _),hz0]
 subst f4q;obtain⟨n0,m1,m2,m3,m4⟩:=b0o q2 q3;simp only[List.length_singleton,Nat.one_mul]at m1 hv2;obtain⟨gD,v0,vs,hv0,mN,a3E,rO,hap⟩:=hr.jD htk;have hsv:a.eval (.tmp i)=v0:=by
  refine hv0 _ ?_
  show a.tmps[i]? =some (a.tmps.getD i undef)
  by_cases hs:i<a.tmps.size
  .simp[hs]
  .have h3: ¬i<st.tmps.length:=by rw[<-hr.size];exact hs
   simp[St.eval,List.getD,List.getElem?_eq_none (Nat.le_of_not_lt h3)]at hsx
 have hV:=hr.mF hsx;have aF:∀k o,getKey k st.H=some o->μ k<w.heap.size:=λk o hk=>(hr.jR k o hk).2.2.lt;have b8w:∀(olds:List Value) (old:Nat),olds.length=xs.length*P.cellsOf e->(∀(i j:Nat) (c:List D) (d:D),xs[i]? =some c->c[j]? =some d->d.one=true/\∃v,olds[i*P.cellsOf e+j]? =some v/\V R w v d)->
   (Builtin.append_ #[t,t] ty #[a.eval (.tmp i),a.eval x]).run P w=.ok (.slice (some ⟨w.heap.size,0,none⟩) (xs.length+1) (grownCap w (xs.length+1) old e)) (w.drew.alloc (.cells (olds.toArray++n0.toArray++Builtin.zeroCells z.cells (grownCap w (xs.length+1) old e-(xs.length+1))) e))->
   ∃g cap a3n w1,(Builtin.append_ #[t,t] ty #[a.eval (.tmp i),a.eval x]).run P w=.ok (.slice (some ⟨g,0,none⟩) (xs.length+1) cap) w1/\w1.heap[g]? =some (.cells a3n e (0,0))/\xs.length*P.cellsOf e+P.cellsOf e<=a3n.size/\
   (∀k o,getKey k st.H=some o->μ k≠g/\w1.heap[μ k]? =w.heap[μ k]?)/\
   ∀(news:List Value) (c:List D),news.length=P.cellsOf e->c.length=P.cellsOf e->(∀u∈news,u.oneCell'=true)->(∀(j:Nat) (d:D),c[j]? =some d->d.one=true/\∃v,news[j]? =some v/\V R w v d)->
    ∃R1,Rel P G base R1 μ {st with own:=eP} a (w1.setRow g (spl a3n (xs.length*P.cellsOf e) news))/\V R1 (w1.setRow g (spl a3n (xs.length*P.cellsOf e) news)) (.slice (some ⟨g,0,none⟩) (xs.length+1) cap) (.sl (xs++[c]))/\
     a5R P base R1 μ {st with own:=eP} a (w1.setRow g (spl a3n (xs.length*P.cellsOf e) news)) (.slice (some ⟨g,0,none⟩) (xs.length+1) cap) (.fresh e)/\Step base R w R1 (w1.setRow g (spl a3n (xs.length*P.cellsOf e) news)):=by
  intro olds old ho1 ho2 cW;refine⟨w.heap.size,_,_,_,cW,heap_alloc_new w.drew _,?_,λk o hk=>⟨by have:=aF k o hk;omega,Below.heap_alloc w.drew _ _ (aF k o hk)⟩,?_⟩
  .simp only[Array.size_append,List.size_toArray,ho1,m1];omega
  .intro news c hn hc h1 hcn;have hsp:spl (olds.toArray++n0.toArray++Builtin.zeroCells z.cells (grownCap w (xs.length+1) old e-(xs.length+1))) (xs.length*P.cellsOf e) news=olds.toArray++news.toArray++Builtin.zeroCells z.cells (grownCap w (xs.length+1) old e-(xs.length+1)):=by have:=e1N olds n0 (Builtin.zeroCells z.cells (grownCap w (xs.length+1) old e-(xs.length+1))).toList news (by rw[hn,m1]);rw[ho1]at this;simpa using this
   rw[hsp];have hal:=c1W w.drew (olds.toArray++n0.toArray++Builtin.zeroCells z.cells (grownCap w (xs.length+1) old e-(xs.length+1))) (olds.toArray++news.toArray++Builtin.zeroCells z.cells (grownCap w (xs.length+1) old e-(xs.length+1))) e;have hhs:w.drew.heap.size=w.heap.size:=rfl;rw[hhs]at hal;rw[hal];obtain⟨R',n1,n2,n3,n4⟩:=a9h gD (e:=e) (z:=z) a1E hzs (xs:=xs) (ys:=[c]) (olds:=olds) (news:=news) old (by unfold maxLen;simp;omega) hlx (by simpa using hc) ho1 (by simpa using hn) ho2 (λi j c' d hi hj=>by
    cases i with
    |zero=>simp at hi;subst hi;simpa using hcn j d hj
    |succ i=>simp at hi) _ rfl
   exact⟨R',n1,n3,n4,n2⟩
 have b4c:xs=[]->(∃ao,v0=.slice ao 0 0)->_:=λhx0 ⟨ao,hao⟩=>b8w [] 0 (by rw[hx0];simp) (by rw[hx0];simp) (by
  rw[hsv,hao,hv2,hx0];cases ao with
  |none=>have:=run_append_nil (P:=P) w t ty e ti z hu hi hz ⟨b2,e1P,none⟩ 1 e1O n0 (by rw[m1,xK,Nat.one_mul]) m2 (by omega) (by omega) (by rw[a9g];rw[hx0]at hb2;simp at hb2;omega);simpa using this
  |some b0=>have:=run_append_grow (P:=P) w t ty e ti z hu hi hz b0 0 0 [] (by simp) (by simp) ⟨b2,e1P,none⟩ 1 e1O n0 (by rw[m1,xK,Nat.one_mul]) m2 (by omega) (by omega) (by rw[a9g];rw[hx0]at hb2;exact growslice_fits (by omega) (by simpa using hb2));simpa using this)
 rcases mN with⟨ao,rfl⟩|⟨g,n,cap,cur,rfl,hbg,hg,hnc,hcm,rI,hnR⟩
 .have hx0:xs=[]:=by obtain⟨ao',d9O,h1,_⟩:=hV.a0y;rw[hsv]at h1;exact List.eq_nil_of_length_eq_zero (Value.slice.inj h1).2.1.symm
  exact b4c hx0 ⟨ao,rfl⟩
 .obtain⟨ao',d9O,h1,_,d4z⟩:=hV.a0y;rw[hsv]at h1;cases h1;have holds:∃olds:List Value,olds.length=xs.length*P.cellsOf e/\(∀(j:Nat) (u:Value),olds[j]? =some u->w.cell? ((⟨g,0,none⟩:Addr).add j)=some u)/\
    ∀(i j:Nat) (c:List D) (d:D),xs[i]? =some c->c[j]? =some d->d.one=true/\∃v,olds[i*P.cellsOf e+j]? =some v/\V R w v d:=by
   by_cases hx0:xs=[]
   .subst hx0;exact⟨[],by simp,by simp,by simp⟩
   .obtain⟨b,o',size,hba,q1,q2,q3⟩:=d4z hx0;cases hba;have jZ:size=P.cellsOf e:=by
     cases xs with
     |nil=>exact absurd rfl hx0
     |cons c l=>rw[<-q2 c (.head _),hlx c (.head _)]
    subst jZ;obtain⟨olds,n1,n2,_,n4⟩:=b0o q2 q3;exact⟨olds,n1,n2,n4⟩
  obtain⟨olds,o1,o2,o3⟩:=holds;by_cases a5Z:xs.length+1<=cap
  .have hmul:(xs.length+1)*P.cellsOf e<=cap*P.cellsOf e:=Nat.mul_le_mul_right _ a5Z;have e4E:xs.length*P.cellsOf e+P.cellsOf e<=cur.size:=by rw[rI];rw[Nat.add_mul,Nat.one_mul]at hmul;exact hmul
   have kU:xs.length*P.cellsOf e+n0.length<=cur.size:=by rw[m1];exact e4E
   have cW:=run_append_room (P:=P) w t ty e ti hu hi g xs.length cap cur hg ⟨b2,e1P,none⟩ 1 e1O n0 (by rw[m1,xK,Nat.one_mul]) m2 m3 a5Z (by rw[xK];exact kU);rw[xK]at cW;have a8A:(Builtin.append_ #[t,t] ty #[a.eval (.tmp i),a.eval x]).run P w=.ok (.slice (some ⟨g,0,none⟩) (xs.length+1) cap) (w.setRow g (spl cur (xs.length*P.cellsOf e) n0)):=by rw[hsv,hv2];exact cW
   have b4d:bK (.slice (some ⟨g,0,none⟩) xs.length cap)=some g:=by simp[bK];omega
   have f0E:∀k o,getKey k st.H=some o->μ k≠g:=λk o hk he=>a3E k o hk (by rw[b4d,he]);refine⟨g,cap,_,_,a8A,setRow_heap w g cur _ e _ hg,?_,λk o hk=>⟨f0E k o hk,setRow_other w g _ _ (f0E k o hk)⟩,?_⟩
   .rw[b6j kU];exact e4E
   .intro news c hn hc h1n hcn;have hnl:news.length=n0.length:=by rw[hn,m1]
    rw[e1M kU hnl,setRow_setRow];have e4F:xs.length*P.cellsOf e+news.length<=cur.size:=by rw[hnl];exact kU
    generalize c4l:spl cur (xs.length*P.cellsOf e) news=cur';have a5D:∀k,cur'[k]? =if k<xs.length*P.cellsOf e then cur[k]? else if k<xs.length*P.cellsOf e+news.length then news[k-xs.length*P.cellsOf e]? else cur[k]? :=λk=>by rw[<-c4l];exact b0M e4F k
    obtain⟨p1,p2,p3⟩:=gD.d0e (g:=g) (n:=xs.length) (m:=1) (s:=P.cellsOf e) (cur':=cur') (λk o' hk he=>a3E k o' hk (by rw[b4d,he])) rO (λv' hv' hsp=>(hap v' hv').1 g b4d hsp) hbg hg hnR (λoff d1w=>by rw[a5D,if_pos d1w]);have e4G:(w.setRow g cur').heap[g]? =some (.cells cur' e (0,0)):=setRow_heap w g cur _ e _ hg;have d4y:cur'.size=cap*P.cellsOf e:=by rw[<-c4l,b6j e4F,rI]
    refine⟨_,p1,?_,?_,p2⟩
    .have hly:∀c'∈[c],c'.length=P.cellsOf e:=by simpa using hc
     have qC:∀(i j:Nat) (c':List D) (d:D),(xs++[c])[i]? =some c'->c'[j]? =some d->d.one=true/\∃v,(w.setRow g cur').cell? ⟨g,0+i*P.cellsOf e+j,none⟩=some v/\V R w v d:=λi j c' d hi' hj=>by
      rw[Nat.zero_add,cell_of_row _ _ _ cur' e (0,0) e4G,a5D];by_cases vJ:i<xs.length
      .rw[g1h vJ]at hi';obtain⟨w1,v,w2,w3⟩:=o3 i j c' d hi' hj;have aF:=(g0X.1 w2).1;have b5q:=o2 _ v w2;rw[oJ,Nat.zero_add,cell_of_row _ _ _ cur e (0,0) hg]at b5q;rw[if_pos (by omega)];exact⟨w1,v,b5q,w3⟩
      .rw[g1e (by omega)]at hi';have hi0:i=xs.length:=by have:=(g0X.1 hi').1;simp at this;omega
       subst hi0;simp at hi';subst hi';obtain⟨w1,v,w2,w3⟩:=hcn j d hj;have aF:=(g0X.1 w2).1;rw[if_neg (by omega),if_pos (by omega),Nat.add_sub_cancel_left];exact⟨w1,v,w2,w3⟩
     refine .sl g 0 _ cap (P.cellsOf e) _ (λi j=>((w.setRow g cur').cell? ⟨g,0+i*P.cellsOf e+j,none⟩).getD undef) (by simp) a5Z a1E (λc' hc'=>by simp at hc';rcases hc' with hc'|hc';exact hlx c' hc';exact hly c' (by simpa using hc')) (λi j hi' hj=>⟨.inr ⟨rfl,?_⟩,?_⟩) (λi j c' d hi' hj=>(qC i j c' d hi' hj).1) (λi j c' d hi' hj=>?_)
     .have:(i+1)*P.cellsOf e<=(xs.length+1)*P.cellsOf e:=Nat.mul_le_mul_right _ (by omega);rw[Nat.add_mul]at this;omega
     .have vJ:i<(xs++[c]).length:=by simp;omega
      have hei:=g1a vJ;have hjl:j<((xs++[c])[i]).length:=by
       have hm:(xs++[c])[i]∈xs++[c]:=List.getElem_mem vJ;rw[List.mem_append]at hm;rcases hm with hm|hm
       .rw[hlx _ hm];exact hj
       .rw[hly _ hm];exact hj
      obtain⟨_,v,hv,_⟩:=qC i j _ _ hei (g1a hjl);rw[hv];rfl
     .obtain⟨_,v,hv,hvd⟩:=qC i j c' d hi' hj;rw[hv];exact hvd.bN p2
    .refine⟨.inr ⟨g,_,cap,cur',rfl,hbg,e4G,a5Z,hcm,d4y,λoff d1w hR=>?_⟩,λk o' hk=>by have:=a3E k o' hk;rw[b4d]at this;simpa[bK,show cap≠0 by omega]using this,vs,p3,λv' hv'=>?_⟩
     .rcases hR with hR|⟨_,hR⟩
      .have:xs.length*P.cellsOf e<=(xs.length+1)*P.cellsOf e:=Nat.mul_le_mul_right _ (by omega);exact hnR off (by omega) hR
      .omega
     .have d4A:bK (.slice (some ⟨g,0,none⟩) (xs.length+1) cap)=some g:=by simp[bK];omega
      exact⟨λg' hg' c7Y=>(hap v' hv').1 g' (by rw[b4d, <- d4A];exact hg') c7Y,λg' hg' c7Y=>(hap v' hv').2 g' hg' (by rw[b4d, <- d4A];exact c7Y)⟩
  .refine b8w olds cap o1 o3 ?_;rw[hsv,hv2];exact run_append_grow (P:=P) w t ty e ti z hu hi hz ⟨g,0,none⟩ xs.length cap olds (by rw[o1,xK]) o2 ⟨b2,e1P,none⟩ 1 e1O n0 (by rw[m1,xK,Nat.one_mul]) m2 (by omega) (by omega) (by rw[a9g];exact growslice_fits (by omega) hb2)
abbrev tl2(s:St)(eP:List (TypeId×List Loc))(e:TypeId)(r p:Tmp)(xs:List (List D))(c:List D):St:=finish (finish {s with own:=eP} (some r) (.d (.sl (xs++[c]))) (.fresh e)) (some p) .undef .no
theorem dQ{ops:Array Oper}{Q:Exit->Act->World->Prop}{i:Nat}{K:Act->World->Prop}{a a':Act}{w w':World}{o:Oper}(ho:ops[i]? =some o)(hg:o.guard=none){v:Value}(cW:(execOp a.eval o).run P w=.ok (.value v) w'\/((execOp a.eval o).run P w=.ok .skip w'/\v=Go.undef))(ha:a.put o.dst v=a')(h:K a' w'):wpOp P ops Q i K a w:=by
 unfold wpOp;rw[ho];have hw:∀y,Region.wanted o y=true:=λy=>by unfold Region.wanted;rw[hg]
 simp only[hw,if_true];left;unfold Oper.wp;rcases cW with h1|⟨h1,rfl⟩
 .rw[h1]
  show K (a.put o.dst v) w'
  rw[ha];exact h
 .rw[h1]
  show K (a.put o.dst Go.undef) w'
  rw[ha];exact h
theorem e1Q{ops:Array Oper}{i0 i1 i2 i3:Nat}{L0:Array Bool}{t e:TypeId}{s z r p q x b:Tmp}{y0 y1 y2 y3:TypeId}{p0 p1 p2 p3:String}{f0 f1 f2 f3:Array Edge}{xs:List (List D)}{z0 c:List D}{eP:List (TypeId×List Loc)}{out:Out}{Q:St->Prop}{QQ:Exit->Act->World->Prop}(h0:ops[i0]? =some ⟨some r,.call {callee:=.builtin .append,args:=#[.tmp s,.tmp z],argTypes:=#[t,t]},y0,p0,f0,none⟩)(h1:ops[i1]? =some ⟨some p,.indexAddr t (.tmp r) (.tmp q),y1,p1,f1,none⟩)(h2:ops[i2]? =some ⟨none,.store e (.tmp p) (.tmp x),y2,p2,f2,none⟩)(h3:ops[i3]? =some ⟨none,.store t (.tmp b) (.tmp r),y3,p3,f3,none⟩)(r0:Region.ready .any ops L0=[i0])(r1:Region.ready .any ops (L0.setIfInBounds i0 true)=[i1,i3])(r2:Region.ready .any ops ((L0.setIfInBounds i0 true).setIfInBounds i1 true)=[i2,i3])(r3:Region.ready .any ops ((L0.setIfInBounds i0 true).setIfInBounds i3 true)=[i1])(r4:Region.ready .any ops (((L0.setIfInBounds i0 true).setIfInBounds i1 true).setIfInBounds i2 true)=[i3])(r5:Region.ready .any ops (((L0.setIfInBounds i0 true).setIfInBounds i1 true).setIfInBounds i3 true)=[i2])(r6:Region.ready .any ops (((L0.setIfInBounds i0 true).setIfInBounds i3 true).setIfInBounds i1 true)=[i2])(r7:Region.ready .any ops ((((L0.setIfInBounds i0 true).setIfInBounds i1 true).setIfInBounds i2 true).setIfInBounds i3 true)=[])(r8:Region.ready .any ops ((((L0.setIfInBounds i0 true).setIfInBounds i1 true).setIfInBounds i3 true).setIfInBounds i2 true)=[])(r9:Region.ready .any ops ((((L0.setIfInBounds i0 true).setIfInBounds i3 true).setIfInBounds i1 true).setIfInBounds i2 true)=[])(oI:jK P e=true)(hu:P.underlying t=some (.slice e))(eU:(r≠q/\r≠x/\r≠p/\r≠b)/\p≠x/\p≠b)(aF:r<st.tmps.length/\p<st.tmps.length)(hsx:st.eval G (.tmp s)=.d (.sl xs))(htk:jD (.t s) st.own=some (e,eP))(hlx:∀c∈xs,c.length=P.cellsOf e)(hx:st.eval G (.tmp z)=.d (.sl [z0]))(hz0:z0.length=P.cellsOf e)(hbd:(xs.length+1)*(P.bytesOf e+1)<=140737488355328)(hq:st.eval G (.tmp q)=.d (.int .i64 (xs.length:Int)))(hxv:st.eval G (.tmp x)=.d (.agg c))(hc:c.length=P.cellsOf e)(mU:sU P G t (.tmp b) (.tmp r) (tl2 st eP e r p xs c)=some out)(hQ:Q out.st){base:dH}{R:Nat->Nat->Prop}{μ:Nat->Nat}{a:Act}{w:World}(hr:Rel P G base R μ st a w)(hk:∀s' a' w' R' μ',Q s'->Rel P G base R' μ' s' a' w'->Step base R w R' w'->QQ .normal a' w'):wpAny P .any ops QQ 4 L0 a w:=by
 obtain⟨⟨n1,n2,n3,n4⟩,n5,n6⟩:=eU;obtain⟨l1,l2⟩:=aF;have jZ:=hr.size;obtain⟨_,_,_,_,_,a1E,_,_⟩:=a0d oI;obtain⟨g,cap,a3n,w1,e0,hg,kU,e7m,b9C⟩:=b3w (ty:=y0) hr oI hu (x:=.tmp z) hsx htk hlx hx hz0 hbd;obtain⟨pc,hpc,b2o,c5t⟩:=(hr.mF hxv).a4m;have jS:∀u∈pc.toList,u.oneCell'=true:=λu hu=>by
  obtain⟨j,hj⟩:=g1n hu;have hjl:j<c.length:=by rw[<-b2o];simpa using (g0X.1 hj).1
  obtain⟨k1,k2⟩:=c5t j c[j] (by simp[hjl]);have:pc.getD j Go.undef=u:=by
   have:pc[j]? =some u:=by simpa using hj
   simp[g0Y,this]
  rw[this]at k2;exact k2.b0k k1
 obtain⟨R1,hr1,hV1,hA1,hs1⟩:=b9C pc.toList c (by simpa[b2o]using hc) hc jS (λj d hj=>by
  obtain⟨k1,k2⟩:=c5t j d hj;have hjl:j<pc.size:=by rw[b2o];exact(g0X.1 hj).1
  refine⟨k1,pc[j],by simp[hjl],?_⟩;simpa[g0Y,hjl]using k2)
 generalize hvS:(Value.slice (some ⟨g,0,none⟩) (xs.length+1) cap)=vS at *;generalize d5J:spl a3n (xs.length*P.cellsOf e) pc.toList=b2p at *;have hra:r<a.tmps.size:=by rw[jZ];exact l1
 have hpa:p<a.tmps.size:=by rw[jZ];exact l2
 have e7o:=hr1.put (dst:=some r) (.d _ _ hV1) hA1;have hr2:=e7o.put (dst:=some p) (v:=.pointer (some ⟨g,xs.length*P.cellsOf e,none⟩)) (act:=.no) (.undef _) trivial;generalize ha1:a.put (some r) vS=a1 at *;generalize ha2:a1.put (some p) (.pointer (some ⟨g,xs.length*P.cellsOf e,none⟩))=a2 at *;have z1:a1.tmps.size=a.tmps.size:=by rw[<-ha1];exact size_put _ _ _
 have v1r:a1.eval (.tmp r)=vS:=by rw[<-ha1];exact dV _ _ hra
 have v1q:a1.eval (.tmp q)=a.eval (.tmp q):=by rw[<-ha1];exact cA _ _ (Ne.symm n1)
 have v1x:a1.eval (.tmp x)=a.eval (.tmp x):=by rw[<-ha1];exact cA _ _ (Ne.symm n2)
 have v1b:a1.eval (.tmp b)=a.eval (.tmp b):=by rw[<-ha1];exact cA _ _ (Ne.symm n4)
 have v2p:a2.eval (.tmp p)=.pointer (some ⟨g,xs.length*P.cellsOf e,none⟩):=by rw[<-ha2];exact dV _ _ (z1.symm▸hpa)
 have v2x:a2.eval (.tmp x)=.agg pc:=by rw[<-ha2,cA _ _ (Ne.symm n5),v1x,hpc]
 have v2r:a2.eval (.tmp r)=vS:=by rw[<-ha2,cA _ _ n3];exact v1r
 have v2b:a2.eval (.tmp b)=a.eval (.tmp b):=by rw[<-ha2,cA _ _ (Ne.symm n6)];exact v1b
 have a6D:=mU;unfold sU at a6D;split at a6D;rotate_left
 .cases a6D
 rename_i kb off ys hb hys;split at a6D;rotate_left
 .cases a6D
 rename_i cs hkb;split at a6D;rotate_left
 .cases a6D
 rename_i hcd
 clear a6D
 have hHs:(tl2 st eP e r p xs c).H=st.H:=rfl;rw[hHs]at hkb;have hb':a2.eval (.tmp b)=.pointer (some ⟨μ kb,off,none⟩):=hr2.dU hb;have e7r:ys.length=1:=by
  have:(tl2 st eP e r p xs c).eval G (.tmp r)=.d (.sl (xs++[c])):=by simp[St.eval,finish,List.getD,l1,List.getElem?_set,Ne.symm n3]
  rw[this]at hys;simp only[wB,D.cells,List.map_cons,List.map_nil,g1c]at hys;rw[<-hys];rfl
 obtain⟨_,_,vs0,T0,hh0,e7s,_⟩:=hr.jR kb _ hkb;obtain⟨hbg,e7t⟩:=e7m kb _ hkb;have hvc:vS.cells=#[vS]:=by rw[<-hvS];rfl
 have hvo:vS.oneCell'=true:=by rw[<-hvS];rfl
 have hob:w1.heap[μ kb]? =some (.cells vs0 T0 (0,0)):=e7t.trans hh0;generalize hX:spl vs0 off [vS]=X;have E0:(execOp a.eval ⟨some r,.call {callee:=.builtin .append,args:=#[.tmp s,.tmp z],argTypes:=#[t,t]},y0,p0,f0,none⟩).run P w=.ok (.value vS) w1:=by simp[execOp,resolve,invoke,builtin,e0]
 have E1:∀w',(execOp a1.eval ⟨some p,.indexAddr t (.tmp r) (.tmp q),y1,p1,f1,none⟩).run P w'=.ok (.value (.pointer (some ⟨g,xs.length*P.cellsOf e,none⟩))) w':=λw'=>a3P rfl hu (v1r.trans hvS.symm) (v1q.trans (hr.xI hq)) (by omega) a1E
 have E2:∀w':World,w'.heap[g]? =some (.cells a3n e (0,0))->(execOp a2.eval ⟨none,.store e (.tmp p) (.tmp x),y2,p2,f2,none⟩).run P w'=.ok .skip (w'.setRow g b2p):=λw' hw'=>by have:=uP (P:=P) (a:=a2) (w:=w') (o:=⟨none,.store e (.tmp p) (.tmp x),y2,p2,f2,none⟩) rfl v2p hw' (by rw[v2x];show pc.size=_;rw[b2o,hc]) (by omega) (by rw[v2x];exact jS) (by rw[v2x];show _+pc.size<=_;rw[b2o,hc];exact kU);rw[v2x]at this;have pM:(Value.agg pc).cells=pc:=rfl;rw[pM,d5J]at this;exact this
 have E3:∀(ax:Act) (w':World),ax.eval (.tmp b)=.pointer (some ⟨μ kb,off,none⟩)->ax.eval (.tmp r)=vS->w'.heap[μ kb]? =some (.cells vs0 T0 (0,0))->(execOp ax.eval ⟨none,.store t (.tmp b) (.tmp r),y3,p3,f3,none⟩).run P w'=.ok .skip (w'.setRow (μ kb) X):=λax w' hb1 hr1 hw'=>by have:=uP (P:=P) (a:=ax) (w:=w') (o:=⟨none,.store t (.tmp b) (.tmp r),y3,p3,f3,none⟩) rfl hb1 hw' (by rw[hr1,hvc, <- hcd.1,e7r];rfl) (by omega) (by rw[hr1,hvc];simpa using hvo) (by rw[hr1,hvc];show off+1<=_;rw[e7s];omega);rw[hr1,hvc]at this;have:(execOp ax.eval ⟨none,.store t (.tmp b) (.tmp r),y3,p3,f3,none⟩).run P w'=.ok .skip (w'.setRow (μ kb) (spl vs0 off [vS])):=this;rw[hX]at this;exact this
 have hb1:a1.eval (.tmp b)=.pointer (some ⟨μ kb,off,none⟩):=by rw[v1b, <- v2b];exact hb'
 have hgX:(w1.setRow (μ kb) X).heap[g]? =some (.cells a3n e (0,0)):=(setRow_other w1 (μ kb) g _ (Ne.symm hbg)).trans hg;have hbX:(w1.setRow g b2p).heap[μ kb]? =some (.cells vs0 T0 (0,0)):=(setRow_other w1 g (μ kb) _ hbg).trans hob;have c0g:(w1.setRow (μ kb) X).setRow g b2p=(w1.setRow g b2p).setRow (μ kb) X:=b3v w1 hbg X b2p;have a0l:QQ .normal a2 ((w1.setRow g b2p).setRow (μ kb) X):=by
  obtain⟨v,w',R',μ',cW,hr3,_,_,hs3⟩:=a7u (o:=⟨none,.store t (.tmp b) (.tmp r),y3,p3,f3,none⟩) rfl mU base R1 μ a2 _ hr2;rw[E3 a2 _ hb' v2r hbX]at cW;rcases cW with cW|⟨cW,_⟩
  .cases cW
  .cases cW;exact hk out.st a2 _ R' μ' hQ hr3 (hs1.trans hs3)
 refine wpAny_all r0 (by simp) λi hi=>?_;simp only[g1d]at hi;subst hi;refine dQ h0 rfl (.inl E0) ha1 ?_;refine wpAny_all r1 (by simp) λj hj=>?_;simp only[List.mem_cons,List.not_mem_nil,or_false]at hj;rcases hj with rfl|rfl
 .refine dQ h1 rfl (.inl (E1 w1)) ha2 ?_;refine wpAny_all r2 (by simp) λj hj=>?_;simp only[List.mem_cons,List.not_mem_nil,or_false]at hj;rcases hj with rfl|rfl
  .refine dQ h2 rfl (.inr ⟨E2 w1 hg,rfl⟩) rfl ?_;refine wpAny_all r4 (by simp) λj hj=>?_;simp only[g1d]at hj;subst hj;exact dQ h3 rfl (.inr ⟨E3 a2 _ hb' v2r hbX,rfl⟩) rfl (wpAny_done r7 a0l _)
  .refine dQ h3 rfl (.inr ⟨E3 a2 _ hb' v2r hob,rfl⟩) rfl ?_;refine wpAny_all r5 (by simp) λj hj=>?_;simp only[g1d]at hj;subst hj;exact dQ h2 rfl (.inr ⟨E2 _ hgX,rfl⟩) rfl (wpAny_done r8 (by rw[c0g];exact a0l) _)
 .refine dQ h3 rfl (.inr ⟨E3 a1 _ hb1 v1r hob,rfl⟩) rfl ?_;refine wpAny_all r3 (by simp) λj hj=>?_;simp only[g1d]at hj;subst hj;refine dQ h1 rfl (.inl (E1 _)) ha2 ?_;refine wpAny_all r6 (by simp) λj hj=>?_;simp only[g1d]at hj;subst hj;exact dQ h2 rfl (.inr ⟨E2 _ hgX,rfl⟩) rfl (wpAny_done r9 (by rw[c0g];exact a0l) _)
end
end Go.VM
end
section
namespace Go.VM
open Go Go.RowKit
section
variable {P:Program} {G:GT} {st:St} {Q:Exit->St->Prop}
theorem SW.c8B{id:Nat}{c:Code}(h:SW P G c st λe s=>match e with
  | .exit id'=>if id'=id then Q .normal s else Q (.exit id') s
  |e=>Q e s):SW P G (.block id c) st Q:=λbase R μ a w hr=>wp_block (wp_mono (h base R μ a w hr) λe a1 w1 ⟨s,R1,μ1,q1,q2,q3⟩=>by
   cases e with
   |exit id'=>
    simp only[Exit.inBlock];simp only at q1;by_cases hid:id'=id
    .rw[if_pos hid]at q1|-;exact⟨s,R1,μ1,q1,q2,q3⟩
    .rw[if_neg hid]at q1|-;exact⟨s,R1,μ1,q1,q2,q3⟩
   |_=>exact⟨s,R1,μ1,q1,q2,q3⟩)
theorem SW.f6K{c:Code}{ι:Type}(ws:ι->List (Nat×DV))(H:ι->List (Nat×bD))(own:ι->List (TypeId×List Loc))(m:ι->Nat)(x0:ι)(h0:wI st (gS c st (ws x0) (H x0) (own x0)))(round:∀x,SW P G c (gS c st (ws x) (H x) (own x)) λe s=>match e with
   | .normal=>bC (λy=>gS c st (ws y) (H y) (own y)) m x s
   |e=>Q e s):SW P G (.loop c) st Q:=by
 intro base R μ a w hr;refine wp_loop_ghost (λn a1 w1=>∃x R1 μ1,m x=n/\Rel P G base R1 μ1 (gS c st (ws x) (H x) (own x)) a1 w1/\Step base R w R1 w1) (m x0) ⟨x0,R,μ,rfl,hr.a1H h0,.refl _ _ _⟩ ?_;rintro n a1 w1 ⟨x,R1,μ1,rfl,hr1,hs1⟩;refine wp_mono (round x base R1 μ1 a1 w1 hr1) λe a2 w2 ⟨s,R2,μ2,q,hr2,hs2⟩=>?_;cases e with
 |normal=>simp only at q;unfold bC at q;obtain⟨y,hy,aF⟩:=q;exact⟨m y,aF,y,R2,μ2,rfl,hr2.a1H hy,hs1.trans hs2⟩
 |_=>exact⟨s,R2,μ2,q,hr2,hs1.trans hs2⟩
theorem c8C{all:Array Oper}{rest:List Oper}{T:St->Prop}(h:VK P G [.ops true all rest] .normal st λ_ s=>T s):vG P G true all rest st T:=by simp only[VK]at h;exact h
def e7v(P:Program)(G:GT)(t e:TypeId)(s z r p q x b:Tmp)(Q:St->Prop)(st:St):Prop:=
 ∃(xs:List (List D)) (z0 c:List D) (eP:List (TypeId×List Loc)) (out:Out),(r<st.tmps.length/\p<st.tmps.length)/\st.eval G (.tmp s)=.d (.sl xs)/\jD (.t s) st.own=some (e,eP)/\(∀c∈xs,c.length=P.cellsOf e)/\st.eval G (.tmp z)=.d (.sl [z0])/\z0.length=P.cellsOf e/\
  (xs.length+1)*(P.bytesOf e+1)<=140737488355328/\st.eval G (.tmp q)=.d (.int .i64 (xs.length:Int))/\st.eval G (.tmp x)=.d (.agg c)/\c.length=P.cellsOf e/\sU P G t (.tmp b) (.tmp r) (tl2 st eP e r p xs c)=some out/\Q out.st
def c0i(ops:Array Oper)(m:Nat):Bool:=
 let L:=qU m ops.size
 decide (ops.size=m+4)&&(Region.ready .any ops L==[m])&&(Region.ready .any ops (L.setIfInBounds m true)==[m+1,m+3])&&(Region.ready .any ops ((L.setIfInBounds m true).setIfInBounds (m+1) true)==[m+2,m+3])&&(Region.ready .any ops ((L.setIfInBounds m true).setIfInBounds (m+3) true)==[m+1])&&
 (Region.ready .any ops (((L.setIfInBounds m true).setIfInBounds (m+1) true).setIfInBounds (m+2) true)==[m+3])&&(Region.ready .any ops (((L.setIfInBounds m true).setIfInBounds (m+1) true).setIfInBounds (m+3) true)==[m+2])&&(Region.ready .any ops (((L.setIfInBounds m true).setIfInBounds (m+3) true).setIfInBounds (m+1) true)==[m+2])&&
 (Region.ready .any ops ((((L.setIfInBounds m true).setIfInBounds (m+1) true).setIfInBounds (m+2) true).setIfInBounds (m+3) true)==[])&&(Region.ready .any ops ((((L.setIfInBounds m true).setIfInBounds (m+1) true).setIfInBounds (m+3) true).setIfInBounds (m+2) true)==[])&&(Region.ready .any ops ((((L.setIfInBounds m true).setIfInBounds (m+3) true).setIfInBounds (m+1) true).setIfInBounds (m+2) true)==[])
end
end Go.VM
end
section
namespace Go.VM
open Go Go.RowKit
section
variable {P:Program} {G:GT} {st:St}
theorem Rel.alias{base:dH}{R:Nat->Nat->Prop}{μ:Nat->Nat}{a:Act}{w:World}(hr:Rel P G base R μ st a w){t:Tmp}{k off:Nat}(hk:∃o,getKey k st.H=some o)(ht:t<a.tmps.size)(h:∀u,w.cell? ⟨μ k,off,none⟩=some u->u=a.eval (.tmp t)):
  Rel P G base R μ {st with own:=addAlias (.t t) (.c k off) st.own} a w:=by
 obtain⟨vs,rO⟩:=hr.own;refine⟨hr.defers,hr.size,hr.tmps,hr.jR,hr.inj,λc hc k' a5W hl=>?_,⟨vs,by simpa[addAlias]using rO.len,λi c v hc hv=>?_,rO.apart⟩,hr.vL,hr.qP,hr.base,hr.pass⟩
 .obtain⟨i,hi⟩:=g1n hc;obtain⟨c',hc',_,hm⟩:=xG hi;rcases hm _ hl with hx|⟨hx,_⟩
  .exact hr.eC c' (g1b hc') k' a5W hx
  .cases hx;exact hk
 .obtain⟨c',hc',he,hm⟩:=xG hc;have ho:=rO.one i c' v hc' hv;refine⟨λl hl u hu=>?_,by rw[he];exact ho.own,ho.keys⟩;rcases hm l hl with hx|⟨rfl,hx⟩
  .exact ho.eC l hx u hu
  .have h1:=h u hu;have h2:cP a w μ (.t t)=some (a.eval (.tmp t)):=by simp[cP,Act.eval,ht]
   rw[h1];exact ho.eC _ hx _ h2
end
end Go.VM
end
section
namespace Go.VM
open Go Go.RowKit
section
variable {P:Program} {G:GT} {base:dH} {R:Nat->Nat->Prop} {μ:Nat->Nat} {st:St} {a:Act} {w:World}
theorem c1X{o:Oper}{e:TypeId}(ho:o.op=.alloc e){z:Value}(hz:(P.info? e).bind (·.zero)=some z):(execOp a.eval o).run P w=.ok (.value (.pointer (some ⟨w.heap.size,0,none⟩))) (w.alloc (.cells z.cells e)):=by obtain⟨i,hi,hz⟩:=g1k.1 hz;simp[execOp,ho,Instr.alloc,zeroValue,typeInfo,hi,hz,newVar,newRow]
theorem zB{o:Oper}{t u:TypeId}{x:Operand}{i fo:Nat}(ho:o.op=.fieldAddr t x i)(hf:aI P t i=some (fo,u))(eU:P.cellsOf u≠0){b off:Nat}(hx:a.eval x=.pointer (some ⟨b,off,none⟩)):
  (execOp a.eval o).run P w=.ok (.value (.pointer (some ⟨b,off+fo,none⟩))) w:=by
 obtain⟨fs,f,h1,h2,rfl,rfl⟩:=xJ hf;obtain⟨ti,hti⟩:∃i,P.info? f.type=some i:=by
  cases hi:P.info? f.type with
  |none=>simp[Program.cellsOf,hi]at eU
  |some i=>exact⟨i,rfl⟩
 simp[execOp,ho,hx,Instr.fieldAt,run_underlying h1,h2,Instr.sureAddr,a1A (w:=w) b off f hti eU]
end
end Go.VM
end
section
namespace Go.VM
open Go
section
variable {G:GT}
theorem d0A{P:Program}{id:Nat}{ops:Array Oper}{st:St}{Q:Exit->St->Prop}(hm:P.follows .mixedOrders=true)(h:b5t P G ops (λs=>Q .normal s) ops.size (Array.replicate ops.size false) st):SW P G (.region id ops true) st Q:=by intro base R μ a w hr;obtain⟨gD,rE⟩:=hr.drew;exact wp_region_any hm (b4O ops.size _ st h base R μ a w.drew gD λs a' w' R' μ' q1 q2 q3=>⟨s,R',μ',q1,q2,rE.trans q3⟩)
abbrev lst(l:List Nat):Array Bool:=l.foldl (λa i=>a.setIfInBounds i true) (Array.replicate 4 false)
def four(ops:Array Oper):Bool:=decide (ops.size=4)&&(Region.ready .any ops (lst [])==[0,1])&&(Region.ready .any ops (lst [0])==[1,2])&&(Region.ready .any ops (lst [1])==[0,3])&&(Region.ready .any ops (lst [0,1])==[2,3])&&(Region.ready .any ops (lst [1,0])==[2,3])
 &&(Region.ready .any ops (lst [0,2])==[1])&&(Region.ready .any ops (lst [1,3])==[0])&&(Region.ready .any ops (lst [0,1,2])==[3])&&(Region.ready .any ops (lst [0,1,3])==[2])&&(Region.ready .any ops (lst [1,0,2])==[3])&&(Region.ready .any ops (lst [1,0,3])==[2])&&(Region.ready .any ops (lst [0,2,1])==[3])&&(Region.ready .any ops (lst [1,3,0])==[2])
 &&(Region.ready .any ops (lst [0,1,2,3])==[])&&(Region.ready .any ops (lst [0,1,3,2])==[])&&(Region.ready .any ops (lst [1,0,2,3])==[])&&(Region.ready .any ops (lst [1,0,3,2])==[])&&(Region.ready .any ops (lst [0,2,1,3])==[])&&(Region.ready .any ops (lst [1,3,0,2])==[])
theorem f2U{P:Program}{id:Nat}{ops:Array Oper}{st:St}{Q:Exit->St->Prop}{o0 o1 o2 o3:Oper}(hm:P.follows .mixedOrders=true)(hB:four ops=true)(h0:ops[0]? =some o0)(h1:ops[1]? =some o1)(h2:ops[2]? =some o2)(h3:ops[3]? =some o3)(h:let V:=pC P G true ops
   let F:=λs=>Q .normal s
   V o0 (λs=>V o1 (λs=>V o2 (V o3 F) s/\V o3 (V o2 F) s) s/\V o2 (V o1 (V o3 F)) s) st/\V o1 (λs=>V o0 (λs=>V o2 (V o3 F) s/\V o3 (V o2 F) s) s/\V o3 (V o0 (V o2 F)) s) st):SW P G (.region id ops true) st Q:=by
 simp only[four,g0W,decide_eq_true_eq,beq_iff_eq,List.foldl_cons,List.foldl_nil]at hB;obtain⟨⟨⟨⟨⟨⟨⟨⟨⟨⟨⟨⟨⟨⟨⟨⟨⟨⟨⟨jZ,r⟩,r0⟩,r1⟩,r01⟩,r10⟩,r02⟩,r13⟩,e7w⟩,f4B⟩,e7x⟩,f4C⟩,e7y⟩,f4D⟩,d5M⟩,f0L⟩,d5N⟩,f0M⟩,d5O⟩,f0N⟩:=hB;refine d0A hm ?_;rw[jZ];simp only[b5t,r,r0,r1,r01,r10,r02,r13,e7w,f4B,e7x,f4C,e7y,f4D,d5M,f0L,d5N,f0M,d5O,f0N,h0,h1,h2,h3,List.forall_mem_cons,List.not_mem_nil,false_imp_iff,implies_true,and_true,true_and,reduceCtorEq];exact h
def three(ops:Array Oper):Bool:=decide (ops.size=4)&&(Region.ready .any ops (lst [])==[0,1])&&(Region.ready .any ops (lst [0])==[1,2])&&(Region.ready .any ops (lst [1])==[0])&&(Region.ready .any ops (lst [0,1])==[2])&&(Region.ready .any ops (lst [1,0])==[2])
 &&(Region.ready .any ops (lst [0,2])==[1])&&(Region.ready .any ops (lst [0,1,2])==[3])&&(Region.ready .any ops (lst [1,0,2])==[3])&&(Region.ready .any ops (lst [0,2,1])==[3])
 &&(Region.ready .any ops (lst [0,1,2,3])==[])&&(Region.ready .any ops (lst [1,0,2,3])==[])&&(Region.ready .any ops (lst [0,2,1,3])==[])
theorem c5u{P:Program}{id:Nat}{ops:Array Oper}{st:St}{Q:Exit->St->Prop}{o0 o1 o2 o3:Oper}(hm:P.follows .mixedOrders=true)(hB:three ops=true)(h0:ops[0]? =some o0)(h1:ops[1]? =some o1)(h2:ops[2]? =some o2)(h3:ops[3]? =some o3)(h:VK P G [.ops true ops [o0]] .normal st (λ_ s=>VK P G [.ops true ops [o1,o2,o3]] .normal s (λ_ s=>Q .normal s)/\VK P G [.ops true ops [o2,o1,o3]] .normal s (λ_ s=>Q .normal s))/\VK P G [.ops true ops [o1,o0,o2,o3]] .normal st (λ_ s=>Q .normal s)):SW P G (.region id ops true) st Q:=by simp only[VK]at h;simp only[three,g0W,decide_eq_true_eq,beq_iff_eq,List.foldl_cons,List.foldl_nil]at hB;obtain⟨⟨⟨⟨⟨⟨⟨⟨⟨⟨⟨⟨jZ,r⟩,r0⟩,r1⟩,r01⟩,r10⟩,r02⟩,e7w⟩,e7x⟩,e7y⟩,d5M⟩,d5N⟩,d5O⟩:=hB;refine d0A hm ?_;rw[jZ];simp only[b5t,r,r0,r1,r01,r10,r02,e7w,e7x,e7y,d5M,d5N,d5O,h0,h1,h2,h3,List.forall_mem_cons,List.not_mem_nil,false_imp_iff,implies_true,and_true,true_and,reduceCtorEq];exact h
end
end Go.VM
end
section
namespace Go.VM
open Go
section
variable {P:Program} {G:GT} {base:dH} {R:Nat->Nat->Prop} {μ:Nat->Nat} {st:St} {a:Act} {w:World}
def a3Q(P:Program)(G:GT)(ops:Array Oper)(c:Nat)(Q:St->Prop):Nat->Array Bool->St->Prop
 |0,listed,st=>Region.ready .any ops listed=[]/\Q st
 |fuel+1,listed,st=>(Region.ready .any ops listed=[]->Q st)/\∀i∈Region.ready .any ops listed,match ops[i]? with
  |none=>a3Q P G ops c Q fuel (listed.setIfInBounds i true) st
  |some o=>pC P G (i !=c) ops o (a3Q P G ops c Q fuel (listed.setIfInBounds i true)) st
theorem b0N{ops:Array Oper}{c:Nat}{Q:St->Prop}{QQ:Exit->Act->World->Prop}:∀(fuel:Nat) (listed:Array Bool) (st:St),a3Q P G ops c Q fuel listed st->∀(base:dH) (R:Nat->Nat->Prop) (μ:Nat->Nat) (a:Act) (w:World),Rel P G base R μ st a w->
  (∀s a' w' R' μ',Q s->Rel P G base R' μ' s a' w'->Step base R w R' w'->QQ .normal a' w')->wpAny P .any ops QQ fuel listed a w
 |0,_,st,h,base,R,μ,a,w,hr,hk=>⟨h.1,hk st a w R μ h.2 hr (.refl _ _ _)⟩
 |fuel+1,listed,st,h,base,R,μ,a,w,hr,hk=>by
  refine⟨λh0=>hk st a w R μ (h.1 h0) hr (.refl _ _ _),λi hi=>?_⟩;have h1:=h.2 i hi;unfold wpOp;split
  .rename_i ho;rw[ho]at h1;exact b0N fuel _ st h1 base R μ a w hr hk
  .rename_i o ho;rw[ho]at h1;exact tE h1 hr λs v w' R' μ' h' gD rE=>b0N fuel _ s h' base R' μ' _ w' gD λs a' w2 R2 μ2 q1 q2 q3=>hk s a' w2 R2 μ2 q1 q2 (rE.trans q3)
theorem d5P{id:Nat}{ops:Array Oper}{c:Nat}{Q:Exit->St->Prop}(hm:P.follows .mixedOrders=true)(h:a3Q P G ops c (λs=>Q .normal s) ops.size (Array.replicate ops.size false) st):SW P G (.region id ops true) st Q:=by intro base R μ a w hr;obtain⟨gD,rE⟩:=hr.drew;exact wp_region_any hm (b0N ops.size _ st h base R μ a w.drew gD λs a' w' R' μ' q1 q2 q3=>⟨s,R',μ',q1,q2,rE.trans q3⟩)
theorem c5v{ops:Array Oper}{c:Nat}{Q:St->Prop}{i:Nat}{oi:Oper}(hA:qR ops)(hi:ops[i]? =some oi)(hic:i≠c)(hsi:(dI oi.op=true/\oO ops oi=false)\/qH oi=true):
  ∀(fuel:Nat) (listed:Array Bool) (st s:St),gF ops listed->
   (∀j oj,ops[j]? =some oj->j≠i->listed.getD j true=false->jL ops ops.size j i=false->j≠c/\oi.apart ops oj=true/\rR ops oi oj=true)->
   i∈Region.ready .any ops listed->rT ops listed st->Eff P G ops oi st s->
   a3Q P G ops c Q fuel (listed.setIfInBounds i true) s->a3Q P G ops c Q (fuel+1) listed st:=by
 have qi:(i !=c)=true:=by simpa using hic
 intro fuel
 induction fuel with
 |zero=>
  intro listed st s _ _ hr _ hy H;refine⟨λh=>(by rw[h]at hr;cases hr),λj hj=>?_⟩;by_cases hji:j=i
  .subst hji;rw[hi,qi];exact(dY hsi).2 ⟨s,hy,H⟩
  .have:=ready_mono hj hji;rw[H.1]at this;cases this
 |succ fuel ih=>
  intro listed st s pM a0g hr hI hy H;refine⟨λh=>(by rw[h]at hr;cases hr),λj hj=>?_⟩;by_cases hji:j=i
  .subst hji;rw[hi,qi];exact(dY hsi).2 ⟨s,hy,H⟩
  .have h1:=H.2 j (ready_mono hj hji);obtain⟨yV,oj,hoj,dR⟩:=mem_ready.1 hj;rw[hoj]at h1|-;simp only at h1|-;obtain⟨a3e,oi',c1D,b0w⟩:=mem_ready.1 hr;have a5G:jL ops ops.size j i=false:=dL pM a3e _ _ λo ho=>by rw[hoj]at ho;cases ho;exact dR
   obtain⟨hjc,hap,hpo⟩:=a0g j oj hoj hji yV a5G;have qj:(j !=c)=true:=by simpa using hjc
   rw[qj]at h1|-;have hsj:(dI oj.op=true/\oO ops oj=false)\/qH oj=true:=by
    by_cases hs:qH oj=true
    .exact .inr hs
    .refine .inl ⟨?_,?_⟩
     .unfold rR at hpo;simp only[qH,g1i,g0W,Bool.not_eq_true']at hpo hs;rcases hpo with((((((h|h)|h)|h)|h)|h)|h)|h
      .exact h.1.2
      .exact absurd (.inl (.inl h.1.2)) hs
      .exact h.1.1.2
      .exact absurd (.inl (.inr h.2)) hs
      .exact h.1.2
      .exact absurd (.inl h.1.2) hs
      .exact absurd (.inr h.2) hs
      .exact(pD (G:=G) (st:=st) h.1.2).1
     .cases hx:oO ops oj with
      |false=>rfl
      |true=>
       have aF:i<ops.size:=(g1f.1 hi).1;rcases wH hx hoj aF (λe=>hji e.symm)with h'|h'
       .have:=dL pM yV ops.size i λo ho=>by rw[c1D]at ho;cases ho;exact b0w
        rw[h']at this;cases this
       .rw[a5G]at h';cases h'
   obtain⟨s12,hu,hk⟩:=(dY hsj).1 h1;obtain⟨s2,e1,e2⟩:=b0v hap hpo (λhn d hd=>hI i oi d hi hn a3e hd) (λhn d hd=>hI j oj d hoj hn yV hd) hy hu;refine(dY hsj).2 ⟨s2,e1,?_⟩;refine ih (listed.setIfInBounds j true) s2 s12 (pM.set hj) (λk ok hk' hki hun tS=>?_) (ready_mono hr (Ne.symm hji)) (hI.step hA hoj λk hf hn=>vN e1 hf hn) e2 ?_
   .exact a0g k ok hk' hki (uM hun).2 tS
   .rw[Array.setIfInBounds_comm _ _ hji];exact hk
def a5J(P:Program)(G:GT)(ops:Array Oper)(c:Nat):List Nat->St->(St->Prop)->Prop
 |[],st,K=>K st
 |i::r,st,K=>match ops[i]? with
  |some o=>pC P G (i !=c) ops o (λs=>a5J P G ops c r s K) st
  |none=>False
def b6k(ops:Array Oper)(c:Nat)(listed:Array Bool)(i:Nat):Bool:=(Region.ready .any ops listed==[i])||((Region.ready .any ops listed).contains i&&(i !=c)&&(match ops[i]? with
 |none=>false
 |some oi=>((dI oi.op&& !oO ops oi)||qH oi)&&(List.range ops.size).all λj=>j==i||listed.getD j true||jL ops ops.size j i||(j !=c&&(match ops[j]? with
  |some oj=>oi.apart ops oj&&rR ops oi oj
  |none=>true))))
def cN(l:List Nat)(x:Array Bool):Array Bool:=l.foldl (λx i=>x.setIfInBounds i true) x
def b0O(ops:Array Oper)(c:Nat):List Nat->Array Bool->Bool
 |[],_=>true
 |i::r,listed=>b6k ops c listed i&&b0O ops c r (listed.setIfInBounds i true)
theorem c0j{ops:Array Oper}(h:gE ops=[]){i:Nat}{o:Oper}{d:Tmp}(hi:ops[i]? =some o)(hn:eW o=true)(hd:o.dst=some d):False:=by have:d∈gE ops:=List.mem_filterMap.2 ⟨o,by rw[Array.mem_toList_iff];exact Array.mem_of_getElem? hi,by rw[if_pos hn];exact hd⟩;rw[h]at this;cases this
theorem a7B{ops:Array Oper}{c:Nat}{Q:St->Prop}(hN:gE ops=[]):∀(l:List Nat) (listed:Array Bool) (st:St) (fuel:Nat),gF ops listed->b0O ops c l listed=true->
  a5J P G ops c l st (a3Q P G ops c Q fuel (cN l listed))->(gF ops (cN l listed)->True)->a3Q P G ops c Q (l.length+fuel) listed st
 |[],listed,st,fuel,_,_,h,_=>by simpa[cN,a5J]using h
 |i::l,listed,st,fuel,pM,hB,h,_=>by
  have hA:qR ops:=λi j oi oj d hi _ hni _ hdi _=>(c0j hN hi hni hdi).elim;have hI:∀listed st,rT ops listed st:=λ_ _ j oj d hj hn _ hd=>(c0j hN hj hn hd).elim;simp only[b0O,g0W]at hB;obtain⟨hf,hB'⟩:=hB;simp only[a5J]at h;split at h;rotate_left
  .cases h
  rename_i o ho;have he:(i::l).length+fuel=l.length+fuel+1:=by simp only[List.length_cons];omega
  rw[he];unfold b6k at hf;rw[g1i,beq_iff_eq]at hf;have hri:i∈Region.ready .any ops listed:=by
   rcases hf with hf|hf
   .rw[hf];exact g1d.2 rfl
   .simp only[g0W]at hf;simpa using hf.1.1
  have sH:∀s,a5J P G ops c l s (a3Q P G ops c Q fuel (cN (i::l) listed))->a3Q P G ops c Q (l.length+fuel) (listed.setIfInBounds i true) s:=λs hs=>a7B hN l _ s fuel (pM.set hri) hB' hs λ_=>trivial;rcases hf with hf|hf
  .refine⟨λh'=>(by rw[h']at hf;cases hf),λj hj=>?_⟩;rw[hf,g1d]at hj;subst hj;rw[ho];exact gY sH h
  .rw[ho]at hf;simp only[g0W,g1i,Bool.not_eq_true',bne_iff_ne,ne_eq]at hf;obtain⟨⟨_,hic⟩,hsi,dR⟩:=hf;have qi:(i !=c)=true:=by simpa using hic
   rw[qi]at h;obtain⟨s,hd,hk⟩:=(dY hsi).1 h;refine c5v hA ho hic hsi _ listed st s pM (λj oj hj eU hun tS=>?_) hri (hI _ _) hd (sH s hk);rw[g0Z]at dR;have h1:=dR j (List.mem_range.2 (g1f.1 hj).1);simp only[hj,g1i,beq_iff_eq,eU,false_or,hun,Bool.false_eq_true,tS,g0W,bne_iff_ne,ne_eq]at h1;exact h1
theorem c8D{ops:Array Oper}{c:Nat}{Q:St->Prop}{fuel:Nat}{listed:Array Bool}(h:Region.ready .any ops listed=[])(hq:Q st):a3Q P G ops c Q fuel listed st:=by
 cases fuel with
 |zero=>exact⟨h,hq⟩
 |succ n=>exact⟨λ_=>hq,λi hi=>by rw[h]at hi;cases hi⟩
theorem uQ{ops:Array Oper}{c:Nat}{K K':St->Prop}(hk:∀s,K s->K' s):∀(l:List Nat) (st:St),a5J P G ops c l st K->a5J P G ops c l st K'
 |[],st,h=>hk st h
 |i::r,st,h=>by
  simp only[a5J]at h|-;split at h
  .exact gY (λs hs=>uQ hk r s hs) h
  .cases h
theorem gF.cN{ops:Array Oper}{c:Nat}:∀(l:List Nat) (listed:Array Bool),gF ops listed->b0O ops c l listed=true->gF ops (VM.cN l listed)
 |[],_,hc,_=>hc
 |i::r,listed,hc,hB=>by
  simp only[b0O,g0W]at hB;have hri:i∈Region.ready .any ops listed:=by
   have hf:=hB.1;unfold b6k at hf;rw[g1i,beq_iff_eq]at hf;rcases hf with hf|hf
   .rw[hf];exact g1d.2 rfl
   .simp only[g0W]at hf;simpa using hf.1.1
  exact gF.cN r _ (hc.set hri) hB.2
inductive Ord where
 |none
 |call (rest:List Nat) (more:Ord)
 |op (i:Nat) (next more:Ord)
def sel(ops:Array Oper):List Nat->List Oper
 |[]=>[]
 |i::r=>match ops[i]? with
  |some o=>o::sel ops r
  |none=>sel ops r
def b4m(P:Program)(G:GT)(ops:Array Oper)(c:Nat)(K:St->Prop):Ord->St->Prop
 | .none,_=>True
 | .call rest more,st=>VK P G [.ops false ops (sel ops [c]),.ops true ops (sel ops rest)] .normal st (λ_ s=>K s)/\b4m P G ops c K more st
 | .op i next more,st=>VK P G [.ops true ops (sel ops [i])] .normal st (λ_ s=>b4m P G ops c K next s)/\b4m P G ops c K more st
def a4H(c:Nat):Ord->Nat->Bool
 | .none,_=>false
 | .call _ more,j=>decide (j=c)||a4H c more j
 | .op i _ more,j=>decide (j=i)||a4H c more j
def inB(ops:Array Oper)(c:Nat)(l:List Nat):Bool:=l.all λi=>decide (i<ops.size)&&decide (i≠c)
def b6l(ops:Array Oper)(c:Nat):Ord->Nat->Array Bool->Bool
 | .none,_,_=>true
 | .call rest more,n,listed=>decide (c<ops.size)&&inB ops c rest&&b0O ops c rest (listed.setIfInBounds c true)&&(Region.ready .any ops (cN rest (listed.setIfInBounds c true))).isEmpty&&decide (rest.length+1<=n)&&b6l ops c more n listed
 | .op i next more,n,listed=>inB ops c [i]&&decide (2<=n)&& !(Region.ready .any ops (listed.setIfInBounds i true)).isEmpty&&((Region.ready .any ops (listed.setIfInBounds i true)).all λj=>a4H c next j)&&b6l ops c next (n-1) (listed.setIfInBounds i true)&&b6l ops c more n listed
theorem xX{ops:Array Oper}{c:Nat}{K:St->Prop}:∀(l:List Nat) (st:St),inB ops c l=true->vG P G true ops (sel ops l) st K->a5J P G ops c l st K
 |[],st,_,h=>h
 |i::r,st,hB,h=>by
  simp only[inB,List.all_cons,g0W,decide_eq_true_eq]at hB;obtain⟨⟨hi,hic⟩,hr⟩:=hB;have qi:(i !=c)=true:=by simpa using hic
  simp only[sel,g1o hi,vG]at h;simp only[a5J,g1o hi,qi];exact gY (λs hs=>xX r s hr hs) h
theorem b0P{ops:Array Oper}{c:Nat}{Q:St->Prop}(hN:gE ops=[]):∀(T:Ord) (n:Nat) (listed:Array Bool) (st:St),gF ops listed->b6l ops c T (n+1) listed=true->b4m P G ops c Q T st->∀i∈Region.ready .any ops listed,a4H c T i=true->
  match ops[i]? with
  |none=>a3Q P G ops c Q n (listed.setIfInBounds i true) st
  |some o=>pC P G (i !=c) ops o (a3Q P G ops c Q n (listed.setIfInBounds i true)) st
 | .none,_,_,_,_,_,_,_,_,ha=>by cases ha
 | .call rest more,n,listed,st,pM,hB,h,i,hi,ha=>by
  simp only[b6l,g0W,decide_eq_true_eq,List.isEmpty_iff]at hB;obtain⟨⟨⟨⟨⟨hc,xE⟩,hs⟩,he⟩,hlen⟩,a6E⟩:=hB;simp only[b4m]at h;simp only[a4H,g1i,decide_eq_true_eq]at ha;by_cases hic:i=c
  .subst hic;have h1:=h.1;simp only[VK,sel,g1o hc,vG]at h1;simp only[g1o hc,bne_self_eq_false];refine gY (λs rE=>?_) h1;obtain⟨k,hk⟩:=Nat.exists_eq_add_of_le (Nat.le_of_succ_le_succ hlen);rw[hk];exact a7B hN rest _ s k (pM.set hi) hs (uQ (λs hs=>c8D he hs) _ _ (xX rest s xE rE)) λ_=>trivial
  .exact b0P hN more n listed st pM a6E h.2 i hi (ha.resolve_left hic)
 | .op x next more,n,listed,st,pM,hB,h,i,hi,ha=>by
  simp only[b6l,g0W,decide_eq_true_eq,Bool.not_eq_true',List.isEmpty_eq_false_iff,g0Z]at hB;obtain⟨⟨⟨⟨⟨xE,hn⟩,eU⟩,dR⟩,sH⟩,a6E⟩:=hB;simp only[b4m]at h;simp only[a4H,g1i,decide_eq_true_eq]at ha;by_cases hix:i=x
  .subst hix;have h1:=h.1;simp only[inB,List.all_cons,List.all_nil,Bool.and_true,g0W,decide_eq_true_eq]at xE;have qi:(i !=c)=true:=by simpa using xE.2
   simp only[VK,sel,g1o xE.1,vG]at h1;simp only[g1o xE.1,qi];refine gY (λs rE=>?_) h1;obtain⟨m,rfl⟩:∃m,n=m+1:=⟨n-1,by omega⟩;exact⟨λh'=>(eU h').elim,λj hj=>b0P hN next m _ s (pM.set hi) sH rE j hj (dR j hj)⟩
  .exact b0P hN more n listed st pM a6E h.2 i hi (ha.resolve_left hix)
def d5Q(ops:Array Oper)(c:Nat)(sF:List Nat)(T:Ord):Bool:=(gE ops).isEmpty&&decide (sF.length+1<=ops.size)&&inB ops c sF&&b0O ops c sF (Array.replicate ops.size false)&& !(Region.ready .any ops (cN sF (Array.replicate ops.size false))).isEmpty&&((Region.ready .any ops (cN sF (Array.replicate ops.size false))).all λj=>a4H c T j)&&b6l ops c T (ops.size-sF.length) (cN sF (Array.replicate ops.size false))
theorem d5R{id:Nat}{ops:Array Oper}{Q:Exit->St->Prop}(c:Nat)(sF:List Nat)(T:Ord)(hm:P.follows .mixedOrders=true)(hB:d5Q ops c sF T=true)(h:VK P G [.ops true ops (sel ops sF)] .normal st λ_ s=>b4m P G ops c (λs=>Q .normal s) T s):SW P G (.region id ops true) st Q:=by
 simp only[d5Q,g0W,List.isEmpty_iff,decide_eq_true_eq,Bool.not_eq_true',List.isEmpty_eq_false_iff,g0Z]at hB;obtain⟨⟨⟨⟨⟨⟨hN,hlen⟩,xE⟩,hs⟩,eU⟩,dR⟩,ht⟩:=hB;refine d5P (c:=c) hm ?_;obtain⟨k,hk⟩:=Nat.exists_eq_add_of_le hlen;have pM:gF ops (Array.replicate ops.size false):=λk hk=>by
  rcases Nat.lt_or_ge k ops.size with h'|h'
  .simp[h']at hk
  .simp[Nat.not_lt.2 h']at hk
 have e:ops.size-sF.length=k+1:=by omega
 rw[e]at ht;simp only[VK]at h;have:=a7B (P:=P) (G:=G) (c:=c) (Q:=λs=>Q .normal s) hN sF (Array.replicate ops.size false) st (k+1) pM hs (uQ (λs rE=>⟨λh'=>(eU h').elim,λj hj=>b0P hN T k _ s (gF.cN sF _ pM hs) ht rE j hj (dR j hj)⟩) _ _ (xX sF st xE h)) λ_=>trivial;rw[show sF.length+(k+1)=ops.size by omega]at this;exact this
attribute [simp] sel b4m
theorem SW.f0P{st:St}{Q:Exit->St->Prop}{c:Code}{ι:Type}(ws:ι->List (Nat×DV))(H:ι->List (Nat×bD))(own:ι->List (TypeId×List Loc))(m:ι->Nat)(x0:ι)(h0:wI st (gS c st (ws x0) (H x0) (own x0)))(round:∀x,SW P G c (gS c st (ws x) (H x) (own x)) λe s=>match e with
   | .normal=>bC (λy=>gS c st (ws y) (H y) (own y)) m x s
   |e=>Q e s):SW P G (.loop c) st Q:=by
 intro base R μ a w hr;refine wp_loop_ghost (λn a1 w1=>∃x R1 μ1,m x=n/\Rel P G base R1 μ1 (gS c st (ws x) (H x) (own x)) a1 w1/\Step base R w R1 w1) (m x0) ⟨x0,R,μ,rfl,hr.a1H h0,.refl _ _ _⟩ ?_;rintro n a1 w1 ⟨x,R1,μ1,rfl,hr1,hs1⟩;refine wp_mono (round x base R1 μ1 a1 w1 hr1) λe a2 w2 ⟨s,R2,μ2,q,hr2,hs2⟩=>?_;cases e with
 |normal=>simp only at q;unfold bC at q;obtain⟨y,hy,aF⟩:=q;exact⟨m y,aF,y,R2,μ2,rfl,hr2.a1H hy,hs1.trans hs2⟩
 |_=>exact⟨s,R2,μ2,q,hr2,hs1.trans hs2⟩
theorem SW.a8B{c:Operand}{x y:Code}{st:St}{Q:Exit->St->Prop}(hc:st.eval G c=.d (.bool true))(h:SW P G x st Q):SW P G (.cond c x y) st Q:=λbase R μ a w hr=>wp_cond (hr.a1z hc) (h base R μ a w hr)
theorem SW.b3x{c:Operand}{x y:Code}{st:St}{Q:Exit->St->Prop}(hc:st.eval G c=.d (.bool false))(h:SW P G y st Q):SW P G (.cond c x y) st Q:=λbase R μ a w hr=>wp_cond (hr.a1z hc) (h base R μ a w hr)
theorem SW.f4E{x y:Code}{st:St}{Q:Exit->St->Prop}(st':St)(h1:SW P G x st λe s=>match e with
  | .normal=>wI s st'
  |e=>Q e s)(h2:SW P G y st' Q):SW P G (.seq x y) st Q:=SW.jW λbase R μ a w hr=>
 wp_mono (h1 base R μ a w hr) λe a1 w1 ⟨s,R1,μ1,q1,q2,q3⟩=>by
  cases e with
  |normal=>exact⟨s,R1,μ1,λbase R μ a w hr=>h2 base R μ a w (hr.a1H q1),q2,q3⟩
  |_=>exact⟨s,R1,μ1,q1,q2,q3⟩
theorem SW.d2g{x y:Code}{st:St}{Q:Exit->St->Prop}(ws:List (Nat×DV))(H:List (Nat×bD))(own:List (TypeId×List Loc))(h1:SW P G x st λe s=>match e with
  | .normal=>wI s (gS x st ws H own)
  |e=>Q e s)(h2:SW P G y (gS x st ws H own) Q):SW P G (.seq x y) st Q:=SW.f4E _ h1 h2
end
end Go.VM
end
section
namespace Go.VM
open Go Go.RowKit
section
variable {P:Program} {G:GT} {st:St} {base:dH} {R:Nat->Nat->Prop} {μ:Nat->Nat} {a:Act} {w:World}
abbrev a0Z(v:Value):List PanicEntry:=[{v:=v,recovered:=false}]
def f0Q(base:dH)(R:Nat->Nat->Prop)(w:World)(v:Value)(e:Ending)(w':World):Prop:=∃R',e=.panicked (a0Z v)/\Step base R w R' w'/\∀b o,R' b o->b<w'.heap.size
def CPn(P:Program)(G:GT)(f:FuncId)(s0:St)(v:Value):Prop:=
 ∀(base:dH) (R:Nat->Nat->Prop) (μ:Nat->Nat) (args:Array Value) (w:World),Rel P G base R μ s0 {tmps:=args,defers:=[]} w->Calls P f args w (f0Q base R w v)
def b0Q(P:Program)(G:GT)(f:FuncId)(g0U:List DV)(ls:List (Option Loc))(st:St)(v:Value):Prop:=
 ∀(base:dH) (R:Nat->Nat->Prop) (μ:Nat->Nat) (a:Act) (w:World) (args:Array Value),Rel P G base R μ st a w->args.size=g0U.length->(∀(i:Nat) (d:DV),g0U[i]? =some d->TV R μ w (args.getD i undef) d)->
  (∀(i:Nat) (l:Loc),ls[i]? =some (some l)->∀u,cP a w μ l=some u->u=args.getD i undef)->Calls P f args w (f0Q base R w v)
theorem b0Q.e7z{f:FuncId}{s0:St}{v:Value}(hch:CPn P G f s0 v)(K:List (Nat×Nat)){g0U:List DV}{ls:List (Option Loc)}{rest:List (TypeId×List Loc)}(kU:aL K s0 .undef s0.H=true)(kO:WkT g0U (aR K s0.tmps))(hH:WkH st.H (cX K s0.H))(mN:wP st st.own (s0.own.map (qS K ls))=some rest)(kn:a0C st.tmps.length ls s0.own=true):
  b0Q P G f g0U ls st v:=by
 simp only[aL,g0W,decide_eq_true_eq,g0Z]at kU;obtain⟨⟨⟨⟨⟨⟨⟨⟨kf,ks⟩,kp⟩,kt⟩,kh⟩,kl⟩,kr⟩,kd⟩,k1⟩:=kU;intro base R μ a w args hr hl hv a8e;obtain⟨vs,rO⟩:=hr.own;obtain⟨vsT,vsR,t1,t2,t3,t4,t5,t6,t7⟩:=a6t hr _ _ _ vs ⟨rO.len,rO.one,rO.apart⟩ mN;have inK:∀k o,getKey k s0.H=some o->(K.any λp=>p.1==k)=true/\aW K o=true/\(getKey k s0.H).isSome=true:=λk o hk=>by
  have:=kh _ (jO hk)
  try simp only[g0W]at this
  exact⟨this.1.1,this.1.2,this.2⟩
 have inst:∀k o,getKey k s0.H=some o->∃o',getKey (rk K k) st.H=some o'/\WkO o' (dD K o):=λk o hk=>by
  have hm:=jO hk;have:∀ {l:List (Nat×bD)},WkH st.H (cX K l)->(k,o)∈l->∃o',getKey (rk K k) st.H=some o'/\WkO o' (dD K o):=by
   intro l
   induction l with
   |nil=>intro _ h;cases h
   |cons p l ih=>
    intro hw hp;obtain⟨h1,h2⟩:=hw;rcases List.mem_cons.1 hp with rfl|hp
    .exact h1
    .exact ih h2 hp
  exact this hH hm
 have big:∀k,(K.any λp=>p.1==k)=true->100000<=k:=λk hk=>by obtain⟨p,h1,h2,_⟩:=a1F hk;rw[<-h2];exact kp p h1
 have d5x:∀k k',(K.any λp=>p.1==k)=true->(K.any λp=>p.1==k')=true->rk K k=rk K k'->k=k':=λk k' h h' he=>by
  obtain⟨p,p1,p2,p3⟩:=a1F h;obtain⟨q,q1,q2,q3⟩:=a1F h';have hpq:p.2=q.2:=by rw[<-p3, <- q3,he]
  have:p=q:=oD.b3n.a7v ks p1 q1 hpq;rw[<-p2, <- q2,this]
 have one:∀k,(getKey k s0.H).isSome=true->∃o,getKey k s0.H=some o:=λk hk=>by
  obtain⟨o,ho⟩:=Option.isSome_iff_exists.1 hk;have:=k1 _ (jO ho)
  try simp only[g0W]at this
  exact Option.isSome_iff_exists.1 this.2
 let kS:dH:=⟨λb=>w.heap.size<=b\/(∃k o,getKey k s0.H=some o/\b=μ (rk K k))\/(∃v∈vsT,bK v=some b),λk=>μ (rk K k)⟩
 have sub:∀b,kS b->base b:=λb hb=>by
  rcases hb with hb|⟨k,o,hk,rfl⟩|⟨v,hv,hs⟩
  .exact hr.base b hb
  .obtain⟨o',wD,_⟩:=inst k o hk;exact(hr.jR _ o' wD).1
  .obtain⟨i,hi⟩:=g1n hv;have vJ:i<(s0.own.map (qS K ls)).length:=by rw[<-t1];exact(g0X.1 hi).1
   exact(t2 i _ v (g1a vJ) hi).own.a2s hs
 have a1O:Rel P G kS R (λk=>μ (rk K k)) s0 {tmps:=args,defers:=[]} w:=by
  obtain⟨g1,g2⟩:=a0h kO;rw[sG]at g1 g2;refine⟨rfl,by show args.size=s0.tmps.length;rw[List.length_map]at g1;omega,λi v d hiv hid=>?_,λk o hk=>?_,λk k' o o' hk hk' he=>?_,λc hc k off hl'=>?_,⟨vsT,by simpa using t1,λi c v hc hv'=>?_,t3⟩,hr.vL.up sub,hr.qP,λb hb=>.inl hb,λk hk=>rfl⟩
  .obtain⟨d0,hd0,b5P⟩:=g2 i (bF K d) (by rw[g1g,hid];rfl);have hva:=hv i d0 hd0;have hav:args.getD i undef=v:=by simp only at hiv;simp[g0Y,hiv]
   rw[hav]at hva;have d5y:TV R μ w v (bF K d):=by
    rcases b5P with hc|hc|⟨hc1,hc2⟩
    .rw[hc];exact .undef _
    .rw[hc];exact hva
    .rw[hc2];rw[hc1]at hva;obtain⟨ao,rfl⟩:=hva.a9b.kT;exact .d _ _ (.emp _ _)
   exact d5y.ren (μ:=μ) (λ_ _=>rfl) (kt d (g1b hid))
  .obtain⟨q1,q2,_⟩:=inK k o hk;obtain⟨o',wD,hw⟩:=inst k o hk;obtain⟨p1,p2,p3⟩:=hr.jR _ o' wD;exact⟨.inr (.inl ⟨k,o,hk,rfl⟩),p2,(b4P hw p3).ren (λ_ _=>rfl) q2⟩
  .obtain⟨o1,h1,_⟩:=inst k o hk;obtain⟨o2,h2,_⟩:=inst k' o' hk';exact d5x k k' (inK k o hk).1 (inK k' o' hk').1 (hr.inj _ _ o1 o2 h1 h2 he)
  .have:=g0Z.1 (g0Z.1 kl c hc) _ hl';exact Option.isSome_iff_exists.1 this
  .have ho:=t2 i (qS K ls c) v (by rw[g1g,hc];rfl) hv';refine⟨λl hl' u hu=>?_,?_,λk o hk=>?_⟩
   .have hn:=g0Z.1 (g0Z.1 kn c (g1b hc)) l hl';cases l with
    |t j=>
     simp only at hn;split at hn
     .rename_i t hj;simp only[decide_eq_true_eq]at hn;have ht:t<a.tmps.size:=by rw[hr.size];exact hn
      have hlv:cP a w μ (.t t)=some a.tmps[t]:=by simp[cP,ht]
      have h1:=a8e j _ hj _ hlv;have h2:=ho.eC (.t t) (List.mem_filterMap.2 ⟨.t j,hl',by simp[b5N,hj]⟩) _ hlv;simp only[cP]at hu;have h3:args.getD j undef=u:=by simp[g0Y,hu]
      rw[<-h3, <- h1,h2]
     .cases hn
    |c k off=>exact ho.eC (.c (rk K k) off) (List.mem_filterMap.2 ⟨.c k off,hl',rfl⟩) u hu
   .rcases ho.own with h|⟨g,n,cap,cur,h0,h1,h2,h3,h4⟩
    .exact .inl h
    .by_cases yI:cap=0
     .subst yI;have:n=0:=by omega
      subst this;exact .inl ⟨_,h0⟩
     .exact .inr ⟨g,n,cap,cur,h0,.inr (.inr ⟨v,g1b hv',by rw[h0];simp[bK,yI]⟩),h2,h3,h4⟩
   .obtain⟨o',wD,_⟩:=inst k o hk;exact ho.keys _ o' wD
 exact(hch kS R (λk=>μ (rk K k)) args w a1O).mono λe w' ⟨R',he,hs,hb⟩=>⟨R',he,⟨hs.below.mono sub,hs.mono,λb o h1 h2=>sub b (hs.new b o h1 h2),hs.cells⟩,hb⟩
theorem a9v{o:Oper}{f:FuncId}{g0U:List DV}{v:Value}(hc:dK G o st=some (f,g0U))(rI:Enters P f/\b0Q P G f g0U (mM o) st v)(hr:Rel P G base R μ st a w){K:Act->World->Prop}{Q:Exit->Act->World->Prop}(h:∀R' w',Step base R w R' w'->(∀b o,R' b o->b<w'.heap.size)->Q (.panic (a0Z v)) a w'):o.wp P a w K Q:=by
 obtain⟨⟨fn,hf1,hf2,hf3⟩,rI⟩:=rI;have c1w: ¬fn.body=none:=λhe=>by simp[he]at hf2
 have c1x: ¬fn.name= "runtime.NumGoroutine" :=by simpa using hf3
 have main:∀args:Array Value,(execOp a.eval o).run P w=.ok (.enter f args) w->args.size=g0U.length->(∀(i:Nat) (d:DV),g0U[i]? =some d->TV R μ w (args.getD i undef) d)->
   (∀(i:Nat) (l:Loc),(mM o)[i]? =some (some l)->∀u,cP a w μ l=some u->u=args.getD i undef)->o.wp P a w K Q:=λargs a6a hl hv a8e=>by
  unfold Oper.wp;rw[a6a]
  show Calls P f args w _
  refine(rI base R μ a w args hr hl hv a8e).mono λe w' ⟨R',he,hs,hb⟩=>?_;subst he;exact h R' w' hs hb
 have each:∀(l:List Operand) (i:Nat) (d:DV),(l.map (st.eval G))[i]? =some d->TV R μ w ((l.map a.eval).getD i undef) d:=λl i d hi=>by
  rw[g1g]at hi;obtain⟨x,hx,rfl⟩:=g0V.1 hi;have:(l.map a.eval).getD i undef=a.eval x:=by simp[List.getD,hx]
  rw[this];exact hr.eval x
 have eC:∀(args:Array Operand) (vs:Array Value),mM o=args.toList.map a5Q->∀(i:Nat) (l:Loc),(mM o)[i]? =some (some l)->∀u,cP a w μ l=some u->u=(args.map a.eval++vs).getD i undef:=λargs vs sE i l hi u hu=>by
  rw[sE,g1g]at hi;obtain⟨x,hx,hxl⟩:=g0V.1 hi;cases x with
  |tmp t=>
   simp only[a5Q,g1c]at hxl;subst hxl;simp only[cP]at hu;have aF:i<args.size:=by have:=(g0X.1 hx).1;simpa using this
   have he:args[i]? =some (.tmp t):=by simpa using hx
   rw[g0Y,Array.getElem?_append_left (by simpa using aF),Array.getElem?_map,he];simp[Act.eval,hu]
  |_=>cases hxl
 unfold dK at hc;split at hc
 .rename_i x args ts oV;have sE:mM o=args.toList.map a5Q:=by simp[mM,oV]
  split at hc
  .rename_i f' hx;simp at hc;obtain⟨rfl,rfl⟩:=hc;refine main (args.map a.eval) ?_ (by simp) (λi d hi=>?_) (by simpa using eC args #[] sE)
   .simp[execOp,oV,resolve,hr.b5e hx,Deferred.ofValue,invoke,callFunc,hf1,c1w,c1x]
   .have:=each args.toList i d hi;simpa[g0Y,List.getD]using this
  .rename_i f' cs hx;simp at hc;obtain⟨rfl,rfl⟩:=hc;obtain⟨vs,he,rO,hvc⟩:=(hr.pB hx).b0m;refine main (args.map a.eval++vs) ?_ (by simp[rO]) (λi d hi=>?_) (eC args vs sE)
   .simp[execOp,oV,resolve,he,Deferred.ofValue,invoke,callFunc,hf1,c1w,c1x]
   .by_cases aF:i<args.size
    .rw[g1h (by simpa using aF)]at hi;have:=each args.toList i d hi;rw[g0Y,Array.getElem?_append_left (by simpa using aF)];simpa[g0Y,List.getD]using this
    .rw[g1e (by simp;omega)]at hi;simp only[List.length_map,Array.length_toList]at hi;have:=hvc _ d hi;rw[g0Y,Array.getElem?_append_right (by simp;omega)];simpa[g0Y]using this
  .cases hc
 .cases hc
abbrev a2I(st:St):St:=⟨List.replicate st.tmps.length .undef,[],[]⟩
theorem Rel.b0R(hr:Rel P G base R μ st a w){R':Nat->Nat->Prop}{w':World}(hs:Step base R w R' w')(hb:∀b o,R' b o->b<w'.heap.size):Rel P G base R' μ (a2I st) a w' where
 defers:=hr.defers
 size:=by simpa using hr.size
 tmps:=λi v d _ hd=>by
  rw[List.getElem?_replicate]at hd;split at hd
  .simp at hd;subst hd;exact .undef _
  .cases hd
 jR:=λk o h=>by cases h
 inj:=λk k' o o' h=>by cases h
 eC:=λc hc=>by cases hc
 own:=⟨[],rfl,λi c v h _=>by simp at h,.nil⟩
 vL:=a8d.bN hs hr.vL
 qP:=hb
 base:=λb h=>hr.base b (Nat.le_trans hs.below.size h)
 pass:=hr.pass
def a2J(P:Program)(G:GT)(ops:Array Oper)(c:Nat)(Q:Exit->St->Prop)(st:St):Prop:=match ops[c]? with
 |some o=>eJ o ops st.tmps=some true/\∃f g0U v,dK G o st=some (f,g0U)/\(Enters P f/\b0Q P G f g0U (mM o) st v)/\Q (.panic (a0Z v)) (a2I st)
 |none=>False
theorem a2J.ok{ops:Array Oper}{c:Nat}{Q:Exit->St->Prop}{o:Oper}(ho:ops[c]? =some o)(h:a2J P G ops c Q st)(hr:Rel P G base R μ st a w){QQ:Exit->Act->World->Prop}{KK:Act->World->Prop}{KE:Prop}(hk:∀v s w' R',Q (.panic (a0Z v)) s->Rel P G base R' μ s a w'->Step base R w R' w'->QQ (.panic (a0Z v)) a w'):
  if Region.wanted o (yielded ops a.tmps) then o.wp P a w KK QQ\/(o.asks P a w/\LetsOut QQ) else KE:=by
 unfold a2J at h;rw[ho]at h;obtain⟨hw,f,g0U,v,h1,h2,h3⟩:=h;rw[a3G hr hw,if_pos rfl];exact .inl (a9v h1 h2 hr λR' w' hs hb=>hk v _ w' R' h3 (hr.b0R hs hb) hs)
def a8C(P:Program)(G:GT)(ops:Array Oper)(c:Nat)(Z:St->Prop):Nat->Array Bool->St->Prop
 |0,_,_=>False
 |fuel+1,listed,st=>Region.ready .any ops listed≠[]/\∀i∈Region.ready .any ops listed,if i=c then Z st else match ops[i]? with
  |none=>False
  |some o=>pC P G true ops o (a8C P G ops c Z fuel (listed.setIfInBounds i true)) st
theorem b0S{ops:Array Oper}{c:Nat}{Q:Exit->St->Prop}{QQ:Exit->Act->World->Prop}:∀(fuel:Nat) (listed:Array Bool) (st:St),a8C P G ops c (a2J P G ops c Q) fuel listed st->∀(base:dH) (R:Nat->Nat->Prop) (μ:Nat->Nat) (a:Act) (w:World),Rel P G base R μ st a w->
  (∀v s a' w' R' μ',Q (.panic (a0Z v)) s->Rel P G base R' μ' s a' w'->Step base R w R' w'->QQ (.panic (a0Z v)) a' w')->wpAny P .any ops QQ fuel listed a w
 |0,_,st,h,base,R,μ,a,w,hr,hk=>h.elim
 |fuel+1,listed,st,h,base,R,μ,a,w,hr,hk=>by
  refine⟨λh0=>(h.1 h0).elim,λi hi=>?_⟩;have h1:=h.2 i hi;unfold wpOp;split
  .rename_i ho;rw[ho]at h1;split at h1
   .rename_i hic;subst hic;unfold a2J at h1;rw[ho]at h1;exact h1.elim
   .exact h1.elim
  .rename_i o ho;rw[ho]at h1;split at h1
   .rename_i hic;subst hic;exact a2J.ok ho h1 hr λv s w' R' q1 q2 q3=>hk v s a w' R' μ q1 q2 q3
   .exact tE h1 hr λs v w' R' μ' h' gD rE=>b0S fuel _ s h' base R' μ' _ w' gD λv s a' w2 R2 μ2 q1 q2 q3=>hk v s a' w2 R2 μ2 q1 q2 (rE.trans q3)
theorem c5x{ops:Array Oper}{c:Nat}{Z:St->Prop}{i:Nat}{oi:Oper}(hA:qR ops)(hi:ops[i]? =some oi)(hic:i≠c)(hsi:(dI oi.op=true/\oO ops oi=false)\/qH oi=true):
  ∀(fuel:Nat) (listed:Array Bool) (st s:St),gF ops listed->
   (∀j oj,ops[j]? =some oj->j≠i->listed.getD j true=false->jL ops ops.size j i=false->j≠c/\oi.apart ops oj=true/\rR ops oi oj=true)->
   i∈Region.ready .any ops listed->rT ops listed st->Eff P G ops oi st s->
   a8C P G ops c Z fuel (listed.setIfInBounds i true) s->a8C P G ops c Z (fuel+1) listed st:=by
 intro fuel
 induction fuel with
 |zero=>intro listed st s _ _ hr _ hy H;exact H.elim
 |succ fuel ih=>
  intro listed st s pM a0g hr hI hy H;refine⟨λh=>(by rw[h]at hr;cases hr),λj hj=>?_⟩;by_cases hji:j=i
  .subst hji;rw[if_neg hic,hi];exact(dY hsi).2 ⟨s,hy,H⟩
  .have h1:=H.2 j (ready_mono hj hji);obtain⟨yV,oj,hoj,dR⟩:=mem_ready.1 hj;rw[hoj]at h1|-;simp only at h1|-;obtain⟨a3e,oi',c1D,b0w⟩:=mem_ready.1 hr;have a5G:jL ops ops.size j i=false:=dL pM a3e _ _ λo ho=>by rw[hoj]at ho;cases ho;exact dR
   obtain⟨hjc,hap,hpo⟩:=a0g j oj hoj hji yV a5G;rw[if_neg hjc]at h1|-;have hsj:(dI oj.op=true/\oO ops oj=false)\/qH oj=true:=by
    by_cases hs:qH oj=true
    .exact .inr hs
    .refine .inl ⟨?_,?_⟩
     .unfold rR at hpo;simp only[qH,g1i,g0W,Bool.not_eq_true']at hpo hs;rcases hpo with((((((h|h)|h)|h)|h)|h)|h)|h
      .exact h.1.2
      .exact absurd (.inl (.inl h.1.2)) hs
      .exact h.1.1.2
      .exact absurd (.inl (.inr h.2)) hs
      .exact h.1.2
      .exact absurd (.inl h.1.2) hs
      .exact absurd (.inr h.2) hs
      .exact(pD (G:=G) (st:=st) h.1.2).1
     .cases hx:oO ops oj with
      |false=>rfl
      |true=>
       have aF:i<ops.size:=(g1f.1 hi).1;rcases wH hx hoj aF (λe=>hji e.symm)with h'|h'
       .have:=dL pM yV ops.size i λo ho=>by rw[c1D]at ho;cases ho;exact b0w
        rw[h']at this;cases this
       .rw[a5G]at h';cases h'
   obtain⟨s12,hu,hk⟩:=(dY hsj).1 h1;obtain⟨s2,e1,e2⟩:=b0v hap hpo (λhn d hd=>hI i oi d hi hn a3e hd) (λhn d hd=>hI j oj d hoj hn yV hd) hy hu;refine(dY hsj).2 ⟨s2,e1,?_⟩;refine ih (listed.setIfInBounds j true) s2 s12 (pM.set hj) (λk ok hk' hki hun tS=>?_) (ready_mono hr (Ne.symm hji)) (hI.step hA hoj λk hf hn=>vN e1 hf hn) e2 ?_
   .exact a0g k ok hk' hki (uM hun).2 tS
   .rw[Array.setIfInBounds_comm _ _ hji];exact hk
theorem a7C{ops:Array Oper}{c:Nat}{Z:St->Prop}(hN:gE ops=[]):∀(l:List Nat) (listed:Array Bool) (st:St) (fuel:Nat),gF ops listed->inB ops c l=true->b0O ops c l listed=true->
  a5J P G ops c l st (a8C P G ops c Z fuel (cN l listed))->a8C P G ops c Z (l.length+fuel) listed st
 |[],listed,st,fuel,_,_,_,h=>by simpa[cN,a5J]using h
 |i::l,listed,st,fuel,pM,xE,hB,h=>by
  have hA:qR ops:=λi j oi oj d hi _ hni _ hdi _=>(c0j hN hi hni hdi).elim;have hI:∀listed st,rT ops listed st:=λ_ _ j oj d hj hn _ hd=>(c0j hN hj hn hd).elim;simp only[b0O,g0W]at hB;obtain⟨hf,hB'⟩:=hB;simp only[inB,List.all_cons,g0W,decide_eq_true_eq]at xE;obtain⟨⟨_,hic⟩,f4F⟩:=xE;have qi:(i !=c)=true:=by simpa using hic
  simp only[a5J]at h;split at h;rotate_left
  .cases h
  rename_i o ho;rw[qi]at h;have he:(i::l).length+fuel=l.length+fuel+1:=by simp only[List.length_cons];omega
  rw[he];unfold b6k at hf;rw[g1i,beq_iff_eq]at hf;have hri:i∈Region.ready .any ops listed:=by
   rcases hf with hf|hf
   .rw[hf];exact g1d.2 rfl
   .simp only[g0W]at hf;simpa using hf.1.1
  have sH:∀s,a5J P G ops c l s (a8C P G ops c Z fuel (cN (i::l) listed))->a8C P G ops c Z (l.length+fuel) (listed.setIfInBounds i true) s:=λs hs=>a7C hN l _ s fuel (pM.set hri) f4F hB' hs;rcases hf with hf|hf
  .refine⟨λh'=>(by rw[h']at hf;cases hf),λj hj=>?_⟩;rw[hf,g1d]at hj;subst hj;rw[if_neg hic,ho];exact gY sH h
  .rw[ho]at hf;simp only[g0W,g1i,Bool.not_eq_true',bne_iff_ne,ne_eq]at hf;obtain⟨⟨_,hic⟩,hsi,dR⟩:=hf;obtain⟨s,hd,hk⟩:=(dY hsi).1 h;refine c5x hA ho hic hsi _ listed st s pM (λj oj hj eU hun tS=>?_) hri (hI _ _) hd (sH s hk);rw[g0Z]at dR;have h1:=dR j (List.mem_range.2 (g1f.1 hj).1);simp only[hj,g1i,beq_iff_eq,eU,false_or,hun,Bool.false_eq_true,tS,g0W,bne_iff_ne,ne_eq]at h1;exact h1
def a5s(P:Program)(G:GT)(ops:Array Oper)(Z:St->Prop):Ord->St->Prop
 | .none,_=>True
 | .call _ more,st=>Z st/\a5s P G ops Z more st
 | .op i next more,st=>VK P G [.ops true ops (sel ops [i])] .normal st (λ_ s=>a5s P G ops Z next s)/\a5s P G ops Z more st
theorem a6F{ops:Array Oper}{c:Nat}{Z:St->Prop}:∀(T:Ord) (n:Nat) (listed:Array Bool) (st:St),b6l ops c T (n+1) listed=true->a5s P G ops Z T st->∀i∈Region.ready .any ops listed,a4H c T i=true->
  if i=c then Z st else match ops[i]? with
  |none=>False
  |some o=>pC P G true ops o (a8C P G ops c Z n (listed.setIfInBounds i true)) st
 | .none,_,_,_,_,_,_,_,ha=>by cases ha
 | .call rest more,n,listed,st,hB,h,i,hi,ha=>by
  simp only[b6l,g0W]at hB;simp only[a5s]at h;simp only[a4H,g1i,decide_eq_true_eq]at ha;by_cases hic:i=c
  .rw[if_pos hic];exact h.1
  .exact a6F more n listed st hB.2 h.2 i hi (ha.resolve_left hic)
 | .op x next more,n,listed,st,hB,h,i,hi,ha=>by
  simp only[b6l,g0W,decide_eq_true_eq,Bool.not_eq_true',List.isEmpty_eq_false_iff,g0Z]at hB;obtain⟨⟨⟨⟨⟨xE,hn⟩,eU⟩,dR⟩,sH⟩,a6E⟩:=hB;simp only[a5s]at h;simp only[a4H,g1i,decide_eq_true_eq]at ha;by_cases hix:i=x
  .subst hix;have h1:=h.1;simp only[inB,List.all_cons,List.all_nil,Bool.and_true,g0W,decide_eq_true_eq]at xE;simp only[VK,sel,g1o xE.1,vG]at h1;rw[if_neg xE.2];simp only[g1o xE.1];refine gY (λs rE=>?_) h1;obtain⟨m,rfl⟩:∃m,n=m+1:=⟨n-1,by omega⟩;exact⟨eU,λj hj=>a6F next m _ s sH rE j hj (dR j hj)⟩
  .exact a6F more n listed st a6E h.2 i hi (ha.resolve_left hix)
theorem e1S{id:Nat}{ops:Array Oper}{Q:Exit->St->Prop}(c:Nat)(sF:List Nat)(T:Ord)(hm:P.follows .mixedOrders=true)(hB:d5Q ops c sF T=true)(h:VK P G [.ops true ops (sel ops sF)] .normal st λ_ s=>a5s P G ops (a2J P G ops c Q) T s):SW P G (.region id ops true) st Q:=by
 simp only[d5Q,g0W,List.isEmpty_iff,decide_eq_true_eq,Bool.not_eq_true',List.isEmpty_eq_false_iff,g0Z]at hB;obtain⟨⟨⟨⟨⟨⟨hN,hlen⟩,xE⟩,hs⟩,eU⟩,dR⟩,ht⟩:=hB;obtain⟨k,hk⟩:=Nat.exists_eq_add_of_le hlen;have pM:gF ops (Array.replicate ops.size false):=λk hk=>by
  rcases Nat.lt_or_ge k ops.size with h'|h'
  .simp[h']at hk
  .simp[Nat.not_lt.2 h']at hk
 have e:ops.size-sF.length=k+1:=by omega
 rw[e]at ht;simp only[VK]at h;have:=a7C (P:=P) (G:=G) (c:=c) (Z:=a2J P G ops c Q) hN sF (Array.replicate ops.size false) st (k+1) pM xE hs (uQ (λs rE=>⟨eU,λj hj=>a6F T k _ s ht rE j hj (dR j hj)⟩) _ _ (xX sF st xE h));rw[show sF.length+(k+1)=ops.size by omega]at this;intro base R μ a w hr;obtain⟨gD,rE⟩:=hr.drew;exact wp_region_any hm (b0S ops.size _ st this base R μ a w.drew gD λv s a' w' R' μ' q1 q2 q3=>⟨s,R',μ',q1,q2,rE.trans q3⟩)
theorem CPn.a0k{f:FuncId}{fn:Func}{c:Code}{n:Nat}{s0:St}{v:Value}(hf:P.funcs[f]? =some fn)(hb:fn.body=some c)(hn:fn.ntmps=n)(hT:(s0.own.all λc=>c.2.all λl=>match l with| .t i=>decide (i<s0.tmps.length)|_=>true)=true)(h:SW P G c ⟨s0.tmps++List.replicate (n-s0.tmps.length) (.cI []),s0.H,s0.own⟩ λe _=>e=.panic (a0Z v)):CPn P G f s0 v:=by
 intro base R μ args w hr;refine calls_of_wp hf hb ?_;have jZ:args.size=s0.tmps.length:=hr.size;have mW:Rel P G base R μ ⟨s0.tmps++List.replicate (n-s0.tmps.length) (.cI []),s0.H,s0.own⟩ {tmps:=args++Array.replicate (fn.ntmps-args.size) undef,defers:=[]} w:=by
  refine⟨rfl,by simp[jZ,hn],λi v d hiv hid=>?_,hr.jR,hr.inj,hr.eC,?_,hr.vL,hr.qP,hr.base,hr.pass⟩
  .simp only at hid;by_cases hi:i<s0.tmps.length
   .rw[g1h hi]at hid;rw[Array.getElem?_append_left (by omega)]at hiv;exact hr.tmps i v d hiv hid
   .rw[g1e (by omega),List.getElem?_replicate]at hid;split at hid<;>simp at hid;subst hid;rw[Array.getElem?_append_right (by omega),Array.getElem?_replicate]at hiv;split at hiv<;>simp at hiv;subst hiv;exact .cI #[] [] rfl (by simp)
  .obtain⟨vs,hl,h1,hap⟩:=hr.own;refine⟨vs,hl,λi c v hc hv=>?_,hap⟩;have ho:=h1 i c v hc hv;refine⟨λl hl u hu=>?_,ho.own,ho.keys⟩;cases l with
   |t j=>have hj:=g0Z.1 (g0Z.1 hT c (g1b hc)) _ hl;simp only[decide_eq_true_eq]at hj;simp only[cP]at hu;rw[Array.getElem?_append_left (by omega)]at hu;exact ho.eC _ hl u hu
   |c k off=>exact ho.eC _ hl u hu
 refine wp_mono (h base R μ _ w mW) λe a' w' ⟨s,R',μ',he,gD,hs⟩=>?_;subst he;exact⟨gD.defers,R',rfl,hs,gD.qP⟩
attribute [simp] a5s
end
end Go.VM
end
end
section
namespace Go.VM
open Go Go.RowKit
section
variable {P:Program} {G:GT} {st:St} {base:dH} {R:Nat->Nat->Prop} {μ:Nat->Nat} {a:Act} {w:World}
abbrev Ends:=Sum (DV×List (Nat×bD)×List (TypeId×List Loc)) Value
def CX(P:Program)(G:GT)(f:FuncId)(s0:St):Ends->Prop
 | .inl s1=>CH P G f s0 ⟨[s1.1],s1.2.1,s1.2.2⟩
 | .inr v=>CPn P G f s0 v
def tF(P:Program)(G:GT)(f:FuncId)(g0U:List DV)(ls:List (Option Loc))(dst:Option Tmp)(st:St)(K:St->Prop)(Q:Exit->St->Prop)(x0:Bool):Prop:=
 Enters P f/\(x0=true->∃s',oD P G f g0U ls st dst s'/\K s')/\(x0=false->∃v,b0Q P G f g0U ls st v/\Q (.panic (a0Z v)) (a2I st))
def a1T(P:Program)(G:GT)(all:Array Oper)(l:List Oper)(K:List Oper->St->Prop)(Q:Exit->St->Prop)(x0:Bool)(st:St):Prop:=match l with
 |[]=>False
 |o::rest=>match eJ o all st.tmps,kB G o st,dK G o st with
  |some true,none,some (f,g0U)=>tF P G f g0U (mM o) o.dst st (K rest) Q x0
  |_,_,_=>False
theorem b3y{all:Array Oper}{o:Oper}{rest:List Oper}{K:List Oper->St->Prop}{Q:Exit->St->Prop}{x0:Bool}(h:a1T P G all (o::rest) K Q x0 st):
  ∃f g0U,eJ o all st.tmps=some true/\kB G o st=none/\dK G o st=some (f,g0U)/\tF P G f g0U (mM o) o.dst st (K rest) Q x0:=by
 unfold a1T at h;simp only at h;split at h
 .rename_i f g0U h1 h2 h3;exact⟨f,g0U,h1,h2,h3,h⟩
 .exact h.elim
theorem a1T.pan{ops:Array Oper}{c:Nat}{o:Oper}{rest:List Oper}{K:List Oper->St->Prop}{Q:Exit->St->Prop}(ho:ops[c]? =some o)(h:a1T P G ops (o::rest) K Q false st):a2J P G ops c Q st:=by obtain⟨f,g0U,h2,_,h4,he,_,h5⟩:=b3y h;obtain⟨v,h6,h7⟩:=h5 rfl;unfold a2J;rw[ho];exact⟨h2,f,g0U,v,h4,⟨he,h6⟩,h7⟩
theorem a1T.ret{all:Array Oper}{o:Oper}{rest:List Oper}{K:List Oper->St->Prop}{Q:Exit->St->Prop}(h:a1T P G all (o::rest) K Q true st):pC P G false all o (K rest) st:=by obtain⟨f,g0U,h2,h3,h4,he,h5,_⟩:=b3y h;obtain⟨s',h6,h7⟩:=h5 rfl;unfold pC;rw[h2,h3,h4];simp only[tD,Bool.false_and,a2y,Bool.false_eq_true,if_false];exact⟨s',⟨he,h6⟩,h7⟩
def LW(P:Program)(G:GT)(all:Array Oper)(l:List Oper)(st:St)(Q:Exit->St->Prop):Prop:=
 ∀(base:dH) (R:Nat->Nat->Prop) (μ:Nat->Nat) (a:Act) (w:World),Rel P G base R μ st a w->∀QQ:Exit->Act->World->Prop,(∀e s a' w' R' μ',Q e s->Rel P G base R' μ' s a' w'->Step base R w R' w'->QQ e a' w')->wpList P all QQ l a w
theorem LW.vk{all:Array Oper}{l:List Oper}{Q:Exit->St->Prop}(h:VK P G [.ops false all l] .normal st Q):LW P G all l st Q:=by intro base R μ a w hr QQ hk;simp only[VK]at h;exact c1y all _ l st (λs=>Q .normal s) h base R μ a w hr λs a' w' R' μ' q1 q2 q3=>hk _ s a' w' R' μ' q1 q2 q3
theorem f0R{x0:Bool}(all:Array Oper)(Q:Exit->St->Prop)(l2:List Oper)(hl:x0=false->∃(c:Nat) (o:Oper) (rest:List Oper),l2=o::rest/\all[c]? =some o):∀(l:List Oper) (st:St),vG P G false all l st (λs=>a1T P G all l2 (λr s=>LW P G all r s Q) Q x0 s)->∀(base:dH) (R:Nat->Nat->Prop) (μ:Nat->Nat) (a:Act) (w:World),Rel P G base R μ st a w->
  ∀QQ:Exit->Act->World->Prop,(∀e s a' w' R' μ',Q e s->Rel P G base R' μ' s a' w'->Step base R w R' w'->QQ e a' w')->wpList P all QQ (l++l2) a w
 |[],st,h,base,R,μ,a,w,hr,QQ,hk=>by
  have h:a1T P G all l2 (λr s=>LW P G all r s Q) Q x0 st:=h
  show wpList P all QQ l2 a w
  cases l2 with
  |nil=>exact h.elim
  |cons o rest=>
   unfold wpList;cases x0 with
   |false=>obtain⟨c,o',f6L,he,hc⟩:=hl rfl;cases he;exact a2J.ok hc (h.pan hc) hr λv s w' R' q1 q2 q3=>hk _ s a w' R' μ q1 q2 q3
   |true=>refine tE h.ret hr λs v w' R' μ' h' gD rE=>?_;exact h' base R' μ' _ w' gD QQ λe s2 a2 w2 R2 μ2 q1 q2 q3=>hk e s2 a2 w2 R2 μ2 q1 q2 (rE.trans q3)
 |x::l,st,h,base,R,μ,a,w,hr,QQ,hk=>by
  show wpList P all QQ (x::(l++l2)) a w
  unfold wpList;exact tE h hr λs v w' R' μ' h' gD rE=>f0R all Q l2 hl l s h' base R' μ' _ w' gD QQ λe s a' w2 R2 μ2 q1 q2 q3=>hk e s a' w2 R2 μ2 q1 q2 (rE.trans q3)
theorem LW.at{all:Array Oper}{l:List Oper}{Q:Exit->St->Prop}(c k:Nat)(x0:Bool)(hk:l[c]? =all[k]?)(hk2:∃o,l[c]? =some o)(h:VK P G [.ops false all (l.take c)] .normal st λ_ s=>a1T P G all (l.drop c) (λr s=>LW P G all r s Q) Q x0 s):LW P G all l st Q:=by
 intro base R μ a w hr QQ wE;simp only[VK]at h;rw[<-List.take_append_drop c l];refine f0R all Q (l.drop c) (λh0=>?_) _ st h base R μ a w hr QQ wE;obtain⟨o,ho⟩:=hk2;refine⟨k,o,l.drop (c+1),?_,by rw[<-hk,ho]⟩;have aF:=(g0X.1 ho).1;rw[g1j aF];rw[g1a aF]at ho;cases ho
 rfl
theorem LW.app{all:Array Oper}{l:List Oper}{Q:Exit->St->Prop}(c:Nat)(h:VK P G [.ops false all (l.take c)] .normal st λ_ s=>LW P G all (l.drop c) s Q):LW P G all l st Q:=by
 intro base R μ a w hr QQ hk;simp only[VK]at h;have main:∀(l1:List Oper) (st:St),vG P G false all l1 st (λs=>LW P G all (l.drop c) s Q)->∀(R:Nat->Nat->Prop) (μ:Nat->Nat) (a:Act) (w:World),Rel P G base R μ st a w->
   (∀e s a' w' R' μ',Q e s->Rel P G base R' μ' s a' w'->Step base R w R' w'->QQ e a' w')->wpList P all QQ (l1++l.drop c) a w:=by
  intro l1
  induction l1 with
  |nil=>intro st h R μ a w hr hk;exact h base R μ a w hr QQ hk
  |cons x l1 ih=>
   intro st h R μ a w hr hk
   show wpList P all QQ (x::(l1++l.drop c)) a w
   unfold wpList;exact tE h hr λs v w' R' μ' h' gD rE=>ih s h' R' μ' _ w' gD λe s a' w2 R2 μ2 q1 q2 q3=>hk e s a' w2 R2 μ2 q1 q2 (rE.trans q3)
 have:=main (l.take c) st h R μ a w hr hk
 rwa[List.take_append_drop]at this
theorem SW.lw{id:Nat}{ops:Array Oper}{Q:Exit->St->Prop}(h:LW P G ops ops.toList st Q):SW P G (.region id ops false) st Q:=λbase R μ a w hr=>wp_region_list (h base R μ a w hr _ λe s a' w' R' μ' q1 q2 q3=>⟨s,R',μ',q1,q2,q3⟩)
theorem LW.c8E{all:Array Oper}{T y1 y2:TypeId}{td:TypeDesc}{d x:Tmp}{p1 p2:String}{f1 f2:Array Edge}{n e:Int}{Q:Exit->St->Prop}(hu:P.underlying T=some td)(hn:(match td with| .interface _=>false|_=>true)=true)(hd:d<st.tmps.length)(hx:st.eval G (.tmp x)=.d (.agg [.int .i64 n,.int .i64 e]))(h:Q (.panic (a0Z (.iface T (.agg #[.int .i64 n,.int .i64 e])))) (a2I st)):
  LW P G all [⟨some d,.makeInterface T (.tmp x),y1,p1,f1,none⟩,⟨none,.panic (.tmp d),y2,p2,f2,none⟩] st Q:=by
 intro base R μ a w hr QQ hk;obtain⟨pc,hpc,b2o,c5t⟩:=(hr.mF hx).a4m;have e0:=(c5t 0 _ rfl).2.uI;have e1:=(c5t 1 _ rfl).2.uI;have f4G:pc=#[.int .i64 n,.int .i64 e]:=by
  have hs:pc.size=2:=by simpa using b2o
  apply Array.ext
  .simpa using hs
  .intro i h1 h2;simp only[g0Y]at e0 e1;have h3:i<2:=by omega
   match i,h1,h3 with
   |0,h1,_=>simpa[h1]using e0
   |1,h1,_=>simpa[h1]using e1
 have hda:d<a.tmps.size:=by rw[hr.size];exact hd
 have cW:(Instr.makeInterface T (.agg pc)).run P w=.ok (.iface T (.agg pc)) w:=by
  unfold Instr.makeInterface;rw[Sem.run_bind,run_underlying hu];simp only[Result.andThen_ok];split
  .simp at hn
  .rfl
 have hw:∀(o:Oper) y,o.guard=none->Region.wanted o y=true:=λo y hg=>by unfold Region.wanted;rw[hg]
 unfold wpList;rw[if_pos (hw _ _ rfl)];left;unfold Oper.wp;have e2:(execOp a.eval ⟨some d,.makeInterface T (.tmp x),y1,p1,f1,none⟩).run P w=.ok (.value (.iface T (.agg pc))) w:=by simp[execOp,hpc,cW]
 rw[e2]
 show wpList P all QQ _ (a.put (some d) (.iface T (.agg pc))) w
 unfold wpList;rw[if_pos (hw _ _ rfl)];left;unfold Oper.wp;have e3:(execOp (a.put (some d) (.iface T (.agg pc))).eval ⟨none,.panic (.tmp d),y2,p2,f2,none⟩).run P w=.halt (.panic (.iface T (.agg pc))) w:=by simp[execOp,dV _ _ hda,Instr.panic,goPanic]
 rw[e3]
 show QQ (.panic [{v:=.iface T (.agg pc),recovered:=false}]) _ w
 rw[f4G];refine hk _ (a2I st) _ w R μ h ?_ (.refl _ _ _);have h1:=hr.b0R (.refl base R w) hr.qP;have h2:=h1.put (dst:=some d) (v:=.iface T (.agg #[.int .i64 n,.int .i64 e])) (dv:=.undef) (act:=.no) (.undef _) trivial;have h3:finish (a2I st) (some d) .undef .no=a2I st:=by
  simp only[finish,a2I,St.mk.injEq];refine⟨?_,by simp[mX,cZ],by simp[cZ]⟩;apply List.ext_getElem
  .simp
  .intro i q1 q2;rw[List.getElem_set];split<;>simp
 rw[h3]at h2;exact h2
def cJ(P:Program)(G:GT)(ops:Array Oper)(rest:List Nat)(Q:Exit->St->Prop)(s:St):Prop:=VK P G [.ops true ops (sel ops rest)] .normal s Q
theorem cJ.mk{ops:Array Oper}{rest:List Nat}{Q:Exit->St->Prop}{s:St}(h:VK P G [.ops true ops (sel ops rest)] .normal s Q):cJ P G ops rest Q s:=h
def qV(P:Program)(G:GT)(ops:Array Oper)(c:Nat)(Q:Exit->St->Prop)(x0:Bool):Ord->St->Prop
 | .none,_=>True
 | .call rest more,st=>a1T P G ops (sel ops [c]) (λ_ s=>cJ P G ops rest Q s) Q x0 st/\qV P G ops c Q x0 more st
 | .op i next more,st=>VK P G [.ops true ops (sel ops [i])] .normal st (λ_ s=>qV P G ops c Q x0 next s)/\qV P G ops c Q x0 more st
theorem wR{q:Bool}{ops:Array Oper}{K K':St->Prop}(hk:∀s,K s->K' s):∀(l:List Oper) (st:St),vG P G q ops l st K->vG P G q ops l st K'
 |[],st,h=>hk st h
 |o::r,st,h=>gY (λs hs=>wR hk r s hs) h
theorem d0B{ops:Array Oper}{c:Nat}:(∃o,ops[c]? =some o/\sel ops [c]=[o])\/sel ops [c]=[]:=by
 simp only[sel];cases h:ops[c]? with
 |none=>right;rfl
 |some o=>left;exact⟨o,rfl,rfl⟩
theorem qV.pan{ops:Array Oper}{c:Nat}{Q:Exit->St->Prop}:∀(T:Ord) (st:St),qV P G ops c Q false T st->a5s P G ops (a2J P G ops c Q) T st
 | .none,_,_=>trivial
 | .call rest more,st,h=>by
  refine⟨?_,qV.pan more st h.2⟩;have h1:=h.1;rcases d0B (ops:=ops) (c:=c)with⟨o,ho,hs⟩|hs
  .rw[hs]at h1;exact h1.pan ho
  .rw[hs]at h1;exact h1.elim
 | .op i next more,st,h=>by refine⟨?_,qV.pan more st h.2⟩;have h1:=h.1;simp only[VK]at h1|-;exact wR (λs hs=>qV.pan next s hs) _ _ h1
theorem qV.ret{ops:Array Oper}{c:Nat}{Q:Exit->St->Prop}:∀(T:Ord) (st:St),qV P G ops c Q true T st->b4m P G ops c (λs=>Q .normal s) T st
 | .none,_,_=>trivial
 | .call rest more,st,h=>by
  refine⟨?_,qV.ret more st h.2⟩;have h1:=h.1;rcases d0B (ops:=ops) (c:=c)with⟨o,ho,hs⟩|hs
  .rw[hs]at h1|-;have h2:=h1.ret;simp only[cJ,VK,vG]at h2|-;exact h2
  .rw[hs]at h1;exact h1.elim
 | .op i next more,st,h=>by refine⟨?_,qV.ret more st h.2⟩;have h1:=h.1;simp only[VK]at h1|-;exact wR (λs hs=>qV.ret next s hs) _ _ h1
theorem b3z{q:Bool}{ops:Array Oper}{l:List Oper}{K K':St->Prop}(hk:∀s,K s->K' s)(h:VK P G [.ops q ops l] .normal st λ_ s=>K s):VK P G [.ops q ops l] .normal st λ_ s=>K' s:=by simp only[VK]at h|-;exact wR hk _ _ h
theorem kP{id:Nat}{ops:Array Oper}{Q:Exit->St->Prop}(c:Nat)(sF:List Nat)(T:Ord)(x0:Bool)(hm:P.follows .mixedOrders=true)(hB:d5Q ops c sF T=true)(h:VK P G [.ops true ops (sel ops sF)] .normal st λ_ s=>qV P G ops c Q x0 T s):SW P G (.region id ops true) st Q:=by
 cases x0 with
 |false=>exact e1S c sF T hm hB (b3z (λs hs=>qV.pan T s hs) h)
 |true=>exact d5R c sF T hm hB (b3z (λs hs=>qV.ret T s hs) h)
theorem tF.mk{ls:List (Option Loc)}{f:FuncId}{s0:St}{x:Ends}{g0U:List DV}{dst:Option Tmp}{KK:St->Prop}{Q:Exit->St->Prop}{rest:List (TypeId×List Loc)}(he:Enters P f)(hx:CX P G f s0 x)(K:List (Nat×Nat))(kU:∀d H1 own1,x=.inl (d,H1,own1)->aL K s0 d H1=true)(c5y:∀v,x=.inr v->aL K s0 .undef s0.H=true)(kO:WkT g0U (aR K s0.tmps))(hH:WkH st.H (cX K s0.H))(mN:wP st st.own (s0.own.map (qS K ls))=some rest)(b8D:a0C st.tmps.length ls s0.own=true)(oI:∀d H1 own1,x=.inl (d,H1,own1)->KK (bG K dst st rest d H1 own1))(a3J:∀v,x=.inr v->Q (.panic (a0Z v)) (a2I st)):tF P G f g0U ls dst st KK Q x.isLeft:=by
 refine⟨he,λh0=>?_,λh0=>?_⟩
 .match x,hx,kU,oI,h0 with
  | .inl (d,H1,own1),hx,kU,oI,_=>exact⟨_,oD.b3n hx K (kU d H1 own1 rfl) kO hH mN b8D,oI d H1 own1 rfl⟩
 .match x,hx,c5y,a3J,h0 with
  | .inr v,hx,c5y,a3J,_=>exact⟨v,b0Q.e7z hx K (c5y v rfl) kO hH mN b8D,a3J v rfl⟩
attribute [simp] qV
end
attribute [irreducible] tF LW cJ
attribute [simp] a1T eJ
end Go.VM
end
