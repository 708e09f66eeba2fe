/- Lemmas that the law of this claim needs (ZJ). No condition. -/
import Derived.Test.YtjpodcmhcenjjaaGreatDoorOba
import Derived.Test.YtjpodcmhcenjjaaGreatDoorObd
set_option linter.unusedVariables false
set_option linter.unusedSimpArgs false
set_option linter.unusedSectionVars false
set_option maxRecDepth 100000
set_option maxHeartbeats 64000000
open Go.Proofs.Tryz
section
section
namespace Go.Proofs.YtjpodcmhcenjjaaGreatDoor
structure eM where
 op:Int
 name:Nm
 n:Int
 kids:List eM
 params:List (Nm×Ty)
 alts:List (Nm×List Nm×eM)
 types:List Ty
abbrev zN:=Nm×Nm
structure pM where
 name:Nm
 vars:List zN
 hyp:Pr
 goal:Pr
structure a7u where
 vars:List Nm
 oP:List zN
 abs:List zN
 bounds:List pM
 type:Ty
 a6m:List Pr
structure eX where
 name:Nm
 params:List Nm
 body:eM
 mode:Int
 typed:Bool
 sig:a7u
structure a3P where
 name:Nm
 names:List Nm
 fields:List Ty
structure a3Q where
 name:Nm
 vars:List Nm
 a7t:List zN
 cons:List a3P
structure a0A where
 name:Nm
 var:Nm
 methods:List (Nm×Ty)
structure a6n where
 cls:Nm
 type:Ty
 oP:List zN
 defs:List eX
structure a6o where
 name:Nm
 data:Nm
 result:Nm
 cases:List (Nm×List Nm×Pr)
 inv:Pr
structure a6p where
 name:Nm
 vars:List zN
 body:Pr
structure gZ where
 uW:List a3Q
 oJ:List a0A
 insts:List a6n
 uX:List a6o
 xV:List a6p
 defs:List eX
def mL:Pr:=⟨0,[],0,[]⟩
def sF:Ty:=⟨0,[],[],[],mL,[]⟩
def zO:eM:=⟨0,[],0,[],[],[],[]⟩
def uV:a7u:=⟨[],[],[],[],sF,[]⟩
def psT(op:Int)(name:Nm):Ty:=⟨op,name,[],[],mL,[]⟩
def dG(op:Int)(kids:List eM):eM:=⟨op,[],0,kids,[],[],[]⟩
inductive kX (α:Type) where
 |ok (a:α) (at':Nat)
 |bad (line err:Int)
def bB(α:Type):=Nat->kX α
def bB.aT{α:Type}(a:α):bB α:=λi=>.ok a i
def bB.bV{α β:Type}(x:bB α)(f:α->bB β):bB β:=λi=>match x i with
 | .ok a j=>f a j
 | .bad n e=>.bad n e
instance:Monad bB where
 pure:=bB.aT
 bind:=bB.bV
@[simp] theorem gR{α:Type}(a:α)(i:Nat):(pure a:bB α) i=.ok a i:=rfl
theorem hZ{α β:Type}(x:bB α)(f:α->bB β)(i:Nat):(x >>=f) i=match x i with
 | .ok a j=>f a j
 | .bad n e=>.bad n e:=rfl
theorem cU{α β:Type}{x:bB α}{f:α->bB β}{i j:Nat}{a:α}(h:x i=.ok a j):(x >>=f) i=f a j:=by rw[hZ,h]
theorem hM{α β:Type}{x:bB α}{f:α->bB β}{i:Nat}{n e:Int}(h:x i=.bad n e):(x >>=f) i=.bad n e:=by rw[hZ,h]
section
variable (kw:Nm->Bool) (andP:Pr->Pr->Pr) (aG:List Tok->Nat->Nat->kX Pr) (l:List Tok)
def aR(i:Nat):Tok:=if i<l.length then l.getD i ⟨0,[],0,0⟩ else l.getLastD ⟨0,[],0,0⟩
def gF(t:Tok)(s:Nm):Bool:=(decide (t.kind=1)||decide (t.kind=4)||decide (t.kind=2))&&decide (t.text=s)
def mH(t:Tok):Bool:=decide (t.kind=1)&& !kw t.text
def sM(t:Tok):Bool:=decide (t.kind=2)
def aQ(i:Nat)(s:Nm):Bool:=gF (aR l i) s
def dU{α:Type}:bB α:=λi=>.bad (aR l i).line 14
def dR(s:Nm):bB Bool:=λi=>if aQ l i s then .ok true (i+1) else .ok false i
def aV:List Nm->bB Unit
 |[]=>pure ()
 |s::r=>λi=>if aQ l i s then aV r (i+1) else dU l i
def mQ(ok:Tok->Bool):bB Nm:=λi=>if ok (aR l i) then .ok (aR l i).text (i+1) else dU l i
def bS:bB Nm:=mQ l (mH kw)
def gI:bB Nm:=mQ l sM
def vN:bB Nm:=mQ l λt=>mH kw t||sM t
def jN{α:Type}(c:Nm)(one:α->bB α):Nat->α->bB α
 |0,_=>λ_=>.bad 0 0
 |g+1,a=>λi=>match one a i with
  | .bad n e=>.bad n e
  | .ok b j=>if aQ l j c then jN c one g b (j+1) else .ok b j
def gA{α:Type}(c:Nm)(one:α->bB α)(a:α):bB α:=jN l c one (l.length+2) a
def cV{α:Type}(c:Nat->Bool)(one:α->bB α):Nat->α->bB α
 |0,_=>λ_=>.bad 0 0
 |g+1,a=>λi=>if c i then(match one a i with
  | .bad n e=>.bad n e
  | .ok b j=>cV c one g b j) else .ok a i
def mX{α:Type}(c:Nat->Bool)(one:α->bB α)(a:α):bB α:=cV c one (l.length+2) a
def gB:bB Pr:=λi=>aG l i l.length
def dH:bB (List Nm):=do
 aV l [[40]]
 let out <- gA l [44] (λout=>do let w <- bS kw l;pure (out++[w])) []
 aV l [[41]]
 pure out
def qG(v:Bool):bB (List zN):=gA l [44] (λout=>do
 let b <- (if v then dR l [118] else pure false)
 let name <- (if b then pure [118] else bS kw l)
 aV l [[58]]
 let s <- vN kw l
 pure (out++[(name,s)])) []
def gS:bB (Option Ty):=λi=>
 if aQ l i [73,110,116] then .ok (some (psT 1 [])) (i+1)
 else if aQ l i [66,111,111,108] then .ok (some (psT 2 [])) (i+1)
 else if aQ l i [67,101,108,108] then .ok (some (psT 3 [])) (i+1)
 else if mH kw (aR l i) then .ok (some (psT 5 (aR l i).text)) (i+1)
 else .ok none i
section
variable (ty:bB Ty)
def tB:bB Ty:=do
 aV l [[123],[118],[58]]
 let t <- ty
 if t.op=6 then dU l else do
 aV l [[124]]
 let p <- gB aG l
 aV l [[125]]
 pure {t with pred:=if t.pred.op=0 then p else andP t.pred p}
def b1R(i:Nat):Bool:=mH kw (aR l i)||sM (aR l i)||aQ l i [123]||aQ l i [40]
def gT:bB Ty:=do
 let b <- gS kw l
 match b with
 |some t=>pure t
 |none=>
  λi=>
  if sM (aR l i) then .ok (psT 4 (aR l i).text) (i+1)
  else if aQ l i [123] then tB andP aG l ty i
  else(do
   aV l [[40]]
   let t <- ty
   aV l [[41]]
   pure t:bB Ty) i
def qP:bB Ty:=do
 let name <- gI l
 let args <- mX l (b1R kw l) (λout=>do let t <- gT kw andP aG l ty;pure (out++[t])) []
 let b <- dR l [60]
 if b then do
  let ps <- gA l [44] (λout=>do
   aV l [[118],[46]]
   let p <- gB aG l
   pure (out++[p])) []
  aV l [[62]]
  pure {psT 4 name with args:=args,a7t:=ps}
 else pure {psT 4 name with args:=args}
def uF:bB Ty:=do
 aV l [[40]]
 let (ns,ts) <- (λi=>if mH kw (aR l i)&&gF (aR l (i+1)) [58] then
   gA l [44] (λ(out:List Nm×List Ty)=>do
    let w <- bS kw l
    aV l [[58]]
    let t <- ty
    pure (out.1++[w],out.2++[t])) ([],[]) i
  else gA l [44] (λ(out:List Nm×List Ty)=>do
    let t <- ty
    pure (out.1,out.2++[t])) ([],[]) i:bB (List Nm×List Ty))
 aV l [[41]]
 λi=>
  if decide (ns.length=0)&&decide (ts.length=1)&& !aQ l i [45,62] then .ok (ts.headD sF) i
  else(do
   aV l [[45,62]]
   let t <- ty
   pure {psT 6 []with names:=ns,args:=ts++[t]}:bB Ty) i
def uG:bB Ty:=do
 let b <- gS kw l
 match b with
 |some t=>pure t
 |none=>
  λi=>
  if sM (aR l i) then qP kw andP aG l ty i
  else if aQ l i [123] then tB andP aG l ty i
  else uF kw l ty i
end
def vO:Nat->bB Ty
 |0=>λ_=>.bad 0 0
 |n+1=>uG kw andP aG l (vO n)
def dW:bB Ty:=vO kw andP aG l (l.length+2)
def qQ:bB (List Ty):=do
 let b <- dR l [91]
 if b then do
  let out <- gA l [44] (λout=>do let t <- dW kw andP aG l;pure (out++[t])) []
  aV l [[93]]
  pure out
 else pure []
section
variable (ex:Nat->bB eM)
def jJ:bB (List eM):=do
 aV l [[40]]
 let out <- gA l [44] (λout=>do let e <- ex 0;pure (out++[e])) []
 aV l [[41]]
 pure out
def xK:bB eM:=do
 let name <- bS kw l
 let b <- dR l [58]
 let ts <- (if b then do let t <- dW kw andP aG l;pure [t] else pure []:bB (List Ty))
 aV l [[61]]
 let a <- ex 0
 aV l [[105,110]]
 let c <- ex 0
 pure {dG 7 [a,c]with name:=name,types:=ts}
def pV:bB eM:=do
 let e <- ex 0
 aV l [[111,102],[123]]
 let alts <- gA l [59] (λout=>do
  let c <- gI l
  let ns <- (λi=>if aQ l i [40] then dH kw l i else .ok [] i:bB (List Nm))
  aV l [[45,62]]
  let b <- ex 0
  pure (out++[(c,ns,b)])) []
 aV l [[125]]
 pure {dG 9 [e]with alts:=alts}
def xL:bB eM:=do
 aV l [[40]]
 let ps <- gA l [44] (λout=>do
  let w <- bS kw l
  let b <- dR l [58]
  let t <- (if b then dW kw andP aG l else pure sF)
  pure (out++[(w,t)])) []
 aV l [[41],[45,62]]
 let e <- ex 0
 pure {dG 6 [e]with params:=ps}
def vP(op:Int):bB eM:=do
 aV l [[40]]
 let e <- ex 0
 aV l [[41]]
 pure (dG op [e])
def kY:bB eM:=do
 aV l [[40]]
 λi=>
  if aQ l i [45]&&decide ((aR l (i+1)).kind=3)&&gF (aR l (i+2)) [41] then .ok ⟨1,[], -(aR l (i+1)).n,[],[],[],[]⟩ (i+3)
  else(do
   let e <- ex 0
   let b <- dR l [58]
   let e <- (if b then do let t <- dW kw andP aG l;pure {dG 26 [e]with types:=[t]} else pure e:bB eM)
   aV l [[41]]
   pure e:bB eM) i
def sQ:bB eM:=λi=>
 if (aR l i).kind=3 then .ok ⟨1,[],(aR l i).n,[],[],[],[]⟩ (i+1)
 else if aQ l i [116,114,117,101] then .ok ⟨2,[],1,[],[],[],[]⟩ (i+1)
 else if aQ l i [102,97,108,115,101] then .ok ⟨2,[],0,[],[],[],[]⟩ (i+1)
 else if aQ l i [110,101,119] then vP l ex 22 (i+1)
 else if aQ l i [103,101,116] then vP l ex 23 (i+1)
 else if aQ l i [115,101,116] then(do
  aV l [[40]]
  let a <- ex 0
  aV l [[44]]
  let b <- ex 0
  aV l [[41]]
  pure (dG 24 [a,b]):bB eM) (i+1)
 else if mH kw (aR l i) then
  (if !aQ l (i+1) [91]&& !aQ l (i+1) [40] then .ok {dG 3 []with name:=(aR l i).text} (i+1)
  else(do
   let ts <- qQ kw andP aG l
   let ks <- jJ l ex
   pure {dG 5 ks with name:=(aR l i).text,types:=ts}:bB eM) (i+1))
 else if sM (aR l i) then(do
  let ts <- qQ kw andP aG l
  let ks <- (λj=>if aQ l j [40] then jJ l ex j else .ok [] j:bB (List eM))
  pure {dG 4 ks with name:=(aR l i).text,types:=ts}:bB eM) (i+1)
 else kY kw andP aG l ex i
def a0B:bB eM:=λi=>if aQ l i [45] then(do let e <- ex 7;pure (dG 15 [e]):bB eM) (i+1) else sQ kw andP aG l ex i
def dY(ops:List (Nm×Int))(one:bB eM):Nat->eM->bB eM
 |0,_=>λ_=>.bad 0 0
 |g+1,e=>λi=>match ops.find? λp=>aQ l i p.1 with
  |none=>.ok e i
  |some p=>match one (i+1)with
   | .bad n e=>.bad n e
   | .ok x j=>dY ops one g (dG p.2 [e,x]) j
def wV(ops:List (Nm×Int))(one:bB eM):bB eM:=do
 let e <- one
 dY l ops one (l.length+2) e
def a7v:bB eM:=wV l [([42],12),([100,105,118],13),([109,111,100],14)] (a0B kw andP aG l ex)
def jO:bB eM:=wV l [([43],10),([45],11)] (a7v kw andP aG l ex)
def xM:bB eM:=do
 let e <- jO kw andP aG l ex
 λi=>
  if aQ l i [61,61] then(do let x <- jO kw andP aG l ex;pure (dG 16 [e,x]):bB eM) (i+1)
  else if aQ l i [33,61] then(do let x <- jO kw andP aG l ex;pure (dG 21 [dG 16 [e,x]]):bB eM) (i+1)
  else if aQ l i [60] then(do let x <- jO kw andP aG l ex;pure (dG 17 [e,x]):bB eM) (i+1)
  else if aQ l i [60,61] then(do let x <- jO kw andP aG l ex;pure (dG 18 [e,x]):bB eM) (i+1)
  else if aQ l i [62] then(do let x <- jO kw andP aG l ex;pure (dG 17 [x,e]):bB eM) (i+1)
  else if aQ l i [62,61] then(do let x <- jO kw andP aG l ex;pure (dG 18 [x,e]):bB eM) (i+1)
  else .ok e i
def uH:bB eM:=λi=>if aQ l i [33] then(do let e <- ex 3;pure (dG 21 [e]):bB eM) (i+1) else xM kw andP aG l ex i
def b1S:bB eM:=wV l [([38,38],19)] (uH kw andP aG l ex)
def b5g:bB eM:=wV l [([124,124],20)] (b1S kw andP aG l ex)
def a2O:bB eM:=λi=>
 if aQ l i [108,101,116] then xK kw andP aG l ex (i+1)
 else if aQ l i [105,102] then(do
  let a <- ex 0
  aV l [[116,104,101,110]]
  let b <- ex 0
  aV l [[101,108,115,101]]
  let c <- ex 0
  pure (dG 8 [a,b,c]):bB eM) (i+1)
 else if aQ l i [99,97,115,101] then pV kw l ex (i+1)
 else if aQ l i [102,117,110] then xL kw andP aG l ex (i+1)
 else if aQ l i [117,115,101] then(do
  let name <- bS kw l
  let ks <- jJ l ex
  aV l [[105,110]]
  let b <- ex 0
  pure {dG 25 (ks++[b])with name:=name}:bB eM) (i+1)
 else b5g kw andP aG l ex i
end
def sC:Nat->Nat->bB eM
 |0,_=>λ_=>.bad 0 0
 |n+1,k=>if k=7 then a0B kw andP aG l (sC n) else if k=3 then uH kw andP aG l (sC n) else a2O kw andP aG l (sC n)
def zP:bB eM:=sC kw andP aG l (l.length+2) 0
def pN:bB (List zN):=gA l [44] (λout=>do
 let c <- gI l
 let w <- bS kw l
 pure (out++[(c,w)])) []
def pO:bB pM:=do
 let name <- bS kw l
 aV l [[40]]
 let vs <- qG kw l false
 aV l [[41]]
 let h <- gB aG l
 aV l [[45,62]]
 let g <- gB aG l
 aV l [[46]]
 pure ⟨name,vs,h,g⟩
def tR:Nat->Int->Nat->Nat
 |0,_,_=>l.length
 |g+1,d,i=>if i<l.length then(if gF (aR l i) [40] then tR g (d+1) (i+1) else if gF (aR l i) [41] then tR g (d-1) (i+1) else if gF (aR l i) [61]&&decide (d<=0) then i else tR g d (i+1)) else l.length
def wW:bB a7u:=do
 let b <- dR l [102,111,114,97,108,108]
 let vs <- (if b then do
  let w <- bS kw l
  let ws <- mX l (λi=>mH kw (aR l i)) (λout=>do let w <- bS kw l;pure (out++[w])) [w]
  aV l [[46]]
  pure ws else pure []:bB (List Nm))
 let b <- dR l [119,104,101,114,101]
 let ns <- (if b then do
  let ns <- pN kw l
  aV l [[46]]
  pure ns else pure []:bB (List zN))
 let b <- dR l [60]
 let abs <- (if b then do
  let abs <- qG kw l false
  aV l [[62],[46]]
  pure abs else pure []:bB (List zN))
 let bs <- mX l (λi=>aQ l i [98,111,117,110,100]) (λout=>do
  aV l [[98,111,117,110,100]]
  let b <- pO kw aG l
  pure (out++[b])) []
 let t <- dW kw andP aG l
 let b <- dR l [109,101,116,114,105,99]
 let ms <- (if b then(λi=>gA l [44] (λout=>do
  let p <- (λj=>aG l j (tR l (l.length+1) 0 i):bB Pr)
  pure (out++[p])) [] i) else pure []:bB (List Pr))
 pure ⟨vs,ns,abs,bs,t,ms⟩
def uI(mode:Int):bB eX:=do
 let name <- bS kw l
 let ps <- (λi=>if aQ l i [40] then(if gF (aR l (i+1)) [41] then .ok [] (i+2) else dH kw l i) else .ok [] i:bB (List Nm))
 pure ⟨name,ps,zO,mode,false,uV⟩
def uJ(d:eX):bB (Option eX):=do
 aV l [[61]]
 let e <- zP kw andP aG l
 pure (some {d with body:=e})
def tJ:bB (Option eX):=λi=>
 if aQ l i [100,101,102] then(do
  let d <- uI kw l 0
  let b <- dR l [58]
  let d <- (if b then do let s <- wW kw andP aG l;pure {d with typed:=true,sig:=s} else pure d:bB eX)
  uJ kw andP aG l d:bB (Option eX)) (i+1)
 else if aQ l i [97,115,115,117,109,101] then(do
  let d <- uI kw l 1
  aV l [[58]]
  let s <- wW kw andP aG l
  pure (some {d with typed:=true,sig:=s}):bB (Option eX)) (i+1)
 else if aQ l i [114,101,102,108,101,99,116] then(do
  let d <- uI kw l 2
  aV l [[58]]
  let s <- wW kw andP aG l
  uJ kw andP aG l {d with typed:=true,sig:=s}:bB (Option eX)) (i+1)
 else .ok none i
def a1E:bB a3P:=do
 let name <- gI l
 let b <- dR l [40]
 if b then do
  let (ns,ts) <- gA l [44] (λ(out:List Nm×List Ty)=>do
   let w <- bS kw l
   aV l [[58]]
   let t <- dW kw andP aG l
   pure (out.1++[w],out.2++[t])) ([],[])
  aV l [[41]]
  pure ⟨name,ns,ts⟩
 else pure ⟨name,[],[]⟩
def uK:bB a3Q:=do
 let name <- gI l
 let vs <- mX l (λi=>mH kw (aR l i)) (λout=>do let w <- bS kw l;pure (out++[w])) []
 let b <- dR l [60]
 let ps <- (if b then do
  let ps <- qG kw l false
  aV l [[62]]
  pure ps else pure []:bB (List zN))
 aV l [[61]]
 let cs <- gA l [124] (λout=>do let c <- a1E kw andP aG l;pure (out++[c])) []
 pure ⟨name,vs,ps,cs⟩
def qR:bB a0A:=do
 let name <- gI l
 let v <- bS kw l
 aV l [[119,105,116,104]]
 let ms <- gA l [44] (λout=>do
  let w <- bS kw l
  aV l [[58]]
  let t <- dW kw andP aG l
  pure (out++[(w,t)])) []
 pure ⟨name,v,ms⟩
def vQ:bB a6n:=do
 let c <- gI l
 let t <- gT kw andP aG l (dW kw andP aG l)
 let b <- dR l [119,104,101,114,101]
 let ns <- (if b then pN kw l else pure [])
 aV l [[123]]
 let ds <- mX l (λi=>aQ l i [100,101,102]) (λout=>do
  let d <- tJ kw andP aG l
  aV l [[59]]
  pure (out++[d.getD ⟨[],[],zO,0,false,uV⟩])) []
 aV l [[125]]
 pure ⟨c,t,ns,ds⟩
def vR:bB a6o:=do
 let name <- bS kw l
 aV l [[58]]
 let d <- gI l
 aV l [[45,62]]
 let s <- vN kw l
 aV l [[123]]
 let cs <- gA l [59] (λout=>do
  let c <- gI l
  let ns <- (λi=>if aQ l i [40] then dH kw l i else .ok [] i:bB (List Nm))
  aV l [[61]]
  let p <- gB aG l
  pure (out++[(c,ns,p)])) []
 aV l [[125]]
 let b <- dR l [105,110,118,97,114,105,97,110,116]
 let p <- (if b then gB aG l else pure mL)
 pure ⟨name,d,s,cs,p⟩
def vT:bB a6p:=do
 let name <- bS kw l
 aV l [[40]]
 let vs <- qG kw l true
 aV l [[41],[58]]
 let p <- gB aG l
 pure ⟨name,vs,p⟩
def pP(m:gZ):bB gZ:=λi=>
 if aQ l i [100,97,116,97] then(do let x <- uK kw andP aG l;pure {m with uW:=m.uW++[x]}:bB gZ) (i+1)
 else if aQ l i [99,108,97,115,115] then(do let x <- qR kw andP aG l;pure {m with oJ:=m.oJ++[x]}:bB gZ) (i+1)
 else if aQ l i [105,110,115,116] then(do let x <- vQ kw andP aG l;pure {m with insts:=m.insts++[x]}:bB gZ) (i+1)
 else if aQ l i [109,101,97,115,117,114,101] then(do let x <- vR kw aG l;pure {m with uX:=m.uX++[x]}:bB gZ) (i+1)
 else if aQ l i [113,117,97,108] then(do let x <- vT kw aG l;pure {m with xV:=m.xV++[x]}:bB gZ) (i+1)
 else(do
  let d <- tJ kw andP aG l
  match d with
  |some d=>pure {m with defs:=m.defs++[d]}
  |none=>dU l:bB gZ) i
def uY:bB Unit:=λi=>if (aR l i).kind=0 then .ok () i else dU l i
def a3R:bB gZ:=mX l (λi=> !decide ((aR l i).kind=0)) (λm=>do
 let m <- pP kw andP aG l m
 aV l [[59]]
 pure m) ⟨[],[],[],[],[],[]⟩
end
end Go.Proofs.YtjpodcmhcenjjaaGreatDoor
end
section
namespace Go.Proofs.YtjpodcmhcenjjaaGreatDoor
def qS(l:List Tok):Prop:=l≠[]/\(aR l (l.length-1)).kind=0
def aA{α:Type}(l:List Tok)(m:Nat)(x:bB α):Prop:=∀(i:Nat) (a:α) (j:Nat),i<l.length->x i=.ok a j->i+m<=j/\j<l.length
section
variable {kw:Nm->Bool} {andP:Pr->Pr->Pr} {aG:List Tok->Nat->Nat->kX Pr} {l:List Tok} {α β:Type} {m k:Nat}
theorem aA.le{x:bB α}(h:aA l m x)(hk:k<=m):aA l k x:=λi a j hi hx=>by have:=h i a j hi hx;omega
theorem aA.aT(a:α):aA l 0 (pure a:bB α):=λi b j hi h=>by rw[gR]at h;cases h;omega
theorem aA.bl{x:bB α}{f:α->bB β}(hx:aA l m x)(hf:∀a,aA l 0 (f a)):aA l m (x >>=f):=λi b j hi h=>by
 rw[hZ]at h;cases hxi:x i with
 |bad n e=>rw[hxi]at h;cases h
 |ok a j'=>rw[hxi]at h;have h1:=hx i a j' hi hxi;have h2:=hf a j' b j h1.2 h;omega
theorem aA.br{x:bB α}{f:α->bB β}(hx:aA l 0 x)(hf:∀a,aA l m (f a)):aA l m (x >>=f):=λi b j hi h=>by
 rw[hZ]at h;cases hxi:x i with
 |bad n e=>rw[hxi]at h;cases h
 |ok a j'=>rw[hxi]at h;have h1:=hx i a j' hi hxi;have h2:=hf a j' b j h1.2 h;omega
theorem aA.ite{c:Prop}[Decidable c]{x y:bB α}(hx:aA l m x)(hy:aA l m y):aA l m (if c then x else y):=by
 split
 .exact hx
 .exact hy
theorem aA.failed:aA l m (dU l:bB α):=λi a j hi h=>by unfold dU at h;cases h
variable (hE:qS l)
include hE
theorem rU{i:Nat}(hi:i<l.length)(h:(aR l i).kind≠0):i+1<l.length:=by
 rcases Nat.lt_or_ge (i+1) l.length with h'|h'
 .exact h'
 .have:i=l.length-1:=by omega
  rw[this]at h;exact absurd hE.2 h
theorem zQ{t:Tok}{s:Nm}(h:gF t s=true):t.kind≠0:=by unfold gF at h;simp only[f2N,f2Z,decide_eq_true_eq]at h;omega
theorem aF{i:Nat}{s:Nm}(hi:i<l.length)(h:aQ l i s=true):i+1<l.length:=rU hE hi (zQ hE h)
theorem a8I{i:Nat}(hi:i<l.length)(h:sM (aR l i)=true):i+1<l.length:=rU hE hi (by unfold sM at h;simp only[decide_eq_true_eq]at h;omega)
theorem a4J{i:Nat}(hi:i<l.length)(h:mH kw (aR l i)=true):i+1<l.length:=rU hE hi (by unfold mH at h;simp only[f2N,decide_eq_true_eq]at h;omega)
theorem aA.e2X:∀(s:List Nm),aA l s.length (aV l s)
 |[]=>aA.aT ()
 |s::r=>λi a j hi h=>by
  unfold aV at h;split at h
  .rename_i hs;have:=aA.e2X r (i+1) a j (aF hE hi hs) h;simp only[List.length_cons];omega
  .unfold dU at h;cases h
theorem aA.exp(s:Nm)(r:List Nm):aA l 1 (aV l (s::r)):=(aA.e2X hE (s::r)).le (by simp only[List.length_cons];omega)
theorem aA.skip(s:Nm):aA l 0 (dR l s):=λi a j hi h=>by
 unfold dR at h;split at h
 .rename_i hs;have:=aF hE hi hs;cases h;omega
 .cases h;omega
theorem aA.take{ok:Tok->Bool}(hk:∀t,ok t=true->t.kind≠0):aA l 1 (mQ l ok):=λi a j hi h=>by
 unfold mQ at h;split at h
 .rename_i hs;have:=rU hE hi (hk _ hs);cases h;omega
 .unfold dU at h;cases h
theorem aA.word:aA l 1 (bS kw l):=aA.take hE λt h=>by unfold mH at h;simp only[f2N,decide_eq_true_eq]at h;omega
theorem aA.title:aA l 1 (gI l):=aA.take hE λt h=>by unfold sM at h;simp only[decide_eq_true_eq]at h;omega
theorem aA.sort:aA l 1 (vN kw l):=aA.take hE λt h=>by unfold mH sM at h;simp only[f2Z,f2N,decide_eq_true_eq]at h;omega
theorem aA.loop{c:Nm}{one:α->bB α}(h1:∀a,aA l m (one a)):∀(g:Nat) (a:α),aA l m (jN l c one g a)
 |0,a=>λi b j hi h=>by unfold jN at h;cases h
 |g+1,a=>λi b j hi h=>by
  unfold jN at h;split at h
  .cases h
  .rename_i a' j' ho;have h2:=h1 a i a' j' hi ho;split at h
   .rename_i hs;have h3:=aA.loop h1 g a' (j'+1) b j (aF hE h2.2 hs) h;omega
   .cases h;exact h2
theorem aA.list{c:Nm}{one:α->bB α}(h1:∀a,aA l m (one a))(a:α):aA l m (gA l c one a):=aA.loop hE h1 _ a
omit hE in
theorem aA.b9B{c:Nat->Bool}{one:α->bB α}(h1:∀a,aA l 0 (one a)):∀(g:Nat) (a:α),aA l 0 (cV c one g a)
 |0,a=>λi b j hi h=>by unfold cV at h;cases h
 |g+1,a=>λi b j hi h=>by
  unfold cV at h;split at h
  .split at h
   .cases h
   .rename_i a' j' ho;have h2:=h1 a i a' j' hi ho;have h3:=aA.b9B h1 g a' j' b j h2.2 h;omega
  .cases h;omega
omit hE in
theorem aA.many{c:Nat->Bool}{one:α->bB α}(h1:∀a,aA l 0 (one a))(a:α):aA l 0 (mX l c one a):=aA.b9B h1 _ a
theorem aA.words:aA l 1 (dH kw l):=by unfold dH;exact(aA.exp hE _ _).bl λ_=>(aA.list hE (m:=0) (λa=>(((aA.word hE).le (by omega)).bl λ_=>aA.aT _)) _).bl λ_=>((aA.exp hE _ _).le (by omega)).bl λ_=>aA.aT _
theorem aA.vars(v:Bool):aA l 1 (qG kw l v):=by unfold qG;refine aA.list hE (λa=>?_) _;refine aA.br (aA.ite (aA.skip hE _) (aA.aT _)) λb=>?_;refine aA.br (aA.ite (aA.aT _) ((aA.word hE).le (by omega))) λnm=>?_;exact(aA.exp hE _ _).bl λ_=>((aA.sort hE).le (by omega)).bl λ_=>aA.aT _
theorem a3S{i j:Nat}{t:Ty}(hi:i<l.length)(h:gS kw l i=.ok (some t) j):j=i+1/\j<l.length:=by
 unfold gS at h
 repeat' split at h
 all_goals first|cases h|skip
 all_goals rename_i hs
 all_goals first
  |exact⟨rfl,a4J hE hi hs⟩
  |exact⟨rfl,aF hE hi hs⟩
omit hE in
theorem tK{i j:Nat}(h:gS kw l i=.ok none j):j=i:=by
 unfold gS at h
 repeat' split at h
 all_goals first|(cases h;rfl)|cases h
theorem aA.base:aA l 0 (gS kw l):=λi a j hi h=>by
 cases a with
 |none=>have:=tK h;omega
 |some t=>have:=a3S hE hi h;omega
section
variable {ty:bB Ty} (mN:aA l 0 ty) (hP:aA l 0 (gB aG l))
include mN hP
theorem aA.b6E:aA l 1 (tB andP aG l ty):=by unfold tB;refine(aA.exp hE _ _).bl λ_=>mN.bl λt=>?_;refine aA.ite aA.failed ?_;exact((aA.exp hE _ _).le (by omega)).bl λ_=>hP.bl λ_=>((aA.exp hE _ _).le (by omega)).bl λ_=>aA.aT _
theorem aA.uL:aA l 1 (gT kw andP aG l ty):=λi a j hi h=>by
 unfold gT at h;rw[hZ]at h;cases hb:gS kw l i with
 |bad n e=>rw[hb]at h;cases h
 |ok o j'=>
  rw[hb]at h;cases o with
  |some t=>have:=a3S hE hi hb;simp only[gR]at h;cases h;omega
  |none=>
   have:=tK hb;subst this;simp only at h;split at h
   .rename_i hs;have:=a8I hE hi hs;cases h;omega
   .split at h
    .exact aA.b6E hE mN hP _ a j hi h
    .exact((aA.exp hE _ _).bl λ_=>mN.bl λ_=>((aA.exp hE _ _).le (by omega)).bl λ_=>aA.aT _) _ a j hi h
theorem aA.b9C:aA l 1 (qP kw andP aG l ty):=by
 unfold qP;refine(aA.title hE).bl λname=>aA.bl (aA.many (λa=>?_) _) λargs=>(aA.skip hE _).bl λb=>aA.ite ?_ (aA.aT _)
 .exact((aA.uL hE mN hP).le (by omega)).bl λ_=>aA.aT _
 .refine aA.bl (aA.list hE (λa=>?_) _) λ_=>((aA.exp hE _ _).le (by omega)).bl λ_=>aA.aT _;exact((aA.exp hE _ _).le (by omega)).bl λ_=>hP.bl λ_=>aA.aT _
theorem aA.c5F:aA l 1 (uF kw l ty):=by
 unfold uF;refine(aA.exp hE _ _).bl λ_=>aA.bl (m:=0) (λi a j hi h=>?_) λp=>?_
 .split at h
  .exact aA.list hE (λa=>((aA.word hE).le (by omega)).bl λ_=>((aA.exp hE _ _).le (by omega)).bl λ_=>mN.bl λ_=>aA.aT _) _ i a j hi h
  .exact aA.list hE (λa=>mN.bl λ_=>aA.aT _) _ i a j hi h
 .refine((aA.exp hE _ _).le (by omega)).bl λ_=>λi a j hi h=>?_;split at h
  .cases h;omega
  .exact(((aA.exp hE _ _).le (by omega:0<=1)).bl λ_=>mN.bl λ_=>aA.aT _) i a j hi h
theorem aA.c5G:aA l 1 (uG kw andP aG l ty):=λi a j hi h=>by
 unfold uG at h;rw[hZ]at h;cases hb:gS kw l i with
 |bad n e=>rw[hb]at h;cases h
 |ok o j'=>
  rw[hb]at h;cases o with
  |some t=>have:=a3S hE hi hb;simp only[gR]at h;cases h;omega
  |none=>
   have:=tK hb;subst this;simp only at h;split at h
   .exact aA.b9C hE mN hP _ a j hi h
   .split at h
    .exact aA.b6E hE mN hP _ a j hi h
    .exact aA.c5F hE mN hP _ a j hi h
end
theorem aA.b0q(hP:aA l 0 (gB aG l)):∀n,aA l 1 (vO kw andP aG l n)
 |0=>λi a j hi h=>by unfold vO at h;cases h
 |n+1=>aA.c5G hE ((aA.b0q hP n).le (by omega)) hP
theorem aA.typ(hP:aA l 0 (gB aG l)):aA l 1 (dW kw andP aG l):=aA.b0q hE hP _
theorem aA.types(hP:aA l 0 (gB aG l)):aA l 0 (qQ kw andP aG l):=by unfold qQ;refine(aA.skip hE _).bl λb=>aA.ite ?_ (aA.aT _);exact aA.bl (aA.list hE (λa=>((aA.typ hE hP).le (by omega)).bl λ_=>aA.aT _) _) λ_=>((aA.exp hE _ _).le (by omega)).bl λ_=>aA.aT _
end
end Go.Proofs.YtjpodcmhcenjjaaGreatDoor
end
section
namespace Go.Proofs.YtjpodcmhcenjjaaGreatDoor
section
variable {kw:Nm->Bool} {andP:Pr->Pr->Pr} {aG:List Tok->Nat->Nat->kX Pr} {l:List Tok} {α β:Type} {m k:Nat}
theorem aA.nxt{x:bB α}(hx:aA l 0 x){i j:Nat}{a:α}(hi:i+1<l.length)(h:x (i+1)=.ok a j):i+1<=j/\j<l.length:=by have:=hx (i+1) a j hi h;omega
variable (hE:qS l)
include hE
section
variable {ex:Nat->bB eM} (hx:∀k,aA l 1 (ex k))
include hx
theorem aA.jX:aA l 1 (jJ l ex):=by unfold jJ;exact(aA.exp hE _ _).bl λ_=>aA.bl (aA.list hE (λa=>((hx 0).le (by omega)).bl λ_=>aA.aT _) _) λ_=>((aA.exp hE _ _).le (by omega)).bl λ_=>aA.aT _
theorem aA.b9D(op:Int):aA l 1 (vP l ex op):=by unfold vP;exact(aA.exp hE _ _).bl λ_=>((hx 0).le (by omega)).bl λ_=>((aA.exp hE _ _).le (by omega)).bl λ_=>aA.aT _
theorem aA.b1T:aA l 1 (pV kw l ex):=by
 unfold pV;refine(hx 0).bl λ_=>((aA.exp hE _ _).le (by omega)).bl λ_=>aA.bl (aA.list hE (λa=>?_) _) λ_=>((aA.exp hE _ _).le (by omega)).bl λ_=>aA.aT _;refine((aA.title hE).le (by omega)).bl λ_=>aA.bl (λi b j hi h=>?_) λ_=>((aA.exp hE _ _).le (by omega)).bl λ_=>((hx 0).le (by omega)).bl λ_=>aA.aT _;split at h
 .exact((aA.words hE).le (by omega)) _ _ _ hi h
 .cases h;omega
section
variable (hP:aA l 0 (gB aG l))
include hP
theorem aA.c8M:aA l 1 (xK kw andP aG l ex):=by unfold xK;refine(aA.word hE).bl λ_=>(aA.skip hE _).bl λ_=>aA.bl (aA.ite (((aA.typ hE hP).le (by omega)).bl λ_=>aA.aT _) (aA.aT _)) λ_=>?_;exact((aA.exp hE _ _).le (by omega)).bl λ_=>((hx 0).le (by omega)).bl λ_=>((aA.exp hE _ _).le (by omega)).bl λ_=>((hx 0).le (by omega)).bl λ_=>aA.aT _
theorem aA.c8N:aA l 1 (xL kw andP aG l ex):=by unfold xL;refine(aA.exp hE _ _).bl λ_=>aA.bl (aA.list hE (λa=>?_) _) λ_=>((aA.exp hE _ _).le (by omega)).bl λ_=>((hx 0).le (by omega)).bl λ_=>aA.aT _;exact((aA.word hE).le (by omega)).bl λ_=>(aA.skip hE _).bl λ_=>aA.bl (aA.ite ((aA.typ hE hP).le (by omega)) (aA.aT _)) λ_=>aA.aT _
theorem aA.a7w:aA l 1 (kY kw andP aG l ex):=by
 unfold kY;refine(aA.exp hE _ _).bl λ_=>λi a j hi h=>?_;split at h
 .rename_i hc;simp only[f2N,decide_eq_true_eq]at hc;have h2:=rU hE hi (zQ hE (show gF (aR l i) [45]=true from hc.1.1));have h3:=rU hE h2 (by omega);have h4:=rU hE h3 (zQ hE hc.2);cases h;omega
 .exact(((hx 0).le (by omega:0<=1)).bl λe=>(aA.skip hE _).bl λb=>aA.bl (aA.ite (((aA.typ (kw:=kw) (andP:=andP) hE hP).le (by omega:0<=1)).bl λt=>aA.aT _) (aA.aT _)) λe=>((aA.exp hE _ _).le (by omega:0<=1)).bl λ_=>aA.aT _) i a j hi h
theorem aA.b9E:aA l 1 (sQ kw andP aG l ex):=λi a j hi h=>by
 unfold sQ at h;split at h
 .rename_i hk;have:=rU hE hi (by omega);cases h;omega
 split at h
 .rename_i hs;have:=aF hE hi hs;cases h;omega
 split at h
 .rename_i hs;have:=aF hE hi hs;cases h;omega
 split at h
 .rename_i hs;exact((aA.b9D hE hx _).le (by omega)).nxt (aF hE hi hs) h
 split at h
 .rename_i hs;exact((aA.b9D hE hx _).le (by omega)).nxt (aF hE hi hs) h
 split at h
 .rename_i hs;exact(((aA.exp hE _ _).le (by omega:0<=1)).bl λ_=>((hx 0).le (by omega:0<=1)).bl λ_=>((aA.exp hE _ _).le (by omega:0<=1)).bl λ_=>((hx 0).le (by omega:0<=1)).bl λ_=>((aA.exp hE _ _).le (by omega:0<=1)).bl λ_=>aA.aT _).nxt (aF hE hi hs) h
 split at h
 .rename_i hs;have hn:=a4J hE hi hs;split at h
  .cases h;omega
  .exact((aA.types hE hP).bl λ_=>((aA.jX hE hx).le (by omega:0<=1)).bl λ_=>aA.aT _).nxt hn h
 split at h
 .rename_i hs;refine((aA.types hE hP).bl λ_=>aA.bl (m:=0) (λi a j hi h=>?_) λ_=>aA.aT _).nxt (a8I hE hi hs) h;split at h
  .exact((aA.jX hE hx).le (by omega)) _ _ _ hi h
  .cases h;omega
 exact aA.a7w hE hx hP _ _ _ hi h
theorem aA.unG:aA l 1 (a0B kw andP aG l ex):=λi a j hi h=>by
 unfold a0B at h;split at h
 .rename_i hs;exact(((hx 7).le (by omega:0<=1)).bl λ_=>aA.aT _).nxt (aF hE hi hs) h
 .exact aA.b9E hE hx hP _ _ _ hi h
omit hx hP in
theorem aA.chain{ops:List (Nm×Int)}{one:bB eM}(h1:aA l 0 one):∀(g:Nat) (e:eM),aA l 0 (dY l ops one g e)
 |0,e=>λi b j hi h=>by unfold dY at h;cases h
 |g+1,e=>λi b j hi h=>by
  unfold dY at h;split at h
  .cases h;omega
  .rename_i p hp;have hs:aQ l i p.1=true:=List.find?_some (p:=λp:Nm×Int=>aQ l i p.1) hp;split at h
   .cases h
   .rename_i x j' ho;have h2:=h1.nxt (aF hE hi hs) ho;have h3:=aA.chain h1 g _ j' b j h2.2 h;omega
omit hx hP in
theorem aA.lvl{ops:List (Nm×Int)}{one:bB eM}(h1:aA l 1 one):aA l 1 (wV l ops one):=by unfold wV;exact h1.bl λ_=>aA.chain hE (h1.le (by omega)) _ _
theorem aA.c3T:aA l 1 (a7v kw andP aG l ex):=aA.lvl hE (aA.unG hE hx hP)
theorem aA.a5e:aA l 1 (jO kw andP aG l ex):=aA.lvl hE (aA.c3T hE hx hP)
theorem aA.a5f:aA l 1 (xM kw andP aG l ex):=by
 unfold xM;refine(aA.a5e hE hx hP).bl λe=>λi a j hi h=>?_
 repeat' split at h
 all_goals first
  |(cases h;omega)
  |(rename_i hs
    have:=(((aA.a5e hE hx hP).le (by omega:0<=1)).bl λ_=>aA.aT _).nxt (aF hE hi hs) h;omega)
theorem aA.a7x:aA l 1 (uH kw andP aG l ex):=λi a j hi h=>by
 unfold uH at h;split at h
 .rename_i hs;exact(((hx 3).le (by omega:0<=1)).bl λ_=>aA.aT _).nxt (aF hE hi hs) h
 .exact aA.a5f hE hx hP _ _ _ hi h
theorem aA.orG:aA l 1 (b5g kw andP aG l ex):=aA.lvl hE (aA.lvl hE (aA.a7x hE hx hP))
theorem aA.exG:aA l 1 (a2O kw andP aG l ex):=λi a j hi h=>by
 unfold a2O at h;split at h
 .rename_i hs;exact((aA.c8M hE hx hP).le (by omega)).nxt (aF hE hi hs) h
 split at h
 .rename_i hs;exact(((hx 0).le (by omega:0<=1)).bl λ_=>((aA.exp hE _ _).le (by omega:0<=1)).bl λ_=>((hx 0).le (by omega:0<=1)).bl λ_=>((aA.exp hE _ _).le (by omega:0<=1)).bl λ_=>((hx 0).le (by omega:0<=1)).bl λ_=>aA.aT _).nxt (aF hE hi hs) h
 split at h
 .rename_i hs;exact((aA.b1T hE hx).le (by omega)).nxt (aF hE hi hs) h
 split at h
 .rename_i hs;exact((aA.c8N hE hx hP).le (by omega)).nxt (aF hE hi hs) h
 split at h
 .rename_i hs;exact(((aA.word hE).le (by omega:0<=1)).bl λ_=>((aA.jX hE hx).le (by omega:0<=1)).bl λ_=>((aA.exp hE _ _).le (by omega:0<=1)).bl λ_=>((hx 0).le (by omega:0<=1)).bl λ_=>aA.aT _).nxt (aF hE hi hs) h
 exact aA.orG hE hx hP _ _ _ hi h
end
end
theorem aA.exF(hP:aA l 0 (gB aG l)):∀n k,aA l 1 (sC kw andP aG l n k)
 |0,k=>λi a j hi h=>by unfold sC at h;cases h
 |n+1,k=>by unfold sC;exact aA.ite (aA.unG hE (aA.exF hP n) hP) (aA.ite (aA.a7x hE (aA.exF hP n) hP) (aA.exG hE (aA.exF hP n) hP))
theorem aA.expr(hP:aA l 0 (gB aG l)):aA l 1 (zP kw andP aG l):=aA.exF hE hP _ _
end
end Go.Proofs.YtjpodcmhcenjjaaGreatDoor
end
section
namespace Go.Proofs.YtjpodcmhcenjjaaGreatDoor
section
variable {kw:Nm->Bool} {andP:Pr->Pr->Pr} {aG:List Tok->Nat->Nat->kX Pr} {l:List Tok} {α β:Type} {m k:Nat}
variable (hE:qS l)
include hE
theorem aA.oP:aA l 1 (pN kw l):=by unfold pN;exact aA.list hE (λa=>(aA.title hE).bl λ_=>((aA.word hE).le (by omega)).bl λ_=>aA.aT _) _
theorem aA.head(mode:Int):aA l 1 (uI kw l mode):=by
 unfold uI;refine(aA.word hE).bl λname=>aA.bl (m:=0) (λi a j hi h=>?_) λ_=>aA.aT _;split at h
 .rename_i hs;have h1:=aF hE hi hs;split at h
  .rename_i hf;have h2:=rU hE h1 (zQ hE hf);cases h;omega
  .exact((aA.words hE).le (by omega)) _ _ _ hi h
 .cases h;omega
variable (hP:aA l 0 (gB aG l))
include hP
theorem aA.bound:aA l 1 (pO kw aG l):=by unfold pO;exact(aA.word hE).bl λ_=>((aA.exp hE _ _).le (by omega)).bl λ_=>((aA.vars hE _).le (by omega)).bl λ_=>((aA.exp hE _ _).le (by omega)).bl λ_=>hP.bl λ_=>((aA.exp hE _ _).le (by omega)).bl λ_=>hP.bl λ_=>((aA.exp hE _ _).le (by omega)).bl λ_=>aA.aT _
theorem aA.con:aA l 1 (a1E kw andP aG l):=by unfold a1E;refine(aA.title hE).bl λ_=>(aA.skip hE _).bl λb=>aA.ite ?_ (aA.aT _);refine aA.bl (aA.list hE (λa=>?_) _) λ_=>((aA.exp hE _ _).le (by omega)).bl λ_=>aA.aT _;exact((aA.word hE).le (by omega)).bl λ_=>((aA.exp hE _ _).le (by omega)).bl λ_=>((aA.typ hE hP).le (by omega)).bl λ_=>aA.aT _
theorem aA.data:aA l 1 (uK kw andP aG l):=by unfold uK;refine(aA.title hE).bl λ_=>aA.bl (aA.many (λa=>((aA.word hE).le (by omega)).bl λ_=>aA.aT _) _) λ_=>(aA.skip hE _).bl λb=>?_;refine aA.bl (aA.ite (((aA.vars hE _).le (by omega)).bl λ_=>((aA.exp hE _ _).le (by omega)).bl λ_=>aA.aT _) (aA.aT _)) λ_=>((aA.exp hE _ _).le (by omega)).bl λ_=>?_;exact aA.bl (aA.list hE (λa=>((aA.con hE hP).le (by omega)).bl λ_=>aA.aT _) _) λ_=>aA.aT _
theorem aA.cls:aA l 1 (qR kw andP aG l):=by unfold qR;refine(aA.title hE).bl λ_=>((aA.word hE).le (by omega)).bl λ_=>((aA.exp hE _ _).le (by omega)).bl λ_=>aA.bl (aA.list hE (λa=>?_) _) λ_=>aA.aT _;exact((aA.word hE).le (by omega)).bl λ_=>((aA.exp hE _ _).le (by omega)).bl λ_=>((aA.typ hE hP).le (by omega)).bl λ_=>aA.aT _
theorem aA.c2m:aA l 1 (vR kw aG l):=by
 unfold vR;refine(aA.word hE).bl λ_=>((aA.exp hE _ _).le (by omega)).bl λ_=>((aA.title hE).le (by omega)).bl λ_=>((aA.exp hE _ _).le (by omega)).bl λ_=>((aA.sort hE).le (by omega)).bl λ_=>((aA.exp hE _ _).le (by omega)).bl λ_=>?_;refine aA.bl (aA.list hE (λa=>?_) _) λ_=>((aA.exp hE _ _).le (by omega)).bl λ_=>(aA.skip hE _).bl λb=>(aA.ite hP (aA.aT _)).bl λ_=>aA.aT _;refine((aA.title hE).le (by omega)).bl λ_=>aA.bl (m:=0) (λi a j hi h=>?_) λ_=>((aA.exp hE _ _).le (by omega)).bl λ_=>hP.bl λ_=>aA.aT _;split at h
 .exact((aA.words hE).le (by omega)) _ _ _ hi h
 .cases h;omega
theorem aA.c2n:aA l 1 (vT kw aG l):=by unfold vT;exact(aA.word hE).bl λ_=>((aA.exp hE _ _).le (by omega)).bl λ_=>((aA.vars hE _).le (by omega)).bl λ_=>((aA.exp hE _ _).le (by omega)).bl λ_=>hP.bl λ_=>aA.aT _
theorem aA.body(d:eX):aA l 1 (uJ kw andP aG l d):=by unfold uJ;exact(aA.exp hE _ _).bl λ_=>((aA.expr hE hP).le (by omega)).bl λ_=>aA.aT _
def zR(aG:List Tok->Nat->Nat->kX Pr)(l:List Tok):Prop:=∀e i p j,i<l.length->aG l i e=.ok p j->i<=j/\j<l.length
omit hE hP in
theorem zR.pred(h:zR aG l):aA l 0 (gB aG l):=λi a j hi hx=>by have:=h l.length i a j hi hx;omega
end
section
variable {kw:Nm->Bool} {andP:Pr->Pr->Pr} {aG:List Tok->Nat->Nat->kX Pr} {l:List Tok}
variable (hE:qS l) (hB:zR aG l)
include hE hB
theorem aA.sig:aA l 1 (wW kw andP aG l):=by have hP:=hB.pred;unfold wW;refine aA.br (aA.skip hE _) λb=>aA.br (aA.ite (((aA.word hE).le (by omega)).bl λ_=>(aA.many (λa=>((aA.word hE).le (by omega)).bl λ_=>aA.aT _) _).bl λ_=>((aA.exp hE _ _).le (by omega)).bl λ_=>aA.aT _) (aA.aT _)) λ_=>?_;refine aA.br (aA.skip hE _) λb=>aA.br (aA.ite (((aA.oP hE).le (by omega)).bl λ_=>((aA.exp hE _ _).le (by omega)).bl λ_=>aA.aT _) (aA.aT _)) λ_=>?_;refine aA.br (aA.skip hE _) λb=>aA.br (aA.ite (((aA.vars hE _).le (by omega)).bl λ_=>((aA.exp hE _ _).le (by omega)).bl λ_=>aA.aT _) (aA.aT _)) λ_=>?_;refine aA.br (aA.many (λa=>((aA.exp hE _ _).le (by omega)).bl λ_=>((aA.bound hE hP).le (by omega)).bl λ_=>aA.aT _) _) λ_=>?_;refine(aA.typ hE hP).bl λ_=>(aA.skip hE _).bl λb=>aA.bl (aA.ite (λi a j hi h=>?_) (aA.aT _)) λ_=>aA.aT _;refine aA.list hE (m:=0) (λa=>aA.bl (m:=0) (λi' p j' hi' h'=>?_) λ_=>aA.aT _) _ i a j hi h;have:=hB _ _ _ _ hi' h';omega
theorem aA.defn{i j:Nat}{d:Option eX}(hi:i<l.length)(h:tJ kw andP aG l i=.ok d j):(d=none/\j=i)\/(i+1<=j/\j<l.length):=by
 have hP:=hB.pred;unfold tJ at h;split at h
 .rename_i hs;refine .inr (((((aA.head hE _).le (by omega:0<=1)).bl λ_=>(aA.skip hE _).bl λ_=>aA.bl (aA.ite (((aA.sig hE hB).le (by omega:0<=1)).bl λ_=>aA.aT _) (aA.aT _)) λ_=>((aA.body hE hP _).le (by omega:0<=1)))).nxt (aF hE hi hs) h)
 split at h
 .rename_i hs;exact .inr ((((aA.head hE _).le (by omega:0<=1)).bl λ_=>((aA.exp hE _ _).le (by omega:0<=1)).bl λ_=>((aA.sig hE hB).le (by omega:0<=1)).bl λ_=>aA.aT _).nxt (aF hE hi hs) h)
 split at h
 .rename_i hs;exact .inr ((((aA.head hE _).le (by omega:0<=1)).bl λ_=>((aA.exp hE _ _).le (by omega:0<=1)).bl λ_=>((aA.sig hE hB).le (by omega:0<=1)).bl λ_=>((aA.body hE hP _).le (by omega:0<=1))).nxt (aF hE hi hs) h)
 cases h;exact .inl ⟨rfl,rfl⟩
theorem aA.b3W:aA l 0 (tJ kw andP aG l):=λi d j hi h=>by
 rcases aA.defn hE hB hi h with⟨_,rfl⟩|h'
 .omega
 .omega
theorem aA.inst:aA l 1 (vQ kw andP aG l):=by have hP:=hB.pred;unfold vQ;refine(aA.title hE).bl λ_=>((aA.uL hE ((aA.typ hE hP).le (by omega)) hP).le (by omega)).bl λ_=>(aA.skip hE _).bl λb=>(aA.ite ((aA.oP hE).le (by omega)) (aA.aT _)).bl λ_=>((aA.exp hE _ _).le (by omega)).bl λ_=>?_;exact aA.bl (aA.many (λa=>(aA.b3W hE hB).bl λ_=>((aA.exp hE _ _).le (by omega)).bl λ_=>aA.aT _) _) λ_=>((aA.exp hE _ _).le (by omega)).bl λ_=>aA.aT _
theorem aA.decl(m:gZ):aA l 1 (pP kw andP aG l m):=λi a j hi h=>by
 have hP:=hB.pred;unfold pP at h;split at h
 .rename_i hs;exact(((aA.data hE hP).le (by omega:0<=1)).bl λ_=>aA.aT _).nxt (aF hE hi hs) h
 split at h
 .rename_i hs;exact(((aA.cls hE hP).le (by omega:0<=1)).bl λ_=>aA.aT _).nxt (aF hE hi hs) h
 split at h
 .rename_i hs;exact(((aA.inst hE hB).le (by omega:0<=1)).bl λ_=>aA.aT _).nxt (aF hE hi hs) h
 split at h
 .rename_i hs;exact(((aA.c2m hE hP).le (by omega:0<=1)).bl λ_=>aA.aT _).nxt (aF hE hi hs) h
 split at h
 .rename_i hs;exact(((aA.c2n hE hP).le (by omega:0<=1)).bl λ_=>aA.aT _).nxt (aF hE hi hs) h
 rw[hZ]at h;cases hd:tJ kw andP aG l i with
 |bad n e=>rw[hd]at h;cases h
 |ok d j'=>
  rw[hd]at h;rcases aA.defn hE hB hi hd with⟨rfl,rfl⟩|h'
  .simp only[dU]at h;cases h
  .cases d with
   |none=>simp only[dU]at h;cases h
   |some d=>simp only[gR]at h;cases h;exact h'
end
end Go.Proofs.YtjpodcmhcenjjaaGreatDoor
end
section
namespace Go.Proofs.YtjpodcmhcenjjaaGreatDoor
def bL{α:Type}:kX α->kX α->Prop
 | .ok a j,.ok b k=>a=b/\j=k
 | .bad _ e,.bad _ f=>e=f
 |_,_=>False
def aB{α:Type}(x y:bB α):Prop:=∀i,bL (x i) (y i)
structure a9Q (l l':List Tok):Prop where
 len:l'.length=l.length
 kind:∀i,(aR l' i).kind=(aR l i).kind
 text:∀i,(aR l' i).text=(aR l i).text
 n:∀i,(aR l' i).n=(aR l i).n
section
variable {α β:Type}
theorem bL.refl(r:kX α):bL r r:=by cases r<;>simp[bL]
theorem aB.refl(x:bB α):aB x x:=λi=>bL.refl _
theorem aB.bV{x y:bB α}{f g:α->bB β}(h:aB x y)(hf:∀a,aB (f a) (g a)):aB (x >>=f) (y >>=g):=λi=>by
 have h1:=h i;rw[hZ,hZ];cases hx:x i with
 |ok a j=>cases hy:y i with
  |ok b k=>rw[hx,hy]at h1;obtain⟨rfl,rfl⟩:=h1;exact hf a j
  |bad n e=>rw[hx,hy]at h1;exact h1.elim
 |bad n e=>cases hy:y i with
  |ok b k=>rw[hx,hy]at h1;exact h1.elim
  |bad n' e'=>rw[hx,hy]at h1;exact h1
theorem aB.ite{c:Prop}[Decidable c]{x y x' y':bB α}(h:aB x x')(h':aB y y'):aB (if c then x else y) (if c then x' else y'):=by
 split
 .exact h
 .exact h'
theorem bL.ite{c c':Prop}[Decidable c][Decidable c'](hc:c↔c'){x y x' y':kX α}(h:bL x x')(h':bL y y'):bL (if c then x else y) (if c' then x' else y'):=by
 by_cases h1:c
 .rw[if_pos h1,if_pos (hc.1 h1)];exact h
 .rw[if_neg h1,if_neg (λh2=>h1 (hc.2 h2))];exact h'
variable {kw:Nm->Bool} {andP:Pr->Pr->Pr} {aG:List Tok->Nat->Nat->kX Pr} {l l':List Tok} (hS:a9Q l l')
include hS
theorem a9Q.fix(i:Nat)(s:Nm):gF (aR l' i) s=gF (aR l i) s:=by unfold gF;rw[hS.kind,hS.text]
theorem a9Q.is(i:Nat)(s:Nm):aQ l' i s=aQ l i s:=hS.fix i s
theorem a9Q.wd(i:Nat):mH kw (aR l' i)=mH kw (aR l i):=by unfold mH;rw[hS.kind,hS.text]
theorem a9Q.ti(i:Nat):sM (aR l' i)=sM (aR l i):=by unfold sM;rw[hS.kind]
theorem aB.failed:aB (dU l':bB α) (dU l):=λi=>rfl
theorem aB.exp:∀s,aB (aV l' s) (aV l s)
 |[]=>aB.refl _
 |s::r=>λi=>by unfold aV;rw[hS.is];exact bL.ite Iff.rfl (aB.exp r (i+1)) rfl
theorem aB.skip(s:Nm):aB (dR l' s) (dR l s):=λi=>by unfold dR;rw[hS.is];exact bL.refl _
theorem aB.word:aB (bS kw l') (bS kw l):=λi=>by unfold bS mQ;rw[hS.wd,hS.text];exact bL.ite Iff.rfl (bL.refl _) rfl
theorem aB.title:aB (gI l') (gI l):=λi=>by unfold gI mQ;rw[hS.ti,hS.text];exact bL.ite Iff.rfl (bL.refl _) rfl
theorem aB.sort:aB (vN kw l') (vN kw l):=λi=>by unfold vN mQ;simp only[hS.ti,hS.wd,hS.text];exact bL.ite Iff.rfl (bL.refl _) rfl
theorem aB.loop{c:Nm}{one a1F:α->bB α}(h:∀a,aB (a1F a) (one a)):∀(g:Nat) (a:α),aB (jN l' c a1F g a) (jN l c one g a)
 |0,a=>λi=>rfl
 |g+1,a=>λi=>by
  unfold jN;have h1:=h a i;cases hx:a1F a i with
  |ok b j=>cases hy:one a i with
   |ok b' j'=>rw[hx,hy]at h1;obtain⟨rfl,rfl⟩:=h1;simp only;rw[hS.is];exact bL.ite Iff.rfl (aB.loop h g b (j+1)) (bL.refl _)
   |bad n e=>rw[hx,hy]at h1;exact h1.elim
  |bad n e=>cases hy:one a i with
   |ok b' j'=>rw[hx,hy]at h1;exact h1.elim
   |bad n' e'=>rw[hx,hy]at h1;exact h1
theorem aB.list{c:Nm}{one a1F:α->bB α}(h:∀a,aB (a1F a) (one a))(a:α):aB (gA l' c a1F a) (gA l c one a):=by unfold gA;rw[hS.len];exact aB.loop hS h _ a
omit hS in
theorem aB.b9B{c c':Nat->Bool}{one a1F:α->bB α}(hc:∀i,c' i=c i)(h:∀a,aB (a1F a) (one a)):∀(g:Nat) (a:α),aB (cV c' a1F g a) (cV c one g a)
 |0,a=>λi=>rfl
 |g+1,a=>λi=>by
  unfold cV;rw[hc];refine bL.ite Iff.rfl ?_ (bL.refl _);have h1:=h a i;cases hx:a1F a i with
  |ok b j=>cases hy:one a i with
   |ok b' j'=>rw[hx,hy]at h1;obtain⟨rfl,rfl⟩:=h1;exact aB.b9B hc h g b j
   |bad n e=>rw[hx,hy]at h1;exact h1.elim
  |bad n e=>cases hy:one a i with
   |ok b' j'=>rw[hx,hy]at h1;exact h1.elim
   |bad n' e'=>rw[hx,hy]at h1;exact h1
theorem aB.many{c c':Nat->Bool}{one a1F:α->bB α}(hc:∀i,c' i=c i)(h:∀a,aB (a1F a) (one a))(a:α):aB (mX l' c' a1F a) (mX l c one a):=by unfold mX;rw[hS.len];exact aB.b9B hc h _ a
theorem aB.words:aB (dH kw l') (dH kw l):=by unfold dH;exact(aB.exp hS _).bV λ_=>(aB.list hS (λa=>(aB.word hS).bV λ_=>aB.refl _) _).bV λ_=>(aB.exp hS _).bV λ_=>aB.refl _
theorem aB.vars(v:Bool):aB (qG kw l' v) (qG kw l v):=by unfold qG;exact aB.list hS (λa=>(aB.ite (aB.skip hS _) (aB.refl _)).bV λb=>(aB.ite (aB.refl _) (aB.word hS)).bV λ_=>(aB.exp hS _).bV λ_=>(aB.sort hS).bV λ_=>aB.refl _) _
theorem aB.base:aB (gS kw l') (gS kw l):=λi=>by unfold gS;simp only[hS.is,hS.wd,hS.text];exact bL.refl _
section
variable {ty ty':bB Ty} (mN:aB ty' ty) (hP:aB (gB aG l') (gB aG l))
include mN hP
theorem aB.b6E:aB (tB andP aG l' ty') (tB andP aG l ty):=by unfold tB;exact(aB.exp hS _).bV λ_=>mN.bV λt=>aB.ite (aB.failed hS) ((aB.exp hS _).bV λ_=>hP.bV λ_=>(aB.exp hS _).bV λ_=>aB.refl _)
theorem aB.uL:aB (gT kw andP aG l' ty') (gT kw andP aG l ty):=by
 unfold gT;refine(aB.base hS).bV λb=>?_;cases b with
 |some t=>exact aB.refl _
 |none=>intro i;simp only[hS.is,hS.ti,hS.text];exact bL.ite Iff.rfl (bL.refl _) (bL.ite Iff.rfl (aB.b6E hS mN hP i) (((aB.exp hS _).bV λ_=>mN.bV λ_=>(aB.exp hS _).bV λ_=>aB.refl _) i))
theorem aB.b9C:aB (qP kw andP aG l' ty') (qP kw andP aG l ty):=by unfold qP;refine(aB.title hS).bV λ_=>(aB.many hS (λi=>by unfold b1R;rw[hS.wd,hS.ti,hS.is,hS.is]) (λa=>(aB.uL hS mN hP).bV λ_=>aB.refl _) _).bV λ_=>(aB.skip hS _).bV λb=>aB.ite ?_ (aB.refl _);exact(aB.list hS (λa=>(aB.exp hS _).bV λ_=>hP.bV λ_=>aB.refl _) _).bV λ_=>(aB.exp hS _).bV λ_=>aB.refl _
omit hP in
theorem aB.c5F:aB (uF kw l' ty') (uF kw l ty):=by
 unfold uF;refine(aB.exp hS _).bV λ_=>aB.bV (λi=>?_) λp=>(aB.exp hS _).bV λ_=>λi=>?_
 .simp only[hS.wd,hS.fix];exact bL.ite Iff.rfl (aB.list hS (λa=>(aB.word hS).bV λ_=>(aB.exp hS _).bV λ_=>mN.bV λ_=>aB.refl _) _ i) (aB.list hS (λa=>mN.bV λ_=>aB.refl _) _ i)
 .simp only[hS.is];exact bL.ite Iff.rfl (bL.refl _) (((aB.exp hS _).bV λ_=>mN.bV λ_=>aB.refl _) i)
theorem aB.c5G:aB (uG kw andP aG l' ty') (uG kw andP aG l ty):=by
 unfold uG;refine(aB.base hS).bV λb=>?_;cases b with
 |some t=>exact aB.refl _
 |none=>intro i;simp only[hS.is,hS.ti];exact bL.ite Iff.rfl (aB.b9C hS mN hP i) (bL.ite Iff.rfl (aB.b6E hS mN hP i) (aB.c5F hS mN i))
end
theorem aB.b0q(hP:aB (gB aG l') (gB aG l)):∀n,aB (vO kw andP aG l' n) (vO kw andP aG l n)
 |0=>λi=>rfl
 |n+1=>aB.c5G hS (aB.b0q hP n) hP
theorem aB.typ(hP:aB (gB aG l') (gB aG l)):aB (dW kw andP aG l') (dW kw andP aG l):=by unfold dW;rw[hS.len];exact aB.b0q hS hP _
end
end Go.Proofs.YtjpodcmhcenjjaaGreatDoor
end
section
namespace Go.Proofs.YtjpodcmhcenjjaaGreatDoor
section
variable {kw:Nm->Bool} {andP:Pr->Pr->Pr} {aG:List Tok->Nat->Nat->kX Pr} {l l':List Tok} (hS:a9Q l l') (hB:∀i e,bL (aG l' i e) (aG l i e))
include hS hB
theorem aB.pred:aB (gB aG l') (gB aG l):=λi=>by unfold gB;rw[hS.len];exact hB i _
theorem aB.b9F:aB (dW kw andP aG l') (dW kw andP aG l):=aB.typ hS (aB.pred hS hB)
theorem aB.types:aB (qQ kw andP aG l') (qQ kw andP aG l):=by unfold qQ;exact(aB.skip hS _).bV λb=>aB.ite ((aB.list hS (λa=>(aB.b9F hS hB).bV λ_=>aB.refl _) _).bV λ_=>(aB.exp hS _).bV λ_=>aB.refl _) (aB.refl _)
section
variable {ex ex':Nat->bB eM} (hx:∀k,aB (ex' k) (ex k))
include hx
omit hB in
theorem aB.jX:aB (jJ l' ex') (jJ l ex):=by unfold jJ;exact(aB.exp hS _).bV λ_=>(aB.list hS (λa=>(hx 0).bV λ_=>aB.refl _) _).bV λ_=>(aB.exp hS _).bV λ_=>aB.refl _
omit hB in
theorem aB.b9D(op:Int):aB (vP l' ex' op) (vP l ex op):=by unfold vP;exact(aB.exp hS _).bV λ_=>(hx 0).bV λ_=>(aB.exp hS _).bV λ_=>aB.refl _
omit hB in
theorem aB.b1T:aB (pV kw l' ex') (pV kw l ex):=by unfold pV;refine(hx 0).bV λ_=>(aB.exp hS _).bV λ_=>(aB.list hS (λa=>?_) _).bV λ_=>(aB.exp hS _).bV λ_=>aB.refl _;refine(aB.title hS).bV λ_=>aB.bV (λi=>?_) λ_=>(aB.exp hS _).bV λ_=>(hx 0).bV λ_=>aB.refl _;simp only[hS.is];exact bL.ite Iff.rfl (aB.words hS i) (bL.refl _)
theorem aB.c8M:aB (xK kw andP aG l' ex') (xK kw andP aG l ex):=by unfold xK;exact(aB.word hS).bV λ_=>(aB.skip hS _).bV λb=>(aB.ite ((aB.b9F hS hB).bV λ_=>aB.refl _) (aB.refl _)).bV λ_=>(aB.exp hS _).bV λ_=>(hx 0).bV λ_=>(aB.exp hS _).bV λ_=>(hx 0).bV λ_=>aB.refl _
theorem aB.c8N:aB (xL kw andP aG l' ex') (xL kw andP aG l ex):=by unfold xL;refine(aB.exp hS _).bV λ_=>(aB.list hS (λa=>?_) _).bV λ_=>(aB.exp hS _).bV λ_=>(hx 0).bV λ_=>aB.refl _;exact(aB.word hS).bV λ_=>(aB.skip hS _).bV λb=>(aB.ite (aB.b9F hS hB) (aB.refl _)).bV λ_=>aB.refl _
theorem aB.a7w:aB (kY kw andP aG l' ex') (kY kw andP aG l ex):=by unfold kY;refine(aB.exp hS _).bV λ_=>λi=>?_;simp only[hS.is,hS.kind,hS.fix,hS.n];exact bL.ite Iff.rfl (bL.refl _) (((hx 0).bV λe=>(aB.skip hS _).bV λb=>(aB.ite ((aB.b9F hS hB).bV λ_=>aB.refl _) (aB.refl _)).bV λ_=>(aB.exp hS _).bV λ_=>aB.refl _) i)
theorem aB.b9E:aB (sQ kw andP aG l' ex') (sQ kw andP aG l ex):=λi=>by
 unfold sQ;simp only[hS.is,hS.kind,hS.n,hS.wd,hS.ti,hS.text];refine bL.ite Iff.rfl (bL.refl _) (bL.ite Iff.rfl (bL.refl _) (bL.ite Iff.rfl (bL.refl _) (bL.ite Iff.rfl (aB.b9D hS hx _ _) (bL.ite Iff.rfl (aB.b9D hS hx _ _) (bL.ite Iff.rfl ?_ (bL.ite Iff.rfl ?_ (bL.ite Iff.rfl ?_ (aB.a7w hS hB hx i))))))))
 .exact((aB.exp hS _).bV λ_=>(hx 0).bV λ_=>(aB.exp hS _).bV λ_=>(hx 0).bV λ_=>(aB.exp hS _).bV λ_=>aB.refl _) (i+1)
 .exact bL.ite Iff.rfl (bL.refl _) (((aB.types hS hB).bV λ_=>(aB.jX hS hx).bV λ_=>aB.refl _) (i+1))
 .refine((aB.types hS hB).bV λ_=>aB.bV (λj=>?_) λ_=>aB.refl _) (i+1);exact bL.ite Iff.rfl (aB.jX hS hx j) (bL.refl _)
theorem aB.unG:aB (a0B kw andP aG l' ex') (a0B kw andP aG l ex):=λi=>by unfold a0B;simp only[hS.is];exact bL.ite Iff.rfl (((hx 7).bV λ_=>aB.refl _) (i+1)) (aB.b9E hS hB hx i)
omit hB hx in
theorem aB.chain{ops:List (Nm×Int)}{one a1F:bB eM}(h1:aB a1F one):∀(g:Nat) (e:eM),aB (dY l' ops a1F g e) (dY l ops one g e)
 |0,e=>λi=>rfl
 |g+1,e=>λi=>by
  unfold dY;simp only[hS.is];cases ops.find? λp=>aQ l i p.1 with
  |none=>exact bL.refl _
  |some p=>
   simp only;have h:=h1 (i+1);cases hx:a1F (i+1)with
   |ok b j=>cases hy:one (i+1)with
    |ok b' j'=>rw[hx,hy]at h;obtain⟨rfl,rfl⟩:=h;exact aB.chain h1 g _ j
    |bad n e=>rw[hx,hy]at h;exact h.elim
   |bad n e=>cases hy:one (i+1)with
    |ok b' j'=>rw[hx,hy]at h;exact h.elim
    |bad n' e'=>rw[hx,hy]at h;exact h
omit hB hx in
theorem aB.lvl{ops:List (Nm×Int)}{one a1F:bB eM}(h1:aB a1F one):aB (wV l' ops a1F) (wV l ops one):=by unfold wV;rw[hS.len];exact h1.bV λ_=>aB.chain hS h1 _ _
theorem aB.a5e:aB (jO kw andP aG l' ex') (jO kw andP aG l ex):=aB.lvl hS (aB.lvl hS (aB.unG hS hB hx))
theorem aB.a5f:aB (xM kw andP aG l' ex') (xM kw andP aG l ex):=by unfold xM;refine(aB.a5e hS hB hx).bV λe=>λi=>?_;simp only[hS.is];have h:=aB.a5e (kw:=kw) (andP:=andP) hS hB hx;exact bL.ite Iff.rfl ((h.bV λ_=>aB.refl _) (i+1)) (bL.ite Iff.rfl ((h.bV λ_=>aB.refl _) (i+1)) (bL.ite Iff.rfl ((h.bV λ_=>aB.refl _) (i+1)) (bL.ite Iff.rfl ((h.bV λ_=>aB.refl _) (i+1)) (bL.ite Iff.rfl ((h.bV λ_=>aB.refl _) (i+1)) (bL.ite Iff.rfl ((h.bV λ_=>aB.refl _) (i+1)) (bL.refl _))))))
theorem aB.a7x:aB (uH kw andP aG l' ex') (uH kw andP aG l ex):=λi=>by unfold uH;simp only[hS.is];exact bL.ite Iff.rfl (((hx 3).bV λ_=>aB.refl _) (i+1)) (aB.a5f hS hB hx i)
theorem aB.exG:aB (a2O kw andP aG l' ex') (a2O kw andP aG l ex):=λi=>by
 unfold a2O;simp only[hS.is];refine bL.ite Iff.rfl (aB.c8M hS hB hx _) (bL.ite Iff.rfl ?_ (bL.ite Iff.rfl (aB.b1T hS hx _) (bL.ite Iff.rfl (aB.c8N hS hB hx _) (bL.ite Iff.rfl ?_ ?_))))
 .exact((hx 0).bV λ_=>(aB.exp hS _).bV λ_=>(hx 0).bV λ_=>(aB.exp hS _).bV λ_=>(hx 0).bV λ_=>aB.refl _) (i+1)
 .exact((aB.word hS).bV λ_=>(aB.jX hS hx).bV λ_=>(aB.exp hS _).bV λ_=>(hx 0).bV λ_=>aB.refl _) (i+1)
 .exact aB.lvl hS (aB.lvl hS (aB.a7x hS hB hx)) i
end
theorem aB.exF:∀n k,aB (sC kw andP aG l' n k) (sC kw andP aG l n k)
 |0,k=>λi=>rfl
 |n+1,k=>by unfold sC;exact aB.ite (aB.unG hS hB (aB.exF n)) (aB.ite (aB.a7x hS hB (aB.exF n)) (aB.exG hS hB (aB.exF n)))
theorem aB.expr:aB (zP kw andP aG l') (zP kw andP aG l):=by unfold zP;rw[hS.len];exact aB.exF hS hB _ _
end
end Go.Proofs.YtjpodcmhcenjjaaGreatDoor
end
section
namespace Go.Proofs.YtjpodcmhcenjjaaGreatDoor
section
variable {kw:Nm->Bool} {andP:Pr->Pr->Pr} {aG:List Tok->Nat->Nat->kX Pr} {l l':List Tok} (hS:a9Q l l')
include hS
theorem aB.oP:aB (pN kw l') (pN kw l):=by unfold pN;exact aB.list hS (λa=>(aB.title hS).bV λ_=>(aB.word hS).bV λ_=>aB.refl _) _
theorem a7y:∀(g:Nat) (d:Int) (i:Nat),tR l' g d i=tR l g d i
 |0,d,i=>by unfold tR;exact hS.len
 |g+1,d,i=>by unfold tR;rw[hS.len,hS.fix,hS.fix,hS.fix,a7y g,a7y g,a7y g]
theorem aB.head(mode:Int):aB (uI kw l' mode) (uI kw l mode):=by unfold uI;refine(aB.word hS).bV λ_=>aB.bV (λi=>?_) λ_=>aB.refl _;simp only[hS.is,hS.fix];exact bL.ite Iff.rfl (bL.ite Iff.rfl (bL.refl _) (aB.words hS i)) (bL.refl _)
variable (hB:∀i e,bL (aG l' i e) (aG l i e))
include hB
theorem aB.bound:aB (pO kw aG l') (pO kw aG l):=by unfold pO;exact(aB.word hS).bV λ_=>(aB.exp hS _).bV λ_=>(aB.vars hS _).bV λ_=>(aB.exp hS _).bV λ_=>(aB.pred hS hB).bV λ_=>(aB.exp hS _).bV λ_=>(aB.pred hS hB).bV λ_=>(aB.exp hS _).bV λ_=>aB.refl _
theorem aB.sig:aB (wW kw andP aG l') (wW kw andP aG l):=by unfold wW;refine(aB.skip hS _).bV λb=>(aB.ite ((aB.word hS).bV λ_=>(aB.many hS (λi=>hS.wd i) (λa=>(aB.word hS).bV λ_=>aB.refl _) _).bV λ_=>(aB.exp hS _).bV λ_=>aB.refl _) (aB.refl _)).bV λ_=>?_;refine(aB.skip hS _).bV λb=>(aB.ite ((aB.oP hS).bV λ_=>(aB.exp hS _).bV λ_=>aB.refl _) (aB.refl _)).bV λ_=>?_;refine(aB.skip hS _).bV λb=>(aB.ite ((aB.vars hS _).bV λ_=>(aB.exp hS _).bV λ_=>aB.refl _) (aB.refl _)).bV λ_=>?_;refine(aB.many hS (λi=>hS.is i _) (λa=>(aB.exp hS _).bV λ_=>(aB.bound hS hB).bV λ_=>aB.refl _) _).bV λ_=>?_;refine(aB.b9F hS hB).bV λ_=>(aB.skip hS _).bV λb=>(aB.ite (λi=>?_) (aB.refl _)).bV λ_=>aB.refl _;refine aB.list hS (λa=>aB.bV (λj=>?_) λ_=>aB.refl _) _ i;rw[hS.len,a7y hS];exact hB j _
theorem aB.body(d:eX):aB (uJ kw andP aG l' d) (uJ kw andP aG l d):=by unfold uJ;exact(aB.exp hS _).bV λ_=>(aB.expr hS hB).bV λ_=>aB.refl _
theorem aB.defn:aB (tJ kw andP aG l') (tJ kw andP aG l):=λi=>by
 unfold tJ;simp only[hS.is];refine bL.ite Iff.rfl ?_ (bL.ite Iff.rfl ?_ (bL.ite Iff.rfl ?_ (bL.refl _)))
 .exact((aB.head hS _).bV λ_=>(aB.skip hS _).bV λb=>(aB.ite ((aB.sig hS hB).bV λ_=>aB.refl _) (aB.refl _)).bV λ_=>aB.body hS hB _) (i+1)
 .exact((aB.head hS _).bV λ_=>(aB.exp hS _).bV λ_=>(aB.sig hS hB).bV λ_=>aB.refl _) (i+1)
 .exact((aB.head hS _).bV λ_=>(aB.exp hS _).bV λ_=>(aB.sig hS hB).bV λ_=>aB.body hS hB _) (i+1)
theorem aB.con:aB (a1E kw andP aG l') (a1E kw andP aG l):=by unfold a1E;refine(aB.title hS).bV λ_=>(aB.skip hS _).bV λb=>aB.ite ?_ (aB.refl _);exact(aB.list hS (λa=>(aB.word hS).bV λ_=>(aB.exp hS _).bV λ_=>(aB.b9F hS hB).bV λ_=>aB.refl _) _).bV λ_=>(aB.exp hS _).bV λ_=>aB.refl _
theorem aB.data:aB (uK kw andP aG l') (uK kw andP aG l):=by unfold uK;refine(aB.title hS).bV λ_=>(aB.many hS (λi=>hS.wd i) (λa=>(aB.word hS).bV λ_=>aB.refl _) _).bV λ_=>(aB.skip hS _).bV λb=>(aB.ite ((aB.vars hS _).bV λ_=>(aB.exp hS _).bV λ_=>aB.refl _) (aB.refl _)).bV λ_=>?_;exact(aB.exp hS _).bV λ_=>(aB.list hS (λa=>(aB.con hS hB).bV λ_=>aB.refl _) _).bV λ_=>aB.refl _
theorem aB.cls:aB (qR kw andP aG l') (qR kw andP aG l):=by unfold qR;exact(aB.title hS).bV λ_=>(aB.word hS).bV λ_=>(aB.exp hS _).bV λ_=>(aB.list hS (λa=>(aB.word hS).bV λ_=>(aB.exp hS _).bV λ_=>(aB.b9F hS hB).bV λ_=>aB.refl _) _).bV λ_=>aB.refl _
theorem aB.inst:aB (vQ kw andP aG l') (vQ kw andP aG l):=by unfold vQ;refine(aB.title hS).bV λ_=>(aB.uL hS (aB.b9F hS hB) (aB.pred hS hB)).bV λ_=>(aB.skip hS _).bV λb=>(aB.ite (aB.oP hS) (aB.refl _)).bV λ_=>(aB.exp hS _).bV λ_=>?_;exact(aB.many hS (λi=>hS.is i _) (λa=>(aB.defn hS hB).bV λ_=>(aB.exp hS _).bV λ_=>aB.refl _) _).bV λ_=>(aB.exp hS _).bV λ_=>aB.refl _
theorem aB.c2m:aB (vR kw aG l') (vR kw aG l):=by unfold vR;refine(aB.word hS).bV λ_=>(aB.exp hS _).bV λ_=>(aB.title hS).bV λ_=>(aB.exp hS _).bV λ_=>(aB.sort hS).bV λ_=>(aB.exp hS _).bV λ_=>(aB.list hS (λa=>?_) _).bV λ_=>(aB.exp hS _).bV λ_=>(aB.skip hS _).bV λb=>(aB.ite (aB.pred hS hB) (aB.refl _)).bV λ_=>aB.refl _;refine(aB.title hS).bV λ_=>aB.bV (λi=>?_) λ_=>(aB.exp hS _).bV λ_=>(aB.pred hS hB).bV λ_=>aB.refl _;simp only[hS.is];exact bL.ite Iff.rfl (aB.words hS i) (bL.refl _)
theorem aB.c2n:aB (vT kw aG l') (vT kw aG l):=by unfold vT;exact(aB.word hS).bV λ_=>(aB.exp hS _).bV λ_=>(aB.vars hS _).bV λ_=>(aB.exp hS _).bV λ_=>(aB.pred hS hB).bV λ_=>aB.refl _
theorem aB.decl(m:gZ):aB (pP kw andP aG l' m) (pP kw andP aG l m):=λi=>by
 unfold pP;simp only[hS.is];refine bL.ite Iff.rfl (((aB.data hS hB).bV λ_=>aB.refl _) (i+1)) (bL.ite Iff.rfl (((aB.cls hS hB).bV λ_=>aB.refl _) (i+1)) (bL.ite Iff.rfl (((aB.inst hS hB).bV λ_=>aB.refl _) (i+1)) (bL.ite Iff.rfl (((aB.c2m hS hB).bV λ_=>aB.refl _) (i+1)) (bL.ite Iff.rfl (((aB.c2n hS hB).bV λ_=>aB.refl _) (i+1)) ?_))));refine((aB.defn hS hB).bV λd=>?_) i;cases d with
 |none=>exact aB.failed hS
 |some d=>exact aB.refl _
theorem aB.mod:aB (a3R kw andP aG l') (a3R kw andP aG l):=by unfold a3R;exact aB.many hS (λi=>by rw[hS.kind]) (λm=>(aB.decl hS hB m).bV λ_=>(aB.exp hS _).bV λ_=>aB.refl _) _
omit hB in
theorem aB.fin:aB (uY l') (uY l):=λi=>by unfold uY;rw[hS.kind];exact bL.ite Iff.rfl (bL.refl _) rfl
end
end Go.Proofs.YtjpodcmhcenjjaaGreatDoor
end
section
namespace Go.Proofs.YtjpodcmhcenjjaaGreatDoor
open Go Go.VM
def gG(x:zN):List D:=[.str x.1,.str x.2]
def a2j(p:Nm×Ty):List D:=.str p.1::tyC p.2
def a1G:eM->List D
 |⟨op,nm,n,ks,ps,al,ts⟩=>[.int .i64 op,.str nm,.int .i64 n,.sl (ks.map a1G),.sl (ps.map a2j),.sl (al.attach.map λa=>.str a.1.1::.sl (strs a.1.2.1)::a1G a.1.2.2),.sl (ts.map tyC)]
termination_by e=>SizeOf.sizeOf e
decreasing_by
 .have:=List.sizeOf_lt_of_mem ‹_∈ks›;simp only[eM.mk.sizeOf_spec];omega
 .obtain⟨⟨a,b,c⟩,ha⟩:=a;have:=List.sizeOf_lt_of_mem ha;simp only[Prod.mk.sizeOf_spec]at this;simp only[eM.mk.sizeOf_spec];omega
def b0r(a:Nm×List Nm×eM):List D:=.str a.1::.sl (strs a.2.1)::a1G a.2.2
theorem dL(e:eM):a1G e=[.int .i64 e.op,.str e.name,.int .i64 e.n,.sl (e.kids.map a1G),.sl (e.params.map a2j),.sl (e.alts.map b0r),.sl (e.types.map tyC)]:=by
 cases e;rw[a1G];simp only[List.cons.injEq,D.sl.injEq,true_and,and_true]
 first
  |exact List.attach_map_val (f:=b0r)
  |exact List.attach_map_val _ b0r
  |(conv=>rhs;rw[<-List.attach_map_subtype_val ‹List (Nm×List Nm×eM)›,List.map_map]
    rfl)
def b1U(b:pM):List D:=[.str b.name,.sl (b.vars.map gG)]++oO b.hyp++oO b.goal
def d4t(s:a7u):List D:=[.sl (strs s.vars),.sl (s.oP.map gG),.sl (s.abs.map gG),.sl (s.bounds.map b1U)]++tyC s.type++[.sl (s.a6m.map oO)]
def a1c(d:eX):List D:=[.str d.name,.sl (strs d.params)]++a1G d.body++[.int .i64 d.mode,.bool d.typed]++d4t d.sig
def a5A(c:a3P):List D:=[.str c.name,.sl (strs c.names),.sl (c.fields.map tyC)]
def uZ(d:a3Q):List D:=[.str d.name,.sl (strs d.vars),.sl (d.a7t.map gG),.sl (d.cons.map a5A)]
def xW(c:a0A):List D:=[.str c.name,.str c.var,.sl (c.methods.map a2j)]
def a0C(x:a6n):List D:=[.str x.cls]++tyC x.type++[.sl (x.oP.map gG),.sl (x.defs.map a1c)]
def zS(x:a6o):List D:=[.str x.name,.str x.data,.str x.result,.sl (x.cases.map λc=>.str c.1::.sl (strs c.2.1)::oO c.2.2)]++oO x.inv
def a0D(q:a6p):List D:=[.str q.name,.sl (q.vars.map gG)]++oO q.body
def a0E(m:gZ):List D:=[.sl (m.uW.map uZ),.sl (m.oJ.map xW),.sl (m.insts.map a0C),.sl (m.uX.map zS),.sl (m.xV.map a0D),.sl (m.defs.map a1c)]
end Go.Proofs.YtjpodcmhcenjjaaGreatDoor
end
end
