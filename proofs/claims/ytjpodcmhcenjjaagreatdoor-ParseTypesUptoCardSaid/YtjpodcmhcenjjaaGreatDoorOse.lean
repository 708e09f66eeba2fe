/- Lemmas that the law of this claim needs (ZJ). No condition. -/
import Derived.Test.YtjpodcmhcenjjaaGreatDoorOsa
import Derived.Test.YtjpodcmhcenjjaaGreatDoorOsd
set_option linter.unusedVariables false
set_option linter.unusedSimpArgs false
set_option linter.unusedSectionVars false
set_option maxRecDepth 100000
set_option maxHeartbeats 64000000
open Go.Proofs.Tryz
section
section
namespace Go.Proofs.YtjpodcmhcenjjaaGreatDoor
structure jL where
 op:Int
 name:Nm
 n:Int
 kids:List jL
 params:List (Nm×Ty)
 alts:List (Nm×List Nm×jL)
 types:List Ty
abbrev psV:=Nm×Nm
structure tB where
 name:Nm
 vars:List psV
 hyp:Pr
 goal:Pr
structure b8m where
 vars:List Nm
 a0P:List psV
 abs:List psV
 bounds:List tB
 type:Ty
 b9V:List Pr
structure oB where
 name:Nm
 params:List Nm
 body:jL
 mode:Int
 typed:Bool
 sig:b8m
structure a7b where
 name:Nm
 names:List Nm
 fields:List Ty
structure b4p where
 name:Nm
 vars:List Nm
 a9i:List psV
 cons:List a7b
structure a9k where
 name:Nm
 var:Nm
 methods:List (Nm×Ty)
structure b4q where
 cls:Nm
 type:Ty
 a0P:List psV
 defs:List oB
structure b4r where
 name:Nm
 data:Nm
 result:Nm
 cases:List (Nm×List Nm×Pr)
 inv:Pr
structure b4s where
 name:Nm
 vars:List psV
 body:Pr
structure oC where
 b4t:List b4p
 a9l:List a9k
 insts:List b4q
 b4u:List b4r
 c3h:List b4s
 defs:List oB
def eA:Pr:=⟨0,[],0,[]⟩
def mW:Ty:=⟨0,[],[],[],eA,[]⟩
def a4y:jL:=⟨0,[],0,[],[],[],[]⟩
def b2D:b8m:=⟨[],[],[],[],mW,[]⟩
def tU(op:Int)(name:Nm):Ty:=⟨op,name,[],[],eA,[]⟩
def kM(op:Int)(kids:List jL):jL:=⟨op,[],0,kids,[],[],[]⟩
inductive kN (α:Type) where
 |ok (a:α) (at':Nat)
 |bad (line err:Int)
def aZ(α:Type):=Nat->kN α
def aZ.bE{α:Type}(a:α):aZ α:=λi=>.ok a i
def aZ.zO{α β:Type}(x:aZ α)(f:α->aZ β):aZ β:=λi=>match x i with
 | .ok a j=>f a j
 | .bad n e=>.bad n e
instance:Monad aZ where
 pure:=aZ.bE
 bind:=aZ.zO
@[simp] theorem gF{α:Type}(a:α)(i:Nat):(pure a:aZ α) i=.ok a i:=rfl
theorem cX{α β:Type}(x:aZ α)(f:α->aZ β)(i:Nat):(x >>=f) i=match x i with
 | .ok a j=>f a j
 | .bad n e=>.bad n e:=rfl
theorem bN{α β:Type}{x:aZ α}{f:α->aZ β}{i j:Nat}{a:α}(h:x i=.ok a j):(x >>=f) i=f a j:=by rw[cX,h]
theorem gQ{α β:Type}{x:aZ α}{f:α->aZ β}{i:Nat}{n e:Int}(h:x i=.bad n e):(x >>=f) i=.bad n e:=by rw[cX,h]
section
variable (kw:Nm->Bool) (andP:Pr->Pr->Pr) (aI:List Tok->Nat->Nat->kN Pr) (l:List Tok)
def aK(i:Nat):Tok:=if i<l.length then l.getD i ⟨0,[],0,0⟩ else l.getLastD ⟨0,[],0,0⟩
def cK(t:Tok)(s:Nm):Bool:=(decide (t.kind=1)||decide (t.kind=4)||decide (t.kind=2))&&decide (t.text=s)
def jY(t:Tok):Bool:=decide (t.kind=1)&& !kw t.text
def rM(t:Tok):Bool:=decide (t.kind=2)
def aL(i:Nat)(s:Nm):Bool:=cK (aK l i) s
def dN{α:Type}:aZ α:=λi=>.bad (aK l i).line 14
def cY(s:Nm):aZ Bool:=λi=>if aL l i s then .ok true (i+1) else .ok false i
def aV:List Nm->aZ Unit
 |[]=>pure ()
 |s::r=>λi=>if aL l i s then aV r (i+1) else dN l i
def mB(ok:Tok->Bool):aZ Nm:=λi=>if ok (aK l i) then .ok (aK l i).text (i+1) else dN l i
def bL:aZ Nm:=mB l (jY kw)
def jB:aZ Nm:=mB l rM
def xA:aZ Nm:=mB l λt=>jY kw t||rM t
def gA{α:Type}(c:Nm)(one:α->aZ α):Nat->α->aZ α
 |0,_=>λ_=>.bad 0 0
 |g+1,a=>λi=>match one a i with
  | .bad n e=>.bad n e
  | .ok b j=>if aL l j c then gA c one g b (j+1) else .ok b j
def dE{α:Type}(c:Nm)(one:α->aZ α)(a:α):aZ α:=gA l c one (l.length+2) a
def dQ{α:Type}(c:Nat->Bool)(one:α->aZ α):Nat->α->aZ α
 |0,_=>λ_=>.bad 0 0
 |g+1,a=>λi=>if c i then(match one a i with
  | .bad n e=>.bad n e
  | .ok b j=>dQ c one g b j) else .ok a i
def rN{α:Type}(c:Nat->Bool)(one:α->aZ α)(a:α):aZ α:=dQ c one (l.length+2) a
def kO:aZ Pr:=λi=>aI l i l.length
def gG:aZ (List Nm):=do
 aV l [[40]]
 let out <- dE l [44] (λout=>do let w <- bL kw l;pure (out++[w])) []
 aV l [[41]]
 pure out
def rO(v:Bool):aZ (List psV):=dE l [44] (λout=>do
 let b <- (if v then cY l [118] else pure false)
 let name <- (if b then pure [118] else bL kw l)
 aV l [[58]]
 let s <- xA kw l
 pure (out++[(name,s)])) []
def eO:aZ (Option Ty):=λi=>
 if aL l i [73,110,116] then .ok (some (tU 1 [])) (i+1)
 else if aL l i [66,111,111,108] then .ok (some (tU 2 [])) (i+1)
 else if aL l i [67,101,108,108] then .ok (some (tU 3 [])) (i+1)
 else if jY kw (aK l i) then .ok (some (tU 5 (aK l i).text)) (i+1)
 else .ok none i
section
variable (ty:aZ Ty)
def vW:aZ Ty:=do
 aV l [[123],[118],[58]]
 let t <- ty
 if t.op=6 then dN l else do
 aV l [[124]]
 let p <- kO aI l
 aV l [[125]]
 pure {t with pred:=if t.pred.op=0 then p else andP t.pred p}
def b1Q(i:Nat):Bool:=jY kw (aK l i)||rM (aK l i)||aL l i [123]||aL l i [40]
def gR:aZ Ty:=do
 let b <- eO kw l
 match b with
 |some t=>pure t
 |none=>
  λi=>
  if rM (aK l i) then .ok (tU 4 (aK l i).text) (i+1)
  else if aL l i [123] then vW andP aI l ty i
  else(do
   aV l [[40]]
   let t <- ty
   aV l [[41]]
   pure t:aZ Ty) i
def uB:aZ Ty:=do
 let name <- jB l
 let args <- rN l (b1Q kw l) (λout=>do let t <- gR kw andP aI l ty;pure (out++[t])) []
 let b <- cY l [60]
 if b then do
  let ps <- dE l [44] (λout=>do
   aV l [[118],[46]]
   let p <- kO aI l
   pure (out++[p])) []
  aV l [[62]]
  pure {tU 4 name with args:=args,a9i:=ps}
 else pure {tU 4 name with args:=args}
def vX:aZ Ty:=do
 aV l [[40]]
 let (ns,ts) <- (λi=>if jY kw (aK l i)&&cK (aK l (i+1)) [58] then
   dE l [44] (λ(out:List Nm×List Ty)=>do
    let w <- bL kw l
    aV l [[58]]
    let t <- ty
    pure (out.1++[w],out.2++[t])) ([],[]) i
  else dE l [44] (λ(out:List Nm×List Ty)=>do
    let t <- ty
    pure (out.1,out.2++[t])) ([],[]) i:aZ (List Nm×List Ty))
 aV l [[41]]
 λi=>
  if decide (ns.length=0)&&decide (ts.length=1)&& !aL l i [45,62] then .ok (ts.headD mW) i
  else(do
   aV l [[45,62]]
   let t <- ty
   pure {tU 6 []with names:=ns,args:=ts++[t]}:aZ Ty) i
def xB:aZ Ty:=do
 let b <- eO kw l
 match b with
 |some t=>pure t
 |none=>
  λi=>
  if rM (aK l i) then uB kw andP aI l ty i
  else if aL l i [123] then vW andP aI l ty i
  else vX kw l ty i
end
def zE:Nat->aZ Ty
 |0=>λ_=>.bad 0 0
 |n+1=>xB kw andP aI l (zE n)
def kP:aZ Ty:=zE kw andP aI l (l.length+2)
def a1L:aZ (List Ty):=do
 let b <- cY l [91]
 if b then do
  let out <- dE l [44] (λout=>do let t <- kP kw andP aI l;pure (out++[t])) []
  aV l [[93]]
  pure out
 else pure []
section
variable (ex:Nat->aZ jL)
def qJ:aZ (List jL):=do
 aV l [[40]]
 let out <- dE l [44] (λout=>do let e <- ex 0;pure (out++[e])) []
 aV l [[41]]
 pure out
def a7S:aZ jL:=do
 let name <- bL kw l
 let b <- cY l [58]
 let ts <- (if b then do let t <- kP kw andP aI l;pure [t] else pure []:aZ (List Ty))
 aV l [[61]]
 let a <- ex 0
 aV l [[105,110]]
 let c <- ex 0
 pure {kM 7 [a,c]with name:=name,types:=ts}
def a0Q:aZ jL:=do
 let e <- ex 0
 aV l [[111,102],[123]]
 let alts <- dE l [59] (λout=>do
  let c <- jB l
  let ns <- (λi=>if aL l i [40] then gG kw l i else .ok [] i:aZ (List Nm))
  aV l [[45,62]]
  let b <- ex 0
  pure (out++[(c,ns,b)])) []
 aV l [[125]]
 pure {kM 9 [e]with alts:=alts}
def a7T:aZ jL:=do
 aV l [[40]]
 let ps <- dE l [44] (λout=>do
  let w <- bL kw l
  let b <- cY l [58]
  let t <- (if b then kP kw andP aI l else pure mW)
  pure (out++[(w,t)])) []
 aV l [[41],[45,62]]
 let e <- ex 0
 pure {kM 6 [e]with params:=ps}
def a5k(op:Int):aZ jL:=do
 aV l [[40]]
 let e <- ex 0
 aV l [[41]]
 pure (kM op [e])
def uX:aZ jL:=do
 aV l [[40]]
 λi=>
  if aL l i [45]&&decide ((aK l (i+1)).kind=3)&&cK (aK l (i+2)) [41] then .ok ⟨1,[], -(aK l (i+1)).n,[],[],[],[]⟩ (i+3)
  else(do
   let e <- ex 0
   let b <- cY l [58]
   let e <- (if b then do let t <- kP kw andP aI l;pure {kM 26 [e]with types:=[t]} else pure e:aZ jL)
   aV l [[41]]
   pure e:aZ jL) i
def a3r:aZ jL:=λi=>
 if (aK l i).kind=3 then .ok ⟨1,[],(aK l i).n,[],[],[],[]⟩ (i+1)
 else if aL l i [116,114,117,101] then .ok ⟨2,[],1,[],[],[],[]⟩ (i+1)
 else if aL l i [102,97,108,115,101] then .ok ⟨2,[],0,[],[],[],[]⟩ (i+1)
 else if aL l i [110,101,119] then a5k l ex 22 (i+1)
 else if aL l i [103,101,116] then a5k l ex 23 (i+1)
 else if aL l i [115,101,116] then(do
  aV l [[40]]
  let a <- ex 0
  aV l [[44]]
  let b <- ex 0
  aV l [[41]]
  pure (kM 24 [a,b]):aZ jL) (i+1)
 else if jY kw (aK l i) then
  (if !aL l (i+1) [91]&& !aL l (i+1) [40] then .ok {kM 3 []with name:=(aK l i).text} (i+1)
  else(do
   let ts <- a1L kw andP aI l
   let ks <- qJ l ex
   pure {kM 5 ks with name:=(aK l i).text,types:=ts}:aZ jL) (i+1))
 else if rM (aK l i) then(do
  let ts <- a1L kw andP aI l
  let ks <- (λj=>if aL l j [40] then qJ l ex j else .ok [] j:aZ (List jL))
  pure {kM 4 ks with name:=(aK l i).text,types:=ts}:aZ jL) (i+1)
 else uX kw andP aI l ex i
def a9m:aZ jL:=λi=>if aL l i [45] then(do let e <- ex 7;pure (kM 15 [e]):aZ jL) (i+1) else a3r kw andP aI l ex i
def jM(ops:List (Nm×Int))(one:aZ jL):Nat->jL->aZ jL
 |0,_=>λ_=>.bad 0 0
 |g+1,e=>λi=>match ops.find? λp=>aL l i p.1 with
  |none=>.ok e i
  |some p=>match one (i+1)with
   | .bad n e=>.bad n e
   | .ok x j=>jM ops one g (kM p.2 [e,x]) j
def a4h(ops:List (Nm×Int))(one:aZ jL):aZ jL:=do
 let e <- one
 jM l ops one (l.length+2) e
def a9n:aZ jL:=a4h l [([42],12),([100,105,118],13),([109,111,100],14)] (a9m kw andP aI l ex)
def pL:aZ jL:=a4h l [([43],10),([45],11)] (a9n kw andP aI l ex)
def a7U:aZ jL:=do
 let e <- pL kw andP aI l ex
 λi=>
  if aL l i [61,61] then(do let x <- pL kw andP aI l ex;pure (kM 16 [e,x]):aZ jL) (i+1)
  else if aL l i [33,61] then(do let x <- pL kw andP aI l ex;pure (kM 21 [kM 16 [e,x]]):aZ jL) (i+1)
  else if aL l i [60] then(do let x <- pL kw andP aI l ex;pure (kM 17 [e,x]):aZ jL) (i+1)
  else if aL l i [60,61] then(do let x <- pL kw andP aI l ex;pure (kM 18 [e,x]):aZ jL) (i+1)
  else if aL l i [62] then(do let x <- pL kw andP aI l ex;pure (kM 17 [x,e]):aZ jL) (i+1)
  else if aL l i [62,61] then(do let x <- pL kw andP aI l ex;pure (kM 18 [x,e]):aZ jL) (i+1)
  else .ok e i
def a3s:aZ jL:=λi=>if aL l i [33] then(do let e <- ex 3;pure (kM 21 [e]):aZ jL) (i+1) else a7U kw andP aI l ex i
def b4v:aZ jL:=a4h l [([38,38],19)] (a3s kw andP aI l ex)
def c3i:aZ jL:=a4h l [([124,124],20)] (b4v kw andP aI l ex)
def b4w:aZ jL:=λi=>
 if aL l i [108,101,116] then a7S kw andP aI l ex (i+1)
 else if aL l i [105,102] then(do
  let a <- ex 0
  aV l [[116,104,101,110]]
  let b <- ex 0
  aV l [[101,108,115,101]]
  let c <- ex 0
  pure (kM 8 [a,b,c]):aZ jL) (i+1)
 else if aL l i [99,97,115,101] then a0Q kw l ex (i+1)
 else if aL l i [102,117,110] then a7T kw andP aI l ex (i+1)
 else if aL l i [117,115,101] then(do
  let name <- bL kw l
  let ks <- qJ l ex
  aV l [[105,110]]
  let b <- ex 0
  pure {kM 25 (ks++[b])with name:=name}:aZ jL) (i+1)
 else c3i kw andP aI l ex i
end
def zQ:Nat->Nat->aZ jL
 |0,_=>λ_=>.bad 0 0
 |n+1,k=>if k=7 then a9m kw andP aI l (zQ n) else if k=3 then a3s kw andP aI l (zQ n) else b4w kw andP aI l (zQ n)
def a7V:aZ jL:=zQ kw andP aI l (l.length+2) 0
def xW:aZ (List psV):=dE l [44] (λout=>do
 let c <- jB l
 let w <- bL kw l
 pure (out++[(c,w)])) []
def xX:aZ tB:=do
 let name <- bL kw l
 aV l [[40]]
 let vs <- rO kw l false
 aV l [[41]]
 let h <- kO aI l
 aV l [[45,62]]
 let g <- kO aI l
 aV l [[46]]
 pure ⟨name,vs,h,g⟩
def mK:Nat->Int->Nat->Nat
 |0,_,_=>l.length
 |g+1,d,i=>if i<l.length then(if cK (aK l i) [40] then mK g (d+1) (i+1) else if cK (aK l i) [41] then mK g (d-1) (i+1) else if cK (aK l i) [61]&&decide (d<=0) then i else mK g d (i+1)) else l.length
def a4i:aZ b8m:=do
 let b <- cY l [102,111,114,97,108,108]
 let vs <- (if b then do
  let w <- bL kw l
  let ws <- rN l (λi=>jY kw (aK l i)) (λout=>do let w <- bL kw l;pure (out++[w])) [w]
  aV l [[46]]
  pure ws else pure []:aZ (List Nm))
 let b <- cY l [119,104,101,114,101]
 let ns <- (if b then do
  let ns <- xW kw l
  aV l [[46]]
  pure ns else pure []:aZ (List psV))
 let b <- cY l [60]
 let abs <- (if b then do
  let abs <- rO kw l false
  aV l [[62],[46]]
  pure abs else pure []:aZ (List psV))
 let bs <- rN l (λi=>aL l i [98,111,117,110,100]) (λout=>do
  aV l [[98,111,117,110,100]]
  let b <- xX kw aI l
  pure (out++[b])) []
 let t <- kP kw andP aI l
 let b <- cY l [109,101,116,114,105,99]
 let ms <- (if b then(λi=>dE l [44] (λout=>do
  let p <- (λj=>aI l j (mK l (l.length+1) 0 i):aZ Pr)
  pure (out++[p])) [] i) else pure []:aZ (List Pr))
 pure ⟨vs,ns,abs,bs,t,ms⟩
def a3t(mode:Int):aZ oB:=do
 let name <- bL kw l
 let ps <- (λi=>if aL l i [40] then(if cK (aK l (i+1)) [41] then .ok [] (i+2) else gG kw l i) else .ok [] i:aZ (List Nm))
 pure ⟨name,ps,a4y,mode,false,b2D⟩
def a3u(d:oB):aZ (Option oB):=do
 aV l [[61]]
 let e <- a7V kw andP aI l
 pure (some {d with body:=e})
def a0R:aZ (Option oB):=λi=>
 if aL l i [100,101,102] then(do
  let d <- a3t kw l 0
  let b <- cY l [58]
  let d <- (if b then do let s <- a4i kw andP aI l;pure {d with typed:=true,sig:=s} else pure d:aZ oB)
  a3u kw andP aI l d:aZ (Option oB)) (i+1)
 else if aL l i [97,115,115,117,109,101] then(do
  let d <- a3t kw l 1
  aV l [[58]]
  let s <- a4i kw andP aI l
  pure (some {d with typed:=true,sig:=s}):aZ (Option oB)) (i+1)
 else if aL l i [114,101,102,108,101,99,116] then(do
  let d <- a3t kw l 2
  aV l [[58]]
  let s <- a4i kw andP aI l
  a3u kw andP aI l {d with typed:=true,sig:=s}:aZ (Option oB)) (i+1)
 else .ok none i
def b1R:aZ a7b:=do
 let name <- jB l
 let b <- cY l [40]
 if b then do
  let (ns,ts) <- dE l [44] (λ(out:List Nm×List Ty)=>do
   let w <- bL kw l
   aV l [[58]]
   let t <- kP kw andP aI l
   pure (out.1++[w],out.2++[t])) ([],[])
  aV l [[41]]
  pure ⟨name,ns,ts⟩
 else pure ⟨name,[],[]⟩
def a3v:aZ b4p:=do
 let name <- jB l
 let vs <- rN l (λi=>jY kw (aK l i)) (λout=>do let w <- bL kw l;pure (out++[w])) []
 let b <- cY l [60]
 let ps <- (if b then do
  let ps <- rO kw l false
  aV l [[62]]
  pure ps else pure []:aZ (List psV))
 aV l [[61]]
 let cs <- dE l [124] (λout=>do let c <- b1R kw andP aI l;pure (out++[c])) []
 pure ⟨name,vs,ps,cs⟩
def zZ:aZ a9k:=do
 let name <- jB l
 let v <- bL kw l
 aV l [[119,105,116,104]]
 let ms <- dE l [44] (λout=>do
  let w <- bL kw l
  aV l [[58]]
  let t <- kP kw andP aI l
  pure (out++[(w,t)])) []
 pure ⟨name,v,ms⟩
def a5l:aZ b4q:=do
 let c <- jB l
 let t <- gR kw andP aI l (kP kw andP aI l)
 let b <- cY l [119,104,101,114,101]
 let ns <- (if b then xW kw l else pure [])
 aV l [[123]]
 let ds <- rN l (λi=>aL l i [100,101,102]) (λout=>do
  let d <- a0R kw andP aI l
  aV l [[59]]
  pure (out++[d.getD ⟨[],[],a4y,0,false,b2D⟩])) []
 aV l [[125]]
 pure ⟨c,t,ns,ds⟩
def a5m:aZ b4r:=do
 let name <- bL kw l
 aV l [[58]]
 let d <- jB l
 aV l [[45,62]]
 let s <- xA kw l
 aV l [[123]]
 let cs <- dE l [59] (λout=>do
  let c <- jB l
  let ns <- (λi=>if aL l i [40] then gG kw l i else .ok [] i:aZ (List Nm))
  aV l [[61]]
  let p <- kO aI l
  pure (out++[(c,ns,p)])) []
 aV l [[125]]
 let b <- cY l [105,110,118,97,114,105,97,110,116]
 let p <- (if b then kO aI l else pure eA)
 pure ⟨name,d,s,cs,p⟩
def a5n:aZ b4s:=do
 let name <- bL kw l
 aV l [[40]]
 let vs <- rO kw l true
 aV l [[41],[58]]
 let p <- kO aI l
 pure ⟨name,vs,p⟩
def xC(m:oC):aZ oC:=λi=>
 if aL l i [100,97,116,97] then(do let x <- a3v kw andP aI l;pure {m with b4t:=m.b4t++[x]}:aZ oC) (i+1)
 else if aL l i [99,108,97,115,115] then(do let x <- zZ kw andP aI l;pure {m with a9l:=m.a9l++[x]}:aZ oC) (i+1)
 else if aL l i [105,110,115,116] then(do let x <- a5l kw andP aI l;pure {m with insts:=m.insts++[x]}:aZ oC) (i+1)
 else if aL l i [109,101,97,115,117,114,101] then(do let x <- a5m kw aI l;pure {m with b4u:=m.b4u++[x]}:aZ oC) (i+1)
 else if aL l i [113,117,97,108] then(do let x <- a5n kw aI l;pure {m with c3h:=m.c3h++[x]}:aZ oC) (i+1)
 else(do
  let d <- a0R kw andP aI l
  match d with
  |some d=>pure {m with defs:=m.defs++[d]}
  |none=>dN l:aZ oC) i
def a2G:aZ Unit:=λi=>if (aK l i).kind=0 then .ok () i else dN l i
def b4x:aZ oC:=rN l (λi=> !decide ((aK l i).kind=0)) (λm=>do
 let m <- xC kw andP aI l m
 aV l [[59]]
 pure m) ⟨[],[],[],[],[],[]⟩
end
end Go.Proofs.YtjpodcmhcenjjaaGreatDoor
end
section
namespace Go.Proofs.YtjpodcmhcenjjaaGreatDoor
def jJ(l:List Tok):Prop:=l≠[]/\(aK l (l.length-1)).kind=0
def aB{α:Type}(l:List Tok)(m:Nat)(x:aZ α):Prop:=∀(i:Nat) (a:α) (j:Nat),i<l.length->x i=.ok a j->i+m<=j/\j<l.length
section
variable {kw:Nm->Bool} {andP:Pr->Pr->Pr} {aI:List Tok->Nat->Nat->kN Pr} {l:List Tok} {α β:Type} {m k:Nat}
theorem aB.le{x:aZ α}(h:aB l m x)(hk:k<=m):aB l k x:=λi a j hi hx=>by have:=h i a j hi hx;omega
theorem aB.bE(a:α):aB l 0 (pure a:aZ α):=λi b j hi h=>by rw[gF]at h;cases h;omega
theorem aB.bl{x:aZ α}{f:α->aZ β}(hx:aB l m x)(hf:∀a,aB l 0 (f a)):aB l m (x >>=f):=λi b j hi h=>by
 rw[cX]at h;cases hxi:x i with
 |bad n e=>rw[hxi]at h;cases h
 |ok a j'=>rw[hxi]at h;have h1:=hx i a j' hi hxi;have h2:=hf a j' b j h1.2 h;omega
theorem aB.br{x:aZ α}{f:α->aZ β}(hx:aB l 0 x)(hf:∀a,aB l m (f a)):aB l m (x >>=f):=λi b j hi h=>by
 rw[cX]at h;cases hxi:x i with
 |bad n e=>rw[hxi]at h;cases h
 |ok a j'=>rw[hxi]at h;have h1:=hx i a j' hi hxi;have h2:=hf a j' b j h1.2 h;omega
theorem aB.ite{c:Prop}[Decidable c]{x y:aZ α}(hx:aB l m x)(hy:aB l m y):aB l m (if c then x else y):=by
 split
 .exact hx
 .exact hy
theorem aB.failed:aB l m (dN l:aZ α):=λi a j hi h=>by unfold dN at h;cases h
variable (hE:jJ l)
include hE
theorem oQ{i:Nat}(hi:i<l.length)(h:(aK l i).kind≠0):i+1<l.length:=by
 rcases Nat.lt_or_ge (i+1) l.length with h'|h'
 .exact h'
 .have:i=l.length-1:=by omega
  rw[this]at h;exact absurd hE.2 h
theorem a0S{t:Tok}{s:Nm}(h:cK t s=true):t.kind≠0:=by unfold cK at h;simp only[f7H,f7T,decide_eq_true_eq]at h;omega
theorem aH{i:Nat}{s:Nm}(hi:i<l.length)(h:aL l i s=true):i+1<l.length:=oQ hE hi (a0S hE h)
theorem b0M{i:Nat}(hi:i<l.length)(h:rM (aK l i)=true):i+1<l.length:=oQ hE hi (by unfold rM at h;simp only[decide_eq_true_eq]at h;omega)
theorem b0N{i:Nat}(hi:i<l.length)(h:jY kw (aK l i)=true):i+1<l.length:=oQ hE hi (by unfold jY at h;simp only[f7H,decide_eq_true_eq]at h;omega)
theorem aB.e7G:∀(s:List Nm),aB l s.length (aV l s)
 |[]=>aB.bE ()
 |s::r=>λi a j hi h=>by
  unfold aV at h;split at h
  .rename_i hs;have:=aB.e7G r (i+1) a j (aH hE hi hs) h;simp only[List.length_cons];omega
  .unfold dN at h;cases h
theorem aB.exp(s:Nm)(r:List Nm):aB l 1 (aV l (s::r)):=(aB.e7G hE (s::r)).le (by simp only[List.length_cons];omega)
theorem aB.skip(s:Nm):aB l 0 (cY l s):=λi a j hi h=>by
 unfold cY at h;split at h
 .rename_i hs;have:=aH hE hi hs;cases h;omega
 .cases h;omega
theorem aB.take{ok:Tok->Bool}(hk:∀t,ok t=true->t.kind≠0):aB l 1 (mB l ok):=λi a j hi h=>by
 unfold mB at h;split at h
 .rename_i hs;have:=oQ hE hi (hk _ hs);cases h;omega
 .unfold dN at h;cases h
theorem aB.word:aB l 1 (bL kw l):=aB.take hE λt h=>by unfold jY at h;simp only[f7H,decide_eq_true_eq]at h;omega
theorem aB.title:aB l 1 (jB l):=aB.take hE λt h=>by unfold rM at h;simp only[decide_eq_true_eq]at h;omega
theorem aB.sort:aB l 1 (xA kw l):=aB.take hE λt h=>by unfold jY rM at h;simp only[f7T,f7H,decide_eq_true_eq]at h;omega
theorem aB.loop{c:Nm}{one:α->aZ α}(h1:∀a,aB l m (one a)):∀(g:Nat) (a:α),aB l m (gA l c one g a)
 |0,a=>λi b j hi h=>by unfold gA at h;cases h
 |g+1,a=>λi b j hi h=>by
  unfold gA at h;split at h
  .cases h
  .rename_i a' j' ho;have h2:=h1 a i a' j' hi ho;split at h
   .rename_i hs;have h3:=aB.loop h1 g a' (j'+1) b j (aH hE h2.2 hs) h;omega
   .cases h;exact h2
theorem aB.list{c:Nm}{one:α->aZ α}(h1:∀a,aB l m (one a))(a:α):aB l m (dE l c one a):=aB.loop hE h1 _ a
omit hE in
theorem aB.b4y{c:Nat->Bool}{one:α->aZ α}(h1:∀a,aB l 0 (one a)):∀(g:Nat) (a:α),aB l 0 (dQ c one g a)
 |0,a=>λi b j hi h=>by unfold dQ at h;cases h
 |g+1,a=>λi b j hi h=>by
  unfold dQ at h;split at h
  .split at h
   .cases h
   .rename_i a' j' ho;have h2:=h1 a i a' j' hi ho;have h3:=aB.b4y h1 g a' j' b j h2.2 h;omega
  .cases h;omega
omit hE in
theorem aB.many{c:Nat->Bool}{one:α->aZ α}(h1:∀a,aB l 0 (one a))(a:α):aB l 0 (rN l c one a):=aB.b4y h1 _ a
theorem aB.words:aB l 1 (gG kw l):=by unfold gG;exact(aB.exp hE _ _).bl λ_=>(aB.list hE (m:=0) (λa=>(((aB.word hE).le (by omega)).bl λ_=>aB.bE _)) _).bl λ_=>((aB.exp hE _ _).le (by omega)).bl λ_=>aB.bE _
theorem aB.vars(v:Bool):aB l 1 (rO kw l v):=by unfold rO;refine aB.list hE (λa=>?_) _;refine aB.br (aB.ite (aB.skip hE _) (aB.bE _)) λb=>?_;refine aB.br (aB.ite (aB.bE _) ((aB.word hE).le (by omega))) λnm=>?_;exact(aB.exp hE _ _).bl λ_=>((aB.sort hE).le (by omega)).bl λ_=>aB.bE _
theorem a5o{i j:Nat}{t:Ty}(hi:i<l.length)(h:eO kw l i=.ok (some t) j):j=i+1/\j<l.length:=by
 unfold eO at h
 repeat' split at h
 all_goals first|cases h|skip
 all_goals rename_i hs
 all_goals first
  |exact⟨rfl,b0N hE hi hs⟩
  |exact⟨rfl,aH hE hi hs⟩
omit hE in
theorem uY{i j:Nat}(h:eO kw l i=.ok none j):j=i:=by
 unfold eO at h
 repeat' split at h
 all_goals first|(cases h;rfl)|cases h
theorem aB.base:aB l 0 (eO kw l):=λi a j hi h=>by
 cases a with
 |none=>have:=uY h;omega
 |some t=>have:=a5o hE hi h;omega
section
variable {ty:aZ Ty} (kH:aB l 0 ty) (hP:aB l 0 (kO aI l))
include kH hP
theorem aB.b9W:aB l 1 (vW andP aI l ty):=by unfold vW;refine(aB.exp hE _ _).bl λ_=>kH.bl λt=>?_;refine aB.ite aB.failed ?_;exact((aB.exp hE _ _).le (by omega)).bl λ_=>hP.bl λ_=>((aB.exp hE _ _).le (by omega)).bl λ_=>aB.bE _
theorem aB.zF:aB l 1 (gR kw andP aI l ty):=λi a j hi h=>by
 unfold gR at h;rw[cX]at h;cases hb:eO kw l i with
 |bad n e=>rw[hb]at h;cases h
 |ok o j'=>
  rw[hb]at h;cases o with
  |some t=>have:=a5o hE hi hb;simp only[gF]at h;cases h;omega
  |none=>
   have:=uY hb;subst this;simp only at h;split at h
   .rename_i hs;have:=b0M hE hi hs;cases h;omega
   .split at h
    .exact aB.b9W hE kH hP _ a j hi h
    .exact((aB.exp hE _ _).bl λ_=>kH.bl λ_=>((aB.exp hE _ _).le (by omega)).bl λ_=>aB.bE _) _ a j hi h
theorem aB.d3c:aB l 1 (uB kw andP aI l ty):=by
 unfold uB;refine(aB.title hE).bl λname=>aB.bl (aB.many (λa=>?_) _) λargs=>(aB.skip hE _).bl λb=>aB.ite ?_ (aB.bE _)
 .exact((aB.zF hE kH hP).le (by omega)).bl λ_=>aB.bE _
 .refine aB.bl (aB.list hE (λa=>?_) _) λ_=>((aB.exp hE _ _).le (by omega)).bl λ_=>aB.bE _;exact((aB.exp hE _ _).le (by omega)).bl λ_=>hP.bl λ_=>aB.bE _
theorem aB.c9E:aB l 1 (vX kw l ty):=by
 unfold vX;refine(aB.exp hE _ _).bl λ_=>aB.bl (m:=0) (λi a j hi h=>?_) λp=>?_
 .split at h
  .exact aB.list hE (λa=>((aB.word hE).le (by omega)).bl λ_=>((aB.exp hE _ _).le (by omega)).bl λ_=>kH.bl λ_=>aB.bE _) _ i a j hi h
  .exact aB.list hE (λa=>kH.bl λ_=>aB.bE _) _ i a j hi h
 .refine((aB.exp hE _ _).le (by omega)).bl λ_=>λi a j hi h=>?_;split at h
  .cases h;omega
  .exact(((aB.exp hE _ _).le (by omega:0<=1)).bl λ_=>kH.bl λ_=>aB.bE _) i a j hi h
theorem aB.c9F:aB l 1 (xB kw andP aI l ty):=λi a j hi h=>by
 unfold xB at h;rw[cX]at h;cases hb:eO kw l i with
 |bad n e=>rw[hb]at h;cases h
 |ok o j'=>
  rw[hb]at h;cases o with
  |some t=>have:=a5o hE hi hb;simp only[gF]at h;cases h;omega
  |none=>
   have:=uY hb;subst this;simp only at h;split at h
   .exact aB.d3c hE kH hP _ a j hi h
   .split at h
    .exact aB.b9W hE kH hP _ a j hi h
    .exact aB.c9E hE kH hP _ a j hi h
end
theorem aB.a7W(hP:aB l 0 (kO aI l)):∀n,aB l 1 (zE kw andP aI l n)
 |0=>λi a j hi h=>by unfold zE at h;cases h
 |n+1=>aB.c9F hE ((aB.a7W hP n).le (by omega)) hP
theorem aB.typ(hP:aB l 0 (kO aI l)):aB l 1 (kP kw andP aI l):=aB.a7W hE hP _
theorem aB.types(hP:aB l 0 (kO aI l)):aB l 0 (a1L kw andP aI l):=by unfold a1L;refine(aB.skip hE _).bl λb=>aB.ite ?_ (aB.bE _);exact aB.bl (aB.list hE (λa=>((aB.typ hE hP).le (by omega)).bl λ_=>aB.bE _) _) λ_=>((aB.exp hE _ _).le (by omega)).bl λ_=>aB.bE _
end
end Go.Proofs.YtjpodcmhcenjjaaGreatDoor
end
section
namespace Go.Proofs.YtjpodcmhcenjjaaGreatDoor
section
variable {kw:Nm->Bool} {andP:Pr->Pr->Pr} {aI:List Tok->Nat->Nat->kN Pr} {l:List Tok} {α β:Type} {m k:Nat}
theorem aB.nxt{x:aZ α}(hx:aB l 0 x){i j:Nat}{a:α}(hi:i+1<l.length)(h:x (i+1)=.ok a j):i+1<=j/\j<l.length:=by have:=hx (i+1) a j hi h;omega
variable (hE:jJ l)
include hE
section
variable {ex:Nat->aZ jL} (hx:∀k,aB l 1 (ex k))
include hx
theorem aB.mE:aB l 1 (qJ l ex):=by unfold qJ;exact(aB.exp hE _ _).bl λ_=>aB.bl (aB.list hE (λa=>((hx 0).le (by omega)).bl λ_=>aB.bE _) _) λ_=>((aB.exp hE _ _).le (by omega)).bl λ_=>aB.bE _
theorem aB.d3d(op:Int):aB l 1 (a5k l ex op):=by unfold a5k;exact(aB.exp hE _ _).bl λ_=>((hx 0).le (by omega)).bl λ_=>((aB.exp hE _ _).le (by omega)).bl λ_=>aB.bE _
theorem aB.c6m:aB l 1 (a0Q kw l ex):=by
 unfold a0Q;refine(hx 0).bl λ_=>((aB.exp hE _ _).le (by omega)).bl λ_=>aB.bl (aB.list hE (λa=>?_) _) λ_=>((aB.exp hE _ _).le (by omega)).bl λ_=>aB.bE _;refine((aB.title hE).le (by omega)).bl λ_=>aB.bl (λi b j hi h=>?_) λ_=>((aB.exp hE _ _).le (by omega)).bl λ_=>((hx 0).le (by omega)).bl λ_=>aB.bE _;split at h
 .exact((aB.words hE).le (by omega)) _ _ _ hi h
 .cases h;omega
section
variable (hP:aB l 0 (kO aI l))
include hP
theorem aB.e4l:aB l 1 (a7S kw andP aI l ex):=by unfold a7S;refine(aB.word hE).bl λ_=>(aB.skip hE _).bl λ_=>aB.bl (aB.ite (((aB.typ hE hP).le (by omega)).bl λ_=>aB.bE _) (aB.bE _)) λ_=>?_;exact((aB.exp hE _ _).le (by omega)).bl λ_=>((hx 0).le (by omega)).bl λ_=>((aB.exp hE _ _).le (by omega)).bl λ_=>((hx 0).le (by omega)).bl λ_=>aB.bE _
theorem aB.e4m:aB l 1 (a7T kw andP aI l ex):=by unfold a7T;refine(aB.exp hE _ _).bl λ_=>aB.bl (aB.list hE (λa=>?_) _) λ_=>((aB.exp hE _ _).le (by omega)).bl λ_=>((hx 0).le (by omega)).bl λ_=>aB.bE _;exact((aB.word hE).le (by omega)).bl λ_=>(aB.skip hE _).bl λ_=>aB.bl (aB.ite ((aB.typ hE hP).le (by omega)) (aB.bE _)) λ_=>aB.bE _
theorem aB.b9X:aB l 1 (uX kw andP aI l ex):=by
 unfold uX;refine(aB.exp hE _ _).bl λ_=>λi a j hi h=>?_;split at h
 .rename_i hc;simp only[f7H,decide_eq_true_eq]at hc;have h2:=oQ hE hi (a0S hE (show cK (aK l i) [45]=true from hc.1.1));have h3:=oQ hE h2 (by omega);have h4:=oQ hE h3 (a0S hE hc.2);cases h;omega
 .exact(((hx 0).le (by omega:0<=1)).bl λe=>(aB.skip hE _).bl λb=>aB.bl (aB.ite (((aB.typ (kw:=kw) (andP:=andP) hE hP).le (by omega:0<=1)).bl λt=>aB.bE _) (aB.bE _)) λe=>((aB.exp hE _ _).le (by omega:0<=1)).bl λ_=>aB.bE _) i a j hi h
theorem aB.d3e:aB l 1 (a3r kw andP aI l ex):=λi a j hi h=>by
 unfold a3r at h;split at h
 .rename_i hk;have:=oQ hE hi (by omega);cases h;omega
 split at h
 .rename_i hs;have:=aH hE hi hs;cases h;omega
 split at h
 .rename_i hs;have:=aH hE hi hs;cases h;omega
 split at h
 .rename_i hs;exact((aB.d3d hE hx _).le (by omega)).nxt (aH hE hi hs) h
 split at h
 .rename_i hs;exact((aB.d3d hE hx _).le (by omega)).nxt (aH hE hi hs) h
 split at h
 .rename_i hs;exact(((aB.exp hE _ _).le (by omega:0<=1)).bl λ_=>((hx 0).le (by omega:0<=1)).bl λ_=>((aB.exp hE _ _).le (by omega:0<=1)).bl λ_=>((hx 0).le (by omega:0<=1)).bl λ_=>((aB.exp hE _ _).le (by omega:0<=1)).bl λ_=>aB.bE _).nxt (aH hE hi hs) h
 split at h
 .rename_i hs;have hn:=b0N hE hi hs;split at h
  .cases h;omega
  .exact((aB.types hE hP).bl λ_=>((aB.mE hE hx).le (by omega:0<=1)).bl λ_=>aB.bE _).nxt hn h
 split at h
 .rename_i hs;refine((aB.types hE hP).bl λ_=>aB.bl (m:=0) (λi a j hi h=>?_) λ_=>aB.bE _).nxt (b0M hE hi hs) h;split at h
  .exact((aB.mE hE hx).le (by omega)) _ _ _ hi h
  .cases h;omega
 exact aB.b9X hE hx hP _ _ _ hi h
theorem aB.unG:aB l 1 (a9m kw andP aI l ex):=λi a j hi h=>by
 unfold a9m at h;split at h
 .rename_i hs;exact(((hx 7).le (by omega:0<=1)).bl λ_=>aB.bE _).nxt (aH hE hi hs) h
 .exact aB.d3e hE hx hP _ _ _ hi h
omit hx hP in
theorem aB.chain{ops:List (Nm×Int)}{one:aZ jL}(h1:aB l 0 one):∀(g:Nat) (e:jL),aB l 0 (jM l ops one g e)
 |0,e=>λi b j hi h=>by unfold jM at h;cases h
 |g+1,e=>λi b j hi h=>by
  unfold jM at h;split at h
  .cases h;omega
  .rename_i p hp;have hs:aL l i p.1=true:=List.find?_some (p:=λp:Nm×Int=>aL l i p.1) hp;split at h
   .cases h
   .rename_i x j' ho;have h2:=h1.nxt (aH hE hi hs) ho;have h3:=aB.chain h1 g _ j' b j h2.2 h;omega
omit hx hP in
theorem aB.lvl{ops:List (Nm×Int)}{one:aZ jL}(h1:aB l 1 one):aB l 1 (a4h l ops one):=by unfold a4h;exact h1.bl λ_=>aB.chain hE (h1.le (by omega)) _ _
theorem aB.d3f:aB l 1 (a9n kw andP aI l ex):=aB.lvl hE (aB.unG hE hx hP)
theorem aB.b2E:aB l 1 (pL kw andP aI l ex):=aB.lvl hE (aB.d3f hE hx hP)
theorem aB.a7X:aB l 1 (a7U kw andP aI l ex):=by
 unfold a7U;refine(aB.b2E hE hx hP).bl λe=>λi a j hi h=>?_
 repeat' split at h
 all_goals first
  |(cases h;omega)
  |(rename_i hs
    have:=(((aB.b2E hE hx hP).le (by omega:0<=1)).bl λ_=>aB.bE _).nxt (aH hE hi hs) h;omega)
theorem aB.b9Y:aB l 1 (a3s kw andP aI l ex):=λi a j hi h=>by
 unfold a3s at h;split at h
 .rename_i hs;exact(((hx 3).le (by omega:0<=1)).bl λ_=>aB.bE _).nxt (aH hE hi hs) h
 .exact aB.a7X hE hx hP _ _ _ hi h
theorem aB.orG:aB l 1 (c3i kw andP aI l ex):=aB.lvl hE (aB.lvl hE (aB.b9Y hE hx hP))
theorem aB.exG:aB l 1 (b4w kw andP aI l ex):=λi a j hi h=>by
 unfold b4w at h;split at h
 .rename_i hs;exact((aB.e4l hE hx hP).le (by omega)).nxt (aH hE hi hs) h
 split at h
 .rename_i hs;exact(((hx 0).le (by omega:0<=1)).bl λ_=>((aB.exp hE _ _).le (by omega:0<=1)).bl λ_=>((hx 0).le (by omega:0<=1)).bl λ_=>((aB.exp hE _ _).le (by omega:0<=1)).bl λ_=>((hx 0).le (by omega:0<=1)).bl λ_=>aB.bE _).nxt (aH hE hi hs) h
 split at h
 .rename_i hs;exact((aB.c6m hE hx).le (by omega)).nxt (aH hE hi hs) h
 split at h
 .rename_i hs;exact((aB.e4m hE hx hP).le (by omega)).nxt (aH hE hi hs) h
 split at h
 .rename_i hs;exact(((aB.word hE).le (by omega:0<=1)).bl λ_=>((aB.mE hE hx).le (by omega:0<=1)).bl λ_=>((aB.exp hE _ _).le (by omega:0<=1)).bl λ_=>((hx 0).le (by omega:0<=1)).bl λ_=>aB.bE _).nxt (aH hE hi hs) h
 exact aB.orG hE hx hP _ _ _ hi h
end
end
theorem aB.exF(hP:aB l 0 (kO aI l)):∀n k,aB l 1 (zQ kw andP aI l n k)
 |0,k=>λi a j hi h=>by unfold zQ at h;cases h
 |n+1,k=>by unfold zQ;exact aB.ite (aB.unG hE (aB.exF hP n) hP) (aB.ite (aB.b9Y hE (aB.exF hP n) hP) (aB.exG hE (aB.exF hP n) hP))
theorem aB.expr(hP:aB l 0 (kO aI l)):aB l 1 (a7V kw andP aI l):=aB.exF hE hP _ _
end
end Go.Proofs.YtjpodcmhcenjjaaGreatDoor
end
section
namespace Go.Proofs.YtjpodcmhcenjjaaGreatDoor
section
variable {kw:Nm->Bool} {andP:Pr->Pr->Pr} {aI:List Tok->Nat->Nat->kN Pr} {l:List Tok} {α β:Type} {m k:Nat}
variable (hE:jJ l)
include hE
theorem aB.a0P:aB l 1 (xW kw l):=by unfold xW;exact aB.list hE (λa=>(aB.title hE).bl λ_=>((aB.word hE).le (by omega)).bl λ_=>aB.bE _) _
theorem aB.head(mode:Int):aB l 1 (a3t kw l mode):=by
 unfold a3t;refine(aB.word hE).bl λname=>aB.bl (m:=0) (λi a j hi h=>?_) λ_=>aB.bE _;split at h
 .rename_i hs;have h1:=aH hE hi hs;split at h
  .rename_i hf;have h2:=oQ hE h1 (a0S hE hf);cases h;omega
  .exact((aB.words hE).le (by omega)) _ _ _ hi h
 .cases h;omega
variable (hP:aB l 0 (kO aI l))
include hP
theorem aB.bound:aB l 1 (xX kw aI l):=by unfold xX;exact(aB.word hE).bl λ_=>((aB.exp hE _ _).le (by omega)).bl λ_=>((aB.vars hE _).le (by omega)).bl λ_=>((aB.exp hE _ _).le (by omega)).bl λ_=>hP.bl λ_=>((aB.exp hE _ _).le (by omega)).bl λ_=>hP.bl λ_=>((aB.exp hE _ _).le (by omega)).bl λ_=>aB.bE _
theorem aB.con:aB l 1 (b1R kw andP aI l):=by unfold b1R;refine(aB.title hE).bl λ_=>(aB.skip hE _).bl λb=>aB.ite ?_ (aB.bE _);refine aB.bl (aB.list hE (λa=>?_) _) λ_=>((aB.exp hE _ _).le (by omega)).bl λ_=>aB.bE _;exact((aB.word hE).le (by omega)).bl λ_=>((aB.exp hE _ _).le (by omega)).bl λ_=>((aB.typ hE hP).le (by omega)).bl λ_=>aB.bE _
theorem aB.data:aB l 1 (a3v kw andP aI l):=by unfold a3v;refine(aB.title hE).bl λ_=>aB.bl (aB.many (λa=>((aB.word hE).le (by omega)).bl λ_=>aB.bE _) _) λ_=>(aB.skip hE _).bl λb=>?_;refine aB.bl (aB.ite (((aB.vars hE _).le (by omega)).bl λ_=>((aB.exp hE _ _).le (by omega)).bl λ_=>aB.bE _) (aB.bE _)) λ_=>((aB.exp hE _ _).le (by omega)).bl λ_=>?_;exact aB.bl (aB.list hE (λa=>((aB.con hE hP).le (by omega)).bl λ_=>aB.bE _) _) λ_=>aB.bE _
theorem aB.cls:aB l 1 (zZ kw andP aI l):=by unfold zZ;refine(aB.title hE).bl λ_=>((aB.word hE).le (by omega)).bl λ_=>((aB.exp hE _ _).le (by omega)).bl λ_=>aB.bl (aB.list hE (λa=>?_) _) λ_=>aB.bE _;exact((aB.word hE).le (by omega)).bl λ_=>((aB.exp hE _ _).le (by omega)).bl λ_=>((aB.typ hE hP).le (by omega)).bl λ_=>aB.bE _
theorem aB.d3g:aB l 1 (a5m kw aI l):=by
 unfold a5m;refine(aB.word hE).bl λ_=>((aB.exp hE _ _).le (by omega)).bl λ_=>((aB.title hE).le (by omega)).bl λ_=>((aB.exp hE _ _).le (by omega)).bl λ_=>((aB.sort hE).le (by omega)).bl λ_=>((aB.exp hE _ _).le (by omega)).bl λ_=>?_;refine aB.bl (aB.list hE (λa=>?_) _) λ_=>((aB.exp hE _ _).le (by omega)).bl λ_=>(aB.skip hE _).bl λb=>(aB.ite hP (aB.bE _)).bl λ_=>aB.bE _;refine((aB.title hE).le (by omega)).bl λ_=>aB.bl (m:=0) (λi a j hi h=>?_) λ_=>((aB.exp hE _ _).le (by omega)).bl λ_=>hP.bl λ_=>aB.bE _;split at h
 .exact((aB.words hE).le (by omega)) _ _ _ hi h
 .cases h;omega
theorem aB.d3h:aB l 1 (a5n kw aI l):=by unfold a5n;exact(aB.word hE).bl λ_=>((aB.exp hE _ _).le (by omega)).bl λ_=>((aB.vars hE _).le (by omega)).bl λ_=>((aB.exp hE _ _).le (by omega)).bl λ_=>hP.bl λ_=>aB.bE _
theorem aB.body(d:oB):aB l 1 (a3u kw andP aI l d):=by unfold a3u;exact(aB.exp hE _ _).bl λ_=>((aB.expr hE hP).le (by omega)).bl λ_=>aB.bE _
def vY(aI:List Tok->Nat->Nat->kN Pr)(l:List Tok):Prop:=∀e i p j,i<l.length->aI l i e=.ok p j->i<=j/\j<l.length
omit hE hP in
theorem vY.pred(h:vY aI l):aB l 0 (kO aI l):=λi a j hi hx=>by have:=h l.length i a j hi hx;omega
end
section
variable {kw:Nm->Bool} {andP:Pr->Pr->Pr} {aI:List Tok->Nat->Nat->kN Pr} {l:List Tok}
variable (hE:jJ l) (hB:vY aI l)
include hE hB
theorem aB.sig:aB l 1 (a4i kw andP aI l):=by have hP:=hB.pred;unfold a4i;refine aB.br (aB.skip hE _) λb=>aB.br (aB.ite (((aB.word hE).le (by omega)).bl λ_=>(aB.many (λa=>((aB.word hE).le (by omega)).bl λ_=>aB.bE _) _).bl λ_=>((aB.exp hE _ _).le (by omega)).bl λ_=>aB.bE _) (aB.bE _)) λ_=>?_;refine aB.br (aB.skip hE _) λb=>aB.br (aB.ite (((aB.a0P hE).le (by omega)).bl λ_=>((aB.exp hE _ _).le (by omega)).bl λ_=>aB.bE _) (aB.bE _)) λ_=>?_;refine aB.br (aB.skip hE _) λb=>aB.br (aB.ite (((aB.vars hE _).le (by omega)).bl λ_=>((aB.exp hE _ _).le (by omega)).bl λ_=>aB.bE _) (aB.bE _)) λ_=>?_;refine aB.br (aB.many (λa=>((aB.exp hE _ _).le (by omega)).bl λ_=>((aB.bound hE hP).le (by omega)).bl λ_=>aB.bE _) _) λ_=>?_;refine(aB.typ hE hP).bl λ_=>(aB.skip hE _).bl λb=>aB.bl (aB.ite (λi a j hi h=>?_) (aB.bE _)) λ_=>aB.bE _;refine aB.list hE (m:=0) (λa=>aB.bl (m:=0) (λi' p j' hi' h'=>?_) λ_=>aB.bE _) _ i a j hi h;have:=hB _ _ _ _ hi' h';omega
theorem aB.defn{i j:Nat}{d:Option oB}(hi:i<l.length)(h:a0R kw andP aI l i=.ok d j):(d=none/\j=i)\/(i+1<=j/\j<l.length):=by
 have hP:=hB.pred;unfold a0R at h;split at h
 .rename_i hs;refine .inr (((((aB.head hE _).le (by omega:0<=1)).bl λ_=>(aB.skip hE _).bl λ_=>aB.bl (aB.ite (((aB.sig hE hB).le (by omega:0<=1)).bl λ_=>aB.bE _) (aB.bE _)) λ_=>((aB.body hE hP _).le (by omega:0<=1)))).nxt (aH hE hi hs) h)
 split at h
 .rename_i hs;exact .inr ((((aB.head hE _).le (by omega:0<=1)).bl λ_=>((aB.exp hE _ _).le (by omega:0<=1)).bl λ_=>((aB.sig hE hB).le (by omega:0<=1)).bl λ_=>aB.bE _).nxt (aH hE hi hs) h)
 split at h
 .rename_i hs;exact .inr ((((aB.head hE _).le (by omega:0<=1)).bl λ_=>((aB.exp hE _ _).le (by omega:0<=1)).bl λ_=>((aB.sig hE hB).le (by omega:0<=1)).bl λ_=>((aB.body hE hP _).le (by omega:0<=1))).nxt (aH hE hi hs) h)
 cases h;exact .inl ⟨rfl,rfl⟩
theorem aB.c6n:aB l 0 (a0R kw andP aI l):=λi d j hi h=>by
 rcases aB.defn hE hB hi h with⟨_,rfl⟩|h'
 .omega
 .omega
theorem aB.inst:aB l 1 (a5l kw andP aI l):=by have hP:=hB.pred;unfold a5l;refine(aB.title hE).bl λ_=>((aB.zF hE ((aB.typ hE hP).le (by omega)) hP).le (by omega)).bl λ_=>(aB.skip hE _).bl λb=>(aB.ite ((aB.a0P hE).le (by omega)) (aB.bE _)).bl λ_=>((aB.exp hE _ _).le (by omega)).bl λ_=>?_;exact aB.bl (aB.many (λa=>(aB.c6n hE hB).bl λ_=>((aB.exp hE _ _).le (by omega)).bl λ_=>aB.bE _) _) λ_=>((aB.exp hE _ _).le (by omega)).bl λ_=>aB.bE _
theorem aB.decl(m:oC):aB l 1 (xC kw andP aI l m):=λi a j hi h=>by
 have hP:=hB.pred;unfold xC at h;split at h
 .rename_i hs;exact(((aB.data hE hP).le (by omega:0<=1)).bl λ_=>aB.bE _).nxt (aH hE hi hs) h
 split at h
 .rename_i hs;exact(((aB.cls hE hP).le (by omega:0<=1)).bl λ_=>aB.bE _).nxt (aH hE hi hs) h
 split at h
 .rename_i hs;exact(((aB.inst hE hB).le (by omega:0<=1)).bl λ_=>aB.bE _).nxt (aH hE hi hs) h
 split at h
 .rename_i hs;exact(((aB.d3g hE hP).le (by omega:0<=1)).bl λ_=>aB.bE _).nxt (aH hE hi hs) h
 split at h
 .rename_i hs;exact(((aB.d3h hE hP).le (by omega:0<=1)).bl λ_=>aB.bE _).nxt (aH hE hi hs) h
 rw[cX]at h;cases hd:a0R kw andP aI l i with
 |bad n e=>rw[hd]at h;cases h
 |ok d j'=>
  rw[hd]at h;rcases aB.defn hE hB hi hd with⟨rfl,rfl⟩|h'
  .simp only[dN]at h;cases h
  .cases d with
   |none=>simp only[dN]at h;cases h
   |some d=>simp only[gF]at h;cases h;exact h'
end
end Go.Proofs.YtjpodcmhcenjjaaGreatDoor
end
section
namespace Go.Proofs.YtjpodcmhcenjjaaGreatDoor
def wO{α:Type}:kN α->kN α->Prop
 | .ok a j,.ok b k=>a=b/\j=k
 | .bad _ e,.bad _ f=>e=f
 |_,_=>False
def gJ{α:Type}(x y:aZ α):Prop:=∀i,wO (x i) (y i)
structure c3j (l l':List Tok):Prop where
 len:l'.length=l.length
 kind:∀i,(aK l' i).kind=(aK l i).kind
 text:∀i,(aK l' i).text=(aK l i).text
 n:∀i,(aK l' i).n=(aK l i).n
section
variable {α β:Type}
theorem wO.refl(r:kN α):wO r r:=by cases r<;>simp[wO]
theorem gJ.refl(x:aZ α):gJ x x:=λi=>wO.refl _
theorem gJ.zO{x y:aZ α}{f g:α->aZ β}(h:gJ x y)(hf:∀a,gJ (f a) (g a)):gJ (x >>=f) (y >>=g):=λi=>by
 have h1:=h i;rw[cX,cX];cases hx:x i with
 |ok a j=>cases hy:y i with
  |ok b k=>rw[hx,hy]at h1;obtain⟨rfl,rfl⟩:=h1;exact hf a j
  |bad n e=>rw[hx,hy]at h1;exact h1.elim
 |bad n e=>cases hy:y i with
  |ok b k=>rw[hx,hy]at h1;exact h1.elim
  |bad n' e'=>rw[hx,hy]at h1;exact h1
theorem gJ.ite{c:Prop}[Decidable c]{x y x' y':aZ α}(h:gJ x x')(h':gJ y y'):gJ (if c then x else y) (if c then x' else y'):=by
 split
 .exact h
 .exact h'
theorem wO.ite{c c':Prop}[Decidable c][Decidable c'](hc:c↔c'){x y x' y':kN α}(h:wO x x')(h':wO y y'):wO (if c then x else y) (if c' then x' else y'):=by
 by_cases h1:c
 .rw[if_pos h1,if_pos (hc.1 h1)];exact h
 .rw[if_neg h1,if_neg (λh2=>h1 (hc.2 h2))];exact h'
variable {kw:Nm->Bool} {andP:Pr->Pr->Pr} {aI:List Tok->Nat->Nat->kN Pr} {l l':List Tok} (hS:c3j l l')
include hS
theorem c3j.fix(i:Nat)(s:Nm):cK (aK l' i) s=cK (aK l i) s:=by unfold cK;rw[hS.kind,hS.text]
theorem c3j.is(i:Nat)(s:Nm):aL l' i s=aL l i s:=hS.fix i s
theorem c3j.wd(i:Nat):jY kw (aK l' i)=jY kw (aK l i):=by unfold jY;rw[hS.kind,hS.text]
theorem c3j.ti(i:Nat):rM (aK l' i)=rM (aK l i):=by unfold rM;rw[hS.kind]
theorem gJ.exp:∀s,gJ (aV l' s) (aV l s)
 |[]=>gJ.refl _
 |s::r=>λi=>by unfold aV;rw[hS.is];exact wO.ite Iff.rfl (gJ.exp r (i+1)) rfl
theorem gJ.skip(s:Nm):gJ (cY l' s) (cY l s):=λi=>by unfold cY;rw[hS.is];exact wO.refl _
theorem gJ.word:gJ (bL kw l') (bL kw l):=λi=>by unfold bL mB;rw[hS.wd,hS.text];exact wO.ite Iff.rfl (wO.refl _) rfl
theorem gJ.sort:gJ (xA kw l') (xA kw l):=λi=>by unfold xA mB;simp only[hS.ti,hS.wd,hS.text];exact wO.ite Iff.rfl (wO.refl _) rfl
theorem gJ.loop{c:Nm}{one a0T:α->aZ α}(h:∀a,gJ (a0T a) (one a)):∀(g:Nat) (a:α),gJ (gA l' c a0T g a) (gA l c one g a)
 |0,a=>λi=>rfl
 |g+1,a=>λi=>by
  unfold gA;have h1:=h a i;cases hx:a0T a i with
  |ok b j=>cases hy:one a i with
   |ok b' j'=>rw[hx,hy]at h1;obtain⟨rfl,rfl⟩:=h1;simp only;rw[hS.is];exact wO.ite Iff.rfl (gJ.loop h g b (j+1)) (wO.refl _)
   |bad n e=>rw[hx,hy]at h1;exact h1.elim
  |bad n e=>cases hy:one a i with
   |ok b' j'=>rw[hx,hy]at h1;exact h1.elim
   |bad n' e'=>rw[hx,hy]at h1;exact h1
theorem gJ.list{c:Nm}{one a0T:α->aZ α}(h:∀a,gJ (a0T a) (one a))(a:α):gJ (dE l' c a0T a) (dE l c one a):=by unfold dE;rw[hS.len];exact gJ.loop hS h _ a
theorem gJ.vars(v:Bool):gJ (rO kw l' v) (rO kw l v):=by unfold rO;exact gJ.list hS (λa=>(gJ.ite (gJ.skip hS _) (gJ.refl _)).zO λb=>(gJ.ite (gJ.refl _) (gJ.word hS)).zO λ_=>(gJ.exp hS _).zO λ_=>(gJ.sort hS).zO λ_=>gJ.refl _) _
theorem gJ.base:gJ (eO kw l') (eO kw l):=λi=>by unfold eO;simp only[hS.is,hS.wd,hS.text];exact wO.refl _
end
end Go.Proofs.YtjpodcmhcenjjaaGreatDoor
end
section
namespace Go.Proofs.YtjpodcmhcenjjaaGreatDoor
open Go Go.VM
def oL(x:psV):List D:=[.str x.1,.str x.2]
def b4z(p:Nm×Ty):List D:=.str p.1::tyC p.2
def a6M:jL->List D
 |⟨op,nm,n,ks,ps,al,ts⟩=>[.int .i64 op,.str nm,.int .i64 n,.sl (ks.map a6M),.sl (ps.map b4z),.sl (al.attach.map λa=>.str a.1.1::.sl (strs a.1.2.1)::a6M a.1.2.2),.sl (ts.map tyC)]
termination_by e=>SizeOf.sizeOf e
decreasing_by
 .have:=List.sizeOf_lt_of_mem ‹_∈ks›;simp only[jL.mk.sizeOf_spec];omega
 .obtain⟨⟨a,b,c⟩,ha⟩:=a;have:=List.sizeOf_lt_of_mem ha;simp only[Prod.mk.sizeOf_spec]at this;simp only[jL.mk.sizeOf_spec];omega
def c3k(a:Nm×List Nm×jL):List D:=.str a.1::.sl (strs a.2.1)::a6M a.2.2
theorem dX(e:jL):a6M e=[.int .i64 e.op,.str e.name,.int .i64 e.n,.sl (e.kids.map a6M),.sl (e.params.map b4z),.sl (e.alts.map c3k),.sl (e.types.map tyC)]:=by
 cases e;rw[a6M];simp only[List.cons.injEq,D.sl.injEq,true_and,and_true]
 first
  |exact List.attach_map_val (f:=c3k)
  |exact List.attach_map_val _ c3k
  |(conv=>rhs;rw[<-List.attach_map_subtype_val ‹List (Nm×List Nm×jL)›,List.map_map]
    rfl)
def c6o(b:tB):List D:=[.str b.name,.sl (b.vars.map oL)]++qH b.hyp++qH b.goal
def d8V(s:b8m):List D:=[.sl (strs s.vars),.sl (s.a0P.map oL),.sl (s.abs.map oL),.sl (s.bounds.map c6o)]++tyC s.type++[.sl (s.b9V.map qH)]
def b9Z(d:oB):List D:=[.str d.name,.sl (strs d.params)]++a6M d.body++[.int .i64 d.mode,.bool d.typed]++d8V d.sig
def b8n(c:a7b):List D:=[.str c.name,.sl (strs c.names),.sl (c.fields.map tyC)]
def b4A(d:b4p):List D:=[.str d.name,.sl (strs d.vars),.sl (d.a9i.map oL),.sl (d.cons.map b8n)]
def c3l(c:a9k):List D:=[.str c.name,.str c.var,.sl (c.methods.map b4z)]
def c8e(x:b4q):List D:=[.str x.cls]++tyC x.type++[.sl (x.a0P.map oL),.sl (x.defs.map b9Z)]
def c3m(x:b4r):List D:=[.str x.name,.str x.data,.str x.result,.sl (x.cases.map λc=>.str c.1::.sl (strs c.2.1)::qH c.2.2)]++qH x.inv
def c8f(q:b4s):List D:=[.str q.name,.sl (q.vars.map oL)]++qH q.body
def a7c(m:oC):List D:=[.sl (m.b4t.map b4A),.sl (m.a9l.map c3l),.sl (m.insts.map c8e),.sl (m.b4u.map c3m),.sl (m.c3h.map c8f),.sl (m.defs.map b9Z)]
end Go.Proofs.YtjpodcmhcenjjaaGreatDoor
end
end
