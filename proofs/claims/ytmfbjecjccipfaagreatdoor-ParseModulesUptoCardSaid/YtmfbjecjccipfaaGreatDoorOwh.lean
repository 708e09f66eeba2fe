/- Lemmas. No condition. -/
import Derived.Test.YtmfbjecjccipfaaGreatDoorOwg
set_option linter.unusedVariables false
set_option linter.unusedSimpArgs false
set_option linter.unusedSectionVars false
set_option maxRecDepth 100000
set_option maxHeartbeats 64000000
open Go.Proofs.Tryz
namespace Go.Proofs.YtmfbjecjccipfaaGreatDoor
section
structure dB where
 pl:Nat
 er:Int
 ln:Int
def RM(α:Type):=dB->α×dB
instance:Monad RM where
 pure:=λa s=>(a,s)
 bind:=λx f s=>f (x s).1 (x s).2
theorem zS{α:Type}(a:α)(s:dB):(pure a:RM α) s=(a,s):=rfl
theorem aQ{α β:Type}(x:RM α)(f:α->RM β)(s:dB):(x >>=f) s=f (x s).1 (x s).2:=rfl
def uH(c:dB->Bool):RM Bool:=λs=>(c s,s)
section
variable (kw:Nm->Bool) (andP:Pr->Pr->Pr) (rdP:List Tok->Nat->Nat->gO Pr) (l:List Tok)
def gG(k:Nat)(s:dB):Tok:=if s.er=0/\s.pl+k<l.length then aJ l (s.pl+k) else⟨0,[],0,0⟩
def mF(s:dB):dB:=if s.er=0 then⟨s.pl,14,(gG l 0 s).line⟩ else s
def bZ(k:Nat)(t:Nm)(s:dB):Bool:=decide ((gG l k s).kind=4)&&decide ((gG l k s).text=t)
def eY(t:Nm)(s:dB):Bool:=decide ((gG l 0 s).kind=1)&&decide ((gG l 0 s).text=t)
def mG(k:Nat)(s:dB):Bool:=decide ((gG l k s).kind=1)&& !kw (gG l k s).text
def pS(s:dB):Bool:=decide ((gG l 0 s).kind=2)
def rL(b:Bool):RM Nm:=λs=>if b=true/\s.er=0 then((gG l 0 s).text,⟨s.pl+1,s.er,s.ln⟩) else([],mF l s)
def a4B(c:dB->Bool):RM Nm:=λs=>rL l (c s) s
def aK(t:Nm):RM Unit:=λs=>((),(rL l (bZ l 0 t s) s).2)
def eL(t:Nm):RM Bool:=λs=>if bZ l 0 t s then(true,⟨s.pl+1,s.er,s.ln⟩) else(false,s)
def wO(t:Nm):RM Bool:=λs=>if eY l t s then(true,⟨s.pl+1,s.er,s.ln⟩) else(false,s)
def dY:RM Nm:=a4B l (mG kw l 0)
def dQ:RM Nm:=a4B l (pS l)
def wP(t:Nm):RM Nm:=a4B l (eY l t)
def b3R:RM Nm:=a4B l λs=>pS l s||mG kw l 0 s
def wC{α:Type}(c:dB->Bool)(one:α->RM α):Nat->α->RM α
 |0,a=>λs=>(a,s)
 |g+1,a=>λs=>if c s then wC c one g (one a s).1 (one a s).2 else(a,s)
def rM{α:Type}(c:dB->Bool)(one:α->RM α)(a:α):RM α:=wC c one (l.length+2) a
def mP{α:Type}(c:Nm)(one:α->RM α):Nat->α->RM α
 |0,a=>λs=>(a,s)
 |g+1,a=>λs=>if s.er=0 then(if bZ l 0 c (one a s).2 then mP c one g (one a s).1 ⟨(one a s).2.pl+1,(one a s).2.er,(one a s).2.ln⟩ else one a s) else(a,s)
def mH{α:Type}(c:Nm)(one:α->RM α)(a:α):RM α:=mP l c one (l.length+2) a
def pL(e:Nat):RM Pr:=λs=>if s.er=0 then(match rdP l s.pl e with
 |.ok p j=>(p,⟨j,0,s.ln⟩)
 |.bad n x=>(eE,⟨s.pl,x,n⟩)) else(eE,s)
def pT:RM Pr:=pL rdP l l.length
def a5i(w:Nm):RM (List Nm):=λs=>if bZ l 0 [44] s then mP l [44] (λout=>do let w <- dY kw l;pure (out++[w])) (l.length+1) [w] ⟨s.pl+1,s.er,s.ln⟩ else([w],s)
def jM:RM (List Nm):=do
 aK l [40]
 let w <- dY kw l
 let out <- a5i kw l w
 aK l [41]
 pure out
def wT(v:Bool):RM (List psV):=mH l [44] (λout=>do
 let name <- a4B l λs=>mG kw l 0 s||v&&eY l [118] s
 aK l [58]
 let t <- b3R kw l
 pure (out++[(name,t)])) []
def dN:RM (Ty×Bool):=λs=>
 if mG kw l 0 s then((wW 5 (gG l 0 s).text,true),⟨s.pl+1,s.er,s.ln⟩)
 else if !pS l s then((jZ,false),s)
 else((if (gG l 0 s).text=[73,110,116] then wW 1 [] else if (gG l 0 s).text=[66,111,111,108] then wW 2 [] else if (gG l 0 s).text=[67,101,108,108] then wW 3 [] else wW 4 (gG l 0 s).text,true),⟨s.pl+1,s.er,s.ln⟩)
section
variable (ty:RM Ty)
def a7Y:RM Ty:=do
 aK l [123]
 let _ <- wP l [118]
 aK l [58]
 let t <- ty
 let _ <- a4B l λs=>bZ l 0 [124] s&& !decide (t.op=6)
 let p <- pT rdP l
 aK l [125]
 pure {t with pred:=if t.pred.op=0 then p else andP t.pred p}
def a5R:RM Ty:=λs=>
 if bZ l 0 [123] s then a7Y andP rdP l ty s
 else if bZ l 0 [40] s then(do
  let t <- ty
  aK l [41]
  pure t:RM Ty) ⟨s.pl+1,s.er,s.ln⟩
 else((dN kw l s).1.1,if (dN kw l s).1.2 then(dN kw l s).2 else mF l (dN kw l s).2)
def a5S(name:Nm):RM Ty:=do
 let args <- rM l (λs=>mG kw l 0 s||(pS l s||(bZ l 0 [123] s||bZ l 0 [40] s))) (λout=>do let t <- a5R kw andP rdP l ty;pure (out++[t])) []
 let b <- eL l [60]
 if b then do
  let ps <- mH l [44] (λout=>do
   let _ <- wP l [118]
   aK l [46]
   let p <- pT rdP l
   pure (out++[p])) []
  aK l [62]
  pure {wW 4 name with args:=args,a6B:=ps}
 else pure {wW 4 name with args:=args}
def a0C:RM Ty:=do
 aK l [40]
 let named <- uH λs=>mG kw l 0 s&&bZ l 1 [58] s
 let (ns,ts) <- mH l [44] (λ(out:List Nm×List Ty)=>if named then(do
   let w <- dY kw l
   aK l [58]
   let t <- ty
   pure (out.1++[w],out.2++[t])) else(do
   let t <- ty
   pure (out.1,out.2++[t]))) ([],[])
 aK l [41]
 let c <- uH λs=>decide (ts.length=1)&&(!named&& !bZ l 0 [45,62] s)
 if c then pure (ts.headD jZ) else do
  aK l [45,62]
  let t <- ty
  pure {wW 6 []with names:=ns,args:=ts++[t]}
def a5T:RM Ty:=λs=>
 if s.er=0 then
  (if bZ l 0 [123] s then a7Y andP rdP l ty s
  else if bZ l 0 [40] s then a0C kw l ty s
  else if (dN kw l s).1.2 then(if (dN kw l s).1.1.op=4 then a5S kw andP rdP l ty (dN kw l s).1.1.name (dN kw l s).2 else((dN kw l s).1.1,(dN kw l s).2))
  else(jZ,mF l (dN kw l s).2))
 else(jZ,s)
end
def a7Z:Nat->RM Ty
 |0=>λs=>(jZ,s)
 |n+1=>a5T kw andP rdP l (a7Z n)
def sX:RM Ty:=a7Z kw andP rdP l (l.length+2)
def a5U:RM (List Ty):=do
 aK l [91]
 let out <- mH l [44] (λout=>do let t <- sX kw andP rdP l;pure (out++[t])) []
 aK l [93]
 pure out
section
variable (ex:Nat->RM cP)
def tH:RM (List cP):=do
 aK l [40]
 let out <- mH l [44] (λout=>do let e <- ex 0;pure (out++[e])) []
 aK l [41]
 pure out
def b7N(op:Int):RM cP:=do
 aK l [40]
 let e <- ex 0
 aK l [41]
 pure (eD op [e])
def c3P(op:Int):RM cP:=do
 aK l [40]
 let a <- ex 0
 aK l [44]
 let b <- ex 0
 aK l [41]
 pure (eD op [a,b])
def c7p:RM cP:=λs=>
 if bZ l 1 [45] s&&(decide ((gG l 2 s).kind=3)&&bZ l 3 [41] s) then(⟨1,[], -(gG l 2 s).n,[],[],[],[]⟩,⟨s.pl+4,s.er,s.ln⟩)
 else(do
  aK l [40]
  let e <- ex 0
  let b <- eL l [58]
  let e <- (if b then do let t <- sX kw andP rdP l;pure {eD 26 [e]with types:=[t]} else pure e:RM cP)
  aK l [41]
  pure e:RM cP) s
def b0O(ti call:Bool)(nm:Nm):RM cP:=do
 let ts <- (uH (bZ l 0 [91]) >>=λc=>if c then a5U kw andP rdP l else pure []:RM (List Ty))
 let ks <- (uH (λs=>call||bZ l 0 [40] s) >>=λc=>if c then tH l ex else pure []:RM (List cP))
 pure ⟨if call then 5 else if ti then 4 else 3,nm,0,ks,[],[],ts⟩
def b3S:RM cP:=λs=>b0O kw andP rdP l ex (pS l s) (!pS l s&&(bZ l 1 [91] s||bZ l 1 [40] s)) (rL l true s).1 (rL l true s).2
def a9a:RM cP:=λs=>
 if s.er=0 then
  (if (gG l 0 s).kind=3 then(⟨1,[],(gG l 0 s).n,[],[],[],[]⟩,⟨s.pl+1,s.er,s.ln⟩)
  else if eY l [116,114,117,101] s then(⟨2,[],1,[],[],[],[]⟩,⟨s.pl+1,s.er,s.ln⟩)
  else if eY l [102,97,108,115,101] s then(⟨2,[],0,[],[],[],[]⟩,⟨s.pl+1,s.er,s.ln⟩)
  else if eY l [110,101,119] s then b7N l ex 22 ⟨s.pl+1,s.er,s.ln⟩
  else if eY l [103,101,116] s then b7N l ex 23 ⟨s.pl+1,s.er,s.ln⟩
  else if eY l [115,101,116] s then c3P l ex 24 ⟨s.pl+1,s.er,s.ln⟩
  else if bZ l 0 [40] s then c7p kw andP rdP l ex s
  else if mG kw l 0 s||pS l s then b3S kw andP rdP l ex s
  else(qP,mF l s))
 else(qP,s)
def b5k:RM cP:=λs=>if bZ l 0 [45] s then(do let e <- ex 7;pure (eD 15 [e]):RM cP) ⟨s.pl+1,s.er,s.ln⟩ else a9a kw andP rdP l ex s
def xG(ops:List (Nm×Bool×Int))(s:dB):Int:=match ops.find? λp=>if p.2.1 then eY l p.1 s else bZ l 0 p.1 s with
 |none=>0
 |some p=>p.2.2
def wD(ops:List (Nm×Bool×Int)):RM Int:=λs=>if xG l ops s=0 then(0,s) else(xG l ops s,⟨s.pl+1,s.er,s.ln⟩)
def zT(ops:List (Nm×Bool×Int))(one:RM cP):Nat->cP->RM cP
 |0,e=>λs=>(e,s)
 |g+1,e=>λs=>if s.er=0/\ ¬xG l ops s=0 then zT ops one g (eD (xG l ops s) [e,(one ⟨s.pl+1,s.er,s.ln⟩).1]) (one ⟨s.pl+1,s.er,s.ln⟩).2 else(e,s)
def b5l(ops:List (Nm×Bool×Int))(one:RM cP):RM cP:=do
 let e <- one
 zT l ops one (l.length+2) e
abbrev vK:Nat->List (Nm×Bool×Int)
 |1=>[([124,124],false,20)]
 |2=>[([38,38],false,19)]
 |4=>[([43],false,10),([45],false,11)]
 |5=>[([42],false,12),([100,105,118],true,13),([109,111,100],true,14)]
 |_=>[]
def e3T:RM cP:=b5l l (vK 5) (b5k kw andP rdP l ex)
def a1D:RM cP:=b5l l (vK 4) (e3T kw andP rdP l ex)
def b7O:RM cP:=do
 let e <- a1D kw andP rdP l ex
 λs=>
  if (gG l 0 s).kind=4 then
   (if (gG l 0 s).text=[61,61] then(do let x <- a1D kw andP rdP l ex;pure (eD 16 [e,x]):RM cP) ⟨s.pl+1,s.er,s.ln⟩
   else if (gG l 0 s).text=[33,61] then(do let x <- a1D kw andP rdP l ex;pure (eD 21 [eD 16 [e,x]]):RM cP) ⟨s.pl+1,s.er,s.ln⟩
   else if (gG l 0 s).text=[60] then(do let x <- a1D kw andP rdP l ex;pure (eD 17 [e,x]):RM cP) ⟨s.pl+1,s.er,s.ln⟩
   else if (gG l 0 s).text=[60,61] then(do let x <- a1D kw andP rdP l ex;pure (eD 18 [e,x]):RM cP) ⟨s.pl+1,s.er,s.ln⟩
   else if (gG l 0 s).text=[62] then(do let x <- a1D kw andP rdP l ex;pure (eD 17 [x,e]):RM cP) ⟨s.pl+1,s.er,s.ln⟩
   else if (gG l 0 s).text=[62,61] then(do let x <- a1D kw andP rdP l ex;pure (eD 18 [x,e]):RM cP) ⟨s.pl+1,s.er,s.ln⟩
   else(e,s))
  else(e,s)
def b0P:RM cP:=λs=>if bZ l 0 [33] s then(do let e <- ex 3;pure (eD 21 [e]):RM cP) ⟨s.pl+1,s.er,s.ln⟩ else b7O kw andP rdP l ex s
def e9M:RM cP:=b5l l (vK 2) (b0P kw andP rdP l ex)
def d7Z:RM cP:=b5l l (vK 1) (e9M kw andP rdP l ex)
def b2r:RM (List (Nm×List Nm×cP)):=do
 aK l [123]
 let alts <- mH l [59] (λout=>do
  let c <- dQ l
  let b <- uH (bZ l 0 [40])
  let ns <- (if b then jM kw l else pure []:RM (List Nm))
  aK l [45,62]
  let b <- ex 0
  pure (out++[(c,ns,b)])) []
 aK l [125]
 pure alts
def a3b:RM (List (Nm×Ty)):=do
 aK l [40]
 let ps <- mH l [44] (λout=>do
  let w <- dY kw l
  let b <- eL l [58]
  let t <- (if b then sX kw andP rdP l else pure jZ)
  pure (out++[(w,t)])) []
 aK l [41]
 pure ps
def b7P:RM cP:=do
 let name <- dY kw l
 let b <- eL l [58]
 let ts <- (if b then do let t <- sX kw andP rdP l;pure [t] else pure []:RM (List Ty))
 aK l [61]
 let a <- ex 0
 let _ <- wP l [105,110]
 let c <- ex 0
 pure {eD 7 [a,c]with name:=name,types:=ts}
def b7Q:RM cP:=λs=>
 if s.er=0 then
  (if eY l [108,101,116] s then b7P kw andP rdP l ex ⟨s.pl+1,s.er,s.ln⟩
  else if eY l [105,102] s then(do
   let a <- ex 0
   let _ <- wP l [116,104,101,110]
   let b <- ex 0
   let _ <- wP l [101,108,115,101]
   let c <- ex 0
   pure (eD 8 [a,b,c]):RM cP) ⟨s.pl+1,s.er,s.ln⟩
  else if eY l [99,97,115,101] s then(do
   let a <- ex 0
   let _ <- wP l [111,102]
   let alts <- b2r kw l ex
   pure {eD 9 [a]with alts:=alts}:RM cP) ⟨s.pl+1,s.er,s.ln⟩
  else if eY l [102,117,110] s then(do
   let ps <- a3b kw andP rdP l
   aK l [45,62]
   let e <- ex 0
   pure {eD 6 [e]with params:=ps}:RM cP) ⟨s.pl+1,s.er,s.ln⟩
  else if eY l [117,115,101] s then(do
   let name <- dY kw l
   let ks <- tH l ex
   let _ <- wP l [105,110]
   let b <- ex 0
   pure {eD 25 (ks++[b])with name:=name}:RM cP) ⟨s.pl+1,s.er,s.ln⟩
  else d7Z kw andP rdP l ex s)
 else(qP,s)
end
def b2s:Nat->Nat->RM cP
 |0,_=>λs=>(qP,s)
 |n+1,k=>if k=7 then b5k kw andP rdP l (b2s n) else if k=3 then b0P kw andP rdP l (b2s n) else b7Q kw andP rdP l (b2s n)
def a4C:RM cP:=b2s kw andP rdP l (l.length+2) 0
def xM:RM (List psV):=mH l [44] (λout=>do
 let c <- dQ l
 let w <- dY kw l
 pure (out++[(c,w)])) []
def a9b:RM pR:=do
 let name <- dY kw l
 aK l [40]
 let vs <- wT kw l false
 aK l [41]
 let h <- pT rdP l
 aK l [45,62]
 let g <- pT rdP l
 aK l [46]
 pure ⟨name,vs,h,g⟩
def a3c(out:List pR):RM (List pR):=λs=>(a9b kw rdP l >>=λb=>pure (out++[b]):RM (List pR)) ⟨s.pl+1,s.er,s.ln⟩
def b2t:RM Pr:=λs=>pL rdP l (kC l (l.length+1) 0 s.pl) s
def a9W:RM a0i:=do
 let b <- wO l [102,111,114,97,108,108]
 let vs <- (if b then do
  let w <- dY kw l
  let ws <- rM l (mG kw l 0) (λout=>do let w <- dY kw l;pure (out++[w])) [w]
  aK l [46]
  pure ws else pure []:RM (List Nm))
 let b <- wO l [119,104,101,114,101]
 let ns <- (if b then do
  let ns <- xM kw l
  aK l [46]
  pure ns else pure []:RM (List psV))
 let b <- eL l [60]
 let abs <- (if b then do
  let abs <- wT kw l false
  aK l [62]
  aK l [46]
  pure abs else pure []:RM (List psV))
 let bs <- rM l (eY l [98,111,117,110,100]) (a3c kw rdP l) []
 let t <- sX kw andP rdP l
 let b <- wO l [109,101,116,114,105,99]
 let ms <- (if b then mH l [44] (λout=>do
  let p <- b2t rdP l
  pure (out++[p])) [] else pure []:RM (List Pr))
 pure ⟨vs,ns,abs,bs,t,ms⟩
def a1E:RM Int:=λs=>
 if eY l [100,101,102] s then(0,⟨s.pl+1,s.er,s.ln⟩)
 else if eY l [97,115,115,117,109,101] s then(1,⟨s.pl+1,s.er,s.ln⟩)
 else if eY l [114,101,102,108,101,99,116] s then(2,⟨s.pl+1,s.er,s.ln⟩)
 else(0,mF l s)
def b0Q:RM (List Nm):=λs=>if bZ l 0 [40] s&&bZ l 1 [41] s then([],⟨s.pl+2,s.er,s.ln⟩) else if bZ l 0 [40] s then jM kw l s else([],s)
def a1P:RM gB:=do
 let mode <- a1E l
 let name <- dY kw l
 let ps <- b0Q kw l
 let c <- uH λs=> !decide (mode=0)||bZ l 0 [58] s
 let sg <- (if c then do
  aK l [58]
  a9W kw andP rdP l else pure vZ:RM a0i)
 let e <- (if mode=1 then pure qP else do
  aK l [61]
  a4C kw andP rdP l:RM cP)
 pure ⟨name,ps,e,mode,c,sg⟩
def xN:RM (List Nm×List Ty):=mH l [44] (λ(out:List Nm×List Ty)=>do
 let w <- dY kw l
 aK l [58]
 let t <- sX kw andP rdP l
 pure (out.1++[w],out.2++[t])) ([],[])
def c1X:RM a1M:=do
 let name <- dQ l
 let b <- eL l [40]
 if b then do
  let (ns,ts) <- xN kw andP rdP l
  aK l [41]
  pure ⟨name,ns,ts⟩
 else pure ⟨name,[],[]⟩
def b7R:RM a4s:=do
 let name <- dQ l
 let vs <- rM l (mG kw l 0) (λout=>do let w <- dY kw l;pure (out++[w])) []
 let b <- eL l [60]
 let ps <- (if b then do
  let ps <- wT kw l false
  aK l [62]
  pure ps else pure []:RM (List psV))
 aK l [61]
 let cs <- mH l [124] (λout=>do let c <- c1X kw andP rdP l;pure (out++[c])) []
 pure ⟨name,vs,ps,cs⟩
def b2u:RM xK:=do
 let name <- dQ l
 let v <- dY kw l
 let _ <- wP l [119,105,116,104]
 let (ns,ts) <- xN kw andP rdP l
 pure ⟨name,v,ns.zip ts⟩
def b7S:RM a7G:=do
 let c <- dQ l
 let t <- a5R kw andP rdP l (sX kw andP rdP l)
 let b <- wO l [119,104,101,114,101]
 let ns <- (if b then xM kw l else pure [])
 aK l [123]
 let ds <- rM l (eY l [100,101,102]) (λout=>do
  let d <- a1P kw andP rdP l
  aK l [59]
  pure (out++[d])) []
 aK l [125]
 pure ⟨c,t,ns,ds⟩
def b7T:RM a7H:=do
 let name <- dY kw l
 aK l [58]
 let d <- dQ l
 aK l [45,62]
 let t <- b3R kw l
 aK l [123]
 let cs <- mH l [59] (λout=>do
  let c <- dQ l
  let b <- uH (bZ l 0 [40])
  let ns <- (if b then jM kw l else pure []:RM (List Nm))
  aK l [61]
  let p <- pT rdP l
  pure (out++[(c,ns,p)])) []
 aK l [125]
 let b <- wO l [105,110,118,97,114,105,97,110,116]
 let p <- (if b then pT rdP l else pure eE)
 pure ⟨name,d,t,cs,p⟩
def b7U:RM a7I:=do
 let name <- dY kw l
 aK l [40]
 let vs <- wT kw l true
 aK l [41]
 aK l [58]
 let p <- pT rdP l
 pure ⟨name,vs,p⟩
def xZ(m:eK):RM eK:=λs=>
 if eY l [100,97,116,97] s then(do let x <- b7R kw andP rdP l;pure {m with a2S:=m.a2S++[x]}:RM eK) ⟨s.pl+1,s.er,s.ln⟩
 else if eY l [99,108,97,115,115] s then(do let x <- b2u kw andP rdP l;pure {m with vY:=m.vY++[x]}:RM eK) ⟨s.pl+1,s.er,s.ln⟩
 else if eY l [105,110,115,116] s then(do let x <- b7S kw andP rdP l;pure {m with insts:=m.insts++[x]}:RM eK) ⟨s.pl+1,s.er,s.ln⟩
 else if eY l [109,101,97,115,117,114,101] s then(do let x <- b7T kw rdP l;pure {m with a2T:=m.a2T++[x]}:RM eK) ⟨s.pl+1,s.er,s.ln⟩
 else if eY l [113,117,97,108] s then(do let x <- b7U kw rdP l;pure {m with a4Z:=m.a4Z++[x]}:RM eK) ⟨s.pl+1,s.er,s.ln⟩
 else(do let x <- a1P kw andP rdP l;pure {m with defs:=m.defs++[x]}:RM eK) s
def c7q:RM eK:=rM l (λs=>decide (s.er=0)&& !decide ((gG l 0 s).kind=0)) (λm=>do
 let m <- xZ kw andP rdP l m
 aK l [59]
 pure m) ⟨[],[],[],[],[],[]⟩
def b7V:RM Unit:=λs=>((),if s.er=0/\ ¬(gG l 0 s).kind=0 then mF l s else s)
end
end
section
open Go Go.VM
variable {G:GT}
abbrev rfO(l:List Tok)(s:dB):bG:=.cells [.d (.sl (l.map bL)),.d (.int .i64 s.pl),.d (.int .i64 s.er),.d (.int .i64 s.ln)]
abbrev rfH(l:List Tok)(s:dB):List (Nat×bG):=[(100000,rfO l s)]
def RfG(G:GT){α:Type}(f:FuncId)(ds:List D)(l:List Tok)(s:dB)(y:α×dB)(enc:α->DV)(own:List (TypeId×List VM.Loc)):Prop:=CX prog G f ⟨.ptr 100000 0::ds.map .d,rfH l s,[]⟩ (.inl (enc y.1,rfH l y.2,own))
abbrev eH(G:GT){α:Type}(f:FuncId)(ds:List D)(l:List Tok)(s:dB)(y:α×dB)(enc:α->DV):Prop:=RfG G f ds l s y enc []
structure a0l {α:Type} (Q:Exit->St->Prop) (rs:List ResultVar) (l:List Tok) (enc:α->DV) (own:List (TypeId×List VM.Loc)) (y:α×dB):Prop where
 ok:∀e s,(e=.normal\/e=.ret)->a4z prog s rs (enc y.1) (rfH l y.2) own->Q e s
section
variable {α β:Type} {Q:Exit->St->Prop} {rs:List ResultVar} {l:List Tok} {s s1:dB} {enc:β->DV} {own:List (TypeId×List VM.Loc)} {a:α}
theorem a0l.step{x:RM α}{f:α->RM β}(h:a0l Q rs l enc own ((x >>=f) s))(hx:x s=(a,s1)):a0l Q rs l enc own (f a s1):=by rwa[aQ,hx]at h
theorem a0l.eq{y z:β×dB}(h:a0l Q rs l enc own y)(hx:y=z):a0l Q rs l enc own z:=hx▸h
variable{c:Prop}
theorem a0l.sW[Decidable c]{x y:β×dB}(h:a0l Q rs l enc own (if c then x else y))(hc:c):a0l Q rs l enc own x:=by rwa[if_pos hc]at h
theorem a0l.rK[Decidable c]{x y:β×dB}(h:a0l Q rs l enc own (if c then x else y))(hc:¬c):a0l Q rs l enc own y:=by rwa[if_neg hc]at h
variable{fn:Func}{f:FuncId}{k:Nat}{ds:List D}
theorem eH.xA{c:Code}{y:β×dB}(hf:prog.funcs[f]? =some fn)(hb:fn.body=some c)(hn:fn.ntmps=k)(hrs:fn.results.toList=rs)(h:∀Q:Exit->St->Prop,a0l Q rs l enc own y->SW prog G c ⟨.ptr 100000 0::ds.map .d++List.replicate (k-(.ptr 100000 0::ds.map .d:List DV).length) (.cX []),rfH l s,[]⟩ Q):RfG G f ds l s y enc own:=
 CX.b3P hf hb hn hrs rfl λQ h1 h2=>h Q ⟨λe s he hs=>h1 _ _ _ e s rfl he hs⟩
theorem eH.bO{c:Code}{y:β×dB}(hf:prog.funcs[f]? =some fn)(hb:fn.body=some c)(hn:fn.ntmps=k)(hrs:fn.results.toList=rs)(h:∀Q:Exit->St->Prop,a0l Q rs l enc own y->XK prog G [.code c] .normal ⟨.ptr 100000 0::ds.map .d++List.replicate (k-(.ptr 100000 0::ds.map .d:List DV).length) (.cX []),rfH l s,[]⟩ Q):RfG G f ds l s y enc own:=eH.xA hf hb hn hrs λQ hQ=>SW.xk (h Q hQ)
variable{av:List DV}{st:St}{ls:List (Option VM.Loc)}{dst:Option Tmp}
theorem rfZ{y:β×dB}{KK:St->Prop}(he:VM.Enters prog f)(hc:eH G f ds l s y enc)(pG:∀a s1,y=(a,s1)->KK ⟨kJ dst (enc a) st.tmps,cF 100000 (rfO l s1) st.H,jB dst (dropKey 100000 st.own)⟩)(hk:∀a,bB K1 (enc a)=true/\bI K1 (enc a)=enc a:=by intro a;exact⟨rfl,rfl⟩)(hw:WkT av (.ptr 100000 0::ds.map .d):=by simp)(hH:getKey 100000 st.H=some (rfO l s):=by simp):tQ prog G f av ls dst st KK Q true:=by
 refine tQ.mk (x:=.inl (enc y.1,rfH l y.2,[])) he hc K1 (λd H1 own1 hx=>?_) (λv hx=>by cases hx) ?_ ?_ rfl rfl (λd H1 own1 hx=>?_) (λv hx=>by cases hx) (rest:=st.own)
 .cases hx;simp[aW,bB,bD,bC,eX,bK,getKey,(hk y.1).1]
 .simpa[bA,bI,rk,kO]using hw
 .simp only[dC,rfO,List.map_cons,List.map_nil,rk,if_true,dL,bA,bI,WkH,and_true];exact⟨_,hH,by simp[WkO]⟩
 .cases hx;have:=pG y.1 y.2 rfl;simpa[bJ,bX,dL,bA,bI,rk,eI,(hk y.1).2]using this
theorem cH{y:β×dB}{all:Array Oper}{ops:List Oper}{k:List XI}(he:VM.Enters prog f)(hc:eH G f ds l s y enc)(pG:∀a s1,y=(a,s1)->XK prog G (.ops all ops::k) .normal ⟨kJ dst (enc a) st.tmps,cF 100000 (rfO l s1) st.H,jB dst (dropKey 100000 st.own)⟩ Q)(hk:∀a,bB K1 (enc a)=true/\bI K1 (enc a)=enc a:=by intro a;exact⟨rfl,rfl⟩)(hw:WkT av (.ptr 100000 0::ds.map .d):=by simp)(hH:getKey 100000 st.H=some (rfO l s):=by simp):dX prog G f av ls dst all ops k st Q:=dX.mk (rfZ (hw:=hw) (hH:=hH) he hc pG hk)
end
attribute [simp] zS
def bY(l:List Tok)(s:dB):Prop:=s.er=0->s.pl<l.length
theorem gV:VM.Enters prog 21:=.mk func21 rfl
theorem yR:VM.Enters prog 70:=.mk func70 rfl
theorem cC:VM.Enters prog 60:=.mk func60 rfl
theorem dA:VM.Enters prog 53:=.mk func53 rfl
theorem mN:VM.Enters prog 105:=.mk func105 rfl
theorem gQ:VM.Enters prog 104:=.mk func104 rfl
theorem cI:VM.Enters prog 59:=.mk func59 rfl
theorem oR:VM.Enters prog 23:=.mk func23 rfl
theorem bS:VM.Enters prog 35:=.mk func35 rfl
theorem cU:VM.Enters prog 69:=.mk func69 rfl
theorem gK:VM.Enters prog 71:=.mk func71 rfl
section
variable {l:List Tok} (hl:l.length<=50000)
include hl
theorem oG(k:Nat)(s:dB)(hv:bY l s)(hk:k<=10):eH G 21 [.int .i64 k] l s (gG l k s,s) (λt=>.d (.agg (bL t))):=by
 obtain⟨i,e,ln⟩:=s;by_cases he:e=0
 .subst he;have hi:i<l.length:=hv rfl;obtain⟨m,hm⟩:∃m,i+k=m:=⟨_,rfl⟩;have hw:IntKind.i64.wrap ((i:Int)+(k:Int))=(m:Int):=by rw[wrap64 (by omega)];omega
  by_cases h:m<l.length
  .have hg:gG l k ⟨i,0,ln⟩=l[m]:=by simp[gG,aJ,hm,h]
   have hn:¬l.length<=m:=by omega
   rw[hg];obtain⟨T,hT⟩:∃T,l[m]=T:=⟨_,rfl⟩;rw[hT];obtain⟨a,b,c,d⟩:=T
   show CH _ _ _ _ _
   refine CH.aY func21 rfl ntmps21 rfl (by simp) ?_;simp[hw,h,hn,hT,bL];exact⟨.mk,a7x.mk⟩
  .have hg:gG l k ⟨i,0,ln⟩=⟨0,[],0,0⟩:=by simp[gG,hm,h]
   have hn:l.length<=m:=by omega
   rw[hg]
   show CH _ _ _ _ _
   refine CH.aY func21 rfl ntmps21 rfl (by simp) ?_;simp[hw,hn,bL];exact a7x.mk
 .have hg:gG l k ⟨i,e,ln⟩=⟨0,[],0,0⟩:=by simp[gG,he]
  rw[hg]
  show CH _ _ _ _ _
  refine CH.aY func21 rfl ntmps21 rfl (by simp) ?_;simp[he,bL];exact a7x.mk
theorem a3d(s:dB)(hv:bY l s):eH G 70 [] l s ((),mF l s) (λ_=>.cX []):=by
 have hp:eH G 21 [.int .i64 0] l s _ _:=oG hl 0 s hv (by omega);obtain⟨i,e,ln⟩:=s;refine eH.bO func70 rfl ntmps70 rfl ?_;intro Q Q0;by_cases he:e=0
 .subst he;have Q0:=Q0.eq (congrArg (Prod.mk ()) (if_pos rfl));simp;refine cH gV hp (λT s1 h1=>?_);cases h1;generalize gG l 0 ⟨i,0,ln⟩=T at Q0|-;obtain⟨a,b,c,d⟩:=T;simp[bL];exact Q0.ok _ _ (.inl rfl) (by simp)
 .have Q0:=Q0.eq (congrArg (Prod.mk ()) (if_neg he));simp[he];exact Q0.ok _ _ (.inl rfl) (by simp)
theorem tI(k:Nat)(t:Nm)(s:dB)(hv:bY l s)(hk:k<=10):eH G 60 [.int .i64 k,.str t] l s (bZ l k t s,s) (λb=>.d (.bool b)):=by
 have hp:=oG (G:=G) hl k s hv hk;obtain⟨i,e,ln⟩:=s;refine eH.bO func60 rfl ntmps60 rfl ?_;intro Q Q0;unfold bZ at Q0;simp;refine cH gV hp (λT s1 h1=>?_);cases h1;generalize gG l k ⟨i,e,ln⟩=T at Q0|-;obtain⟨a,b,c,d⟩:=T;by_cases h4:a=4
 .simp[bL,h4];exact Q0.ok _ _ (.inr rfl) (by simp[h4])
 .simp[bL,h4];exact Q0.ok _ _ (.inr rfl) (by simp[h4])
theorem eM(t:Nm)(s:dB)(hv:bY l s):eH G 53 [.str t] l s (eY l t s,s) (λb=>.d (.bool b)):=by
 have hp:eH G 21 [.int .i64 0] l s _ _:=oG hl 0 s hv (by omega);obtain⟨i,e,ln⟩:=s;refine eH.bO func53 rfl ntmps53 rfl ?_;intro Q Q0;unfold eY at Q0;simp;refine cH gV hp (λT s1 h1=>?_);cases h1;generalize gG l 0 ⟨i,e,ln⟩=T at Q0|-;obtain⟨a,b,c,d⟩:=T;by_cases h4:a=1
 .simp[bL,h4];exact Q0.ok _ _ (.inr rfl) (by simp[h4])
 .simp[bL,h4];exact Q0.ok _ _ (.inr rfl) (by simp[h4])
theorem a5V(k:Nat)(s:dB)(hv:bY l s)(hk:k<=10):eH G 105 [.int .i64 k] l s (mG aH l k s,s) (λb=>.d (.bool b)):=by
 have hp:=oG (G:=G) hl k s hv hk;obtain⟨i,e,ln⟩:=s;refine eH.bO func105 rfl ntmps105 rfl ?_;intro Q Q0;unfold mG at Q0;simp;refine cH gV hp (λT s1 h1=>?_);cases h1;generalize gG l k ⟨i,e,ln⟩=T at Q0|-;obtain⟨a,b,c,d⟩:=T;by_cases h4:a=1
 .simp[bL,h4];refine jV.mk (.mk func154 rfl) (a4p b) ?_;simp;exact Q0.ok _ _ (.inr rfl) (by simp[h4])
 .simp[bL,h4];exact Q0.ok _ _ (.inr rfl) (by simp[h4])
theorem jN(s:dB)(hv:bY l s):eH G 104 [] l s (pS l s,s) (λb=>.d (.bool b)):=by have hp:eH G 21 [.int .i64 0] l s _ _:=oG hl 0 s hv (by omega);obtain⟨i,e,ln⟩:=s;refine eH.bO func104 rfl ntmps104 rfl ?_;intro Q Q0;unfold pS at Q0;simp;refine cH gV hp (λT s1 h1=>?_);cases h1;generalize gG l 0 ⟨i,e,ln⟩=T at Q0|-;obtain⟨a,b,c,d⟩:=T;simp[bL];exact Q0.ok _ _ (.inr rfl) (by simp)
theorem dZ(b:Bool)(s:dB)(hv:bY l s):eH G 59 [.bool b] l s (rL l b s) (λt=>.d (.str t)):=by
 have hp:eH G 21 [.int .i64 0] l s _ _:=oG hl 0 s hv (by omega);have hf:=a3d (G:=G) hl s hv;obtain⟨i,e,ln⟩:=s;refine eH.bO func59 rfl ntmps59 rfl ?_;intro Q Q0;unfold rL at Q0;simp;refine cH gV hp (λT s1 h1=>?_);cases h1;generalize gG l 0 ⟨i,e,ln⟩=T at Q0|-;obtain⟨a,x,c,d⟩:=T;cases b with
 |false=>have Q0:=Q0.rK (λh=>by cases h.1);simp[bL];refine cH yR hf (λu s1 h1=>?_);cases h1;simp;exact Q0.ok _ _ (.inr rfl) (by simp)
 |true=>
  by_cases he:e=0
  .subst he;have hi:i<l.length:=hv rfl;have hw:=aX (show i<9223372036854775807 by omega);have Q0:=Q0.sW ⟨rfl,rfl⟩;simp[bL,hw];exact Q0.ok _ _ (.inr rfl) (by simp)
  .have Q0:=Q0.rK (λh=>he h.2);simp[bL,he];refine cH yR hf (λu s1 h1=>?_);cases h1;simp;exact Q0.ok _ _ (.inr rfl) (by simp)
theorem qI(t:Nm)(s:dB)(hv:bY l s):eH G 23 [.str t] l s (aK l t s) (λ_=>.cX []):=by have hp:eH G 60 [.int .i64 0,.str t] l s _ _:=tI hl 0 t s hv (by omega);have hf:=dZ (G:=G) hl (bZ l 0 t s) s hv;unfold aK;obtain⟨i,e,ln⟩:=s;refine eH.bO func23 rfl ntmps23 rfl ?_;intro Q Q0;simp;refine cH cC hp (λT s1 h1=>?_);cases h1;simp;refine cH cI hf (λu s1 h1=>?_);rw[h1]at Q0;simp;exact Q0.ok _ _ (.inl rfl) (by simp)
theorem cN(t:Nm)(s:dB)(hv:bY l s):eH G 35 [.str t] l s (eL l t s) (λb=>.d (.bool b)):=by
 have hp:eH G 60 [.int .i64 0,.str t] l s _ _:=tI hl 0 t s hv (by omega);have her:bZ l 0 t s=true->s.er=0:=λh=>by
  by_cases he:s.er=0
  .exact he
  .simp[bZ,gG,he]at h
 unfold eL;obtain⟨i,e,ln⟩:=s;refine eH.bO func35 rfl ntmps35 rfl ?_;intro Q Q0;simp;refine cH cC hp (λT s1 h1=>?_);cases h1;cases hs:bZ l 0 t ⟨i,e,ln⟩with
 |true=>have hi:i<l.length:=hv (her hs);have hw:=aX (show i<9223372036854775807 by omega);have Q0:=Q0.sW hs;simp[hw];exact Q0.ok _ _ (.inr rfl) (by simp)
 |false=>have Q0:=Q0.rK (by rw[hs];decide);simp;exact Q0.ok _ _ (.inr rfl) (by simp)
theorem dR(t:Nm)(s:dB)(hv:bY l s):eH G 69 [.str t] l s (wO l t s) (λb=>.d (.bool b)):=by
 have hp:=eM (G:=G) hl t s hv;have her:eY l t s=true->s.er=0:=λh=>by
  by_cases he:s.er=0
  .exact he
  .simp[eY,gG,he]at h
 unfold wO;obtain⟨i,e,ln⟩:=s;refine eH.bO func69 rfl ntmps69 rfl ?_;intro Q Q0;simp;refine cH dA hp (λT s1 h1=>?_);cases h1;cases hs:eY l t ⟨i,e,ln⟩with
 |true=>have hi:i<l.length:=hv (her hs);have hw:=aX (show i<9223372036854775807 by omega);have Q0:=Q0.sW hs;simp[hw];exact Q0.ok _ _ (.inr rfl) (by simp)
 |false=>have Q0:=Q0.rK (by rw[hs];decide);simp;exact Q0.ok _ _ (.inr rfl) (by simp)
theorem jJ(s:dB)(hv:bY l s):eH G 71 [] l s (dY aH l s) (λt=>.d (.str t)):=by have hp:eH G 105 [.int .i64 0] l s _ _:=a5V hl 0 s hv (by omega);have hf:=dZ (G:=G) hl (mG aH l 0 s) s hv;obtain⟨i,e,ln⟩:=s;refine eH.bO func71 rfl ntmps71 rfl ?_;intro Q Q0;simp;refine cH mN hp (λT s1 h1=>?_);cases h1;simp;refine cH cI hf (λu s1 h1=>?_);have Q0:=Q0.eq h1;simp;exact Q0.ok _ _ (.inr rfl) (by simp)
theorem b7X(s:dB)(hv:bY l s):eH G 110 [] l s (b3R aH l s) (λt=>.d (.str t)):=by
 have ht:=jN (G:=G) hl s hv;have hp:eH G 105 [.int .i64 0] l s _ _:=a5V hl 0 s hv (by omega);have hf:=dZ (G:=G) hl (pS l s||mG aH l 0 s) s hv;obtain⟨i,e,ln⟩:=s;refine eH.bO func110 rfl ntmps110 rfl ?_;intro Q Q0;simp;refine cH gQ ht (λT s1 h1=>?_);cases h1;cases h:pS l ⟨i,e,ln⟩with
 |true=>rw[h,Bool.true_or]at hf;simp;refine cH cI hf (λu s1 h1=>?_);have Q0:=Q0.eq (show rL l (pS l ⟨i,e,ln⟩||mG aH l 0 ⟨i,e,ln⟩) ⟨i,e,ln⟩=(u,s1) by rw[h,Bool.true_or];exact h1);simp;exact Q0.ok _ _ (.inr rfl) (by simp)
 |false=>rw[h,Bool.false_or]at hf;simp;refine cH mN hp (λT s1 h1=>?_);cases h1;simp;refine cH cI hf (λu s1 h1=>?_);have Q0:=Q0.eq (show rL l (pS l ⟨i,e,ln⟩||mG aH l 0 ⟨i,e,ln⟩) ⟨i,e,ln⟩=(u,s1) by rw[h,Bool.false_or];exact h1);simp;exact Q0.ok _ _ (.inr rfl) (by simp)
end
end
section
def TkW(t:Tok):Prop:=t.kind=0\/t.kind=3\/(t.kind=1/\smU (t.text.headD 0)=true)\/(t.kind=2/\caU (t.text.headD 0)=true)\/(t.kind=4/\smU (t.text.headD 0)=false/\caU (t.text.headD 0)=false)
def sgN(s:Nm):Bool:= !smU (s.headD 0)&& !caU (s.headD 0)
variable{s:Nm}{t:Tok}
theorem TkW.sg(h:TkW t)(hs:sgN s=true):cQ t s=(decide (t.kind=4)&&decide (t.text=s)):=by
 unfold cQ;by_cases e:t.text=s
 .subst e;simp only[sgN,g3q,g3M]at hs;rcases h with h|h|⟨h,h2⟩|⟨h,h2⟩|⟨h,h2⟩
  .simp[h]
  .simp[h]
  .rw[hs.1]at h2;cases h2
  .rw[hs.2]at h2;cases h2
  .simp[h]
 .simp[e]
theorem TkW.ky(h:TkW t)(hs:smU (s.headD 0)=true)(hc:caU (s.headD 0)=false):cQ t s=(decide (t.kind=1)&&decide (t.text=s)):=by
 unfold cQ;by_cases e:t.text=s
 .subst e;rcases h with h|h|⟨h,h2⟩|⟨h,h2⟩|⟨h,h2⟩
  .simp[h]
  .simp[h]
  .simp[h]
  .rw[hc]at h2;cases h2
  .rw[hs]at h2;cases h2.1
 .simp[e]
theorem TkW.ti(h:TkW t)(hs:caU (s.headD 0)=true)(hc:smU (s.headD 0)=false):cQ t s=(decide (t.kind=2)&&decide (t.text=s)):=by
 unfold cQ;by_cases e:t.text=s
 .subst e;rcases h with h|h|⟨h,h2⟩|⟨h,h2⟩|⟨h,h2⟩
  .simp[h]
  .simp[h]
  .rw[hc]at h2;cases h2
  .simp[h]
  .rw[hs]at h2;cases h2.2
 .simp[e]
def tZ{α:Type}(ln:Int)(x:gO α)(y:α×dB):Prop:=match x with
 |.ok a j=>y=(a,⟨j,0,ln⟩)
 |.bad n e=>e≠0/\y.2.er=e/\y.2.ln=n
structure aF {α:Type} (l:List Tok) (low:Nat) (x:bF α) (y:RM α):Prop where
 yS:∀i ln,low<=i->i<l.length->tZ ln (x i) (y ⟨i,0,ln⟩)
 qY:∀s,s.er≠0->(y s).2=s
 av:aB l 0 x
structure RfH (rdP:List Tok->Nat->Nat->gO Pr) (l:List Tok):Prop where
 fin:pK l
 tkw:∀i,TkW (aJ l i)
 mZ:a5L rdP l
 nz:∀i e n x,i<l.length->rdP l i e=.bad n x->x≠0
 met:∀i p k,i<l.length->rdP l i (kC l (l.length+1) 0 i)=.ok p k->aL l k [44]=true->kC l (l.length+1) 0 (k+1)=kC l (l.length+1) 0 i
def rZ{α:Type}(y:RM α):Prop:=∀s,s.er≠0->(y s).2=s
section
variable {kw:Nm->Bool} {l:List Tok} {low m:Nat} {α β:Type} {ln:Int}
variable{i k:Nat}
theorem aF.up{x:bF α}{y:RM α}(h:aF l low x y)(hk:low<=k):aF l k x y:=⟨λi ln h1 h2=>h.yS i ln (by omega) h2,h.qY,h.av⟩
theorem aF.bP(a:α):aF l low (pure a) (pure a):=⟨λi ln _ _=>rfl,λs _=>rfl,aB.bP a⟩
theorem rZ.bP(a:α):rZ (pure a:RM α):=λs _=>rfl
theorem rZ.xW{x:RM α}{f:α->RM β}(hx:rZ x)(hf:∀a,rZ (f a)):rZ (x >>=f):=λs h=>by rw[aQ];have h1:=hx s h;rw[hf _ _ (by rw[h1];exact h),h1]
theorem tZ.xW{x:bF α}{y:RM α}{f:α->bF β}{g:α->RM β}(h:tZ ln (x i) (y ⟨i,0,ln⟩))(hk:∀a,rZ (g a))(hf:∀a j,x i=.ok a j->tZ ln (f a j) (g a ⟨j,0,ln⟩)):tZ ln ((x >>=f) i) ((y >>=g) ⟨i,0,ln⟩):=by
 rw[cR,aQ];cases hx:x i with
 |ok a j=>rw[hx]at h;have h:y ⟨i,0,ln⟩=(a,⟨j,0,ln⟩):=h;rw[h];exact hf a j hx
 |bad n e=>
  rw[hx]at h;obtain⟨h1,h2,h3⟩:e≠0/\_:=h;have h4:=hk (y ⟨i,0,ln⟩).1 (y ⟨i,0,ln⟩).2 (by rw[h2];exact h1);refine⟨h1,?_,?_⟩
  .rw[h4];exact h2
  .rw[h4];exact h3
theorem aF.b0{x:bF α}{y:RM α}{f:α->bF β}{g:α->RM β}(hx:aF l low x y)(hf:∀a,aF l low (f a) (g a)):aF l low (x >>=f) (y >>=g):=
 ⟨λi ln h1 h2=>tZ.xW (hx.yS i ln h1 h2) (λa=>(hf a).qY) λa j h=>(hf a).yS j ln (by have:=hx.av i a j h2 h;omega) (hx.av i a j h2 h).2,rZ.xW hx.qY λa=>(hf a).qY,hx.av.bl λa=>(hf a).av⟩
theorem aF.ite{c:Bool}{x x':bF α}{y y':RM α}(h:aF l low x y)(h':aF l low x' y'):aF l low (if c then x else x') (if c then y else y'):=by
 cases c
 .exact h'
 .exact h
variable{c:dB->Bool}
theorem aF.test{x:bF α}{g:Bool->RM α}(hk:∀b,rZ (g b))(ax:aB l 0 x)(h:∀i ln,low<=i->i<l.length->tZ ln (x i) (g (c ⟨i,0,ln⟩) ⟨i,0,ln⟩)):aF l low x (uH c >>=g):=⟨h,λs hs=>hk _ s hs,ax⟩
variable {rdP:List Tok->Nat->Nat->gO Pr} (H:RfH rdP l)
theorem b7Y(hE:pK l)(hi:¬i<l.length):(aJ l i).kind=0:=by
 have h:=hE.2;have e:aJ l i=aJ l (l.length-1):=by have hp:0<l.length:=g3U.2 hE.1;unfold aJ;rw[if_neg hi,if_pos (by omega)];rw[List.getLastD_eq_getLast?,List.getLast?_eq_getElem?,g4s]
 rw[e];exact h
theorem b6x(h:i+k<l.length):gG l k ⟨i,0,ln⟩=aJ l (i+k):=by unfold gG;rw[if_pos ⟨rfl,h⟩]
theorem a0D(h:i<l.length):gG l 0 ⟨i,0,ln⟩=aJ l i:=by
 rw[b6x (k:=0) h]
 rfl
variable{s:dB}
theorem b2v(h:s.er≠0):gG l k s=⟨0,[],0,0⟩:=by unfold gG;rw[if_neg (λh'=>h h'.1)]
theorem c1Y(hE:pK l)(k i:Nat):(gG l k ⟨i,0,ln⟩).kind=(aJ l (i+k)).kind:=by
 by_cases h:i+k<l.length
 .rw[b6x h]
 .rw[b7Y hE h];unfold gG;rw[if_neg (λh'=>h h'.2)]
variable{t:Nm}
include H in
theorem a5W(k i:Nat)(ht:sgN t=true):bZ l k t ⟨i,0,ln⟩=aL l (i+k) t:=by
 unfold bZ aL;rw[(H.tkw (i+k)).sg ht];by_cases h:i+k<l.length
 .rw[b6x h]
 .rw[c1Y H.fin,b7Y H.fin h];simp
include H in
theorem pU(i:Nat)(ht:sgN t=true):bZ l 0 t ⟨i,0,ln⟩=aL l i t:=a5W H 0 i ht
include H in
theorem kX(hi:i<l.length)(h1:smU (t.headD 0)=true)(h2:caU (t.headD 0)=false):eY l t ⟨i,0,ln⟩=aL l i t:=by unfold eY aL;rw[(H.tkw i).ky h1 h2,a0D (by omega)]
theorem a3Z(kw:Nm->Bool)(hi:i<l.length):mG kw l 0 ⟨i,0,ln⟩=kL kw (aJ l i):=by unfold mG kL;rw[a0D (by omega)]
theorem a9c(hi:i<l.length):pS l ⟨i,0,ln⟩=rW (aJ l i):=by unfold pS rW;rw[a0D (by omega)]
theorem tJ(h:s.er≠0):bZ l k t s=false:=by unfold bZ;rw[b2v h];simp
theorem uQ(h:s.er≠0):eY l t s=false:=by unfold eY;rw[b2v h];simp
theorem a9d(h:s.er≠0):mG kw l k s=false:=by unfold mG;rw[b2v h];simp
theorem c3Q(h:s.er≠0):pS l s=false:=by unfold pS;rw[b2v h];simp
theorem b3T(h:s.er≠0):mF l s=s:=by unfold mF;rw[if_neg h]
theorem wE(hi:i<l.length):mF l ⟨i,0,ln⟩=⟨i,14,(aJ l i).line⟩:=by unfold mF;rw[if_pos rfl,a0D (by omega)]
theorem a9e(hi:i<l.length):(mF l ⟨i,0,ln⟩).er≠0:=by
 rw[wE hi]
 show(14:Int)≠0
 decide
theorem tZ.fail(hi:i<l.length)(a:α):tZ ln (eV l i) (a,mF l ⟨i,0,ln⟩):=by rw[wE hi];exact⟨by decide,rfl,rfl⟩
theorem rZ.take(b:Bool):rZ (rL l b):=λs h=>by unfold rL;rw[if_neg (λh'=>h h'.2)];exact b3T h
theorem rZ.tk(c:dB->Bool):rZ (a4B l c):=λs h=>rZ.take (c s) s h
theorem rZ.b7Z(t:Nm):rZ (aK l t):=λs h=>rZ.take _ s h
theorem rZ.a9X(t:Nm):rZ (eL l t):=λs h=>by unfold eL;rw[tJ h];rfl
theorem rZ.beg(t:Nm):rZ (wO l t):=λs h=>by unfold wO;rw[uQ h];rfl
theorem aF.take{ok:Tok->Bool}(ax:aB l 1 (pD l ok))(h:∀i ln,low<=i->i<l.length->c ⟨i,0,ln⟩=ok (aJ l i)):aF l low (pD l ok) (a4B l c):=⟨λi ln h1 h2=>by
 unfold pD a4B rL;rw[h i ln h1 h2];cases hk:ok (aJ l i)with
 |true=>
  rw[if_pos rfl,if_pos ⟨rfl,rfl⟩,a0D (by omega)]
  rfl
 |false=>rw[if_neg (by decide),if_neg (λh=>by cases h.1)];exact tZ.fail h2 _,rZ.tk c,ax.le (by omega)⟩
theorem aF.word(H:RfH rdP l:=by assumption):aF l low (bV kw l) (dY kw l):=aF.take (aB.word H.fin) λi ln _ h=>a3Z kw h
theorem aF.title(H:RfH rdP l:=by assumption):aF l low (mC l) (dQ l):=aF.take (aB.title H.fin) λi ln _ h=>a9c h
theorem aF.sort(H:RfH rdP l:=by assumption):aF l low (a1x kw l) (b3R kw l):=aF.take (aB.sort H.fin) λi ln _ h=>by rw[a9c h,a3Z kw h,Bool.or_comm]
variable{r:List Nm}
theorem tZ.tk(hi:i<l.length){g:Nm->RM β}{f:Unit->bF β}(hc:c ⟨i,0,ln⟩=aL l i t)(hk:∀a,rZ (g a))(hf:aL l i t=true->∀a,tZ ln ((aR l r >>=f) (i+1)) (g a ⟨i+1,0,ln⟩)):tZ ln ((aR l (t::r) >>=f) i) ((a4B l c >>=g) ⟨i,0,ln⟩):=by
 rw[cR,aQ];unfold aR a4B rL;rw[hc];cases h:aL l i t with
 |true=>rw[if_pos rfl,if_pos ⟨rfl,rfl⟩];have:=hf h (gG l 0 ⟨i,0,ln⟩).text;rw[cR]at this;exact this
 |false=>
  rw[if_neg (by decide),if_neg (λh=>by cases h.1)];have h4:=hk [] (mF l ⟨i,0,ln⟩) (a9e hi);refine⟨by decide,?_,?_⟩
  .rw[h4,wE hi]
  .rw[h4,wE hi]
theorem aB.exB(hE:pK l){f:Unit->bF β}(h:aB l 0 (aR l r >>=f)):aB l 0 (aR l (t::r) >>=f):=λi a j hi hx=>by
 rw[cR]at hx;unfold aR at hx;cases hs:aL l i t with
 |true=>rw[hs,if_pos rfl, <- cR (x:=aR l r)]at hx;have:=h (i+1) a j (aV hE hi hs) hx;omega
 |false=>rw[hs]at hx;cases hx
theorem aF.key{g:Nm->RM β}{f:Unit->bF β}(hf:∀a,aF l (low+1) (aR l r >>=f) (g a))(h1:smU (t.headD 0)=true:=by decide)(h2:caU (t.headD 0)=false:=by decide)(H:RfH rdP l:=by assumption):aF l low (aR l (t::r) >>=f) (wP l t >>=g):=
 ⟨λi ln h3 h4=>tZ.tk h4 (kX H h4 h1 h2) (λa=>(hf a).qY) λhs a=>(hf a).yS (i+1) ln (by omega) (aV H.fin h4 hs),rZ.xW (rZ.tk _) λa=>(hf a).qY,aB.exB H.fin (hf []).av⟩
theorem aF.b7Z{t:Nm}{r:List Nm}{g:Unit->RM β}{f:Unit->bF β}(hf:aF l (low+1) (aR l r >>=f) (g ()))(ht:sgN t=true:=by decide)(H:RfH rdP l:=by assumption):aF l low (aR l (t::r) >>=f) (aK l t >>=g):=
 ⟨λi ln h3 h4=>by have:=tZ.tk (ln:=ln) (t:=t) (r:=r) (c:=bZ l 0 t) h4 (g:=λ_=>g ()) (f:=f) (pU H i ht) (λ_=>hf.qY) λhs _=>hf.yS (i+1) ln (by omega) (aV H.fin h4 hs);exact this,rZ.xW (rZ.b7Z _) λ_=>hf.qY,aB.exB H.fin hf.av⟩
theorem aF.mus{g:Unit->RM β}{f:Unit->bF β}(hf:aF l (low+1) (f ()) (g ()))(ht:sgN t=true:=by decide)(H:RfH rdP l:=by assumption):aF l low (aR l [t] >>=f) (aK l t >>=g):=aF.b7Z hf ht
theorem aF.nil{g:RM β}{f:Unit->bF β}(h:aF l low (f ()) g):aF l low (aR l [] >>=f) g:=h
theorem aF.a9X{t:Nm}(ht:sgN t=true:=by decide)(H:RfH rdP l:=by assumption):aF l low (cS l t) (eL l t):=⟨λi ln h1 h2=>by
 unfold cS eL;rw[pU H i ht];split
 .rfl
 .rfl,rZ.a9X t,aB.skip H.fin t⟩
theorem aF.beg{t:Nm}(h1:smU (t.headD 0)=true:=by decide)(h2:caU (t.headD 0)=false:=by decide)(H:RfH rdP l:=by assumption):aF l low (cS l t) (wO l t):=⟨λi ln _ hi=>by
 unfold cS wO;rw[kX H hi h1 h2];split
 .rfl
 .rfl,rZ.beg t,aB.skip H.fin t⟩
theorem rZ.loop{c:Nm}{one:α->RM α}(h:∀a,rZ (one a)):∀(g:Nat)(a:α),rZ (mP l c one g a)
 |0,a=>λs _=>rfl
 |g+1,a=>λs hs=>by unfold mP;rw[if_neg hs]
include H in
theorem tZ.loop{c:Nm}(ht:sgN c=true){one:α->bF α}{one':α->RM α}(h0:∀a,aF l low (one a) (one' a)):∀(g:Nat)(a:α)(i:Nat),low<=i->i<l.length->l.length<g+i->tZ ln (jC l c one g a i) (mP l c one' g a ⟨i,0,ln⟩)
 |0,a,i,h1,h2,h3=>absurd h3 (by omega)
 |g+1,a,i,h1,h2,h3=>by
  unfold jC mP;rw[if_pos rfl];have h:=(h0 a).yS i ln h1 h2;cases hx:one a i with
  |bad n e=>rw[hx]at h;obtain⟨k1,k2,k3⟩:e≠0/\_:=h;rw[tJ (by rw[k2];exact k1),if_neg (by decide)];exact⟨k1,k2,k3⟩
  |ok b j=>
   rw[hx]at h;have h:one' a ⟨i,0,ln⟩=(b,⟨j,0,ln⟩):=h;have ha:=(h0 a).av i b j h2 hx;rw[h];simp only[pU H j ht];cases hs:aL l j c with
   |true=>rw[if_pos rfl,if_pos rfl];exact tZ.loop ht h0 g b (j+1) (by omega) (aV H.fin ha.2 hs) (by omega)
   |false=>
    rw[if_neg (by decide),if_neg (by decide)]
    rfl
theorem aF.list{c:Nm}{one:α->bF α}{one':α->RM α}(h0:∀a,aF l low (one a) (one' a))(a:α)(ht:sgN c=true:=by decide)(H:RfH rdP l:=by assumption):aF l low (dJ l c one a) (mH l c one' a):=
 ⟨λi ln h1 h2=>tZ.loop H ht h0 _ a i h1 h2 (by omega),rZ.loop (λa=>(h0 a).qY) _ a,aB.list H.fin (λa=>(h0 a).av) a⟩
theorem rZ.b5U(hc:∀s,s.er≠0->c s=false){one:α->RM α}:∀(g:Nat)(a:α),rZ (wC c one g a)
 |0,a=>λs _=>rfl
 |g+1,a=>λs hs=>by unfold wC;rw[hc s hs];rfl
theorem tZ.b5U{c:Nat->Bool}{c':dB->Bool}(hc:∀s,s.er≠0->c' s=false)(hcc:∀i ln,i<l.length->c' ⟨i,0,ln⟩=c i){one:α->bF α}{one':α->RM α}(h0:∀a i ln,low<=i->i<l.length->c i=true->tZ ln (one a i) (one' a ⟨i,0,ln⟩))(a1:∀a i b j,i<l.length->c i=true->one a i=.ok b j->i+1<=j/\j<l.length):∀(g:Nat)(a:α)(i:Nat),low<=i->i<l.length->l.length<g+i->tZ ln (gE c one g a i) (wC c' one' g a ⟨i,0,ln⟩)
 |0,a,i,h1,h2,h3=>absurd h3 (by omega)
 |g+1,a,i,h1,h2,h3=>by
  unfold gE wC;rw[hcc i ln h2];cases hci:c i with
  |false=>
   rw[if_neg (by decide),if_neg (by decide)]
   rfl
  |true=>
   rw[if_pos rfl,if_pos rfl];have h:=h0 a i ln h1 h2 hci;cases hx:one a i with
   |bad n e=>rw[hx]at h;obtain⟨k1,k2,k3⟩:e≠0/\_:=h;have hk:=rZ.b5U hc (one:=one') g (one' a ⟨i,0,ln⟩).1 (one' a ⟨i,0,ln⟩).2 (by rw[k2];exact k1);exact⟨k1,by rw[hk];exact k2,by rw[hk];exact k3⟩
   |ok b j=>rw[hx]at h;have h:one' a ⟨i,0,ln⟩=(b,⟨j,0,ln⟩):=h;have ha:=a1 a i b j h2 hci hx;rw[h];exact tZ.b5U hc hcc h0 a1 g b j (by omega) ha.2 (by omega)
theorem aF.many{c:Nat->Bool}{c':dB->Bool}(hc:∀s,s.er≠0->c' s=false)(hcc:∀i ln,i<l.length->c' ⟨i,0,ln⟩=c i){one:α->bF α}{one':α->RM α}(h0:∀a i ln,low<=i->i<l.length->c i=true->tZ ln (one a i) (one' a ⟨i,0,ln⟩))(a1:∀a i b j,i<l.length->c i=true->one a i=.ok b j->i+1<=j/\j<l.length)(a:α):aF l low (rJ l c one a) (rM l c' one' a):=
 ⟨λi ln h1 h2=>tZ.b5U hc hcc h0 a1 _ a i h1 h2 (by omega),rZ.b5U hc _ a,aB.b5U (λa i b j hi hc h=>by have:=a1 a i b j hi hc h;omega) _ a⟩
end
end
section
open Go Go.VM
variable {G:GT}
variable{s s1:dB}{m:Nat}{l:List Tok}
theorem aF.mZ{α:Type}{low:Nat}{x:bF α}{y:RM α}(h:aF l low x y)(ax:aB l m x){a:α}(hv:bY l s)(cM:s.er=0->low<=s.pl)(hy:y s=(a,s1)):s1.er=0->s.er=0/\s.pl+m<=s1.pl/\s1.pl<l.length:=λh1=>by
 by_cases he:s.er=0
 .obtain⟨i,e,ln⟩:=s;simp only at he;subst he;have hi:i<l.length:=hv rfl;have hs:=h.yS i ln (cM rfl) hi;rw[hy]at hs;cases hx:x i with
  |ok b j=>rw[hx]at hs;have hs:(a,s1)=(b,⟨j,0,ln⟩):=hs;cases hs;exact⟨rfl,ax i _ j hi hx⟩
  |bad n e=>rw[hx]at hs;obtain⟨k1,k2,k3⟩:e≠0/\_:=hs;exact absurd (k2.symm.trans h1) k1
 .have:=h.qY s he;rw[hy]at this;exact absurd (this▸h1) he
theorem aF.d4m{α:Type}{x:bF α}{y:RM α}(h:aF l 0 x y)(ax:aB l m x){a:α}(hv:bY l s)(hy:y s=(a,s1)):s1.er=0->s.er=0/\s.pl+m<=s1.pl/\s1.pl<l.length:=h.mZ ax hv (λ_=>Nat.zero_le _) hy
theorem aF.c7r{α:Type}{x:bF α}{y:RM α}(h:aF l 0 x y){a:α}(hv:bY l s)(hy:y s=(a,s1)):s1.er=0->s.er=0/\s.pl+0<=s1.pl/\s1.pl<l.length:=h.d4m h.av hv hy
theorem bY.next{k:Nat}(h:s1.er=0->s.er=0/\s.pl+k<=s1.pl/\s1.pl<l.length):bY l s1:=λh1=>(h h1).2.2
theorem aF.next{α:Type}{l:List Tok}{x:bF α}{y:RM α}(h:aF l 0 x y){s s1:dB}{a:α}(hv:bY l s)(hy:y s=(a,s1)):bY l s1:=bY.next (h.c7r hv hy)
section
variable {α:Type} {l:List Tok} {c:Code} {st:St} {Q:Exit->St->Prop}
theorem a2u(hE:pK l){s:dB}{t:Nm}(h:bZ l 0 t s=true):s.er=0/\s.pl+1<l.length:=by
 unfold bZ gG at h;by_cases hs:s.er=0/\s.pl+0<l.length
 .rw[if_pos hs]at h;simp only[g3q,g4e]at h;exact⟨hs.1,rD hE (i:=s.pl) hs.2 (by have:=h.1;simp only[Nat.add_zero]at this;omega)⟩
 .rw[if_neg hs]at h;simp at h
theorem a1F(hE:pK l)(sep:Nm)(one:α->RM α)(len:α->Nat)(J:α->Prop)(tm:Nat)(ws:α->List (Nat×DV))(H:α->dB->List (Nat×bG))(own:α->List (TypeId×List VM.Loc))(g0:Nat)(a0:α)(s0:dB)(hg:l.length<g0)(hv:bY l s0)(hl0:len a0=0)(hJ:J a0)(h0:yY st (mR c st ((tm,.d (.bool true))::ws a0) (H a0 s0) (own a0)))(hround:∀a s,s.er=0->s.pl<l.length->s0.er=0/\s0.pl<=s.pl->len a<=s.pl->J a->∀R:St->Prop,(∀st' b s1,one a s=(b,s1)->yY st' (mR c st ((tm,.d (.bool (eL l sep s1).1))::ws b) (H b (eL l sep s1).2) (own b))->(s1.er=0->s.pl<=s1.pl/\s1.pl<l.length)->len b<=len a+1->J b->R st')->
   XK prog G [.code c] .normal (mR c st ((tm,.d (.bool true))::ws a) (H a s) (own a)) λe st'=>match e with
   |.normal=>R st'
   |e=>Q e st')(c1Z:∀a s m,(m=false\/s.er≠0)->(s.er=0->s0.er=0/\s0.pl<=s.pl)->len a<=l.length+1->J a->bY l s->mP l sep one g0 a0 s0=(a,s)->∀R:St->Prop,XK prog G [.code c] .normal (mR c st ((tm,.d (.bool m))::ws a) (H a s) (own a)) λe st'=>match e with
   |.normal=>R st'
   |e=>Q e st'):SW prog G (.loop c) st Q:=by
 obtain⟨Y,hY⟩:∃Y,mP l sep one g0 a0 s0=Y:=⟨_,rfl⟩;simp only[hY]at c1Z;refine SW.sV (ι:={x:α×dB×Option Nat//bY l x.2.1/\len x.1<=l.length+1/\J x.1/\(x.2.1.er=0->(len x.1<=x.2.1.pl\/x.2.2=none)/\s0.er=0/\s0.pl<=x.2.1.pl)/\(match x.2.2 with
  |some g=>(x.2.1.er=0->l.length<g+x.2.1.pl)/\mP l sep one g x.1 x.2.1=Y
  |none=>Y=(x.1,x.2.1))}) (λx=>(tm,.d (.bool x.1.2.2.isSome))::ws x.1.1) (λx=>H x.1.1 x.1.2.1) (λx=>own x.1.1) (λx=>match x.1.2.2 with
  |none=>0
  |some _=>l.length-x.1.2.1.pl+1) ⟨(a0,s0,some g0),hv,by simp only;omega,hJ,λh=>⟨.inl (by simp only;omega),h,g3G _⟩,λ_=>by simp only;omega,hY⟩ h0 ?_
 rintro⟨⟨a,s,og⟩,h1,h2,h3,h4,h5⟩;simp only at h1 h2 h3 h4 h5;cases og with
 |none=>exact c1Z a s false (.inl rfl) (λh=>(h4 h).2) h2 h3 h1 h5 _
 |some g=>
  simp only at h5;by_cases he:s.er=0
  .have hi:=h1 he;have f7o:=h5.1 he;obtain⟨g,rfl⟩:∃k,g=k+1:=⟨g-1,by omega⟩;have hla:len a<=s.pl:=by
    rcases(h4 he).1 with h|h
    .exact h
    .cases h
   have hbs:=(h4 he).2;refine hround a s he hi hbs hla h3 _ λst' b s1 ho hw ha hl hJb=>?_;have heq:=h5.2;unfold mP at heq;rw[if_pos he,ho]at heq;cases hs:bZ l 0 sep s1 with
   |true=>
    obtain⟨e1,e2⟩:=a2u hE hs;have a1:=ha e1;simp only[hs,if_true]at heq;have hh:eL l sep s1=(true,⟨s1.pl+1,s1.er,s1.ln⟩):=by unfold eL;rw[if_pos hs]
    rw[hh]at hw;exact bE.mk ⟨(b,⟨s1.pl+1,s1.er,s1.ln⟩,some g),λ_=>e2,by simp only;omega,hJb,λ_=>⟨.inl (by simp only;omega),hbs.1,by simp only;omega⟩,λ_=>by simp only;omega,heq⟩ hw (by simp only;omega)
   |false=>
    simp only[hs,g3K,if_false]at heq;have hh:eL l sep s1=(false,s1):=by unfold eL;rw[if_neg (by rw[hs];decide)]
    rw[hh]at hw;exact bE.mk ⟨(b,s1,none),λh=>(ha h).2,by simp only;omega,hJb,λh=>⟨.inr rfl,hbs.1,by have:=ha h;simp only;omega⟩,heq.symm⟩ hw (by simp only;omega)
  .refine c1Z a s true (.inr he) (λh=>(h4 h).2) h2 h3 h1 ?_ _;rw[<-h5.2];cases g with
   |zero=>rfl
   |succ g=>unfold mP;rw[if_neg he]
theorem a9f(cnd:dB->Bool)(hc:∀s,s.er≠0->cnd s=false)(one:α->RM α)(len:α->Nat)(J:α->Prop)(ws:α->List (Nat×DV))(H:α->dB->List (Nat×bG))(own:α->List (TypeId×List VM.Loc))(g0:Nat)(a0:α)(s0:dB)(hg:l.length<g0)(hv:bY l s0)(hl0:len a0<=l.length+1/\(s0.er=0->len a0<=s0.pl))(hJ:J a0)(h0:yY st (mR c st (ws a0) (H a0 s0) (own a0)))(hround:∀a s,s.er=0->s.pl<l.length->s0.er=0/\s0.pl<=s.pl->len a<=s.pl->J a->cnd s=true->∀R:St->Prop,(∀st' b s1,one a s=(b,s1)->yY st' (mR c st (ws b) (H b s1) (own b))->(s1.er=0->s.pl+1<=s1.pl/\s1.pl<l.length)->len b<=len a+1->J b->R st')->
   XK prog G [.code c] .normal (mR c st (ws a) (H a s) (own a)) λe st'=>match e with
   |.normal=>R st'
   |e=>Q e st')(c1Z:∀a s,cnd s=false->(s.er=0->s0.er=0/\s0.pl<=s.pl)->len a<=l.length+1->J a->bY l s->wC cnd one g0 a0 s0=(a,s)->∀R:St->Prop,XK prog G [.code c] .normal (mR c st (ws a) (H a s) (own a)) λe st'=>match e with
   |.normal=>R st'
   |e=>Q e st'):SW prog G (.loop c) st Q:=by
 obtain⟨Y,hY⟩:∃Y,wC cnd one g0 a0 s0=Y:=⟨_,rfl⟩;simp only[hY]at c1Z;refine SW.sV (ι:={x:α×dB×Nat//bY l x.2.1/\len x.1<=l.length+1/\J x.1/\(x.2.1.er=0->len x.1<=x.2.1.pl/\s0.er=0/\s0.pl<=x.2.1.pl)/\(x.2.1.er=0->l.length<x.2.2+x.2.1.pl)/\wC cnd one x.2.2 x.1 x.2.1=Y}) (λx=>ws x.1.1) (λx=>H x.1.1 x.1.2.1) (λx=>own x.1.1) (λx=>if x.1.2.1.er=0 then l.length-x.1.2.1.pl+1 else 0) ⟨(a0,s0,g0),hv,hl0.1,hJ,λh=>⟨hl0.2 h,h,g3G _⟩,λ_=>by simp only;omega,hY⟩ h0 ?_;rintro⟨⟨a,s,g⟩,h1,h2,h3,h4,h5,h6⟩;simp only at h1 h2 h3 h4 h5 h6;cases hs:cnd s with
 |true=>
  have he:s.er=0:=by
   by_cases he:s.er=0
   .exact he
   .rw[hc s he]at hs;cases hs
  have hi:=h1 he;have f7o:=h5 he;obtain⟨g,rfl⟩:∃k,g=k+1:=⟨g-1,by omega⟩;have hbs:=(h4 he).2;refine hround a s he hi hbs (h4 he).1 h3 hs _ λst' b s1 ho hw ha hl hJb=>?_;unfold wC at h6;rw[hs,if_pos rfl,ho]at h6;have h4':=h4 he;refine bE.mk ⟨(b,s1,g),λh=>(ha h).2,by simp only;omega,hJb,λh=>⟨?_,hbs.1,?_⟩,λh=>?_,h6⟩ hw ?_
  .have:=ha h;simp only;omega
  .have:=ha h;simp only;omega
  .have:=ha h;simp only;omega
  .simp only[he,if_true];split
   .rename_i h;have:=ha h;omega
   .omega
 |false=>
  refine c1Z a s hs (λh=>(h4 h).2) h2 h3 h1 ?_ _;rw[<-h6];cases g with
  |zero=>rfl
  |succ g=>unfold wC;rw[hs,if_neg (by decide)]
end
end
section
section
variable {kw:Nm->Bool} {andP:Pr->Pr->Pr} {rdP:List Tok->Nat->Nat->gO Pr} {l:List Tok} {low m:Nat} {α β γ:Type} {ln:Int}
theorem a9g(x:bF α)(f:α->bF β)(g:β->bF γ):(x >>=f) >>=g=x >>=λa=>f a >>=g:=funext λi=>by
 rw[cR,cR,cR];cases x i with
 |ok a j=>simp only[cR]
 |bad n e=>rfl
theorem aF.assoc{x:bF α}{f:α->bF β}{g:β->bF γ}{y:RM γ}(h:aF l low ((x >>=f) >>=g) y):aF l low (x >>=λa=>f a >>=g) y:=by rwa[a9g]at h
theorem aF.d0y{x:bF γ}{y:RM α}{f:α->RM β}{g:β->RM γ}(h:aF l low x ((y >>=f) >>=g)):aF l low x (y >>=λa=>f a >>=g):=h
theorem aF.a2f{x:bF γ}{y:RM α}{f:α->RM β}{g:β->RM γ}(h:aF l low x (y >>=λa=>f a >>=g)):aF l low x ((y >>=f) >>=g):=h
theorem aF.f3z{x:bF β}{a:α}{g:α->RM β}(h:aF l low x (g a)):aF l low x (pure a >>=g):=h
theorem aF.d0z{x:bF α}{y:RM α}{f:α->bF β}{g:α->RM β}(P:α->Prop)(hx:aF l low x y)(hP:∀i a j,i<l.length->x i=.ok a j->P a)(hf:∀a,P a->aF l low (f a) (g a))(hk:∀a,rZ (g a))(ah:∀a,aB l 0 (f a)):aF l low (x >>=f) (y >>=g):=
 ⟨λi ln h1 h2=>tZ.xW (hx.yS i ln h1 h2) hk λa j h=>(hf a (hP i a j h2 h)).yS j ln (by have:=hx.av i a j h2 h;omega) (hx.av i a j h2 h).2,rZ.xW hx.qY hk,hx.av.bl ah⟩
variable{i:Nat}
theorem tZ.f7p{x y:bF α}{f:α->bF β}{z:β×dB}(h:x i=y i)(H:tZ ln ((y >>=f) i) z):tZ ln ((x >>=f) i) z:=by rw[cR]at H|-;rw[h];exact H
theorem b0R{c:Nm}{one:α->bF α}{P Q:α->Prop}(h:∀a i b j,P a->one a i=.ok b j->P b/\Q b):∀(g:Nat)(a:α)(i:Nat)(b:α)(j:Nat),P a->jC l c one g a i=.ok b j->Q b
 |0,a,i,b,j,_,h0=>by unfold jC at h0;cases h0
 |g+1,a,i,b,j,hp,h0=>by
  unfold jC at h0;split at h0
  .cases h0
  .rename_i a' j' ho;have h2:=h a i a' j' hp ho;split at h0
   .exact b0R h g a' (j'+1) b j h2.1 h0
   .cases h0;exact h2.2
variable{s:Nm}{r:List Nm}
theorem a8a{f:Unit->bF β}(h:aL l i s=true):(aR l (s::r) >>=f) i=(aR l r >>=f) (i+1):=by
 have e:aR l (s::r) i=aR l r (i+1):=by
  show(if aL l i s=true then _ else _)=_
  rw[if_pos h]
 rw[cR,cR,e]
theorem b8a{f:Unit->bF β}(h:aL l i s=false):(aR l (s::r) >>=f) i=eV l i:=by
 have e:aR l (s::r) i=eV l i:=by
  show(if aL l i s=true then _ else _)=_
  rw[if_neg (by rw[h];decide)]
 rw[cR,e]
 rfl
theorem tZ.f3A{f:Unit->bF β}{z:β×dB}(h:aL l i s=true)(H:tZ ln (f () (i+1)) z):tZ ln ((aR l [s] >>=f) i) z:=by rw[a8a h];exact H
theorem tZ.e3v{f:Unit->bF β}{z:β×dB}(h:aL l i s=false)(H:tZ ln (eV l i) z):tZ ln ((aR l (s::r) >>=f) i) z:=by rw[b8a h];exact H
theorem c2a{f:Bool->bF β}(h:aL l i s=true):(cS l s >>=f) i=f true (i+1):=bU (by unfold cS;rw[h,if_pos rfl])
theorem c2b{f:Bool->bF β}(h:aL l i s=false):(cS l s >>=f) i=f false i:=bU (by unfold cS;rw[h,if_neg (by decide)])
variable{c:dB->Bool}
theorem aF.e9P{g:Nm->RM α}(hc:∀i ln,c ⟨i,0,ln⟩=false)(hk:∀a,rZ (g a)):aF l low (eV l) (a4B l c >>=g):=⟨λi ln h1 h2=>by rw[aQ];unfold a4B rL;rw[hc i ln,if_neg (λh=>by cases h.1)];have h4:=hk [] (mF l ⟨i,0,ln⟩) (a9e h2);exact⟨by decide,by rw[h4,wE h2],by rw[h4,wE h2]⟩,rZ.xW (rZ.tk _) hk,aB.failed⟩
theorem d8a{s:dB}{A B:RM α}(h:c s=false):(uH c >>=λb=>if b then A else B) s=B s:=by
 show(if c s=true then A else B) s=B s
 rw[h]
 rfl
theorem e9Q{b:Bool}(h:c ⟨i,0,ln⟩=b)(hi:i<l.length):a4B l c ⟨i,0,ln⟩=if b then((aJ l i).text,⟨i+1,0,ln⟩) else([],mF l ⟨i,0,ln⟩):=by subst h;unfold a4B rL;rw[a0D hi];cases c ⟨i,0,ln⟩<;>rfl
theorem d0A{c:Bool}{A B:α->bF α}{z:α}:(if c then dJ l s A z i else dJ l s B z i)=dJ l s (λout=>if c then A out else B out) z i:=by cases c<;>rfl
theorem d0B{s:dB}(h:s.er≠0):dN kw l s=((jZ,false),s):=by
 unfold dN;rw[a9d h,c3Q h]
 rfl
variable (H:RfH rdP l)
include H
theorem aF.e9R:aF l low (dJ l [44] (λout=>do let w <- bV kw l;pure (out++[w])) []) (dY kw l >>=a5i kw l):=⟨λi ln h1 h2=>by
 rw[aQ];unfold dJ;rw[jC]
 dsimp only
 have h:=(aF.word (kw:=kw) (l:=l) (low:=low)).yS i ln h1 h2;cases hx:bV kw l i with
 |bad n e=>rw[hx]at h;obtain⟨k1,k2,k3⟩:e≠0/\_:=h;unfold a5i;rw[kT hx,tJ (by rw[k2];exact k1),if_neg (by decide)];exact⟨k1,k2,k3⟩
 |ok w j=>
  rw[hx]at h;have h:dY kw l ⟨i,0,ln⟩=(w,⟨j,0,ln⟩):=h;have ha:=aB.word (kw:=kw) H.fin i w j h2 hx;rw[bU hx,h];unfold a5i;simp only[kB,pU H j (by decide:sgN [44]=true),List.nil_append];cases hs:aL l j [44]with
  |true=>rw[if_pos rfl,if_pos rfl];exact tZ.loop H (low:=0) (by decide) (λa=>aF.b0 aF.word λw=>aF.bP _) _ _ _ (by omega) (aV H.fin ha.2 hs) (by omega)
  |false=>
   rw[if_neg (by decide),if_neg (by decide)]
   rfl,rZ.xW (rZ.tk _) λw s hs=>by unfold a5i;rw[tJ hs];rfl,aB.list H.fin (λa=>(aB.word H.fin).bz λ_=>aB.bP _) _⟩
theorem aF.words:aF l low (jD kw l) (jM kw l):=by unfold jD jM;exact aF.mus (aF.d0y (aF.b0 (aF.e9R H) λout=>aF.mus (aF.bP _)))
theorem aF.f3B(v:Bool):aF l low ((if v then cS l [118] else pure false) >>=λb=>if b then pure [118] else bV kw l) (a4B l λs=>mG kw l 0 s||v&&eY l [118] s):=⟨λi ln h1 h2=>by
 have b7j:tZ ln (eV (α:=Nm) l i) ([],mF l ⟨i,0,ln⟩):=tZ.fail h2 _;rw[e9Q (b:=kL kw (aJ l i)||v&&aL l i [118]) (by rw[a3Z kw h2,kX H h2 (by decide) (by decide)]) h2];have hw:∀b:Bool,b=false->tZ ln (bV kw l i) (if (kL kw (aJ l i)||b)=true then((aJ l i).text,(⟨i+1,0,ln⟩:dB)) else([],mF l ⟨i,0,ln⟩)):=λb hb=>by
  subst hb;unfold bV pD;rw[Bool.or_false];cases kL kw (aJ l i)with
  |true=>rfl
  |false=>exact b7j
 cases v with
 |false=>
  show tZ ln ((pure false >>=λb=>if b=true then pure [118] else bV kw l:bF Nm) i) _
  rw[bU (kB),if_neg (by decide)];exact hw _ rfl
 |true=>
  show tZ ln ((cS l [118] >>=λb=>if b=true then pure [118] else bV kw l) i) _
  cases hs:aL l i [118]with
  |true=>
   have ht:(aJ l i).text=[118]:=by unfold aL cQ at hs;simp only[g3q,g4e]at hs;exact hs.2
   rw[c2a hs,ht,if_pos rfl,if_pos (by simp)]
   rfl
  |false=>rw[c2b hs,if_neg (by decide)];exact hw _ rfl,rZ.tk _,(aB.ite (aB.skip H.fin _) (aB.bP _)).bl λb=>aB.ite (aB.bP _) ((aB.word H.fin).le (by omega))⟩
theorem aF.vars(v:Bool):aF l low (sE kw l v) (wT kw l v):=by unfold sE wT;exact aF.list (λa=>aF.assoc (aF.b0 (aF.f3B H v) λnm=>aF.mus (aF.b0 aF.sort λs=>aF.bP _))) _
theorem d8b(hi:i<l.length):
  (∃t,jI kw l i=.ok (some t) (i+1)/\dN kw l ⟨i,0,ln⟩=((t,true),⟨i+1,0,ln⟩)/\t.op≠4/\aL l i [123]=false/\aL l i [40]=false)\/
  (jI kw l i=.ok none i/\rW (aJ l i)=true/\dN kw l ⟨i,0,ln⟩=((wW 4 (aJ l i).text,true),⟨i+1,0,ln⟩)/\aL l i [123]=false/\aL l i [40]=false)\/
  (jI kw l i=.ok none i/\rW (aJ l i)=false/\dN kw l ⟨i,0,ln⟩=((jZ,false),⟨i,0,ln⟩)):=by
 unfold dN;rw[a3Z kw hi,a9c hi,a0D (by omega)];unfold jI;have e1:aL l i [73,110,116]=_:=(H.tkw i).ti (by decide) (by decide);have e2:aL l i [66,111,111,108]=_:=(H.tkw i).ti (by decide) (by decide);have e3:aL l i [67,101,108,108]=_:=(H.tkw i).ti (by decide) (by decide);have e4:aL l i [123]=_:=(H.tkw i).sg (by decide);have e5:aL l i [40]=_:=(H.tkw i).sg (by decide);rw[e1,e2,e3,e4,e5];generalize aJ l i=t;obtain⟨k,x,n,ln'⟩:=t;simp only[kL,rW];by_cases k1:k=1
 .subst k1;by_cases hk:kw x=true
  .exact .inr (.inr ⟨by simp[hk],by simp,by simp[hk]⟩)
  .exact .inl ⟨wW 5 x,by simp[hk],by simp[hk],by simp[wW],by simp,by simp⟩
 by_cases k2:k=2
 .subst k2;by_cases x1:x=[73,110,116]
  .exact .inl ⟨wW 1 [],by simp[x1],by simp[x1],by simp[wW],by simp,by simp⟩
  by_cases x2:x=[66,111,111,108]
  .exact .inl ⟨wW 2 [],by simp[x2],by simp[x2],by simp[wW],by simp,by simp⟩
  by_cases x3:x=[67,101,108,108]
  .exact .inl ⟨wW 3 [],by simp[x3],by simp[x3],by simp[wW],by simp,by simp⟩
  exact .inr (.inl ⟨by simp[x1,x2,x3],by simp,by simp[x1,x2,x3],by simp,by simp⟩)
 exact .inr (.inr ⟨by simp[k1,k2],by simp[k2],by simp[k1,k2]⟩)
theorem tZ.bef(hi:i<l.length)(e:Nat):tZ ln (rdP l i e) (pL rdP l e ⟨i,0,ln⟩):=by
 unfold pL;rw[if_pos rfl];cases h:rdP l i e with
 |ok p j=>simp only[h];rfl
 |bad n x=>simp only[h];exact⟨H.nz _ _ _ _ hi h,rfl,rfl⟩
omit H in
theorem rZ.bef(e:Nat):rZ (pL rdP l e):=λs hs=>by unfold pL;rw[if_neg hs]
theorem aF.pred:aF l low (pE rdP l) (pT rdP l):=⟨λi ln _ h2=>tZ.bef H h2 _,rZ.bef _,H.mZ.pred⟩
section
variable {ty:bF Ty} {ty':RM Ty} (pO:aF l (low+1) ty ty') (yZ:aB l 1 ty)
include pO yZ
theorem aF.c6O:aF l low (zN andP rdP l ty) (a7Y andP rdP l ty'):=by
 unfold zN a7Y;refine aF.b7Z (aF.key λ_=>aF.mus ?_);refine aF.b0 (pO.up (by omega)) λt=>?_;have hk:∀low,aF l low (pE rdP l >>=λp=>aR l [[125]] >>=λ_=>pure {t with pred:=if t.pred.op=0 then p else andP t.pred p}) (pT rdP l >>=λp=>aK l [125] >>=λ_=>pure {t with pred:=if t.pred.op=0 then p else andP t.pred p}):=λlow=>aF.b0 (aF.pred H) λp=>aF.mus (aF.bP _);by_cases h6:t.op=6
 .rw[if_pos h6];exact aF.e9P (λi ln=>by simp[h6]) (λa=>(hk 0).qY)
 .rw[if_neg h6];exact⟨λi ln h1 h2=>tZ.tk h2 (by rw[pU H i (t:=[124]) (by decide)];simp[h6]) (λa=>(hk 0).qY) λhs a=>(hk 0).yS (i+1) ln (by omega) (aV H.fin h2 hs),rZ.xW (rZ.tk _) λa=>(hk 0).qY,aB.exB H.fin (hk 0).av⟩
theorem aF.e3U:aF l low (oP kw andP rdP l ty) (a5R kw andP rdP l ty'):=⟨λi ln h1 h2=>by
 unfold oP a5R;rw[pU H i (t:=[123]) (by decide),pU H i (t:=[40]) (by decide)];rcases d8b H (kw:=kw) (ln:=ln) h2 with⟨t,b1,b2,b3,b4,b5⟩|⟨b1,b2,b3,b4,b5⟩|⟨b1,b2,b3⟩
 .rw[bU b1,b2,b4,b5]
  rfl
 .rw[bU b1,b3,b4,b5];simp only[b2,if_true]
  rfl
 .rw[bU b1,b3];simp only[b2,g3K,if_false];cases s1:aL l i [123]with
  |true=>rw[if_pos rfl,if_pos rfl];exact(aF.c6O H pO yZ).yS i ln h1 h2
  |false=>
   rw[if_neg (by decide),if_neg (by decide)];cases s2:aL l i [40]with
   |true=>rw[if_pos rfl,a8a s2];have h:aF l (low+1) (ty >>=λt=>aR l [[41]] >>=λ_=>pure t) (ty' >>=λt=>aK l [41] >>=λ_=>pure t):=aF.b0 pO λt=>aF.mus (aF.bP _);exact h.yS (i+1) ln (by omega) (aV H.fin h2 s2)
   |false=>rw[if_neg (by decide),b8a s2];exact tZ.fail h2 _,λs hs=>by
 unfold a5R;rw[tJ hs,tJ hs,d0B hs,if_neg (by decide),if_neg (by decide),if_neg (λh=>by cases h)];exact b3T hs,(aB.a2W H.fin (yZ.le (by omega)) H.mZ.pred).le (by omega)⟩
theorem aF.f3C(name:Nm):aF l low (do
  let args <- rJ l (b5a kw l) (λout=>do let t <- oP kw andP rdP l ty;pure (out++[t])) []
  let b <- cS l [60]
  if b then do
   let ps <- dJ l [44] (λout=>do
    aR l [[118],[46]]
    let p <- pE rdP l
    pure (out++[p])) []
   aR l [[62]]
   pure {wW 4 name with args:=args,a6B:=ps}
  else pure {wW 4 name with args:=args}:bF Ty) (a5S kw andP rdP l ty' name):=by
 have aS:aB l 1 (oP kw andP rdP l ty):=aB.a2W H.fin (yZ.le (by omega)) H.mZ.pred;unfold a5S;refine aF.b0 (aF.many (λs hs=>?_) (λi ln hi=>?_) (λa i ln h1 h2 _=>(aF.b0 (aF.e3U H pO yZ) λt=>aF.bP _).yS i ln h1 h2) (λa i b j hi _ hx=>(aS.bl λt=>aB.bP _) i b j hi hx) _) λargs=>?_
 .rw[a9d hs,c3Q hs,tJ hs,tJ hs];rfl
 .unfold b5a;rw[a3Z kw hi,a9c hi,pU H i (t:=[123]) (by decide),pU H i (t:=[40]) (by decide),Bool.or_assoc,Bool.or_assoc]
 exact aF.b0 aF.a9X λb=>aF.ite (aF.b0 (aF.list (λa=>aF.key λ_=>aF.mus (aF.b0 (aF.pred H) λp=>aF.bP _)) _) λps=>aF.mus (aF.bP _)) (aF.bP _)
theorem aF.d3Z:aF l low (zO kw l ty) (a0C kw l ty'):=by
 unfold zO a0C;refine aF.mus ?_;have aI:∀p:List Nm×List Ty,aB l 0 (λi=>if decide (p.1.length=0)&&decide (p.2.length=1)&& !aL l i [45,62] then .ok (p.2.headD jZ) i else(aR l [[45,62]] >>=λ_=>ty >>=λt=>pure {wW 6 []with names:=p.1,args:=p.2++[t]}:bF Ty) i:bF Ty):=λp i a j hi h=>by
  simp only at h;split at h
  .cases h;omega
  .exact((aB.exp H.fin _ _).bz λ_=>pO.av.bl λ_=>aB.bP _) i a j hi h
 have hK:∀(named:Bool)(p:List Nm×List Ty),decide (p.1.length=0)= !named->aF l (low+1) (aR l [[41]] >>=λ_=>(λi=>
   if decide (p.1.length=0)&&decide (p.2.length=1)&& !aL l i [45,62] then .ok (p.2.headD jZ) i
   else(do
    aR l [[45,62]]
    let t <- ty
    pure {wW 6 []with names:=p.1,args:=p.2++[t]}:bF Ty) i:bF Ty)) (aK l [41] >>=λ_=>uH (λs=>decide (p.2.length=1)&&(!named&& !bZ l 0 [45,62] s)) >>=λc=>if c then pure (p.2.headD jZ) else aK l [45,62] >>=λ_=>ty' >>=λt=>pure {wW 6 []with names:=p.1,args:=p.2++[t]}):=λnamed p hn=>by
  have hr:aF l (low+1) (do
    aR l [[45,62]]
    let t <- ty
    pure {wW 6 []with names:=p.1,args:=p.2++[t]}:bF Ty) (aK l [45,62] >>=λ_=>ty' >>=λt=>pure {wW 6 []with names:=p.1,args:=p.2++[t]}):=aF.mus (aF.b0 (pO.up (by omega)) λt=>aF.bP _)
  refine aF.mus (aF.test (λb=>?_) (aI p) λi ln h1 h2=>?_)
  .cases b
   .exact hr.qY
   .exact rZ.bP _
  .rw[pU H i (t:=[45,62]) (by decide),hn];have e:(decide (p.2.length=1)&&(!named&& !aL l i [45,62]))=(!named&&decide (p.2.length=1)&& !aL l i [45,62]):=by cases named<;>simp
   rw[e];cases (!named&&decide (p.2.length=1)&& !aL l i [45,62])with
   |true=>rfl
   |false=>exact hr.yS i ln (by omega) h2
 have hB:∀named:Bool,aF l (low+1) (dJ l [44] (λ(out:List Nm×List Ty)=>if named then bV kw l >>=λw=>aR l [[58]] >>=λ_=>ty >>=λt=>pure (out.1++[w],out.2++[t]) else ty >>=λt=>pure (out.1,out.2++[t])) ([],[])) (mH l [44] (λ(out:List Nm×List Ty)=>if named then dY kw l >>=λw=>aK l [58] >>=λ_=>ty' >>=λt=>pure (out.1++[w],out.2++[t]) else ty' >>=λt=>pure (out.1,out.2++[t])) ([],[])):=λnamed=>aF.list (λa=>aF.ite (aF.b0 aF.word λw=>aF.mus (aF.b0 (pO.up (by omega)) λt=>aF.bP _)) (aF.b0 pO λt=>aF.bP _)) _;have hI:∀(named:Bool) i a j,i<l.length->dJ l [44] (λ(out:List Nm×List Ty)=>if named then bV kw l >>=λw=>aR l [[58]] >>=λ_=>ty >>=λt=>pure (out.1++[w],out.2++[t]) else ty >>=λt=>pure (out.1,out.2++[t])) ([],[]) i=.ok a j->decide (a.1.length=0)= !named:=λnamed i a j hi h=>by
  cases named with
  |true=>
   refine b0R (P:=λ_=>True) (Q:=λp=>decide (p.1.length=0)=false) (λa i b j _ hx=>⟨trivial,?_⟩) _ _ _ _ _ trivial h;rw[if_pos rfl]at hx;simp only[cR]at hx
   repeat' split at hx
   all_goals first
    |cases hx
    |skip
   simp
  |false=>
   refine b0R (P:=λp=>p.1=[]) (Q:=λp=>decide (p.1.length=0)=true) (λa i b j h1 hx=>?_) _ _ _ _ _ rfl h;rw[if_neg (by decide)]at hx;simp only[cR]at hx
   repeat' split at hx
   all_goals first
    |cases hx
    |skip
   simp[h1]
 have key:∀named:Bool,aF l (low+1) _ _:=λnamed=>aF.d0z (λp=>decide (p.1.length=0)= !named) (hB named) (hI named) (hK named) (λp=>by
  by_cases hp:decide (p.1.length=0)= !named
  .exact(hK named p hp).qY
  .refine rZ.xW (rZ.b7Z _) λ_ s hs=>?_;rw[aQ]
   show((if (decide (p.2.length=1)&&(!named&& !bZ l 0 [45,62] s))=true then _ else _:RM Ty) s).2=s
   split
   .rfl
   .exact(rZ.xW (rZ.b7Z _) λ_=>rZ.xW pO.qY λ_=>rZ.bP _) s hs) λp=>(aB.exp H.fin _ _).bz λ_=>aI p
 refine aF.test (λb=>(key b).qY) (aB.bl (λi a j hi h=>?_) λp=>(aB.exp H.fin _ _).bz λ_=>aI p) λi ln h1 h2=>?_
 .split at h
  .exact(hB true).av i a j hi h
  .exact(hB false).av i a j hi h
 have e:(mG kw l 0 ⟨i,0,ln⟩&&bZ l 1 [58] ⟨i,0,ln⟩)=(kL kw (aJ l i)&&cQ (aJ l (i+1)) [58]):=by
  rw[a3Z kw h2,a5W H 1 i (t:=[58]) (by decide)]
  rfl
 rw[e];have hs:=(key (kL kw (aJ l i)&&cQ (aJ l (i+1)) [58])).yS i ln h1 h2;refine tZ.f7p (y:=dJ l [44] (λ(out:List Nm×List Ty)=>if (kL kw (aJ l i)&&cQ (aJ l (i+1)) [58]) then bV kw l >>=λw=>aR l [[58]] >>=λ_=>ty >>=λt=>pure (out.1++[w],out.2++[t]) else ty >>=λt=>pure (out.1,out.2++[t])) ([],[])) ?_ hs;exact d0A
theorem aF.d0l:aF l low (a0w kw andP rdP l ty) (a5T kw andP rdP l ty'):=⟨λi ln h1 h2=>by
 unfold a0w a5T;rw[if_pos rfl,pU H i (t:=[123]) (by decide),pU H i (t:=[40]) (by decide)];rcases d8b H (kw:=kw) (ln:=ln) h2 with⟨t,b1,b2,b3,b4,b5⟩|⟨b1,b2,b3,b4,b5⟩|⟨b1,b2,b3⟩
 .rw[bU b1,b2,b4,b5,if_neg (by decide),if_neg (by decide),if_pos rfl,if_neg b3]
  rfl
 .rw[bU b1,b3,b4,b5];simp only[b2,if_true,g3K,if_false];have hn:=a8N H.fin h2 b2;have e:xL kw andP rdP l ty i=_:=bU (x:=mC l) (show mC l i=.ok (aJ l i).text (i+1) by unfold mC pD;rw[b2,if_pos rfl]);rw[e];exact(aF.f3C H pO yZ _).yS (i+1) ln (by omega) hn
 .rw[bU b1,b3];simp only[b2,g3K,if_false];cases s1:aL l i [123]with
  |true=>rw[if_pos rfl,if_pos rfl];exact(aF.c6O H pO yZ).yS i ln h1 h2
  |false=>
   rw[if_neg (by decide),if_neg (by decide)];cases s2:aL l i [40]with
   |true=>rw[if_pos rfl];exact(aF.d3Z H pO yZ).yS i ln h1 h2
   |false=>rw[if_neg (by decide)];unfold zO;rw[b8a s2];exact tZ.fail h2 _,λs hs=>by
 unfold a5T;rw[if_neg hs],(aB.d0l H.fin (yZ.le (by omega)) H.mZ.pred).le (by omega)⟩
end
theorem aF.b1Y:∀(n low:Nat),l.length<n+low->aF l low (a1y kw andP rdP l n) (a7Z kw andP rdP l n)
 |0,low,h=>⟨λi ln h1 h2=>absurd h (by omega),λs _=>rfl,(aB.b1Y H.fin H.mZ.pred 0).le (by omega)⟩
 |n+1,low,h=>aF.d0l H (aF.b1Y n (low+1) (by omega)) (aB.b1Y H.fin H.mZ.pred n)
theorem aF.typ:aF l low (mD kw andP rdP l) (sX kw andP rdP l):=aF.b1Y H _ _ (by omega)
theorem aF.types:aF l low (uM kw andP rdP l) (uH (bZ l 0 [91]) >>=λc=>if c then a5U kw andP rdP l else pure []):=by
 have hr:∀low,aF l low (dJ l [44] (λout=>mD kw andP rdP l >>=λt=>pure (out++[t])) [] >>=λout=>aR l [[93]] >>=λ_=>pure out) (mH l [44] (λout=>sX kw andP rdP l >>=λt=>pure (out++[t])) [] >>=λout=>aK l [93] >>=λ_=>pure out):=λlow=>aF.b0 (aF.list (λa=>aF.b0 (aF.typ H) λt=>aF.bP _) _) λout=>aF.mus (aF.bP _);have hm:aF l 0 (aR l [[91]] >>=λ_=>dJ l [44] (λout=>mD kw andP rdP l >>=λt=>pure (out++[t])) [] >>=λout=>aR l [[93]] >>=λ_=>pure out) (a5U kw andP rdP l):=aF.b7Z (hr _);refine aF.test (λb=>?_) (aB.types H.fin H.mZ.pred) λi ln h1 h2=>?_
 .cases b
  .exact rZ.bP _
  .exact hm.qY
 .rw[pU H i (t:=[91]) (by decide)];unfold uM;cases hs:aL l i [91]with
  |true=>have h:=hm.yS i ln (by omega) h2;rw[a8a hs]at h;rw[bU (show cS l [91] i=.ok true (i+1) by unfold cS;rw[hs,if_pos rfl])];exact h
  |false=>
   rw[bU (show cS l [91] i=.ok false i by unfold cS;rw[hs,if_neg (by decide)])]
   rfl
end
end
section
open Go Go.VM
variable {G:GT}
variable{s:Nm}{i:Nat}{l:List Tok}{r:List Nm}
theorem c3R(h:aL l i s=true):aR l (s::r) i=aR l r (i+1):=by
 show(if aL l i s=true then aR l r (i+1) else eV l i)=_
 rw[if_pos h]
theorem e3V(h:aL l i s=false):aR l (s::r) i=eV l i:=by
 show(if aL l i s=true then aR l r (i+1) else eV l i)=_
 rw[if_neg (by rw[h];decide)]
theorem pV(l:List Tok)(ss:List Nm)(i:Nat)(hi:i<l.length)(hl:l.length<=2000000)(hE:pK l)(hss:ss.length<=1000:=by simp):tR G 19 [.sl (strs ss)] l i (aR l ss i) (λ_=>.cX []):=by
 refine qA.bO func19 rfl ntmps19 rfl (by simp) ?_;intro Q hQ;simp;refine SW.sV (ι:={k:Nat//k<=ss.length/\i+k<l.length/\aR l (ss.drop k) (i+k)=aR l ss i}) (λk=>[(8,.d (.int .i64 k.1))]) (λk=>rH l (i+k.1)) (λ_=>[]) (λk=>ss.length-k.1) ⟨0,by simp[hi]⟩ (by simp) ?_;rintro⟨k,hk,hik,hp⟩;rw[<-hp]at hQ;by_cases aG:k<ss.length
 .have hg:=b7k aG;have hw:=aX (show k<9223372036854775807 by omega);have hd:ss.drop k=ss[k]::ss.drop (k+1):=g3D aG;rw[hd]at hQ hp;simp[aG,hg];cases hs:aL l (i+k) ss[k]with
  |true=>have hn:=aV hE hik hs;rw[c3R hs]at hp;refine qB (ds:=[.str ss[k]]) (d:=.d (.bool true)) kU (tY l (i+k) ss[k] hik hl hs) ?_;simp[hw];exact bE.mk ⟨k+1,aG,by omega,hp⟩ (by simp[Nat.add_assoc]) (by simp;omega)
  |false=>rw[e3V hs]at hQ;refine qB (ds:=[.str ss[k]]) (d:=.d (.bool false)) kU (b3Q l (i+k) ss[k] hik hl hs) ?_;simp;refine rdX (ds:=[]) yQ (a0B (α:=Unit) l (i+k) hik hl λ_=>.cX []) (λa j hx=>by unfold eV at hx;cases hx) (λn e hx=>?_);simp;exact hQ.bad n e _ hx
 .have hd:ss.drop k=[]:=List.drop_eq_nil_of_le (by omega);rw[hd]at hQ;simp[aG];exact hQ.ok () (i+k) _ _ rfl (.inl rfl) (by simp)
section
variable {α β:Type} {Q Q':Exit->St->Prop} {rs:List ResultVar} {l:List Tok} {i:Nat} {enc:β->DV} {Y:β->List (Nat×bG)} {own:List (TypeId×List VM.Loc)} {av:List DV} {A:Prop} {st:St} {ls:List (Option VM.Loc)} {dst:Option Tmp} {all:Array Oper} {ops:List Oper} {k:List XI}
variable{s:Nm}
theorem eS{r:List Nm}{g:Unit->bF β}(Q0:uP Q rs l enc Y own ((aR l (s::r) >>=g) i))(p0:A/\i<l.length)(hF:pK l)(pG:∀a j,aR l (s::r) i=.ok a j->uP Q rs l enc Y own (g a j)->i+1<=j/\j<l.length->XK prog G (.ops all ops::k) .normal ⟨kJ dst (.cX []) st.tmps,cF 100000 (rdO l j) st.H,jB dst (dropKey 100000 st.own)⟩ Q')(hl:l.length<=2000000:=by omega)(hss:(s::r).length<=1000:=by simp)(hq:∀v s,(∀s,Q (.panic v) s)->Q' (.panic v) s:=by first|exact λ_ _ h=>h _|(intro v s h;simp;first|exact h _|exact h))(hw:WkT av (.ptr 100000 0::[D.sl (strs (s::r))].map .d):=by simp[strs])(hH:getKey 100000 st.H=some (rdO l i):=by simp):dX prog G 19 av ls dst all ops k st Q':=
 uG (hw:=hw) (hH:=hH) Q0 p0 oK (pV l _ i p0.2 hl hF hss) (aB.exp hF s r) pG hq
theorem rdT(h:aL l i s=true)(p0:A/\i<l.length)(hF:pK l)(hX:i+1<=i+1/\i+1<l.length->XK prog G (.ops all ops::k) .normal ⟨kJ dst (.d (.bool true)) st.tmps,cF 100000 (rdO l (i+1)) st.H,jB dst (dropKey 100000 st.own)⟩ Q)(hl:l.length<=2000000:=by omega)(hw:WkT av (.ptr 100000 0::[D.str s].map .d):=by simp)(hH:getKey 100000 st.H=some (rdO l i):=by simp):dX prog G 33 av ls dst all ops k st Q:=
 qB (hw:=hw) (hH:=hH) (d:=.d (.bool true)) kU (tY l i s p0.2 hl h) (hX ⟨g3G _,aV hF p0.2 h⟩)
theorem rdF(h:aL l i s=false)(p0:A/\i<l.length)(hX:XK prog G (.ops all ops::k) .normal ⟨kJ dst (.d (.bool false)) st.tmps,cF 100000 (rdO l i) st.H,jB dst (dropKey 100000 st.own)⟩ Q)(hl:l.length<=2000000:=by omega)(hw:WkT av (.ptr 100000 0::[D.str s].map .d):=by simp)(hH:getKey 100000 st.H=some (rdO l i):=by simp):dX prog G 33 av ls dst all ops k st Q:=
 qB (hw:=hw) (hH:=hH) (d:=.d (.bool false)) kU (b3Q l i s p0.2 hl h) hX
end
theorem b0S(l:List Tok)(i:Nat)(ok:Tok->Bool)(hi:i<l.length)(hl:l.length<=2000000):tR G 128 [.bool (ok (aJ l i))] l i (pD l ok i) (λs=>.d (.str s)):=by
 have ht:=dM (G:=G) l (i+1) i (-1) (by omega) (by omega) (by intro e;subst e;simp at hi) hl;have hw:=aX (show i<9223372036854775807 by omega);refine qA.bO func128 rfl ntmps128 rfl (by simp) ?_;intro Q hQ;cases h:ok (aJ l i)with
 |true=>simp[hw];refine qB (i:=i+1) (ds:=[.int .i64 (-1)]) cJ ht ?_;generalize hT:aJ l i=T at hQ ht h|-;have hk:=hQ.ok T.text (i+1) .ret;obtain⟨k,s,n,ln⟩:=T;simp[bL];exact hk _ (by unfold pD;rw[hT,if_pos h]) (.inr rfl) (by simp)
 |false=>simp;refine rdX (ds:=[]) yQ (a0B (α:=Nm) l i hi hl λ_=>.cX []) (λa j hx=>by unfold eV at hx;cases hx) (λn e hx=>?_);exact hQ.bad n e _ (by unfold pD;rw[if_neg (by rw[h];decide)];exact hx)
section
variable (hG:G 1=some gD)
include hG
theorem eN(l:List Tok)(i:Nat)(hi:i<l.length)(hl:l.length<=2000000):tR G 81 [] l i (bV aH l i) (λs=>.d (.str s)):=by have ht:=dM (G:=G) l i i 0 (by omega) (by omega) (by intro e;subst e;simp at hi) hl;refine qA.bO func81 rfl ntmps81 rfl (by simp) ?_;intro Q hQ;simp;refine qB (ds:=[.int .i64 0]) cJ ht ?_;simp;refine jV.mk oQ (pZ hG (aJ l i)) ?_;simp;refine rdX (ds:=[.bool (kL aH (aJ l i))]) a3X (b0S l i (kL aH) hi hl) (λs j hx=>?_) (λn e hx=>hQ.bad n e _ hx);simp;exact hQ.ok s j _ _ hx (.inr rfl) (by simp)
theorem a5X(l:List Tok)(i:Nat)(hi:i<l.length)(hl:l.length<=2000000):tR G 99 [] l i (a1x aH l i) (λs=>.d (.str s)):=by
 have ht:=dM (G:=G) l i i 0 (by omega) (by omega) (by intro e;subst e;simp at hi) hl;refine qA.bO func99 rfl ntmps99 rfl (by simp) ?_;intro Q hQ;simp;refine qB (ds:=[.int .i64 0]) cJ ht ?_;simp;refine jV.mk oQ (pZ hG (aJ l i)) ?_;have hc:=b0S (G:=G) l i (λt=>kL aH t||rW t) hi hl;cases h:kL aH (aJ l i)with
 |true=>simp only[h,Bool.true_or]at hc;simp;refine rdX (ds:=[.bool true]) a3X hc (λs j hx=>?_) (λn e hx=>hQ.bad n e _ hx);simp;exact hQ.ok s j _ _ hx (.inr rfl) (by simp)
 |false=>simp only[h,Bool.false_or]at hc;simp;refine qB (ds:=[.int .i64 0]) cJ ht ?_;generalize hT:aJ l i=T at hc|-;obtain⟨k,x,n,ln⟩:=T;simp[bL];refine rdX (hw:=by simp[rW]) (ds:=[.bool (rW ⟨k,x,n,ln⟩)]) a3X hc (λs j hx=>?_) (λn e hx=>hQ.bad n e _ hx);simp;exact hQ.ok s j _ _ hx (.inr rfl) (by simp)
end
theorem oS(l:List Tok)(i:Nat)(hi:i<l.length)(hl:l.length<=2000000:=by omega):tR G 90 [] l i (mC l i) (λs=>.d (.str s)):=by have ht:=dM (G:=G) l i i 0 (by omega) (by omega) (by intro e;subst e;simp at hi) hl;have hc:=b0S (G:=G) l i rW hi hl;refine qA.bO func90 rfl ntmps90 rfl (by simp) ?_;intro Q hQ;simp;refine qB (ds:=[.int .i64 0]) cJ ht ?_;generalize hT:aJ l i=T at hc|-;obtain⟨k,x,n,ln⟩:=T;simp[bL];refine rdX (hw:=by simp[rW]) (ds:=[.bool (rW ⟨k,x,n,ln⟩)]) a3X hc (λs j hx=>?_) (λn e hx=>hQ.bad n e _ hx);simp;exact hQ.ok s j _ _ hx (.inr rfl) (by simp)
abbrev d4n:Pr->DV:=λp=>.d (.agg (prD p))
structure rQ (G:GT) (rdP:List Tok->Nat->Nat->gO Pr) (l:List Tok):Prop where
 kw:G 1=some gD
 len:l.length<=50000
 fin:pK l
 bef:∀i e,i<l.length->e<=l.length->tR G 116 [.int .i64 e] l i (rdP l i e) d4n
 mZ:a5L rdP l
 nod:∀i e p j,i<l.length->rdP l i e=.ok p j->bN p+i<=j/\p.op≠0
theorem sY:VM.Enters prog 102:=.mk func102 rfl
theorem eT:VM.Enters prog 93:=.mk func93 rfl
section
variable {rdP:List Tok->Nat->Nat->gO Pr} {l:List Tok} (hV:rQ G rdP l)
include hV
theorem vL(i:Nat)(hi:i<l.length):tR G 102 [] l i (pE rdP l i) d4n:=by have hl:=hV.len;refine qA.bO func102 rfl ntmps102 rfl (by simp) ?_;intro Q hQ;simp;refine rdX (ds:=[.int .i64 l.length]) (.mk func116 rfl) (hV.bef i l.length hi (g3G _)) (λp j hx=>?_) (λn e hx=>hQ.bad n e _ hx);simp;exact hQ.ok p j _ _ hx (.inr rfl) (by simp)
omit hV in
structure a3e {α:Type} (l:List Tok) (K:List (Nat×Nat)) (c2Q:List DV) (X:α->List (Nat×bG)) (own:List (TypeId×List VM.Loc)):Prop where
 fit:∀a b i j,aW K ⟨c2Q,rH l i++X a,own⟩ (.cX []) (rH l j++X b)=true
 f3D:∀a i,aW K ⟨c2Q,rH l i++X a,own⟩ .undef (rH l i++X a)=true
 cap:WkT c2Q (bA K c2Q)
 hh:∀a i,WkH (rH l i++X a) (dC K (rH l i++X a))
 tk:∀a i tmps,yK ⟨tmps,rH l i++X a,own⟩ own (own.map (sD K []))=some []
 ow:∀t,own.map (kI K (some t))=own
 arg:∀n,a1w n [] own=true
 st:∀a b i j,bX K (rH l j++X b) ((100000,rdO l i)::X a)=(100000,rdO l j)::X b
 dk:dropKey 100000 own=own
 d0:∀t:Nat,dH (.t t) own=own
 dl:∀t:Nat,List.map (λc=>(c.1,List.filter (λx=> !decide (x=VM.Loc.t t)) c.2)) own=own
 tt:(own.all λc=>c.2.all λl=>match l with|.t i=>decide (i<3)|_=>true)=true
 wk:∀a i t1 t2,WkT t1 t2->yY ⟨t1,rH l i++X a,own⟩ ⟨t2,rH l i++X a,own⟩
 ed:∀a i (s:St),s.H=rH l i++X a->s.own=own->a4z prog s [] (.cX []) (rH l i++X a) own
variable{g i:Nat}{c:Nm}
theorem c2c{α:Type}{one:α->bF α}{a b:α}{j:Nat}(h:one a i=.ok b j):jC l c one (g+1) a i=if aL l j c then jC l c one g b (j+1) else .ok b j:=by rw[jC];simp only[h]
theorem b8c{α:Type}{one:α->bF α}{a:α}{n e:Int}(h:one a i=.bad n e):jC l c one (g+1) a i=.bad n e:=by rw[jC];simp only[h]
theorem b0T:∀K:List (Nat×Nat),eI K []=[]
 |[]=>rfl
 |p::r=>by unfold eI;exact b0T r
theorem jK{α:Type}(c:Nm){F:FuncId}{c2Q:List DV}{X:α->List (Nat×bG)}{own:List (TypeId×List VM.Loc)}{K:List (Nat×Nat)}(one:α->bF α)(Inv:α->Nat->Prop)(low:Nat)(he:VM.Enters prog F)(hX:a3e l K c2Q X own)(wF:∀a,aB l 0 (one a))(kR:∀a i,low<=i->i<l.length->Inv a i->qA G F c2Q (X a) own l i (one a i) (λ_=>.cX []) X)(hinv:∀a i b j,i<l.length->Inv a i->one a i=.ok b j->Inv b j)(e6U:∀a i,Inv a i->Inv a (i+1))(a0:α)(i0:Nat)(cM:low<=i0)(hi0:i0<l.length)(h0:Inv a0 i0):qA G 93 [.ptr 100000 0,.d (.str c),.clo F c2Q] (X a0) own l i0 (dJ l c one a0 i0) (λ_=>.cX []) X:=by
 have hl:=hV.len;refine qA.bO func93 rfl ntmps93 rfl hX.tt ?_;intro Q hQ;unfold dJ at hQ;simp[hX.dl];refine dX.mk (a2e he (kR a0 i0 cM hi0 h0) K (λa j hx=>hX.fit _ _ _ _) (hX.f3D _ _) hX.cap (hX.hh _ _) (hX.tk _ _ _) (hX.arg _) (λb j hx=>?_) (λn e hx=>hQ.bad n e _ (b8c hV hx)));rw[c2c hV hx]at hQ;simp only[bJ,hX.st,hX.ow,b0T hV,bI,jB,kJ,dH,List.map_nil,List.append_nil];simp[bA];refine SW.sV (ι:={x:α×Nat×Nat//low<=x.2.1/\x.2.1<l.length/\l.length<x.2.2+x.2.1/\Inv x.1 x.2.1/\(if aL l x.2.1 c=true then jC l c one x.2.2 x.1 (x.2.1+1) else .ok x.1 x.2.1)=(if aL l j c=true then jC l c one (l.length+1) b (j+1) else .ok b j)}) (λ_=>[]) (λx=>rH l x.1.2.1++X x.1.1) (λ_=>own) (λx=>l.length-x.1.2.1) ⟨(b,j,l.length+1),?_⟩ ?_ ?_
 .have h1:=wF a0 i0 b j hi0 hx;exact⟨by simp only;omega,h1.2,by simp only;omega,hinv a0 i0 b j hi0 h0 hx,rfl⟩
 .refine hX.wk b j _ _ ?_;simp
 .rintro⟨⟨b1,j1,g1⟩,hl1,tS,hg1,hI1,hp1⟩;simp only at hl1 tS hg1 hI1 hp1;rw[<-hp1]at hQ;simp[hX.dl];by_cases hs:aL l j1 c=true
  .have hn:=aV hV.fin tS hs;rw[hs,if_pos rfl]at hQ hp1;obtain⟨g2,rfl⟩:∃g,g1=g+1:=⟨g1-1,by omega⟩;refine qB (ds:=[.str c]) (d:=.d (.bool true)) kU (tY l j1 c tS (by omega) hs) ?_;simp only[jB,hX.dk,hX.d0];simp[hX.dl];refine dX.mk (a2e he (kR b1 (j1+1) (by omega) hn (e6U _ _ hI1)) K (λa j hx=>hX.fit _ _ _ _) (hX.f3D _ _) hX.cap (hX.hh _ _) (hX.tk _ _ _) (hX.arg _) (λb2 j2 hx2=>?_) (λn e hx2=>?_))
   .have ha:=wF b1 (j1+1) b2 j2 hn hx2;rw[c2c hV hx2]at hp1;simp only[bJ,hX.st,hX.ow,b0T hV,bI,jB,kJ,dH,List.map_nil,List.append_nil];simp[bA];refine bE.mk ⟨(b2,j2,g2),by simp only;omega,ha.2,by simp only;omega,hinv _ _ _ _ hn (e6U _ _ hI1) hx2,hp1⟩ ?_ (by simp;omega);refine hX.wk b2 j2 _ _ ?_;simp
   .simp;exact hQ.bad n e _ (b8c hV hx2)
  .have hs:=Bool.eq_false_iff.2 hs;rw[hs,if_neg (by decide)]at hQ;refine qB (ds:=[.str c]) (d:=.d (.bool false)) kU (b3Q l j1 c tS (by omega) hs) ?_;simp only[jB,hX.dk,hX.d0];simp[hX.dl];exact hQ.ok b1 j1 _ _ rfl (.inl rfl) (hX.ed b1 j1 _ rfl rfl)
end
theorem a2w(l:List Nm)(s:Nm):strs (l++[s])=strs l++[[.str s]]:=by simp[strs]
abbrev K3:List (Nat×Nat):=[(100000,100000),(100001,100001),(100002,100002)]
theorem a4a:VM.Enters prog 92:=.mk func92 rfl
section
variable {rdP:List Tok->Nat->Nat->gO Pr} {l:List Tok} (hV:rQ G rdP l)
include hV
def a4D(out:List Nm):List (Nat×bG):=[(100001,.cells [.d (.sl (strs out))]),(100002,.cells [.ptr 100000 0])]
abbrev d8d:List (TypeId×List VM.Loc):=[(9,[.c 100001 0])]
abbrev a1H(l:List Tok)(out:List Nm):bF (List Nm):=do let w <- bV aH l;pure (out++[w])
theorem c3S(out:List Nm)(i:Nat)(hi:i<l.length)(vT:out.length<=i):qA G 147 [.ptr 100001 0,.ptr 100002 0] (a4D out) d8d l i (a1H l out i) (λ_=>.cX []) a4D:=by
 have hl:=hV.len;refine qA.bO func147 rfl ntmps147 rfl (by simp) ?_;intro Q hQ;simp[a4D];refine mS 2 [1] (.op 0 (.call [3,4,5] .none) (.call [0,3,4,5] .none)) (kZ (bV aH l i)) (by kernel_rfl) (by kernel_rfl) ?_;simp;refine⟨?_,?_⟩
 all_goals
  refine rdZ (ds:=[]) dS (eN hV.kw l i hi (by omega)) (λw j hx=>?_) (λn e hx=>hQ.fail hx _);have hQ2:=hQ.step hx;refine cG.mk ?_;simp;refine bQ (by omega) ?_;simp;exact hQ2.ok _ j _ _ rfl (.inl rfl) (by simp[a4D,a2w])
theorem d0C:a3e l K3 [.ptr 100001 0,.ptr 100002 0] a4D d8d:=by
 constructor
 all_goals intros
 all_goals first
  |rfl
  |simp[a4D,aW,bB,bD,bC,bK,getKey,bA,bI,dC,rk,dL,bX, *]
theorem a8b(i:Nat)(hi:i<l.length):tR G 101 [] l i (jD aH l i) (λws=>.d (.sl (strs ws))):=by
 have hl:=hV.len;refine qA.bO func101 rfl ntmps101 rfl (by simp) ?_;intro Q hQ;unfold jD at hQ;simp;refine rdX (hw:=by simp[strs]) (ds:=[.sl (strs [[40]])]) oK (pV l [[40]] i hi (by omega) hV.fin) (λu j hx=>?_) (λn e hx=>hQ.fail hx _);have hQ2:=hQ.step hx;have hj:=aB.exp hV.fin _ _ i u j hi hx;simp;have kR:=jK hV [44] (a1H l) (λout i=>out.length<=i) 0 (.mk func147 rfl) (d0C hV) (λa=>(aB.word hV.fin).bz λ_=>aB.bP _) (λa i _ hi h=>c3S hV a i hi h) (λa i b j hi h hx=>?_) (λa i h=>by omega) [] j (by omega) hj.2 (by simp)
 .refine dX.mk (a2e eT kR [(100000,100000),(100001,3),(100002,1)] (λa j hx=>?_) ?_ ?_ ?_ rfl rfl (λws j2 hx2=>?_) (λn e hx2=>hQ2.fail hx2 _))
  .simp[a4D,aW,bB,bD,bC,bK,getKey]
  .simp[a4D,aW,bB,bD,bC,bK,getKey]
  .simp[bA,bI,rk]
  .simp[a4D,bA,bI,rk,dC,dL]
  .have hQ3:=hQ2.step hx2;have vH:=aB.list hV.fin (m:=0) (λa=>(aB.word hV.fin).bz λ_=>aB.bP _) [] j ws j2 hj.2 hx2;simp[bJ,a4D,bA,bI,rk,dC,dL,bX,kI,jA,eI];refine rdX (hw:=by simp[strs]) (ds:=[.sl (strs [[41]])]) oK (pV l [[41]] j2 vH.2 (by omega) hV.fin) (λu j hx=>?_) (λn e hx=>hQ3.fail hx _);have hQ4:=hQ3.step hx;simp;exact hQ4.ok _ j _ _ rfl (.inr rfl) (by simp)
 .simp only[a1H]at hx;rw[cR]at hx;cases hw:bV aH l i with
  |bad n e=>rw[hw]at hx;cases hx
  |ok w k=>rw[hw]at hx;have:=aB.word (kw:=aH) hV.fin i w k hi hw;cases hx;simp;omega
end
theorem oA(h:aL l i s=true):cS l s i=.ok true (i+1):=by unfold cS;rw[if_pos h]
theorem oB(h:aL l i s=false):cS l s i=.ok false i:=by unfold cS;rw[if_neg (by rw[h];decide)]
section
variable {rdP:List Tok->Nat->Nat->gO Pr} {l:List Tok} (hV:rQ G rdP l)
include hV
def a6G(v:Bool)(out:List psV):List (Nat×bG):=[(100001,.cells [.d (.bool v)]),(100002,.cells [.ptr 100000 0]),(100003,.cells [.d (.sl (out.map dP))])]
abbrev e6V:List (TypeId×List VM.Loc):=[(166,[.c 100003 0])]
abbrev K4:List (Nat×Nat):=[(100000,100000),(100001,100001),(100002,100002),(100003,100003)]
abbrev c2d(l:List Tok)(v:Bool)(out:List psV):bF (List psV):=do
 let b <- (if v then cS l [118] else pure false)
 let name <- (if b then pure [118] else bV aH l)
 aR l [[58]]
 let s <- a1x aH l
 pure (out++[(name,s)])
theorem a9h(l:List psV)(x:psV):(l++[x]).map dP=l.map dP++[[.str x.1,.str x.2]]:=by simp[dP]
theorem d8f(l:List psV):∀x∈l.map dP,x.length=2:=λx hx=>by
 obtain⟨y,_,rfl⟩:=g3L.1 hx
 rfl
theorem c7s(v:Bool)(out:List psV)(j0:Nat)(hi:j0<l.length)(vT:out.length<=j0):qA G 145 [.ptr 100001 0,.ptr 100002 0,.ptr 100003 0] (a6G v out) e6V l j0 (c2d l v out j0) (λ_=>.cX []) (a6G v):=by
 have hl:=hV.len;refine qA.bO func145 rfl ntmps145 rfl (by simp) ?_;intro Q Q0;have p0:=gT hi;simp[a6G];cases v with
 |false=>
  have Q1:=Q0.step (x:=pure false) rfl;rw[if_neg (by decide)]at Q1;simp;obtain⟨j1,rfl⟩:∃j1,j1=j0:=⟨_,rfl⟩;have p1:=p0;refine uG Q1 p1 dS (eN hV.kw l j1 p1.2 (by omega)) (aB.word hV.fin) λs j2 x2 Q2 p2=>?_;simp;refine eS Q2 p2 hV.fin λu5 j5 x5 Q5 p5=>?_;simp;refine dK [1] 3 [2] (.op 0 (.call [4,5,6,7] .none) (.call [0,4,5,6,7] .none)) (kZ (a1x aH l j5)) (by kernel_rfl) (by kernel_rfl) ?_;simp;refine⟨?_,?_⟩
  all_goals
   refine rX Q5 p5 a3Y (a5X hV.kw l j5 p5.2 (by omega)) (aB.sort hV.fin) λw j6 x6 Q6 p6=>cG.mk ?_;simp;refine bQ (by simp[dP];omega) ?_;simp;exact Q6.ok _ j6 _ _ rfl (.inl rfl) (by simp[a6G,a9h hV])
 |true=>
  cases hs:aL l j0 [118]with
  |true=>
   have Q1:=Q0.step (x:=cS l [118]) (oA hs);rw[if_pos rfl]at Q1;have Q2:=Q1.step (x:=pure [118]) rfl;simp;refine rdT hs p0 hV.fin λp2=>?_;obtain⟨j2,vH⟩:∃j2,j0+1=j2:=⟨_,rfl⟩;rw[vH]at Q2 p2|-;simp;refine eS Q2 p2 hV.fin λu5 j5 x5 Q5 p5=>?_;simp;refine dK [1] 3 [2] (.op 0 (.call [4,5,6,7] .none) (.call [0,4,5,6,7] .none)) (kZ (a1x aH l j5)) (by kernel_rfl) (by kernel_rfl) ?_;simp;refine⟨?_,?_⟩
   all_goals
    refine rX Q5 p5 a3Y (a5X hV.kw l j5 p5.2 (by omega)) (aB.sort hV.fin) λw j6 x6 Q6 p6=>cG.mk ?_;simp;refine bQ (by simp[dP];omega) ?_;simp;exact Q6.ok _ j6 _ _ rfl (.inl rfl) (by simp[a6G,a9h hV])
  |false=>
   have Q1:=Q0.step (x:=cS l [118]) (oB hs);rw[if_neg (by decide)]at Q1;simp;refine rdF hs p0 ?_;simp;obtain⟨j1,rfl⟩:∃j1,j1=j0:=⟨_,rfl⟩;have p1:=p0;refine uG Q1 p1 dS (eN hV.kw l j1 p1.2 (by omega)) (aB.word hV.fin) λs j2 x2 Q2 p2=>?_;simp;refine eS Q2 p2 hV.fin λu5 j5 x5 Q5 p5=>?_;simp;refine dK [1] 3 [2] (.op 0 (.call [4,5,6,7] .none) (.call [0,4,5,6,7] .none)) (kZ (a1x aH l j5)) (by kernel_rfl) (by kernel_rfl) ?_;simp;refine⟨?_,?_⟩
   all_goals
    refine rX Q5 p5 a3Y (a5X hV.kw l j5 p5.2 (by omega)) (aB.sort hV.fin) λw j6 x6 Q6 p6=>cG.mk ?_;simp;refine bQ (by simp[dP];omega) ?_;simp;exact Q6.ok _ j6 _ _ rfl (.inl rfl) (by simp[a6G,a9h hV])
theorem d4p(v:Bool):a3e l K4 [.ptr 100001 0,.ptr 100002 0,.ptr 100003 0] (a6G v) e6V:=by
 constructor
 all_goals intros
 all_goals first
  |rfl
  |simp[a6G,aW,bB,bD,bC,bK,getKey,bA,bI,dC,rk,dL,bX, *]
theorem b3U(v:Bool)(out:List psV):aB l 1 (c2d l v out):=by refine aB.br (aB.ite (aB.skip hV.fin _) (aB.bP _)) λb=>?_;refine aB.br (aB.ite (aB.bP _) ((aB.word hV.fin).le (by omega))) λnm=>?_;exact(aB.exp hV.fin _ _).bl λ_=>(aB.sort hV.fin).bz λ_=>aB.bP _
theorem c2e(v:Bool)(a:List psV)(i:Nat)(b:List psV)(j:Nat)(h:c2d l v a i=.ok b j):b.length=a.length+1:=by
 simp only[c2d,cR]at h
 repeat' split at h
 all_goals first|cases h|skip
 all_goals simp
theorem a5Z(v:Bool)(i:Nat)(hi:i<l.length):tR G 92 [.bool v] l i (sE aH l v i) (λws=>.d (.sl (ws.map dP))):=by
 have hl:=hV.len;refine qA.bO func92 rfl ntmps92 rfl (by simp) ?_;intro Q Q0;unfold sE at Q0;simp;have kR:=jK hV [44] (c2d l v) (λout i=>out.length<=i) 0 (.mk func145 rfl) (d4p hV v) (λa=>(b3U hV v a).le (by omega)) (λa i _ hi h=>c7s hV v a i hi h) (λa i b j hi h hx=>?_) (λa i h=>by omega) [] i (by omega) hi (by simp)
 .refine dX.mk (a2e eT kR [(100000,100000),(100001,3),(100002,2),(100003,5)] (λa j hx=>?_) ?_ ?_ ?_ rfl rfl (λws j2 hx2=>?_) (λn e hx2=>Q0.bad n e _ hx2))
  .simp[a6G,aW,bB,bD,bC,bK,getKey]
  .simp[a6G,aW,bB,bD,bC,bK,getKey]
  .simp[bA,bI,rk]
  .simp[a6G,bA,bI,rk,dC,dL]
  .simp[bJ,a6G,bA,bI,rk,dC,dL,bX,kI,jA,eI];exact Q0.ok _ j2 _ _ hx2 (.inr rfl) (by simp)
 .have h1:=b3U hV v a i b j hi hx;have h2:=c2e hV v a i b j hx;omega
end
end
end Go.Proofs.YtmfbjecjccipfaaGreatDoor
section
section
namespace Go.Proofs.YtmfbjecjccipfaaGreatDoor
open Go Go.VM
variable {G:GT}
mutual
def a2g:Pr->Pr->Bool
 |⟨o,n,k,l⟩,⟨o',n',k',l'⟩=>decide (o=o')&&(decide (n=n')&&(decide (k=k')&&(decide (l.length=l'.length)&&yT l l')))
def yT:List Pr->List Pr->Bool
 |a::r,b::s=>a2g a b&&yT r s
 |[],_=>true
 |_::_,[]=>true
end
theorem d2z(a b:Pr):a2g a b=(decide (a.op=b.op)&&(decide (a.name=b.name)&&(decide (a.n=b.n)&&(decide (a.kids.length=b.kids.length)&&yT a.kids b.kids)))):=by cases a;cases b;rfl
mutual
theorem b2w:∀a b:Pr,a2g a b=true↔a=b
 |⟨o,n,k,l⟩,⟨o',n',k',l'⟩=>by
  have:=c2f l l';simp only[a2g,g3q,g4e,Pr.mk.injEq];constructor
  .rintro⟨h1,h2,h3,h4,h5⟩;exact⟨h1,h2,h3,(this h4).1 h5⟩
  .rintro⟨h1,h2,h3,rfl⟩;exact⟨h1,h2,h3,rfl,(this rfl).2 rfl⟩
theorem c2f:∀l k:List Pr,l.length=k.length->(yT l k=true↔l=k)
 |[],[],_=>by simp[yT]
 |a::r,b::s,h=>by have h1:=b2w a b;have h2:=c2f r s (by simpa using h);simp only[yT,g3q,h1,h2,List.cons.injEq]
 |[],_::_,h=>by simp at h
 |_::_,[],h=>by simp at h
end
theorem b8d{l k:List Pr}{i:Nat}(h:i<l.length)(h':i<k.length):yT (l.drop i) (k.drop i)=(a2g l[i] k[i]&&yT (l.drop (i+1)) (k.drop (i+1))):=by
 rw[g3D h,g3D h']
 rfl
theorem c2g(l k:List Pr):yT (l.drop l.length) k=true:=by simp[yT]
end Go.Proofs.YtmfbjecjccipfaaGreatDoor
end
section
namespace Go.Proofs.YtmfbjecjccipfaaGreatDoor
open Go Go.VM
variable {G:GT}
theorem mO:VM.Enters prog 65:=.mk func65 rfl
theorem qJ:∀t u:Pr,bN t<=900000000->CS prog G 65 [.agg (prD t),.agg (prD u)] (.d (.bool (a2g t u))) none:=by
 refine Pr.ind λt ih=>?_;obtain⟨op,nm,n,l⟩:=t;intro u hN;obtain⟨op',nm',n',l'⟩:=u;simp only at ih;have hn:=qV ⟨op,nm,n,l⟩;have hq:=d2z ⟨op,nm,n,l⟩ ⟨op',nm',n',l'⟩;simp only at hn hq;have hl:=jY l;refine CS.aY func65 rfl ntmps65 rfl ?_;by_cases h1:op=op'
 .by_cases h2:nm=nm'
  .by_cases h4:n=n'
   .by_cases h3:l.length=l'.length
    .simp only[h1,h2,h3,h4,decide_true,Bool.true_and]at hq;simp[h1,h2,h3,h4];refine SW.eA (ι:={i:Nat//i<=l.length/\yT (l.drop i) (l'.drop i)=yT l l' }) (λi=>[(37,.d (.int .i64 i.1))]) (λi=>[(2,.cells [.d (.int .i64 op'),.d (.str nm'),.d (.int .i64 n'),.d (.sl (l.map qF))]),(3,.cells [.d (.int .i64 op'),.d (.str nm'),.d (.int .i64 n'),.d (.sl (l'.map qF))])]) (λ_=>[]) (λi=>l.length-i.1) ⟨0,by simp⟩ (by simp) ?_;rintro⟨i,hi,hR⟩
     try simp only at hi hR
     by_cases aG:i<l.length
     .have c3u:i<l'.length:=by omega
      have hg:=xJ aG;have hg':=xJ c3u;have hw:=aX (show i<9223372036854775807 by omega);have hb2:=tG aG;have hb3:=mA l (i+1);rw[b8d aG c3u]at hR;simp[c3u,aG,hg,hg'];refine⟨.mk,?_⟩;refine aC.mk mO (ih l[i] (g3P aG) l'[i] (by omega)) ?_;cases hs:a2g l[i] l'[i]
      .rw[hs,Bool.false_and]at hR;simp[hs,hq, <- hR]
      .rw[hs,Bool.true_and]at hR;simp[hs];exact bE.mk ⟨i+1,aG,hR⟩ (by simp[hw]) (by simp;omega)
     .have:i=l.length:=by omega
      subst this;rw[c2g]at hR;simp[hq, <- hR, <- h3]
    .simp only[h1,h2,h3,h4,decide_true,decide_false,Bool.true_and,Bool.false_and]at hq;have h3':¬((l.length:Int)=(l'.length:Int)):=by omega
     simp[h1,h2,h3,h3',h4,hq]
   .simp only[h1,h2,h4,decide_true,decide_false,Bool.true_and,Bool.false_and]at hq;simp[h1,h2,h4,hq]
  .simp only[h1,h2,decide_true,decide_false,Bool.true_and,Bool.false_and]at hq;simp[h1,h2,hq]
 .simp only[h1,decide_false,Bool.false_and]at hq;simp[h1,hq]
def d4q(l l':List Pr):Bool:=decide (l.length=l'.length)&&yT l l'
end Go.Proofs.YtmfbjecjccipfaaGreatDoor
end
end
