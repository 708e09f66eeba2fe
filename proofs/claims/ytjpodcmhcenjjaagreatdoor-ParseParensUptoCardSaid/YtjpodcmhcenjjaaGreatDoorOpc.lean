/- Lemmas that the law of this claim needs (ZJ ZV VmR VmRT VmR5 VmRX VmRS ZB PsA PsB PsC PsE PsF PsG Z9). No condition. -/
import Derived.Test.YtjpodcmhcenjjaaGreatDoorOpb
import Derived.Laws.CopyRow
import Derived.Laws.MakeOwn
import Derived.RangeFuncOwn
import Derived.Lib.TrimByte
import Derived.Lib.Repeat
set_option linter.unusedVariables false
set_option linter.unusedSimpArgs false
set_option linter.unusedSectionVars false
set_option maxRecDepth 100000
set_option maxHeartbeats 64000000
section
section
namespace Go.Proofs.YtjpodcmhcenjjaaGreatDoor
structure bY where
 op:Int
 name:Nm
 n:Int
 kids:List bY
 params:List (Nm×Ty)
 alts:List (Nm×List Nm×bY)
 types:List Ty
abbrev psV:=Nm×Nm
structure qI where
 name:Nm
 vars:List psV
 hyp:Pr
 goal:Pr
structure b1K where
 vars:List Nm
 wU:List psV
 abs:List psV
 bounds:List qI
 type:Ty
 b3e:List Pr
structure kK where
 name:Nm
 params:List Nm
 body:bY
 mode:Int
 typed:Bool
 sig:b1K
structure a2Y where
 name:Nm
 names:List Nm
 fields:List Ty
structure a8D where
 name:Nm
 vars:List Nm
 a4A:List psV
 cons:List a2Y
structure a4B where
 name:Nm
 var:Nm
 methods:List (Nm×Ty)
structure a8E where
 cls:Nm
 type:Ty
 wU:List psV
 defs:List kK
structure a8F where
 name:Nm
 data:Nm
 result:Nm
 cases:List (Nm×List Nm×Pr)
 inv:Pr
structure a8G where
 name:Nm
 vars:List psV
 body:Pr
structure kL where
 a8H:List a8D
 a4C:List a4B
 insts:List a8E
 a8I:List a8F
 b5H:List a8G
 defs:List kK
def kS:Pr:=⟨0,[],0,[]⟩
def oL:Ty:=⟨0,[],[],[],kS,[]⟩
def a0R:bY:=⟨0,[],0,[],[],[],[]⟩
def a7k:b1K:=⟨[],[],[],[],oL,[]⟩
def psT (op:Int)(name:Nm):Ty:=⟨op,name,[],[],kS,[]⟩
def bV (op:Int)(kids:List bY):bY:=⟨op,[],0,kids,[],[],[]⟩
inductive kY (α:Type) where
 |ok (a:α) (at':Nat)
 |bad (line err:Int)
def aS (α:Type):=Nat→kY α
def aS.aO {α:Type}(a:α):aS α:=fun i=> .ok a i
def aS.bnd {α β:Type}(x:aS α)(f:α→aS β):aS β:=fun i=>match x i with
 | .ok a j=>f a j
 | .bad n e=> .bad n e
instance:Monad aS where
 pure:=aS.aO
 bind:=aS.bnd
@[simp] theorem gA {α:Type}(a:α)(i:Nat):(pure a:aS α) i= .ok a i:=rfl
theorem eF {α β:Type}(x:aS α)(f:α→aS β)(i:Nat):(x >>=f) i=match x i with
 | .ok a j=>f a j
 | .bad n e=> .bad n e:=rfl
theorem bF {α β:Type}{x:aS α}{f:α→aS β}{i j:Nat}{a:α}(h:x i= .ok a j):(x >>=f) i=f a j:=by rw [eF,h]
theorem gT {α β:Type}{x:aS α}{f:α→aS β}{i:Nat}{n e:Int}(h:x i= .bad n e):(x >>=f) i= .bad n e:=by rw [eF,h]
section
variable (kw:Nm→Bool) (andP:Pr→Pr→Pr) (rdP:List Tok→Nat→Nat→kY Pr) (l:List Tok)
def aJ (i:Nat):Tok:=if i<l.length then l.getD i ⟨0,[],0,0⟩ else l.getLastD ⟨0,[],0,0⟩
def cU (t:Tok)(s:Nm):Bool:=(decide (t.kind=1)||decide (t.kind=4)||decide (t.kind=2))&&decide (t.text=s)
def gU (t:Tok):Bool:=decide (t.kind=1)&& !kw t.text
def kT (t:Tok):Bool:=decide (t.kind=2)
def aI (i:Nat)(s:Nm):Bool:=cU (aJ l i) s
def cQ {α:Type}:aS α:=fun i=> .bad (aJ l i).line 14
def cR (s:Nm):aS Bool:=fun i=>if aI l i s then .ok true (i+1) else .ok false i
def aL:List Nm→aS Unit
 |[]=>pure ()
 |s::r=>fun i=>if aI l i s then aL r (i+1) else cQ l i
def mK (ok:Tok→Bool):aS Nm:=fun i=>if ok (aJ l i) then .ok (aJ l i).text (i+1) else cQ l i
def bL:aS Nm:=mK l (gU kw)
def eQ:aS Nm:=mK l kT
def a0e:aS Nm:=mK l fun t=>gU kw t||kT t
def gV {α:Type}(c:Nm)(one:α→aS α):Nat→α→aS α
 |0,_=>fun _=> .bad 0 0
 |g+1,a=>fun i=>match one a i with
  | .bad n e=> .bad n e
  | .ok b j=>if aI l j c then gV c one g b (j+1) else .ok b j
def dT {α:Type}(c:Nm)(one:α→aS α)(a:α):aS α:=gV l c one (l.length+2) a
def dK {α:Type}(c:Nat→Bool)(one:α→aS α):Nat→α→aS α
 |0,_=>fun _=> .bad 0 0
 |g+1,a=>fun i=>if c i then (match one a i with
  | .bad n e=> .bad n e
  | .ok b j=>dK c one g b j) else .ok a i
def oT {α:Type}(c:Nat→Bool)(one:α→aS α)(a:α):aS α:=dK c one (l.length+2) a
def dH:aS Pr:=fun i=>rdP l i l.length
def cZ:aS (List Nm):=do
 aL l [[40]]
 let out ← dT l [44] (fun out=>do let w ← bL kw l;pure (out++[w])) []
 aL l [[41]]
 pure out
def tC (v:Bool):aS (List psV):=dT l [44] (fun out=>do
 let b ← (if v then cR l [118] else pure false)
 let name ← (if b then pure [118] else bL kw l)
 aL l [[58]]
 let s ← a0e kw l
 pure (out++[(name,s)])) []
def gI:aS (Option Ty):=fun i=>
 if aI l i [73,110,116] then .ok (some (psT 1 [])) (i+1)
 else if aI l i [66,111,111,108] then .ok (some (psT 2 [])) (i+1)
 else if aI l i [67,101,108,108] then .ok (some (psT 3 [])) (i+1)
 else if gU kw (aJ l i) then .ok (some (psT 5 (aJ l i).text)) (i+1)
 else .ok none i
section
variable (ty:aS Ty)
def oU:aS Ty:=do
 aL l [[123],[118],[58]]
 let t ← ty
 if t.op=6 then cQ l else do
 aL l [[124]]
 let p ← dH rdP l
 aL l [[125]]
 pure { t with pred:=if t.pred.op=0 then p else andP t.pred p }
def a8J (i:Nat):Bool:=gU kw (aJ l i)||kT (aJ l i)||aI l i [123]||aI l i [40]
def eG:aS Ty:=do
 let b ← gI kw l
 match b with
 |some t=>pure t
 |none=>
  fun i=>
  if kT (aJ l i) then .ok (psT 4 (aJ l i).text) (i+1)
  else if aI l i [123] then oU andP rdP l ty i
  else (do
   aL l [[40]]
   let t ← ty
   aL l [[41]]
   pure t:aS Ty) i
def oF:aS Ty:=do
 let name ← eQ l
 let args ← oT l (a8J kw l) (fun out=>do let t ← eG kw andP rdP l ty;pure (out++[t])) []
 let b ← cR l [60]
 if b then do
  let ps ← dT l [44] (fun out=>do
   aL l [[118],[46]]
   let p ← dH rdP l
   pure (out++[p])) []
  aL l [[62]]
  pure { psT 4 name with args:=args,a4A:=ps }
 else pure { psT 4 name with args:=args }
def qS:aS Ty:=do
 aL l [[40]]
 let (ns,ts) ← (fun i=>if gU kw (aJ l i)&&cU (aJ l (i+1)) [58] then
   dT l [44] (fun (out:List Nm×List Ty)=>do
    let w ← bL kw l
    aL l [[58]]
    let t ← ty
    pure (out.1++[w],out.2++[t])) ([],[]) i
  else dT l [44] (fun (out:List Nm×List Ty)=>do
    let t ← ty
    pure (out.1,out.2++[t])) ([],[]) i:aS (List Nm×List Ty))
 aL l [[41]]
 fun i=>
  if decide (ns.length=0)&&decide (ts.length=1)&& !aI l i [45,62] then .ok (ts.headD oL) i
  else (do
   aL l [[45,62]]
   let t ← ty
   pure { psT 6 [] with names:=ns,args:=ts++[t] }:aS Ty) i
def oV:aS Ty:=do
 let b ← gI kw l
 match b with
 |some t=>pure t
 |none=>
  fun i=>
  if kT (aJ l i) then oF kw andP rdP l ty i
  else if aI l i [123] then oU andP rdP l ty i
  else qS kw l ty i
end
def kZ:Nat→aS Ty
 |0=>fun _=> .bad 0 0
 |n+1=>oV kw andP rdP l (kZ n)
def cK:aS Ty:=kZ kw andP rdP l (l.length+2)
def oG:aS (List Ty):=do
 let b ← cR l [91]
 if b then do
  let out ← dT l [44] (fun out=>do let t ← cK kw andP rdP l;pure (out++[t])) []
  aL l [[93]]
  pure out
 else pure []
section
variable (ex:Nat→aS bY)
def eR:aS (List bY):=do
 aL l [[40]]
 let out ← dT l [44] (fun out=>do let e ← ex 0;pure (out++[e])) []
 aL l [[41]]
 pure out
def uV:aS bY:=do
 let name ← bL kw l
 let b ← cR l [58]
 let ts ← (if b then do let t ← cK kw andP rdP l;pure [t] else pure []:aS (List Ty))
 aL l [[61]]
 let a ← ex 0
 aL l [[105,110]]
 let c ← ex 0
 pure { bV 7 [a,c] with name:=name,types:=ts }
def oM:aS bY:=do
 let e ← ex 0
 aL l [[111,102],[123]]
 let alts ← dT l [59] (fun out=>do
  let c ← eQ l
  let ns ← (fun i=>if aI l i [40] then cZ kw l i else .ok [] i:aS (List Nm))
  aL l [[45,62]]
  let b ← ex 0
  pure (out++[(c,ns,b)])) []
 aL l [[125]]
 pure { bV 9 [e] with alts:=alts }
def uW:aS bY:=do
 aL l [[40]]
 let ps ← dT l [44] (fun out=>do
  let w ← bL kw l
  let b ← cR l [58]
  let t ← (if b then cK kw andP rdP l else pure oL)
  pure (out++[(w,t)])) []
 aL l [[41],[45,62]]
 let e ← ex 0
 pure { bV 6 [e] with params:=ps }
def tD (op:Int):aS bY:=do
 aL l [[40]]
 let e ← ex 0
 aL l [[41]]
 pure (bV op [e])
def gQ:aS bY:=do
 aL l [[40]]
 fun i=>
  if aI l i [45]&&decide ((aJ l (i+1)).kind=3)&&cU (aJ l (i+2)) [41] then .ok ⟨1,[], -(aJ l (i+1)).n,[],[],[],[]⟩ (i+3)
  else (do
   let e ← ex 0
   let b ← cR l [58]
   let e ← (if b then do let t ← cK kw andP rdP l;pure { bV 26 [e] with types:=[t] } else pure e:aS bY)
   aL l [[41]]
   pure e:aS bY) i
def mF:aS bY:=fun i=>
 if (aJ l i).kind=3 then .ok ⟨1,[],(aJ l i).n,[],[],[],[]⟩ (i+1)
 else if aI l i [116,114,117,101] then .ok ⟨2,[],1,[],[],[],[]⟩ (i+1)
 else if aI l i [102,97,108,115,101] then .ok ⟨2,[],0,[],[],[],[]⟩ (i+1)
 else if aI l i [110,101,119] then tD l ex 22 (i+1)
 else if aI l i [103,101,116] then tD l ex 23 (i+1)
 else if aI l i [115,101,116] then (do
  aL l [[40]]
  let a ← ex 0
  aL l [[44]]
  let b ← ex 0
  aL l [[41]]
  pure (bV 24 [a,b]):aS bY) (i+1)
 else if gU kw (aJ l i) then
  (if !aI l (i+1) [91]&& !aI l (i+1) [40] then .ok { bV 3 [] with name:=(aJ l i).text } (i+1)
  else (do
   let ts ← oG kw andP rdP l
   let ks ← eR l ex
   pure { bV 5 ks with name:=(aJ l i).text,types:=ts }:aS bY) (i+1))
 else if kT (aJ l i) then (do
  let ts ← oG kw andP rdP l
  let ks ← (fun j=>if aI l j [40] then eR l ex j else .ok [] j:aS (List bY))
  pure { bV 4 ks with name:=(aJ l i).text,types:=ts }:aS bY) (i+1)
 else gQ kw andP rdP l ex i
def qW:aS bY:=fun i=>if aI l i [45] then (do let e ← ex 7;pure (bV 15 [e]):aS bY) (i+1) else mF kw andP rdP l ex i
def dC (ops:List (Nm×Int))(one:aS bY):Nat→bY→aS bY
 |0,_=>fun _=> .bad 0 0
 |g+1,e=>fun i=>match ops.find? fun p=>aI l i p.1 with
  |none=> .ok e i
  |some p=>match one (i+1) with
   | .bad n e=> .bad n e
   | .ok x j=>dC ops one g (bV p.2 [e,x]) j
def rR (ops:List (Nm×Int))(one:aS bY):aS bY:=do
 let e ← one
 dC l ops one (l.length+2) e
def a4D:aS bY:=rR l [([42],12),([100,105,118],13),([109,111,100],14)] (qW kw andP rdP l ex)
def dB:aS bY:=rR l [([43],10),([45],11)] (a4D kw andP rdP l ex)
def rK:aS bY:=do
 let e ← dB kw andP rdP l ex
 fun i=>
  if aI l i [61,61] then (do let x ← dB kw andP rdP l ex;pure (bV 16 [e,x]):aS bY) (i+1)
  else if aI l i [33,61] then (do let x ← dB kw andP rdP l ex;pure (bV 21 [bV 16 [e,x]]):aS bY) (i+1)
  else if aI l i [60] then (do let x ← dB kw andP rdP l ex;pure (bV 17 [e,x]):aS bY) (i+1)
  else if aI l i [60,61] then (do let x ← dB kw andP rdP l ex;pure (bV 18 [e,x]):aS bY) (i+1)
  else if aI l i [62] then (do let x ← dB kw andP rdP l ex;pure (bV 17 [x,e]):aS bY) (i+1)
  else if aI l i [62,61] then (do let x ← dB kw andP rdP l ex;pure (bV 18 [x,e]):aS bY) (i+1)
  else .ok e i
def pT:aS bY:=fun i=>if aI l i [33] then (do let e ← ex 3;pure (bV 21 [e]):aS bY) (i+1) else rK kw andP rdP l ex i
def a8K:aS bY:=rR l [([38,38],19)] (pT kw andP rdP l ex)
def a2Z:aS bY:=rR l [([124,124],20)] (a8K kw andP rdP l ex)
def uI:aS bY:=fun i=>
 if aI l i [108,101,116] then uV kw andP rdP l ex (i+1)
 else if aI l i [105,102] then (do
  let a ← ex 0
  aL l [[116,104,101,110]]
  let b ← ex 0
  aL l [[101,108,115,101]]
  let c ← ex 0
  pure (bV 8 [a,b,c]):aS bY) (i+1)
 else if aI l i [99,97,115,101] then oM kw l ex (i+1)
 else if aI l i [102,117,110] then uW kw andP rdP l ex (i+1)
 else if aI l i [117,115,101] then (do
  let name ← bL kw l
  let ks ← eR l ex
  aL l [[105,110]]
  let b ← ex 0
  pure { bV 25 (ks++[b]) with name:=name }:aS bY) (i+1)
 else a2Z kw andP rdP l ex i
end
def mL:Nat→Nat→aS bY
 |0,_=>fun _=> .bad 0 0
 |n+1,k=>if k=7 then qW kw andP rdP l (mL n) else if k=3 then pT kw andP rdP l (mL n) else uI kw andP rdP l (mL n)
def a1u:aS bY:=mL kw andP rdP l (l.length+2) 0
def tT:aS (List psV):=dT l [44] (fun out=>do
 let c ← eQ l
 let w ← bL kw l
 pure (out++[(c,w)])) []
def tU:aS qI:=do
 let name ← bL kw l
 aL l [[40]]
 let vs ← tC kw l false
 aL l [[41]]
 let h ← dH rdP l
 aL l [[45,62]]
 let g ← dH rdP l
 aL l [[46]]
 pure ⟨name,vs,h,g⟩
def uJ:Nat→Int→Nat→Nat
 |0,_,_=>l.length
 |g+1,d,i=>if i<l.length then (if cU (aJ l i) [40] then uJ g (d+1) (i+1) else if cU (aJ l i) [41] then uJ g (d-1) (i+1) else if cU (aJ l i) [61]&&decide (d≤0) then i else uJ g d (i+1)) else l.length
def a0K:aS b1K:=do
 let b ← cR l [102,111,114,97,108,108]
 let vs ← (if b then do
  let w ← bL kw l
  let ws ← oT l (fun i=>gU kw (aJ l i)) (fun out=>do let w ← bL kw l;pure (out++[w])) [w]
  aL l [[46]]
  pure ws else pure []:aS (List Nm))
 let b ← cR l [119,104,101,114,101]
 let ns ← (if b then do
  let ns ← tT kw l
  aL l [[46]]
  pure ns else pure []:aS (List psV))
 let b ← cR l [60]
 let abs ← (if b then do
  let abs ← tC kw l false
  aL l [[62],[46]]
  pure abs else pure []:aS (List psV))
 let bs ← oT l (fun i=>aI l i [98,111,117,110,100]) (fun out=>do
  aL l [[98,111,117,110,100]]
  let b ← tU kw rdP l
  pure (out++[b])) []
 let t ← cK kw andP rdP l
 let b ← cR l [109,101,116,114,105,99]
 let ms ← (if b then (fun i=>dT l [44] (fun out=>do
  let p ← (fun j=>rdP l j (uJ l (l.length+1) 0 i):aS Pr)
  pure (out++[p])) [] i) else pure []:aS (List Pr))
 pure ⟨vs,ns,abs,bs,t,ms⟩
def a0f (mode:Int):aS kK:=do
 let name ← bL kw l
 let ps ← (fun i=>if aI l i [40] then (if cU (aJ l (i+1)) [41] then .ok [] (i+2) else cZ kw l i) else .ok [] i:aS (List Nm))
 pure ⟨name,ps,a0R,mode,false,a7k⟩
def a0g (d:kK):aS (Option kK):=do
 aL l [[61]]
 let e ← a1u kw andP rdP l
 pure (some { d with body:=e })
def wV:aS (Option kK):=fun i=>
 if aI l i [100,101,102] then (do
  let d ← a0f kw l 0
  let b ← cR l [58]
  let d ← (if b then do let s ← a0K kw andP rdP l;pure { d with typed:=true,sig:=s } else pure d:aS kK)
  a0g kw andP rdP l d:aS (Option kK)) (i+1)
 else if aI l i [97,115,115,117,109,101] then (do
  let d ← a0f kw l 1
  aL l [[58]]
  let s ← a0K kw andP rdP l
  pure (some { d with typed:=true,sig:=s }):aS (Option kK)) (i+1)
 else if aI l i [114,101,102,108,101,99,116] then (do
  let d ← a0f kw l 2
  aL l [[58]]
  let s ← a0K kw andP rdP l
  a0g kw andP rdP l { d with typed:=true,sig:=s }:aS (Option kK)) (i+1)
 else .ok none i
def a6P:aS a2Y:=do
 let name ← eQ l
 let b ← cR l [40]
 if b then do
  let (ns,ts) ← dT l [44] (fun (out:List Nm×List Ty)=>do
   let w ← bL kw l
   aL l [[58]]
   let t ← cK kw andP rdP l
   pure (out.1++[w],out.2++[t])) ([],[])
  aL l [[41]]
  pure ⟨name,ns,ts⟩
 else pure ⟨name,[],[]⟩
def a0h:aS a8D:=do
 let name ← eQ l
 let vs ← oT l (fun i=>gU kw (aJ l i)) (fun out=>do let w ← bL kw l;pure (out++[w])) []
 let b ← cR l [60]
 let ps ← (if b then do
  let ps ← tC kw l false
  aL l [[62]]
  pure ps else pure []:aS (List psV))
 aL l [[61]]
 let cs ← dT l [124] (fun out=>do let c ← a6P kw andP rdP l;pure (out++[c])) []
 pure ⟨name,vs,ps,cs⟩
def vP:aS a4B:=do
 let name ← eQ l
 let v ← bL kw l
 aL l [[119,105,116,104]]
 let ms ← dT l [44] (fun out=>do
  let w ← bL kw l
  aL l [[58]]
  let t ← cK kw andP rdP l
  pure (out++[(w,t)])) []
 pure ⟨name,v,ms⟩
def a1v:aS a8E:=do
 let c ← eQ l
 let t ← eG kw andP rdP l (cK kw andP rdP l)
 let b ← cR l [119,104,101,114,101]
 let ns ← (if b then tT kw l else pure [])
 aL l [[123]]
 let ds ← oT l (fun i=>aI l i [100,101,102]) (fun out=>do
  let d ← wV kw andP rdP l
  aL l [[59]]
  pure (out++[d.getD ⟨[],[],a0R,0,false,a7k⟩])) []
 aL l [[125]]
 pure ⟨c,t,ns,ds⟩
def a1w:aS a8F:=do
 let name ← bL kw l
 aL l [[58]]
 let d ← eQ l
 aL l [[45,62]]
 let s ← a0e kw l
 aL l [[123]]
 let cs ← dT l [59] (fun out=>do
  let c ← eQ l
  let ns ← (fun i=>if aI l i [40] then cZ kw l i else .ok [] i:aS (List Nm))
  aL l [[61]]
  let p ← dH rdP l
  pure (out++[(c,ns,p)])) []
 aL l [[125]]
 let b ← cR l [105,110,118,97,114,105,97,110,116]
 let p ← (if b then dH rdP l else pure kS)
 pure ⟨name,d,s,cs,p⟩
def a1x:aS a8G:=do
 let name ← bL kw l
 aL l [[40]]
 let vs ← tC kw l true
 aL l [[41],[58]]
 let p ← dH rdP l
 pure ⟨name,vs,p⟩
def tE (m:kL):aS kL:=fun i=>
 if aI l i [100,97,116,97] then (do let x ← a0h kw andP rdP l;pure { m with a8H:=m.a8H++[x] }:aS kL) (i+1)
 else if aI l i [99,108,97,115,115] then (do let x ← vP kw andP rdP l;pure { m with a4C:=m.a4C++[x] }:aS kL) (i+1)
 else if aI l i [105,110,115,116] then (do let x ← a1v kw andP rdP l;pure { m with insts:=m.insts++[x] }:aS kL) (i+1)
 else if aI l i [109,101,97,115,117,114,101] then (do let x ← a1w kw rdP l;pure { m with a8I:=m.a8I++[x] }:aS kL) (i+1)
 else if aI l i [113,117,97,108] then (do let x ← a1x kw rdP l;pure { m with b5H:=m.b5H++[x] }:aS kL) (i+1)
 else (do
  let d ← wV kw andP rdP l
  match d with
  |some d=>pure { m with defs:=m.defs++[d] }
  |none=>cQ l:aS kL) i
def zE:aS Unit:=fun i=>if (aJ l i).kind=0 then .ok () i else cQ l i
def a8L:aS kL:=oT l (fun i=> !decide ((aJ l i).kind=0)) (fun m=>do
 let m ← tE kw andP rdP l m
 aL l [[59]]
 pure m) ⟨[],[],[],[],[],[]⟩
end
end Go.Proofs.YtjpodcmhcenjjaaGreatDoor
end
section
namespace Go.Proofs.YtjpodcmhcenjjaaGreatDoor
def pE (l:List Tok):Prop:=l≠[]∧(aJ l (l.length-1)).kind=0
def aA {α:Type}(l:List Tok)(m:Nat)(x:aS α):Prop:=∀(i:Nat) (a:α) (j:Nat),i<l.length→x i= .ok a j→i+m≤j∧j<l.length
section
variable {kw:Nm→Bool} {andP:Pr→Pr→Pr} {rdP:List Tok→Nat→Nat→kY Pr} {l:List Tok} {α β:Type} {m k:Nat}
theorem aA.le {x:aS α}(h:aA l m x)(hk:k≤m):aA l k x:=fun i a j hi hx=>by have:=h i a j hi hx;omega
theorem aA.aO (a:α):aA l 0 (pure a:aS α):=fun i b j hi h=>by rw [gA] at h;cases h;omega
theorem aA.bl {x:aS α}{f:α→aS β}(hx:aA l m x)(hf:∀a,aA l 0 (f a)):aA l m (x >>=f):=fun i b j hi h=>by
 rw [eF] at h;cases hxi:x i with
 |bad n e=>rw [hxi] at h;cases h
 |ok a j'=>rw [hxi] at h;have h1:=hx i a j' hi hxi;have h2:=hf a j' b j h1.2 h;omega
theorem aA.br {x:aS α}{f:α→aS β}(hx:aA l 0 x)(hf:∀a,aA l m (f a)):aA l m (x >>=f):=fun i b j hi h=>by
 rw [eF] at h;cases hxi:x i with
 |bad n e=>rw [hxi] at h;cases h
 |ok a j'=>rw [hxi] at h;have h1:=hx i a j' hi hxi;have h2:=hf a j' b j h1.2 h;omega
theorem aA.ite {c:Prop}[Decidable c]{x y:aS α}(hx:aA l m x)(hy:aA l m y):aA l m (if c then x else y):=by
 split
 ·exact hx
 ·exact hy
theorem aA.failed:aA l m (cQ l:aS α):=fun i a j hi h=>by unfold cQ at h;cases h
variable (hE:pE l)
include hE
theorem oH {i:Nat}(hi:i<l.length)(h:(aJ l i).kind≠0):i+1<l.length:=by
 rcases Nat.lt_or_ge (i+1) l.length with h'|h'
 ·exact h'
 ·have:i=l.length-1:=by omega
  rw [this] at h;exact absurd hE.2 h
theorem pU {t:Tok}{s:Nm}(h:cU t s=true):t.kind≠0:=by unfold cU at h;simp only [d6W,d7i,decide_eq_true_eq] at h;omega
theorem aF {i:Nat}{s:Nm}(hi:i<l.length)(h:aI l i s=true):i+1<l.length:=oH hE hi (pU hE h)
theorem a2n {i:Nat}(hi:i<l.length)(h:kT (aJ l i)=true):i+1<l.length:=oH hE hi (by unfold kT at h;simp only [decide_eq_true_eq] at h;omega)
theorem a5N {i:Nat}(hi:i<l.length)(h:gU kw (aJ l i)=true):i+1<l.length:=oH hE hi (by unfold gU at h;simp only [d6W,decide_eq_true_eq] at h;omega)
theorem aA.d4I:∀(s:List Nm),aA l s.length (aL l s)
 |[]=>aA.aO ()
 |s::r=>fun i a j hi h=>by
  unfold aL at h;split at h
  ·rename_i hs;have:=aA.d4I r (i+1) a j (aF hE hi hs) h;simp only [List.length_cons];omega
  ·unfold cQ at h;cases h
theorem aA.exp (s:Nm)(r:List Nm):aA l 1 (aL l (s::r)):=(aA.d4I hE (s::r)).le (by simp only [List.length_cons];omega)
theorem aA.skip (s:Nm):aA l 0 (cR l s):=fun i a j hi h=>by
 unfold cR at h;split at h
 ·rename_i hs;have:=aF hE hi hs;cases h;omega
 ·cases h;omega
theorem aA.take {ok:Tok→Bool}(hk:∀t,ok t=true→t.kind≠0):aA l 1 (mK l ok):=fun i a j hi h=>by
 unfold mK at h;split at h
 ·rename_i hs;have:=oH hE hi (hk _ hs);cases h;omega
 ·unfold cQ at h;cases h
theorem aA.word:aA l 1 (bL kw l):=aA.take hE fun t h=>by unfold gU at h;simp only [d6W,decide_eq_true_eq] at h;omega
theorem aA.title:aA l 1 (eQ l):=aA.take hE fun t h=>by unfold kT at h;simp only [decide_eq_true_eq] at h;omega
theorem aA.sort:aA l 1 (a0e kw l):=aA.take hE fun t h=>by unfold gU kT at h;simp only [d7i,d6W,decide_eq_true_eq] at h;omega
theorem aA.loop {c:Nm}{one:α→aS α}(h1:∀a,aA l m (one a)):∀(g:Nat) (a:α),aA l m (gV l c one g a)
 |0,a=>fun i b j hi h=>by unfold gV at h;cases h
 |g+1,a=>fun i b j hi h=>by
  unfold gV at h;split at h
  ·cases h
  ·rename_i a' j' ho;have h2:=h1 a i a' j' hi ho;split at h
   ·rename_i hs;have h3:=aA.loop h1 g a' (j'+1) b j (aF hE h2.2 hs) h;omega
   ·cases h;exact h2
theorem aA.list {c:Nm}{one:α→aS α}(h1:∀a,aA l m (one a))(a:α):aA l m (dT l c one a):=aA.loop hE h1 _ a
omit hE in
theorem aA.b3f {c:Nat→Bool}{one:α→aS α}(h1:∀a,aA l 0 (one a)):∀(g:Nat) (a:α),aA l 0 (dK c one g a)
 |0,a=>fun i b j hi h=>by unfold dK at h;cases h
 |g+1,a=>fun i b j hi h=>by
  unfold dK at h;split at h
  ·split at h
   ·cases h
   ·rename_i a' j' ho;have h2:=h1 a i a' j' hi ho;have h3:=aA.b3f h1 g a' j' b j h2.2 h;omega
  ·cases h;omega
omit hE in
theorem aA.many {c:Nat→Bool}{one:α→aS α}(h1:∀a,aA l 0 (one a))(a:α):aA l 0 (oT l c one a):=aA.b3f h1 _ a
theorem aA.words:aA l 1 (cZ kw l):=by unfold cZ;exact (aA.exp hE _ _).bl fun _=>(aA.list hE (m:=0) (fun a=>(((aA.word hE).le (by omega)).bl fun _=>aA.aO _)) _).bl fun _=>((aA.exp hE _ _).le (by omega)).bl fun _=>aA.aO _
theorem aA.vars (v:Bool):aA l 1 (tC kw l v):=by
 unfold tC;refine aA.list hE (fun a=>?_) _;refine aA.br (aA.ite (aA.skip hE _) (aA.aO _)) fun b=>?_
 refine aA.br (aA.ite (aA.aO _) ((aA.word hE).le (by omega))) fun nm=>?_
 exact (aA.exp hE _ _).bl fun _=>((aA.sort hE).le (by omega)).bl fun _=>aA.aO _
theorem a1y {i j:Nat}{t:Ty}(hi:i<l.length)(h:gI kw l i= .ok (some t) j):j=i+1∧j<l.length:=by
 unfold gI at h
 repeat' split at h
 all_goals first|cases h|skip
 all_goals rename_i hs
 all_goals first
  |exact ⟨rfl,a5N hE hi hs⟩
  |exact ⟨rfl,aF hE hi hs⟩
omit hE in
theorem rS {i j:Nat}(h:gI kw l i= .ok none j):j=i:=by
 unfold gI at h
 repeat' split at h
 all_goals first|(cases h;rfl)|cases h
theorem aA.base:aA l 0 (gI kw l):=fun i a j hi h=>by
 cases a with
 |none=>have:=rS h;omega
 |some t=>have:=a1y hE hi h;omega
section
variable {ty:aS Ty} (hty:aA l 0 ty) (hP:aA l 0 (dH rdP l))
include hty hP
theorem aA.a8M:aA l 1 (oU andP rdP l ty):=by
 unfold oU;refine (aA.exp hE _ _).bl fun _=>hty.bl fun t=>?_
 refine aA.ite aA.failed ?_
 exact ((aA.exp hE _ _).le (by omega)).bl fun _=>hP.bl fun _=>((aA.exp hE _ _).le (by omega)).bl fun _=>aA.aO _
theorem aA.tF:aA l 1 (eG kw andP rdP l ty):=fun i a j hi h=>by
 unfold eG at h;rw [eF] at h;cases hb:gI kw l i with
 |bad n e=>rw [hb] at h;cases h
 |ok o j'=>
  rw [hb] at h;cases o with
  |some t=>have:=a1y hE hi hb;simp only [gA] at h;cases h;omega
  |none=>
   have:=rS hb;subst this;simp only at h;split at h
   ·rename_i hs;have:=a2n hE hi hs;cases h;omega
   ·split at h
    ·exact aA.a8M hE hty hP _ a j hi h
    ·exact ((aA.exp hE _ _).bl fun _=>hty.bl fun _=>((aA.exp hE _ _).le (by omega)).bl fun _=>aA.aO _) _ a j hi h
theorem aA.b1L:aA l 1 (oF kw andP rdP l ty):=by
 unfold oF;refine (aA.title hE).bl fun name=>aA.bl (aA.many (fun a=>?_) _) fun args=>(aA.skip hE _).bl fun b=>aA.ite ?_ (aA.aO _)
 ·exact ((aA.tF hE hty hP).le (by omega)).bl fun _=>aA.aO _
 ·refine aA.bl (aA.list hE (fun a=>?_) _) fun _=>((aA.exp hE _ _).le (by omega)).bl fun _=>aA.aO _
  exact ((aA.exp hE _ _).le (by omega)).bl fun _=>hP.bl fun _=>aA.aO _
theorem aA.b7Z:aA l 1 (qS kw l ty):=by
 unfold qS;refine (aA.exp hE _ _).bl fun _=>aA.bl (m:=0) (fun i a j hi h=>?_) fun p=>?_
 ·split at h
  ·exact aA.list hE (fun a=>((aA.word hE).le (by omega)).bl fun _=>((aA.exp hE _ _).le (by omega)).bl fun _=>hty.bl fun _=>aA.aO _) _ i a j hi h
  ·exact aA.list hE (fun a=>hty.bl fun _=>aA.aO _) _ i a j hi h
 ·refine ((aA.exp hE _ _).le (by omega)).bl fun _=>fun i a j hi h=>?_
  split at h
  ·cases h;omega
  ·exact (((aA.exp hE _ _).le (by omega:0≤1)).bl fun _=>hty.bl fun _=>aA.aO _) i a j hi h
theorem aA.c1a:aA l 1 (oV kw andP rdP l ty):=fun i a j hi h=>by
 unfold oV at h;rw [eF] at h;cases hb:gI kw l i with
 |bad n e=>rw [hb] at h;cases h
 |ok o j'=>
  rw [hb] at h;cases o with
  |some t=>have:=a1y hE hi hb;simp only [gA] at h;cases h;omega
  |none=>
   have:=rS hb;subst this;simp only at h;split at h
   ·exact aA.b1L hE hty hP _ a j hi h
   ·split at h
    ·exact aA.a8M hE hty hP _ a j hi h
    ·exact aA.b7Z hE hty hP _ a j hi h
end
theorem aA.a4E (hP:aA l 0 (dH rdP l)):∀n,aA l 1 (kZ kw andP rdP l n)
 |0=>fun i a j hi h=>by unfold kZ at h;cases h
 |n+1=>aA.c1a hE ((aA.a4E hP n).le (by omega)) hP
theorem aA.vF (hP:aA l 0 (dH rdP l)):aA l 1 (cK kw andP rdP l):=aA.a4E hE hP _
theorem aA.types (hP:aA l 0 (dH rdP l)):aA l 0 (oG kw andP rdP l):=by
 unfold oG;refine (aA.skip hE _).bl fun b=>aA.ite ?_ (aA.aO _)
 exact aA.bl (aA.list hE (fun a=>((aA.vF hE hP).le (by omega)).bl fun _=>aA.aO _) _) fun _=>((aA.exp hE _ _).le (by omega)).bl fun _=>aA.aO _
end
end Go.Proofs.YtjpodcmhcenjjaaGreatDoor
end
section
namespace Go.Proofs.YtjpodcmhcenjjaaGreatDoor
section
variable {kw:Nm→Bool} {andP:Pr→Pr→Pr} {rdP:List Tok→Nat→Nat→kY Pr} {l:List Tok} {α β:Type} {m k:Nat}
theorem aA.nxt {x:aS α}(hx:aA l 0 x){i j:Nat}{a:α}(hi:i+1<l.length)(h:x (i+1)= .ok a j):i+1≤j∧j<l.length:=by have:=hx (i+1) a j hi h;omega
variable (hE:pE l)
include hE
section
variable {ex:Nat→aS bY} (hx:∀k,aA l 1 (ex k))
include hx
theorem aA.gJ:aA l 1 (eR l ex):=by unfold eR;exact (aA.exp hE _ _).bl fun _=>aA.bl (aA.list hE (fun a=>((hx 0).le (by omega)).bl fun _=>aA.aO _) _) fun _=>((aA.exp hE _ _).le (by omega)).bl fun _=>aA.aO _
theorem aA.b0D (op:Int):aA l 1 (tD l ex op):=by unfold tD;exact (aA.exp hE _ _).bl fun _=>((hx 0).le (by omega)).bl fun _=>((aA.exp hE _ _).le (by omega)).bl fun _=>aA.aO _
theorem aA.a8N:aA l 1 (oM kw l ex):=by
 unfold oM;refine (hx 0).bl fun _=>((aA.exp hE _ _).le (by omega)).bl fun _=>aA.bl (aA.list hE (fun a=>?_) _) fun _=>((aA.exp hE _ _).le (by omega)).bl fun _=>aA.aO _
 refine ((aA.title hE).le (by omega)).bl fun _=>aA.bl (fun i b j hi h=>?_) fun _=>((aA.exp hE _ _).le (by omega)).bl fun _=>((hx 0).le (by omega)).bl fun _=>aA.aO _
 split at h
 ·exact ((aA.words hE).le (by omega)) _ _ _ hi h
 ·cases h;omega
section
variable (hP:aA l 0 (dH rdP l))
include hP
theorem aA.c3H:aA l 1 (uV kw andP rdP l ex):=by
 unfold uV;refine (aA.word hE).bl fun _=>(aA.skip hE _).bl fun _=>aA.bl (aA.ite (((aA.vF hE hP).le (by omega)).bl fun _=>aA.aO _) (aA.aO _)) fun _=>?_
 exact ((aA.exp hE _ _).le (by omega)).bl fun _=>((hx 0).le (by omega)).bl fun _=>((aA.exp hE _ _).le (by omega)).bl fun _=>((hx 0).le (by omega)).bl fun _=>aA.aO _
theorem aA.c3I:aA l 1 (uW kw andP rdP l ex):=by
 unfold uW;refine (aA.exp hE _ _).bl fun _=>aA.bl (aA.list hE (fun a=>?_) _) fun _=>((aA.exp hE _ _).le (by omega)).bl fun _=>((hx 0).le (by omega)).bl fun _=>aA.aO _
 exact ((aA.word hE).le (by omega)).bl fun _=>(aA.skip hE _).bl fun _=>aA.bl (aA.ite ((aA.vF hE hP).le (by omega)) (aA.aO _)) fun _=>aA.aO _
theorem aA.a4F:aA l 1 (gQ kw andP rdP l ex):=by
 unfold gQ;refine (aA.exp hE _ _).bl fun _=>fun i a j hi h=>?_
 split at h
 ·rename_i hc;simp only [d6W,decide_eq_true_eq] at hc;have h2:=oH hE hi (pU hE (show cU (aJ l i) [45]=true from hc.1.1));have h3:=oH hE h2 (by omega);have h4:=oH hE h3 (pU hE hc.2);cases h;omega
 ·exact (((hx 0).le (by omega:0≤1)).bl fun e=>(aA.skip hE _).bl fun b=>aA.bl (aA.ite (((aA.vF (kw:=kw) (andP:=andP) hE hP).le (by omega:0≤1)).bl fun t=>aA.aO _) (aA.aO _)) fun e=>((aA.exp hE _ _).le (by omega:0≤1)).bl fun _=>aA.aO _) i a j hi h
theorem aA.b5I:aA l 1 (mF kw andP rdP l ex):=fun i a j hi h=>by
 unfold mF at h;split at h
 ·rename_i hk;have:=oH hE hi (by omega);cases h;omega
 split at h
 ·rename_i hs;have:=aF hE hi hs;cases h;omega
 split at h
 ·rename_i hs;have:=aF hE hi hs;cases h;omega
 split at h
 ·rename_i hs;exact ((aA.b0D hE hx _).le (by omega)).nxt (aF hE hi hs) h
 split at h
 ·rename_i hs;exact ((aA.b0D hE hx _).le (by omega)).nxt (aF hE hi hs) h
 split at h
 ·rename_i hs;exact (((aA.exp hE _ _).le (by omega:0≤1)).bl fun _=>((hx 0).le (by omega:0≤1)).bl fun _=>((aA.exp hE _ _).le (by omega:0≤1)).bl fun _=>((hx 0).le (by omega:0≤1)).bl fun _=>((aA.exp hE _ _).le (by omega:0≤1)).bl fun _=>aA.aO _).nxt (aF hE hi hs) h
 split at h
 ·rename_i hs;have hn:=a5N hE hi hs;split at h
  ·cases h;omega
  ·exact ((aA.types hE hP).bl fun _=>((aA.gJ hE hx).le (by omega:0≤1)).bl fun _=>aA.aO _).nxt hn h
 split at h
 ·rename_i hs;refine ((aA.types hE hP).bl fun _=>aA.bl (m:=0) (fun i a j hi h=>?_) fun _=>aA.aO _).nxt (a2n hE hi hs) h;split at h
  ·exact ((aA.gJ hE hx).le (by omega)) _ _ _ hi h
  ·cases h;omega
 exact aA.a4F hE hx hP _ _ _ hi h
theorem aA.unG:aA l 1 (qW kw andP rdP l ex):=fun i a j hi h=>by
 unfold qW at h;split at h
 ·rename_i hs;exact (((hx 7).le (by omega:0≤1)).bl fun _=>aA.aO _).nxt (aF hE hi hs) h
 ·exact aA.b5I hE hx hP _ _ _ hi h
omit hx hP in
theorem aA.chain {ops:List (Nm×Int)}{one:aS bY}(h1:aA l 0 one):∀(g:Nat) (e:bY),aA l 0 (dC l ops one g e)
 |0,e=>fun i b j hi h=>by unfold dC at h;cases h
 |g+1,e=>fun i b j hi h=>by
  unfold dC at h;split at h
  ·cases h;omega
  ·rename_i p hp;have hs:aI l i p.1=true:=List.find?_some (p:=fun p:Nm×Int=>aI l i p.1) hp;split at h
   ·cases h
   ·rename_i x j' ho;have h2:=h1.nxt (aF hE hi hs) ho;have h3:=aA.chain h1 g _ j' b j h2.2 h;omega
omit hx hP in
theorem aA.lvl {ops:List (Nm×Int)}{one:aS bY}(h1:aA l 1 one):aA l 1 (rR l ops one):=by unfold rR;exact h1.bl fun _=>aA.chain hE (h1.le (by omega)) _ _
theorem aA.b5J:aA l 1 (a4D kw andP rdP l ex):=aA.lvl hE (aA.unG hE hx hP)
theorem aA.a2H:aA l 1 (dB kw andP rdP l ex):=aA.lvl hE (aA.b5J hE hx hP)
theorem aA.a0i:aA l 1 (rK kw andP rdP l ex):=by
 unfold rK;refine (aA.a2H hE hx hP).bl fun e=>fun i a j hi h=>?_
 repeat' split at h
 all_goals first
  |(cases h;omega)
  |(rename_i hs
    have:=(((aA.a2H hE hx hP).le (by omega:0≤1)).bl fun _=>aA.aO _).nxt (aF hE hi hs) h;omega)
theorem aA.a2I:aA l 1 (pT kw andP rdP l ex):=fun i a j hi h=>by
 unfold pT at h;split at h
 ·rename_i hs;exact (((hx 3).le (by omega:0≤1)).bl fun _=>aA.aO _).nxt (aF hE hi hs) h
 ·exact aA.a0i hE hx hP _ _ _ hi h
theorem aA.orG:aA l 1 (a2Z kw andP rdP l ex):=aA.lvl hE (aA.lvl hE (aA.a2I hE hx hP))
theorem aA.exG:aA l 1 (uI kw andP rdP l ex):=fun i a j hi h=>by
 unfold uI at h;split at h
 ·rename_i hs;exact ((aA.c3H hE hx hP).le (by omega)).nxt (aF hE hi hs) h
 split at h
 ·rename_i hs;exact (((hx 0).le (by omega:0≤1)).bl fun _=>((aA.exp hE _ _).le (by omega:0≤1)).bl fun _=>((hx 0).le (by omega:0≤1)).bl fun _=>((aA.exp hE _ _).le (by omega:0≤1)).bl fun _=>((hx 0).le (by omega:0≤1)).bl fun _=>aA.aO _).nxt (aF hE hi hs) h
 split at h
 ·rename_i hs;exact ((aA.a8N hE hx).le (by omega)).nxt (aF hE hi hs) h
 split at h
 ·rename_i hs;exact ((aA.c3I hE hx hP).le (by omega)).nxt (aF hE hi hs) h
 split at h
 ·rename_i hs;exact (((aA.word hE).le (by omega:0≤1)).bl fun _=>((aA.gJ hE hx).le (by omega:0≤1)).bl fun _=>((aA.exp hE _ _).le (by omega:0≤1)).bl fun _=>((hx 0).le (by omega:0≤1)).bl fun _=>aA.aO _).nxt (aF hE hi hs) h
 exact aA.orG hE hx hP _ _ _ hi h
end
end
theorem aA.exF (hP:aA l 0 (dH rdP l)):∀n k,aA l 1 (mL kw andP rdP l n k)
 |0,k=>fun i a j hi h=>by unfold mL at h;cases h
 |n+1,k=>by unfold mL;exact aA.ite (aA.unG hE (aA.exF hP n) hP) (aA.ite (aA.a2I hE (aA.exF hP n) hP) (aA.exG hE (aA.exF hP n) hP))
theorem aA.expr (hP:aA l 0 (dH rdP l)):aA l 1 (a1u kw andP rdP l):=aA.exF hE hP _ _
end
end Go.Proofs.YtjpodcmhcenjjaaGreatDoor
end
section
namespace Go.Proofs.YtjpodcmhcenjjaaGreatDoor
section
variable {kw:Nm→Bool} {andP:Pr→Pr→Pr} {rdP:List Tok→Nat→Nat→kY Pr} {l:List Tok} {α β:Type} {m k:Nat}
variable (hE:pE l)
include hE
theorem aA.wU:aA l 1 (tT kw l):=by unfold tT;exact aA.list hE (fun a=>(aA.title hE).bl fun _=>((aA.word hE).le (by omega)).bl fun _=>aA.aO _) _
theorem aA.head (mode:Int):aA l 1 (a0f kw l mode):=by
 unfold a0f;refine (aA.word hE).bl fun name=>aA.bl (m:=0) (fun i a j hi h=>?_) fun _=>aA.aO _
 split at h
 ·rename_i hs;have h1:=aF hE hi hs;split at h
  ·rename_i hf;have h2:=oH hE h1 (pU hE hf);cases h;omega
  ·exact ((aA.words hE).le (by omega)) _ _ _ hi h
 ·cases h;omega
variable (hP:aA l 0 (dH rdP l))
include hP
theorem aA.bound:aA l 1 (tU kw rdP l):=by unfold tU;exact (aA.word hE).bl fun _=>((aA.exp hE _ _).le (by omega)).bl fun _=>((aA.vars hE _).le (by omega)).bl fun _=>((aA.exp hE _ _).le (by omega)).bl fun _=>hP.bl fun _=>((aA.exp hE _ _).le (by omega)).bl fun _=>hP.bl fun _=>((aA.exp hE _ _).le (by omega)).bl fun _=>aA.aO _
theorem aA.con:aA l 1 (a6P kw andP rdP l):=by
 unfold a6P;refine (aA.title hE).bl fun _=>(aA.skip hE _).bl fun b=>aA.ite ?_ (aA.aO _)
 refine aA.bl (aA.list hE (fun a=>?_) _) fun _=>((aA.exp hE _ _).le (by omega)).bl fun _=>aA.aO _
 exact ((aA.word hE).le (by omega)).bl fun _=>((aA.exp hE _ _).le (by omega)).bl fun _=>((aA.vF hE hP).le (by omega)).bl fun _=>aA.aO _
theorem aA.data:aA l 1 (a0h kw andP rdP l):=by
 unfold a0h;refine (aA.title hE).bl fun _=>aA.bl (aA.many (fun a=>((aA.word hE).le (by omega)).bl fun _=>aA.aO _) _) fun _=>(aA.skip hE _).bl fun b=>?_
 refine aA.bl (aA.ite (((aA.vars hE _).le (by omega)).bl fun _=>((aA.exp hE _ _).le (by omega)).bl fun _=>aA.aO _) (aA.aO _)) fun _=>((aA.exp hE _ _).le (by omega)).bl fun _=>?_
 exact aA.bl (aA.list hE (fun a=>((aA.con hE hP).le (by omega)).bl fun _=>aA.aO _) _) fun _=>aA.aO _
theorem aA.cls:aA l 1 (vP kw andP rdP l):=by
 unfold vP;refine (aA.title hE).bl fun _=>((aA.word hE).le (by omega)).bl fun _=>((aA.exp hE _ _).le (by omega)).bl fun _=>aA.bl (aA.list hE (fun a=>?_) _) fun _=>aA.aO _
 exact ((aA.word hE).le (by omega)).bl fun _=>((aA.exp hE _ _).le (by omega)).bl fun _=>((aA.vF hE hP).le (by omega)).bl fun _=>aA.aO _
theorem aA.c3J:aA l 1 (a1w kw rdP l):=by
 unfold a1w;refine (aA.word hE).bl fun _=>((aA.exp hE _ _).le (by omega)).bl fun _=>((aA.title hE).le (by omega)).bl fun _=>((aA.exp hE _ _).le (by omega)).bl fun _=>((aA.sort hE).le (by omega)).bl fun _=>((aA.exp hE _ _).le (by omega)).bl fun _=>?_
 refine aA.bl (aA.list hE (fun a=>?_) _) fun _=>((aA.exp hE _ _).le (by omega)).bl fun _=>(aA.skip hE _).bl fun b=>(aA.ite hP (aA.aO _)).bl fun _=>aA.aO _
 refine ((aA.title hE).le (by omega)).bl fun _=>aA.bl (m:=0) (fun i a j hi h=>?_) fun _=>((aA.exp hE _ _).le (by omega)).bl fun _=>hP.bl fun _=>aA.aO _
 split at h
 ·exact ((aA.words hE).le (by omega)) _ _ _ hi h
 ·cases h;omega
theorem aA.c3K:aA l 1 (a1x kw rdP l):=by unfold a1x;exact (aA.word hE).bl fun _=>((aA.exp hE _ _).le (by omega)).bl fun _=>((aA.vars hE _).le (by omega)).bl fun _=>((aA.exp hE _ _).le (by omega)).bl fun _=>hP.bl fun _=>aA.aO _
theorem aA.body (d:kK):aA l 1 (a0g kw andP rdP l d):=by unfold a0g;exact (aA.exp hE _ _).bl fun _=>((aA.expr hE hP).le (by omega)).bl fun _=>aA.aO _
def uX (rdP:List Tok→Nat→Nat→kY Pr)(l:List Tok):Prop:=∀e i p j,i<l.length→rdP l i e= .ok p j→i≤j∧j<l.length
omit hE hP in
theorem uX.pred (h:uX rdP l):aA l 0 (dH rdP l):=fun i a j hi hx=>by have:=h l.length i a j hi hx;omega
end
section
variable {kw:Nm→Bool} {andP:Pr→Pr→Pr} {rdP:List Tok→Nat→Nat→kY Pr} {l:List Tok}
variable (hE:pE l) (hB:uX rdP l)
include hE hB
theorem aA.sig:aA l 1 (a0K kw andP rdP l):=by
 have hP:=hB.pred;unfold a0K;refine aA.br (aA.skip hE _) fun b=>aA.br (aA.ite (((aA.word hE).le (by omega)).bl fun _=>(aA.many (fun a=>((aA.word hE).le (by omega)).bl fun _=>aA.aO _) _).bl fun _=>((aA.exp hE _ _).le (by omega)).bl fun _=>aA.aO _) (aA.aO _)) fun _=>?_
 refine aA.br (aA.skip hE _) fun b=>aA.br (aA.ite (((aA.wU hE).le (by omega)).bl fun _=>((aA.exp hE _ _).le (by omega)).bl fun _=>aA.aO _) (aA.aO _)) fun _=>?_
 refine aA.br (aA.skip hE _) fun b=>aA.br (aA.ite (((aA.vars hE _).le (by omega)).bl fun _=>((aA.exp hE _ _).le (by omega)).bl fun _=>aA.aO _) (aA.aO _)) fun _=>?_
 refine aA.br (aA.many (fun a=>((aA.exp hE _ _).le (by omega)).bl fun _=>((aA.bound hE hP).le (by omega)).bl fun _=>aA.aO _) _) fun _=>?_
 refine (aA.vF hE hP).bl fun _=>(aA.skip hE _).bl fun b=>aA.bl (aA.ite (fun i a j hi h=>?_) (aA.aO _)) fun _=>aA.aO _
 refine aA.list hE (m:=0) (fun a=>aA.bl (m:=0) (fun i' p j' hi' h'=>?_) fun _=>aA.aO _) _ i a j hi h;have:=hB _ _ _ _ hi' h';omega
theorem aA.defn {i j:Nat}{d:Option kK}(hi:i<l.length)(h:wV kw andP rdP l i= .ok d j):(d=none∧j=i)∨(i+1≤j∧j<l.length):=by
 have hP:=hB.pred;unfold wV at h;split at h
 ·rename_i hs;refine .inr (((((aA.head hE _).le (by omega:0≤1)).bl fun _=>(aA.skip hE _).bl fun _=>aA.bl (aA.ite (((aA.sig hE hB).le (by omega:0≤1)).bl fun _=>aA.aO _) (aA.aO _)) fun _=>((aA.body hE hP _).le (by omega:0≤1)))).nxt (aF hE hi hs) h)
 split at h
 ·rename_i hs;exact .inr ((((aA.head hE _).le (by omega:0≤1)).bl fun _=>((aA.exp hE _ _).le (by omega:0≤1)).bl fun _=>((aA.sig hE hB).le (by omega:0≤1)).bl fun _=>aA.aO _).nxt (aF hE hi hs) h)
 split at h
 ·rename_i hs;exact .inr ((((aA.head hE _).le (by omega:0≤1)).bl fun _=>((aA.exp hE _ _).le (by omega:0≤1)).bl fun _=>((aA.sig hE hB).le (by omega:0≤1)).bl fun _=>((aA.body hE hP _).le (by omega:0≤1))).nxt (aF hE hi hs) h)
 cases h;exact .inl ⟨rfl,rfl⟩
theorem aA.b8a:aA l 0 (wV kw andP rdP l):=fun i d j hi h=>by
 rcases aA.defn hE hB hi h with ⟨_,rfl⟩|h'
 ·omega
 ·omega
theorem aA.inst:aA l 1 (a1v kw andP rdP l):=by
 have hP:=hB.pred;unfold a1v;refine (aA.title hE).bl fun _=>((aA.tF hE ((aA.vF hE hP).le (by omega)) hP).le (by omega)).bl fun _=>(aA.skip hE _).bl fun b=>(aA.ite ((aA.wU hE).le (by omega)) (aA.aO _)).bl fun _=>((aA.exp hE _ _).le (by omega)).bl fun _=>?_
 exact aA.bl (aA.many (fun a=>(aA.b8a hE hB).bl fun _=>((aA.exp hE _ _).le (by omega)).bl fun _=>aA.aO _) _) fun _=>((aA.exp hE _ _).le (by omega)).bl fun _=>aA.aO _
theorem aA.decl (m:kL):aA l 1 (tE kw andP rdP l m):=fun i a j hi h=>by
 have hP:=hB.pred;unfold tE at h;split at h
 ·rename_i hs;exact (((aA.data hE hP).le (by omega:0≤1)).bl fun _=>aA.aO _).nxt (aF hE hi hs) h
 split at h
 ·rename_i hs;exact (((aA.cls hE hP).le (by omega:0≤1)).bl fun _=>aA.aO _).nxt (aF hE hi hs) h
 split at h
 ·rename_i hs;exact (((aA.inst hE hB).le (by omega:0≤1)).bl fun _=>aA.aO _).nxt (aF hE hi hs) h
 split at h
 ·rename_i hs;exact (((aA.c3J hE hP).le (by omega:0≤1)).bl fun _=>aA.aO _).nxt (aF hE hi hs) h
 split at h
 ·rename_i hs;exact (((aA.c3K hE hP).le (by omega:0≤1)).bl fun _=>aA.aO _).nxt (aF hE hi hs) h
 rw [eF] at h;cases hd:wV kw andP rdP l i with
 |bad n e=>rw [hd] at h;cases h
 |ok d j'=>
  rw [hd] at h;rcases aA.defn hE hB hi hd with ⟨rfl,rfl⟩|h'
  ·simp only [cQ] at h;cases h
  ·cases d with
   |none=>simp only [cQ] at h;cases h
   |some d=>simp only [gA] at h;cases h;exact h'
end
end Go.Proofs.YtjpodcmhcenjjaaGreatDoor
end
section
namespace Go.Proofs.YtjpodcmhcenjjaaGreatDoor
open Go Go.VM
def kU (x:psV):List D:=[.str x.1,.str x.2]
def a1z (p:Nm×Ty):List D:= .str p.1::tyC p.2
def wW:bY→List D
 |⟨op,nm,n,ks,ps,al,ts⟩=>[.int .i64 op,.str nm,.int .i64 n,.sl (ks.map wW),.sl (ps.map a1z),.sl (al.attach.map fun a=> .str a.1.1:: .sl (strs a.1.2.1)::wW a.1.2.2),.sl (ts.map tyC)]
termination_by e=>SizeOf.sizeOf e
decreasing_by
 ·have:=List.sizeOf_lt_of_mem ‹_∈ks›;simp only [bY.mk.sizeOf_spec];omega
 ·obtain ⟨⟨a,b,c⟩,ha⟩:=a;have:=List.sizeOf_lt_of_mem ha;simp only [Prod.mk.sizeOf_spec] at this;simp only [bY.mk.sizeOf_spec];omega
def a7l (a:Nm×List Nm×bY):List D:= .str a.1:: .sl (strs a.2.1)::wW a.2.2
theorem dG (e:bY):wW e=[.int .i64 e.op,.str e.name,.int .i64 e.n,.sl (e.kids.map wW),.sl (e.params.map a1z),.sl (e.alts.map a7l),.sl (e.types.map tyC)]:=by
 cases e;rw [wW];simp only [List.cons.injEq,D.sl.injEq,true_and,and_true]
 first
  |exact List.attach_map_val (f:=a7l)
  |exact List.attach_map_val _ a7l
  |(conv=>rhs;rw [← List.attach_map_subtype_val ‹List (Nm×List Nm×bY)›,List.map_map]
    rfl)
def b8b (b:qI):List D:=[.str b.name,.sl (b.vars.map kU)]++qR b.hyp++qR b.goal
def c8G (s:b1K):List D:=[.sl (strs s.vars),.sl (s.wU.map kU),.sl (s.abs.map kU),.sl (s.bounds.map b8b)]++tyC s.type++[.sl (s.b3e.map qR)]
def b3g (d:kK):List D:=[.str d.name,.sl (strs d.params)]++wW d.body++[.int .i64 d.mode,.bool d.typed]++c8G d.sig
def b1M (c:a2Y):List D:=[.str c.name,.sl (strs c.names),.sl (c.fields.map tyC)]
def a8O (d:a8D):List D:=[.str d.name,.sl (strs d.vars),.sl (d.a4A.map kU),.sl (d.cons.map b1M)]
def b5K (c:a4B):List D:=[.str c.name,.str c.var,.sl (c.methods.map a1z)]
def b9D (x:a8E):List D:=[.str x.cls]++tyC x.type++[.sl (x.wU.map kU),.sl (x.defs.map b3g)]
def b5L (x:a8F):List D:=[.str x.name,.str x.data,.str x.result,.sl (x.cases.map fun c=> .str c.1:: .sl (strs c.2.1)::qR c.2.2)]++qR x.inv
def b9E (q:a8G):List D:=[.str q.name,.sl (q.vars.map kU)]++qR q.body
def a3a (m:kL):List D:=[.sl (m.a8H.map a8O),.sl (m.a4C.map b5K),.sl (m.insts.map b9D),.sl (m.a8I.map b5L),.sl (m.b5H.map b9E),.sl (m.defs.map b3g)]
end Go.Proofs.YtjpodcmhcenjjaaGreatDoor
end
end
section
section
namespace Go.VM
open Go Go.RowKit
section
variable {P:Program} {G:GT} {st:St} {Q:Exit→St→Prop}
theorem SW.oW {x y:Code}(h:SW P G x st fun e s=>match e with
  | .normal=>SW P G y s Q
  |e=>Q e s):SW P G (.seq x y) st Q:=fun base R μ a w hr=>
 wp_seq (wp_mono (h base R μ a w hr) fun e a1 w1 ⟨s,R1,μ1,q1,q2,q3⟩=>by
  cases e with
  |normal=>exact wp_mono (q1 base R1 μ1 a1 w1 q2) fun e2 a2 w2 ⟨s2,R2,μ2,p1,p2,p3⟩=>⟨s2,R2,μ2,p1,p2,q3.trans p3⟩
  |_=>exact ⟨s,R1,μ1,q1,q2,q3⟩)
theorem SW.vk {c:Code}(h:VK P G [.code c] .normal st Q):SW P G c st Q:=a0H _ _ _ (b5g h)
theorem CS.b3h {f:FuncId}{fn:Func}{c:Code}{n:Nat}{ds:List D}{r:DV}{own:Option TypeId}(hf:P.funcs[f]? =some fn)(hb:fn.body=some c)(hn:fn.ntmps=n){rs:List ResultVar}(hrs:fn.results.toList=rs)(h:SW P G c (wO ds n) fun e s=>(e= .normal∨e= .ret)∧b4X (c0I P s rs) r∧b4Y s rs own):CS P G f ds r own:=by
 subst hrs;intro w R args hg hR hl hv;refine calls_of_wp hf hb ?_
 have hrel:=Rel.init (P:=P) (G:=G) fn hg hR hl hv;rw [← hn] at h;refine wp_mono (h (uR w.heap.size) R _ _ w hrel) fun e a' w' ⟨s,R',μ',⟨he,hres,jR⟩,hr',hs⟩=>?_
 obtain ⟨r0,hres,hwk⟩:=a8q hres;obtain ⟨v,hv1,hv2⟩:=b9t hr' hres;have hpost:a'.defers=[]∧∃v,(results fn a'.tmps).run P w'= .ok v w'∧∃v' R',Ending.returned v= .returned v'∧(∀μ,TV R' μ w' v' r)∧Step (uR w.heap.size) R w R' w'∧(∀b o,R' b o→b<w'.heap.size)∧(∀e,own=some e→mG P (uR w.heap.size) R' w' e v'):=
  ⟨hr'.defers,v,hv1,v,R',rfl,fun μ=>(hv2 μ).wk hwk,hs,hr'.mY,fun e he'=>by subst he';exact b4Z hr' jR hv1⟩
 rcases he with rfl|rfl
 ·exact hpost
 ·exact hpost
theorem dL (a:Act){d:Nat}(v:Value)(h:d<a.tmps.size):(a.put (some d) v).eval (.tmp d)=v:=by simp [Act.put,Act.eval,h]
theorem bR (a:Act){d x:Nat}(v:Value)(h:x≠d):(a.put (some d) v).eval (.tmp x)=a.eval (.tmp x):=by simp [Act.put,Act.eval,Array.getElem?_setIfInBounds,Ne.symm h]
theorem size_put (a:Act)(d:Option Tmp)(v:Value):(a.put d v).tmps.size=a.tmps.size:=by cases d<;>simp [Act.put]
theorem b3i (w:World)(z cs:Array Value)(e:TypeId):(w.alloc (.cells z e)).setRow w.heap.size cs=w.alloc (.cells cs e):=by
 unfold World.setRow World.alloc;cases w with
 |mk heap tape drawn os output=>
  simp only;congr 1;apply Array.ext
  ·simp
  ·intro k h1 h2;simp only [Array.getElem_modify,Array.getElem_push];split
   ·rename_i hk;subst hk;simp
   ·rename_i hk;have hk2:k<heap.size:=by simp at h2;omega
    simp [hk2]
end
end Go.VM
end
section
namespace Go.VM
open Go Go.RowKit
def mM (k n:Nat):Array Bool:=((List.range n).map fun j=>decide (j<k)).toArray
def a1A (ops:Array Oper)(m:Nat):Nat→Nat→Array Bool→Bool
 |0,_,listed=>decide (listed=mM m ops.size)
 |fuel+1,k,listed=>(Region.ready .any ops listed).contains k&&
  (match ops[k]? with
  |none=>false
  |some oi=>
   (List.range ops.size).all fun j=>j==k||listed.getD j true||gD ops ops.size j k||(match ops[j]? with
    |some oj=>oi.apart ops oj&&oB ops oi oj
    |none=>true))&&
  a1A ops m fuel (k+1) (listed.setIfInBounds k true)
def tV (ops:Array Oper)(m:Nat):Bool:=(List.range ops.size).all fun j=>decide (j<m)||(List.range m).all fun i=>gD ops ops.size j i
def c3L (ops:Array Oper)(m:Nat):Bool:=((eH ops).isEmpty||(ops.toList.all (c0D ops)&&decide ((eH ops).Nodup)))&&(decide (m≤ops.size)&&tV ops m)&&a1A ops m m 0 (Array.replicate ops.size false)
section
variable {P:Program} {G:GT} {st:St}
theorem a3b {k n j:Nat}(h:(mM k n).getD j true=false):k≤j∧j<n:=by
 unfold mM at h;rw [d6Y] at h;by_cases hj:j<n
 ·simp [hj] at h;omega
 ·simp [hj] at h
theorem a3G {ops:Array Oper}{m j i:Nat}{o:Oper}(h:tV ops m=true)(hj:m≤j)(ho:ops[j]? =some o)(hi:i<m):gD ops ops.size j i=true:=by
 unfold tV at h;have hjs:=(d7f.1 ho).1;have h1:=d6Z.1 h j (List.mem_range.2 hjs);simp only [d7i,decide_eq_true_eq] at h1;rcases h1 with h1|h1
 ·omega
 ·exact d6Z.1 h1 i (List.mem_range.2 hi)
def a6Q (P:Program)(G:GT)(ops:Array Oper)(m:Nat)(Q:St→Prop):Nat→Array Bool→St→Prop
 |0,listed,st=>listed=mM m ops.size∧Q st
 |fuel+1,listed,st=>Region.ready .any ops listed≠[]∧∀i∈Region.ready .any ops listed,i<m∧match ops[i]? with
  |none=>a6Q P G ops m Q fuel (listed.setIfInBounds i true) st
  |some o=>kH P G true ops o (a6Q P G ops m Q fuel (listed.setIfInBounds i true)) st
theorem a8P {ops:Array Oper}{m r:Nat}{Q:St→Prop}{QQ:Exit→Act→World→Prop}:∀(fuel:Nat) (listed:Array Bool) (st:St),a6Q P G ops m Q fuel listed st→∀(base:cS) (R:Nat→Nat→Prop) (μ:Nat→Nat) (a:Act) (w:World),Rel P G base R μ st a w→
  (∀s a' w' R' μ',Q s→Rel P G base R' μ' s a' w'→Step base R w R' w'→wpAny P .any ops QQ r (mM m ops.size) a' w')→wpAny P .any ops QQ (fuel+r) listed a w
 |0,_,st,h,base,R,μ,a,w,hr,hk=>by rw [Nat.zero_add,h.1];exact hk st a w R μ h.2 hr (.refl _ _ _)
 |fuel+1,listed,st,h,base,R,μ,a,w,hr,hk=>by
  rw [show fuel+1+r=(fuel+r)+1 by omega];refine ⟨fun h0=>absurd h0 h.1,fun i hi=>?_⟩;have h1:=(h.2 i hi).2;unfold wpOp;split
  ·rename_i ho;rw [ho] at h1;exact a8P fuel _ st h1 base R μ a w hr hk
  ·rename_i o ho;rw [ho] at h1;exact pC h1 hr fun s v w' R' μ' h' hr' hs'=>a8P fuel _ s h' base R' μ' _ w' hr' fun s a' w2 R2 μ2 q1 q2 q3=>hk s a' w2 R2 μ2 q1 q2 (hs'.trans q3)
theorem a8Q {listed:Array Bool}{i j:Nat}(hj:listed.getD j true=false)(hne:j≠i):(listed.setIfInBounds i true).getD j true=false:=by rw [getD_set_ne true (Ne.symm hne)];exact hj
theorem b5M {ops:Array Oper}{m:Nat}{Q:St→Prop}{i:Nat}{oi:Oper}(him:i<m)(hT:tV ops m=true)(hA:mI ops)(hi:ops[i]? =some oi)(hsi:(cT oi.op=true∧jU ops oi=false)∨mC oi=true):
  ∀(fuel:Nat) (listed:Array Bool) (st s:St),eI ops listed→
   (∀j oj,ops[j]? =some oj→j≠i→listed.getD j true=false→gD ops ops.size j i=false→oi.apart ops oj=true∧oB ops oi oj=true)→
   i∈Region.ready .any ops listed→oD ops listed st→Eff P G ops oi st s→
   a6Q P G ops m Q fuel (listed.setIfInBounds i true) s→a6Q P G ops m Q (fuel+1) listed st:=by
 have low:∀(listed:Array Bool),eI ops listed→i∈Region.ready .any ops listed→∀j∈Region.ready .any ops listed,j<m:=fun listed hcl hr j hj=>by apply Classical.byContradiction;intro hjm;obtain ⟨_,oj,hoj,hall⟩:=mem_ready.1 hj;obtain ⟨hiun,_⟩:=mem_ready.1 hr;have h1:=a3G hT (Nat.le_of_not_lt hjm) hoj him;rw [cY hcl hiun ops.size j fun o ho=>by rw [hoj] at ho;cases ho;exact hall] at h1;cases h1
 intro fuel
 induction fuel with
 |zero=>
  intro listed st s hcl _ hr _ hy H;refine ⟨fun h=>(by rw [h] at hr;cases hr),fun j hj=>⟨low listed hcl hr j hj,?_⟩⟩;by_cases hji:j=i
  ·subst hji;rw [hi];exact (dP hsi).2 ⟨s,hy,H⟩
  ·exfalso;obtain ⟨hjun,oj,hoj,hall⟩:=mem_ready.1 hj;obtain ⟨hiun,_⟩:=mem_ready.1 hr;have h1:=a8Q hjun hji;rw [H.1] at h1;have h2:=a3b h1;have:=low listed hcl hr j hj;omega
 |succ fuel ih=>
  intro listed st s hcl hfree hr hI hy H;refine ⟨fun h=>(by rw [h] at hr;cases hr),fun j hj=>⟨low listed hcl hr j hj,?_⟩⟩;by_cases hji:j=i
  ·subst hji;rw [hi];exact (dP hsi).2 ⟨s,hy,H⟩
  ·have h1:=(H.2 j (ready_mono hj hji)).2;obtain ⟨hjun,oj,hoj,hall⟩:=mem_ready.1 hj;rw [hoj] at h1 ⊢;simp only at h1 ⊢;obtain ⟨hiun,oi',hoi',halli⟩:=mem_ready.1 hr;have hnot:gD ops ops.size j i=false:=cY hcl hiun _ _ fun o ho=>by rw [hoj] at ho;cases ho;exact hall
   obtain ⟨hap,hpo⟩:=hfree j oj hoj hji hjun hnot;have hsj:(cT oj.op=true∧jU ops oj=false)∨mC oj=true:=by
    by_cases hs:mC oj=true
    ·exact .inr hs
    ·refine .inl ⟨?_,?_⟩
     ·unfold oB at hpo;simp only [mC,d7i,d6W,Bool.not_eq_true'] at hpo hs;rcases hpo with ((((((h|h)|h)|h)|h)|h)|h)|h
      ·exact h.1.2
      ·exact absurd (.inl (.inl h.1.2)) hs
      ·exact h.1.1.2
      ·exact absurd (.inl (.inr h.2)) hs
      ·exact h.1.2
      ·exact absurd (.inl h.1.2) hs
      ·exact absurd (.inr h.2) hs
      ·exact (kI (G:=G) (st:=st) h.1.2).1
     ·cases hx:jU ops oj with
      |false=>rfl
      |true=>
       have hlt:i<ops.size:=(d7f.1 hi).1;rcases rI hx hoj hlt (fun e=>hji e.symm) with h'|h'
       ·have:=cY hcl hjun ops.size i fun o ho=>by rw [hoi'] at ho;cases ho;exact halli
        rw [h'] at this;cases this
       ·rw [hnot] at h';cases h'
   obtain ⟨s12,hu,hk⟩:=(dP hsj).1 h1;obtain ⟨s2,e1,e2⟩:=a4p hap hpo (fun hn d hd=>hI i oi d hi hn hiun hd) (fun hn d hd=>hI j oj d hoj hn hjun hd) hy hu;refine (dP hsj).2 ⟨s2,e1,?_⟩;refine ih (listed.setIfInBounds j true) s2 s12 (hcl.set hj) (fun k ok hk' hki hun hno=>?_) (ready_mono hr (Ne.symm hji)) (hI.step hA hoj fun k hf hn=>qV e1 hf hn) e2 ?_
   ·exact hfree k ok hk' hki (qD hun).2 hno
   ·rw [Array.setIfInBounds_comm _ _ hji];exact hk
theorem b1N {ops:Array Oper}{m:Nat}{Q:St→Prop}(hTA:tV ops m=true)(hA:mI ops)(hT:eH ops=[]∨∀o∈ops.toList,c0D ops o=true):∀(l:List Oper) (k:Nat) (listed:Array Bool) (st:St),k+l.length=m→(∀j,j<l.length→l[j]? =ops[k+j]?)→eI ops listed→oD ops listed st→
  a1A ops m l.length k listed=true→qQ P G true ops l st Q→a6Q P G ops m Q l.length listed st
 |[],_,_,_,_,_,_,_,hB,h=>⟨by simpa [a1A] using hB,h⟩
 |o::l,k,listed,st,hkm,hl,hcl,hI,hB,h=>by
  have hkm2:k<m:=by simp only [List.length_cons] at hkm;omega
  have h0:ops[k]? =some o:=by simpa using (hl 0 (by simp)).symm
  simp only [List.length_cons,a1A,d6W,h0] at hB;obtain ⟨⟨hr,hf⟩,hB'⟩:=hB;have hrk:k∈Region.ready .any ops listed:=by simpa using hr
  have hnext:∀s,oD ops (listed.setIfInBounds k true) s→qQ P G true ops l s Q→a6Q P G ops m Q l.length (listed.setIfInBounds k true) s:=fun s hs h=>b1N hTA hA hT l (k+1) _ s (by simp only [List.length_cons] at hkm;omega) (fun j hj=>by have:=hl (j+1) (by simpa using hj);simpa [Nat.add_assoc,Nat.add_comm 1 j] using this) (hcl.set hrk) hs hB' h
  have hspec:∀j oj,ops[j]? =some oj→j≠k→listed.getD j true=false→gD ops ops.size j k=false→o.apart ops oj=true∧oB ops o oj=true:=by intro j oj hj hne hun hno;rw [d6Z] at hf;have h1:=hf j (List.mem_range.2 (d7f.1 hj).1);simp only [hj,d7i,beq_iff_eq,hne,false_or,hun,Bool.false_eq_true,hno,d6W] at h1;exact h1
  have only:(∀j oj,ops[j]? =some oj→j≠k→listed.getD j true=false→gD ops ops.size j k=false→False)→a6Q P G ops m Q (l.length+1) listed st:=fun hno=>by
   have low:∀j∈Region.ready .any ops listed,j<m:=fun j hj=>by apply Classical.byContradiction;intro hjm;obtain ⟨_,oj,hoj,hall⟩:=mem_ready.1 hj;obtain ⟨hiun,_⟩:=mem_ready.1 hrk;have h1:=a3G hTA (Nat.le_of_not_lt hjm) hoj hkm2;rw [cY hcl hiun ops.size j fun o ho=>by rw [hoj] at ho;cases ho;exact hall] at h1;cases h1
   refine ⟨fun h'=>(by rw [h'] at hrk;cases hrk),fun j hj=>⟨low j hj,?_⟩⟩;by_cases hjk:j=k
   ·subst hjk;rw [h0];have hkeep:kH P G true ops o (fun s=>qQ P G true ops l s Q∧oD ops (listed.setIfInBounds j true) s) st:=by
     by_cases hT0:eH ops=[]
     ·refine eS (fun s hs=>⟨hs,fun i oi d hi hn _ hd=>?_⟩) h;have:d∈eH ops:=List.mem_filterMap.2 ⟨oi,by rw [Array.mem_toList_iff];exact Array.mem_of_getElem? hi,by rw [if_pos hn];exact hd⟩;rw [hT0] at this;cases this
     ·have hT:=hT.resolve_left hT0;refine eS (fun s hs=>⟨hs.1,hI.step hA h0 hs.2⟩) (b1C hT0 (hT o (by rw [Array.mem_toList_iff];exact Array.mem_of_getElem? h0)) h)
    exact eS (fun s hs=>hnext s hs.2 hs.1) hkeep
   ·obtain ⟨hjun,oj,hoj,hall⟩:=mem_ready.1 hj;have hnot:gD ops ops.size j k=false:=cY hcl (mem_ready.1 hrk).1 _ _ fun o' ho'=>by rw [hoj] at ho';cases ho';exact hall
    exact (hno j oj hoj hjk hjun hnot).elim
  by_cases hs:(cT o.op=true∧jU ops o=false)∨mC o=true
  ·obtain ⟨s,hd,hk⟩:=(dP hs).1 h;exact b5M hkm2 hTA hA h0 hs l.length listed st s hcl (fun j oj hj hne hun hno=>hspec j oj hj hne hun hno) hrk hI hd (hnext _ (hI.step hA h0 fun k hf hn=>qV hd hf hn) hk)
  ·refine only fun j oj hj hne hun hno=>?_
   obtain ⟨_,hpo⟩:=hspec j oj hj hne hun hno;cases hal:jU ops o with
   |true=>
    obtain ⟨_,ok,hok,hallk⟩:=mem_ready.1 hrk;have hnot2:gD ops ops.size k j=false:=cY hcl hun _ _ fun o' ho'=>by rw [hok] at ho';cases ho';exact hallk
    rcases rI hal h0 (d7f.1 hj).1 hne with h'|h'
    ·rw [hno] at h';cases h'
    ·rw [hnot2] at h';cases h'
   |false=>
    unfold oB at hpo;simp only [mC,d7i,d6W,Bool.not_eq_true'] at hpo hs;rcases hpo with ((((((h'|h')|h')|h')|h')|h')|h')|h'
    ·exact hs (.inl ⟨h'.1.1,hal⟩)
    ·exact hs (.inl ⟨h'.1.1,hal⟩)
    ·exact hs (.inr (.inl (.inl h'.1.1.1)))
    ·exact hs (.inl ⟨h'.1,hal⟩)
    ·exact hs (.inr (.inl (.inr h'.1.1)))
    ·exact hs (.inr (.inl h'.1.1))
    ·exact hs (.inl ⟨(kI (G:=G) (st:=st) h'.1.1).1,hal⟩)
    ·exact hs (.inr (.inr h'.1.1))
theorem a8R {id:Nat}{ops:Array Oper}{m:Nat}{T:St→Prop}{Q:Exit→St→Prop}(hm:P.follows .mixedOrders=true)(hB:c3L ops m=true)(hF:a5E ops st=true)(h:qQ P G true ops (ops.toList.take m) st T)(hT:∀s base R μ a w (QQ:Exit→Act→World→Prop),T s→Rel P G base R μ s a w→(∀s' a' w' R' μ',Q .normal s'→Rel P G base R' μ' s' a' w'→Step base R w R' w'→QQ .normal a' w')→wpAny P .any ops QQ (ops.size-m) (mM m ops.size) a w):SW P G (.region id ops true) st Q:=by
 intro base R μ a w hr;obtain ⟨hr',hs'⟩:=hr.drew;unfold c3L at hB;rw [d6W,d6W,d6W,decide_eq_true_eq] at hB;obtain ⟨⟨hN,hmle,hTA⟩,hB⟩:=hB;rw [d7i,List.isEmpty_iff,d6W,d6Z,decide_eq_true_eq] at hN;have mem:∀ {i oi d},ops[i]? =some oi→eD oi=true→oi.dst=some d→d∈eH ops:=fun hi hn hd=>List.mem_filterMap.2 ⟨_,by rw [Array.mem_toList_iff];exact Array.mem_of_getElem? hi,by rw [if_pos hn];exact hd⟩
 have hA:mI ops:=fun i j oi oj d hi hj hni hnj hdi hdj=>by
  rcases hN with hN|⟨_,hN⟩
  ·have:=mem hi hni hdi;rw [hN] at this;cases this
  ·exact a8l (l:=ops.toList) (f:=fun o=>if eD o then o.dst else none) hN i j (by simpa using hi) (by simpa using hj) (by rw [if_pos hni];exact hdi) (by rw [if_pos hnj];exact hdj)
 have hI:oD ops (Array.replicate ops.size false) st:=fun j oj d hj hn _ hd=>d6Z.1 hF d (mem hj hn hd)
 have hlen:(ops.toList.take m).length=m:=by simp;omega
 have h1:=b1N (P:=P) (G:=G) hTA hA (hN.imp (fun h=>h) (fun h=>h.1)) (ops.toList.take m) 0 (Array.replicate ops.size false) st (by rw [hlen];omega) (fun j hj=>by
  rw [hlen] at hj;rw [List.getElem?_take,if_pos hj];simp) (fun k hk=>by
  rcases Nat.lt_or_ge k ops.size with h'|h'
  ·simp [h'] at hk
  ·simp [Nat.not_lt.2 h'] at hk) hI (by rw [hlen];exact hB) h
 rw [hlen] at h1;refine wp_region_any hm ?_
 have h2:=a8P (r:=ops.size-m) (QQ:=fun e a' w'=>∃s' R' μ',Q e s'∧Rel P G base R' μ' s' a' w'∧Step base R w R' w') m _ st h1 base R μ a w.drew hr' fun s a' w' R' μ' q1 q2 q3=>hT s base R' μ' a' w' _ q1 q2 fun s2 a2 w2 R2 μ2 p1 p2 p3=>⟨s2,R2,μ2,p1,p2,(hs'.trans q3).trans p3⟩
 rw [show m+(ops.size-m)=ops.size by omega] at h2;exact h2
end
end Go.VM
end
section
namespace Go.VM
open Go Go.RowKit
def spl (cur:Array Value)(off:Nat)(l:List Value):Array Value:=(cur.toList.take off++l++cur.toList.drop (off+l.length)).toArray
theorem a4H {cur:Array Value}{off:Nat}{l:List Value}(h:off+l.length≤cur.size)(k:Nat):(spl cur off l)[k]? =if k<off then cur[k]? else if k<off+l.length then l[k-off]? else cur[k]? :=by unfold spl;rw [List.getElem?_toArray,zV _ _ _ (by simpa using h)];simp
theorem a8S {cur:Array Value}{off:Nat}{l:List Value}(h:off+l.length≤cur.size):(spl cur off l).size=cur.size:=by unfold spl;simp only [List.size_toArray,List.length_append,List.length_take,List.length_drop,Array.length_toList];omega
theorem c8H {cur:Array Value}{off:Nat}{l l':List Value}(h:off+l.length≤cur.size)(hl:l'.length=l.length):spl (spl cur off l) off l'=spl cur off l':=by
 apply Array.ext_getElem?;intro k;have h1:=a8S h;rw [a4H (by rw [h1];omega),a4H h,a4H (by omega)];rw [hl];split
 ·rfl
 ·split
  ·rfl
  ·rfl
theorem c8I (a b c:List Value)(b':List Value)(h:b'.length=b.length):spl (a.toArray++b.toArray++c.toArray) a.length b'=a.toArray++b'.toArray++c.toArray:=by unfold spl;rw [h];simp
theorem setRow_setRow (w:World)(g:Nat)(a b:Array Value):(w.setRow g a).setRow g b=w.setRow g b:=by
 unfold World.setRow;cases w with
 |mk heap tape drawn os output=>
  simp only;congr 1;apply Array.ext
  ·simp
  ·intro k h1 h2;simp only [Array.getElem_modify];by_cases hk:g=k
   ·simp only [hk,if_true];generalize heap[k]'(by simpa using h1)=o;cases o<;>rfl
   ·simp [hk]
theorem a6R (w:World){g b:Nat}(hne:g≠b)(x y:Array Value):(w.setRow g x).setRow b y=(w.setRow b y).setRow g x:=by
 unfold World.setRow;cases w with
 |mk heap tape drawn os output=>
  simp only;congr 1;apply Array.ext
  ·simp
  ·intro k h1 h2;simp only [Array.getElem_modify];by_cases hk:g=k
   ·subst hk;simp [Ne.symm hne]
   ·by_cases hb:b=k
    ·subst hb;simp [hk]
    ·simp [hk,hb]
section
variable {P:Program} {G:GT} {st:St}
theorem qJ {a:Act}{w:World}{o:Oper}{t:TypeId}{ad x:Operand}(ho:o.op= .store t ad x){b off:Nat}{cur:Array Value}{T:TypeId}(had:a.eval ad= .pointer (some ⟨b,off,none⟩))(hh:w.heap[b]? =some (.cells cur T (0,0)))(hsz:(a.eval x).cells.size=P.cellsOf t)(hne:P.cellsOf t≠0)(hone:∀u∈(a.eval x).cells.toList,u.oneCell'=true)(hfit:off+(a.eval x).cells.size≤cur.size):
  (execOp a.eval o).run P w= .ok .skip (w.setRow b (spl cur off (a.eval x).cells.toList)):=by
 have hst:=run_storeCells_at P b off T (a.eval x).cells.toList 0 cur w hh (by simpa using hfit) hone;simp only [Nat.add_zero] at hst;have hnn: ¬((a.eval x).cells.size≠P.cellsOf t):=by rw [hsz];simp
 unfold spl;simp only [execOp,ho,Sem.run_bind,had,Instr.storeAt,Instr.sureAddr,storeVar,Sem.run_pure,Result.andThen_ok,mD (dW hne) w,if_neg hnn,hst]
theorem zF {a:Act}{w:World}{o:Oper}{t e:TypeId}{x i:Operand}(ho:o.op= .indexAddr t x i)(hu:P.underlying t=some (.slice e)){b n cap k:Nat}{kd:IntKind}(hx:a.eval x= .slice (some ⟨b,0,none⟩) n cap)(hi:a.eval i= .int kd (k:Int))(hk:k<n)(hs:0<P.cellsOf e):
  (execOp a.eval o).run P w= .ok (.value (.pointer (some ⟨b,k*P.cellsOf e,none⟩))) w:=by
 have hso:=mD (dW (P:=P) (t:=e) (by omega)) w;have hkn: ¬(n≤k):=by omega
 simp [execOp,ho,hx,hi,Instr.indexAt,run_underlying hu,asIntOf,hk,hso,jS]
theorem a6S {base:cS}{R:Nat→Nat→Prop}{μ:Nat→Nat}{a:Act}{w:World}(hr:Rel P G base R μ st a w){t ty e:TypeId}(hok:gC P e=true)(hu:P.underlying t=some (.slice e)){i:Tmp}{x:Operand}{xs:List (List D)}{z0:List D}{dZ:List (TypeId×List Loc)}(hsx:st.eval G (.tmp i)= .d (.sl xs))(htk:eZ (.t i) st.own=some (e,dZ))(hlx:∀c∈xs,c.length=P.cellsOf e)(hx:st.eval G x= .d (.sl [z0]))(hz0:z0.length=P.cellsOf e)(hbd:(xs.length+1)*(P.bytesOf e+1)≤140737488355328):
  ∃g cap cur1 w1,(Builtin.append_ #[t,t] ty #[a.eval (.tmp i),a.eval x]).run P w= .ok (.slice (some ⟨g,0,none⟩) (xs.length+1) cap) w1∧w1.heap[g]? =some (.cells cur1 e (0,0))∧xs.length*P.cellsOf e+P.cellsOf e≤cur1.size∧
   (∀k o,getKey k st.H=some o→μ k≠g∧w1.heap[μ k]? =w.heap[μ k]?)∧
   ∀(news:List Value) (c:List D),news.length=P.cellsOf e→c.length=P.cellsOf e→(∀u∈news,u.oneCell'=true)→(∀(j:Nat) (d:D),c[j]? =some d→d.one=true∧∃v,news[j]? =some v∧V R w v d)→
    ∃R1,Rel P G base R1 μ { st with own:=dZ } a (w1.setRow g (spl cur1 (xs.length*P.cellsOf e) news))∧V R1 (w1.setRow g (spl cur1 (xs.length*P.cellsOf e) news)) (.slice (some ⟨g,0,none⟩) (xs.length+1) cap) (.sl (xs++[c]))∧
     a0Z P base R1 μ { st with own:=dZ } a (w1.setRow g (spl cur1 (xs.length*P.cellsOf e) news)) (.slice (some ⟨g,0,none⟩) (xs.length+1) cap) (.fresh e)∧Step base R w R1 (w1.setRow g (spl cur1 (xs.length*P.cellsOf e) news)):=by
 obtain ⟨ti,z,hi,hsize,hbytes,hpos,hz,hzs⟩:=uD hok;have hb1:xs.length+1≤140737488355328:=by rw [Nat.mul_add] at hbd;omega
 have hb2:(xs.length+1)*P.bytesOf e≤140737488355328:=by rw [Nat.mul_add] at hbd;omega
 obtain ⟨ao2,capx,hv2,hrun2⟩:=b1u (ys:=[z0]) hr (by rw [hx];rfl);obtain ⟨b2,off2,size2,rfl,q1,q2,q3⟩:=hrun2 (by simp);have hsz2:size2=P.cellsOf e:=by rw [← q2 z0 (.head _),hz0]
 subst hsz2;obtain ⟨n0,m1,m2,m3,m4⟩:=a4j q2 q3;simp only [List.length_singleton,Nat.one_mul] at m1 hv2;obtain ⟨hr',v0,vs,hv0,jR,hkeys,hvs,hap⟩:=hr.eZ htk;have hsv:a.eval (.tmp i)=v0:=by
  refine hv0 _ ?_
  show a.tmps[i]? =some (a.tmps.getD i undef)
  by_cases hs:i<a.tmps.size
  ·simp [hs]
  ·have h3: ¬i<st.tmps.length:=by rw [← hr.size];exact hs
   simp [St.eval,List.getD,List.getElem?_eq_none (Nat.le_of_not_lt h3)] at hsx
 have hV:=hr.jA hsx;have hlt:∀k o,getKey k st.H=some o→μ k<w.heap.size:=fun k o hk=>(hr.gL k o hk).2.2.lt
 have hnew:∀(olds:List Value) (old:Nat),olds.length=xs.length*P.cellsOf e→(∀(i j:Nat) (c:List D) (d:D),xs[i]? =some c→c[j]? =some d→d.one=true∧∃v,olds[i*P.cellsOf e+j]? =some v∧V R w v d)→
   (Builtin.append_ #[t,t] ty #[a.eval (.tmp i),a.eval x]).run P w= .ok (.slice (some ⟨w.heap.size,0,none⟩) (xs.length+1) (grownCap w (xs.length+1) old e)) (w.drew.alloc (.cells (olds.toArray++n0.toArray++Builtin.zeroCells z.cells (grownCap w (xs.length+1) old e-(xs.length+1))) e))→
   ∃g cap cur1 w1,(Builtin.append_ #[t,t] ty #[a.eval (.tmp i),a.eval x]).run P w= .ok (.slice (some ⟨g,0,none⟩) (xs.length+1) cap) w1∧w1.heap[g]? =some (.cells cur1 e (0,0))∧xs.length*P.cellsOf e+P.cellsOf e≤cur1.size∧
   (∀k o,getKey k st.H=some o→μ k≠g∧w1.heap[μ k]? =w.heap[μ k]?)∧
   ∀(news:List Value) (c:List D),news.length=P.cellsOf e→c.length=P.cellsOf e→(∀u∈news,u.oneCell'=true)→(∀(j:Nat) (d:D),c[j]? =some d→d.one=true∧∃v,news[j]? =some v∧V R w v d)→
    ∃R1,Rel P G base R1 μ { st with own:=dZ } a (w1.setRow g (spl cur1 (xs.length*P.cellsOf e) news))∧V R1 (w1.setRow g (spl cur1 (xs.length*P.cellsOf e) news)) (.slice (some ⟨g,0,none⟩) (xs.length+1) cap) (.sl (xs++[c]))∧
     a0Z P base R1 μ { st with own:=dZ } a (w1.setRow g (spl cur1 (xs.length*P.cellsOf e) news)) (.slice (some ⟨g,0,none⟩) (xs.length+1) cap) (.fresh e)∧Step base R w R1 (w1.setRow g (spl cur1 (xs.length*P.cellsOf e) news)):=by
  intro olds old ho1 ho2 hrun;refine ⟨w.heap.size,_,_,_,hrun,heap_alloc_new w.drew _,?_,fun k o hk=>⟨by have:=hlt k o hk;omega,Below.heap_alloc w.drew _ _ (hlt k o hk)⟩,?_⟩
  ·simp only [Array.size_append,List.size_toArray,ho1,m1];omega
  ·intro news c hn hc h1 hcn;have hsp:spl (olds.toArray++n0.toArray++Builtin.zeroCells z.cells (grownCap w (xs.length+1) old e-(xs.length+1))) (xs.length*P.cellsOf e) news=olds.toArray++news.toArray++Builtin.zeroCells z.cells (grownCap w (xs.length+1) old e-(xs.length+1)):=by have:=c8I olds n0 (Builtin.zeroCells z.cells (grownCap w (xs.length+1) old e-(xs.length+1))).toList news (by rw [hn,m1]);rw [ho1] at this;simpa using this
   rw [hsp];have hal:=b3i w.drew (olds.toArray++n0.toArray++Builtin.zeroCells z.cells (grownCap w (xs.length+1) old e-(xs.length+1))) (olds.toArray++news.toArray++Builtin.zeroCells z.cells (grownCap w (xs.length+1) old e-(xs.length+1))) e;have hhs:w.drew.heap.size=w.heap.size:=rfl;rw [hhs] at hal;rw [hal];obtain ⟨R',n1,n2,n3,n4⟩:=a3w hr' (e:=e) (z:=z) hpos hzs (xs:=xs) (ys:=[c]) (olds:=olds) (news:=news) old (by unfold maxLen;simp;omega) hlx (by simpa using hc) ho1 (by simpa using hn) ho2 (fun i j c' d hi hj=>by
    cases i with
    |zero=>simp at hi;subst hi;simpa using hcn j d hj
    |succ i=>simp at hi) _ rfl
   exact ⟨R',n1,n3,n4,n2⟩
 have hnil:xs=[]→(∃ao,v0= .slice ao 0 0)→_:=fun hx0 ⟨ao,hao⟩=>hnew [] 0 (by rw [hx0];simp) (by rw [hx0];simp) (by
  rw [hsv,hao,hv2,hx0];cases ao with
  |none=>have:=run_append_nil (P:=P) w t ty e ti z hu hi hz ⟨b2,off2,none⟩ 1 capx n0 (by rw [m1,hsize,Nat.one_mul]) m2 (by omega) (by omega) (by rw [hbytes];rw [hx0] at hb2;simp at hb2;omega);simpa using this
  |some b0=>have:=run_append_grow (P:=P) w t ty e ti z hu hi hz b0 0 0 [] (by simp) (by simp) ⟨b2,off2,none⟩ 1 capx n0 (by rw [m1,hsize,Nat.one_mul]) m2 (by omega) (by omega) (by rw [hbytes];rw [hx0] at hb2;exact growslice_fits (by omega) (by simpa using hb2));simpa using this)
 rcases jR with ⟨ao,rfl⟩|⟨g,n,cap,cur,rfl,hbg,hg,hnc,hcm,hcs,hnR⟩
 ·have hx0:xs=[]:=by obtain ⟨ao',cap',h1,_⟩:=hV.uT;rw [hsv] at h1;exact List.eq_nil_of_length_eq_zero (Value.slice.inj h1).2.1.symm
  exact hnil hx0 ⟨ao,rfl⟩
 ·obtain ⟨ao',cap',h1,_,hrunx⟩:=hV.uT;rw [hsv] at h1;cases h1;have holds:∃olds:List Value,olds.length=xs.length*P.cellsOf e∧(∀(j:Nat) (u:Value),olds[j]? =some u→w.cell? ((⟨g,0,none⟩:Addr).add j)=some u)∧
    ∀(i j:Nat) (c:List D) (d:D),xs[i]? =some c→c[j]? =some d→d.one=true∧∃v,olds[i*P.cellsOf e+j]? =some v∧V R w v d:=by
   by_cases hx0:xs=[]
   ·subst hx0;exact ⟨[],by simp,by simp,by simp⟩
   ·obtain ⟨b,o',size,hba,q1,q2,q3⟩:=hrunx hx0;cases hba;have hsz:size=P.cellsOf e:=by
     cases xs with
     |nil=>exact absurd rfl hx0
     |cons c l=>rw [← q2 c (.head _),hlx c (.head _)]
    subst hsz;obtain ⟨olds,n1,n2,_,n4⟩:=a4j q2 q3;exact ⟨olds,n1,n2,n4⟩
  obtain ⟨olds,o1,o2,o3⟩:=holds;by_cases hroom:xs.length+1≤cap
  ·have hmul:(xs.length+1)*P.cellsOf e≤cap*P.cellsOf e:=Nat.mul_le_mul_right _ hroom;have hfit0:xs.length*P.cellsOf e+P.cellsOf e≤cur.size:=by rw [hcs];rw [Nat.add_mul,Nat.one_mul] at hmul;exact hmul
   have hfit:xs.length*P.cellsOf e+n0.length≤cur.size:=by rw [m1];exact hfit0
   have hrun:=run_append_room (P:=P) w t ty e ti hu hi g xs.length cap cur hg ⟨b2,off2,none⟩ 1 capx n0 (by rw [m1,hsize,Nat.one_mul]) m2 m3 hroom (by rw [hsize];exact hfit);rw [hsize] at hrun;have hrun2:(Builtin.append_ #[t,t] ty #[a.eval (.tmp i),a.eval x]).run P w= .ok (.slice (some ⟨g,0,none⟩) (xs.length+1) cap) (w.setRow g (spl cur (xs.length*P.cellsOf e) n0)):=by rw [hsv,hv2];exact hrun
   have hspg:bD (.slice (some ⟨g,0,none⟩) xs.length cap)=some g:=by simp [bD];omega
   have hgne:∀k o,getKey k st.H=some o→μ k≠g:=fun k o hk he=>hkeys k o hk (by rw [hspg,he])
   refine ⟨g,cap,_,_,hrun2,setRow_heap w g cur _ e _ hg,?_,fun k o hk=>⟨hgne k o hk,setRow_other w g _ _ (hgne k o hk)⟩,?_⟩
   ·rw [a8S hfit];exact hfit0
   ·intro news c hn hc h1n hcn;have hnl:news.length=n0.length:=by rw [hn,m1]
    rw [c8H hfit hnl,setRow_setRow];have hfitn:xs.length*P.cellsOf e+news.length≤cur.size:=by rw [hnl];exact hfit
    generalize hcur':spl cur (xs.length*P.cellsOf e) news=cur';have hget:∀k,cur'[k]? =if k<xs.length*P.cellsOf e then cur[k]? else if k<xs.length*P.cellsOf e+news.length then news[k-xs.length*P.cellsOf e]? else cur[k]? :=fun k=>by rw [← hcur'];exact a4H hfitn k
    obtain ⟨p1,p2,p3⟩:=hr'.b9r (g:=g) (n:=xs.length) (m:=1) (s:=P.cellsOf e) (cur':=cur') (fun k o' hk he=>hkeys k o' hk (by rw [hspg,he])) hvs (fun v' hv' hsp=>(hap v' hv').1 g hspg hsp) hbg hg hnR (fun off hoff=>by rw [hget,if_pos hoff]);have hnewg:(w.setRow g cur').heap[g]? =some (.cells cur' e (0,0)):=setRow_heap w g cur _ e _ hg
    have hcsz:cur'.size=cap*P.cellsOf e:=by rw [← hcur',a8S hfitn,hcs]
    refine ⟨_,p1,?_,?_,p2⟩
    ·have hly:∀c'∈[c],c'.length=P.cellsOf e:=by simpa using hc
     have hcell:∀(i j:Nat) (c':List D) (d:D),(xs++[c])[i]? =some c'→c'[j]? =some d→d.one=true∧∃v,(w.setRow g cur').cell? ⟨g,0+i*P.cellsOf e+j,none⟩=some v∧V R w v d:=fun i j c' d hi' hj=>by
      rw [Nat.zero_add,cell_of_row _ _ _ cur' e (0,0) hnewg,hget];by_cases hil:i<xs.length
      ·rw [d7h hil] at hi';obtain ⟨w1,v,w2,w3⟩:=o3 i j c' d hi' hj;have hlt:=(d6X.1 w2).1;have hcellv:=o2 _ v w2;rw [jS,Nat.zero_add,cell_of_row _ _ _ cur e (0,0) hg] at hcellv;rw [if_pos (by omega)];exact ⟨w1,v,hcellv,w3⟩
      ·rw [d7e (by omega)] at hi';have hi0:i=xs.length:=by have:=(d6X.1 hi').1;simp at this;omega
       subst hi0;simp at hi';subst hi';obtain ⟨w1,v,w2,w3⟩:=hcn j d hj;have hlt:=(d6X.1 w2).1;rw [if_neg (by omega),if_pos (by omega),Nat.add_sub_cancel_left];exact ⟨w1,v,w2,w3⟩
     refine .sl g 0 _ cap (P.cellsOf e) _ (fun i j=>((w.setRow g cur').cell? ⟨g,0+i*P.cellsOf e+j,none⟩).getD undef) (by simp) hroom hpos (fun c' hc'=>by simp at hc';rcases hc' with hc'|hc';exact hlx c' hc';exact hly c' (by simpa using hc')) (fun i j hi' hj=>⟨.inr ⟨rfl,?_⟩,?_⟩) (fun i j c' d hi' hj=>(hcell i j c' d hi' hj).1) (fun i j c' d hi' hj=>?_)
     ·have:(i+1)*P.cellsOf e≤(xs.length+1)*P.cellsOf e:=Nat.mul_le_mul_right _ (by omega);rw [Nat.add_mul] at this;omega
     ·have hil:i<(xs++[c]).length:=by simp;omega
      have hei:=d7a hil;have hjl:j<((xs++[c])[i]).length:=by
       have hm:(xs++[c])[i]∈xs++[c]:=List.getElem_mem hil;rw [List.mem_append] at hm;rcases hm with hm|hm
       ·rw [hlx _ hm];exact hj
       ·rw [hly _ hm];exact hj
      obtain ⟨_,v,hv,_⟩:=hcell i j _ _ hei (d7a hjl);rw [hv];rfl
     ·obtain ⟨_,v,hv,hvd⟩:=hcell i j c' d hi' hj;rw [hv];exact hvd.bJ p2
    ·refine ⟨.inr ⟨g,_,cap,cur',rfl,hbg,hnewg,hroom,hcm,hcsz,fun off hoff hR=>?_⟩,fun k o' hk=>by have:=hkeys k o' hk;rw [hspg] at this;simpa [bD,show cap≠0 by omega] using this,vs,p3,fun v' hv'=>?_⟩
     ·rcases hR with hR|⟨_,hR⟩
      ·have:xs.length*P.cellsOf e≤(xs.length+1)*P.cellsOf e:=Nat.mul_le_mul_right _ (by omega);exact hnR off (by omega) hR
      ·omega
     ·have hsp2:bD (.slice (some ⟨g,0,none⟩) (xs.length+1) cap)=some g:=by simp [bD];omega
      exact ⟨fun g' hg' hg''=>(hap v' hv').1 g' (by rw [hspg, ← hsp2];exact hg') hg'',fun g' hg' hg''=>(hap v' hv').2 g' hg' (by rw [hspg, ← hsp2];exact hg'')⟩
  ·refine hnew olds cap o1 o3 ?_
   rw [hsv,hv2];exact run_append_grow (P:=P) w t ty e ti z hu hi hz ⟨g,0,none⟩ xs.length cap olds (by rw [o1,hsize]) o2 ⟨b2,off2,none⟩ 1 capx n0 (by rw [m1,hsize,Nat.one_mul]) m2 (by omega) (by omega) (by rw [hbytes];exact growslice_fits (by omega) hb2)
abbrev tl2 (s:St)(dZ:List (TypeId×List Loc))(e:TypeId)(r p:Tmp)(xs:List (List D))(c:List D):St:=finish (finish { s with own:=dZ } (some r) (.d (.sl (xs++[c]))) (.fresh e)) (some p) .undef .no
theorem dE {ops:Array Oper}{Q:Exit→Act→World→Prop}{i:Nat}{K:Act→World→Prop}{a a':Act}{w w':World}{o:Oper}(ho:ops[i]? =some o)(hg:o.guard=none){v:Value}(hrun:(execOp a.eval o).run P w= .ok (.value v) w'∨((execOp a.eval o).run P w= .ok .skip w'∧v=Go.undef))(ha:a.put o.dst v=a')(h:K a' w'):wpOp P ops Q i K a w:=by
 unfold wpOp;rw [ho];have hw:∀y,Region.wanted o y=true:=fun y=>by unfold Region.wanted;rw [hg]
 simp only [hw,if_true];left;unfold Oper.wp;rcases hrun with h1|⟨h1,rfl⟩
 ·rw [h1]
  show K (a.put o.dst v) w'
  rw [ha];exact h
 ·rw [h1]
  show K (a.put o.dst Go.undef) w'
  rw [ha];exact h
theorem c8J {ops:Array Oper}{i0 i1 i2 i3:Nat}{L0:Array Bool}{t e:TypeId}{s z r p q x b:Tmp}{y0 y1 y2 y3:TypeId}{p0 p1 p2 p3:String}{f0 f1 f2 f3:Array Edge}{xs:List (List D)}{z0 c:List D}{dZ:List (TypeId×List Loc)}{out:Out}{Q:St→Prop}{QQ:Exit→Act→World→Prop}(h0:ops[i0]? =some ⟨some r,.call { callee:= .builtin .append,args:= #[.tmp s,.tmp z],argTypes:= #[t,t] },y0,p0,f0,none⟩)(h1:ops[i1]? =some ⟨some p,.indexAddr t (.tmp r) (.tmp q),y1,p1,f1,none⟩)(h2:ops[i2]? =some ⟨none,.store e (.tmp p) (.tmp x),y2,p2,f2,none⟩)(h3:ops[i3]? =some ⟨none,.store t (.tmp b) (.tmp r),y3,p3,f3,none⟩)(r0:Region.ready .any ops L0=[i0])(r1:Region.ready .any ops (L0.setIfInBounds i0 true)=[i1,i3])(r2:Region.ready .any ops ((L0.setIfInBounds i0 true).setIfInBounds i1 true)=[i2,i3])(r3:Region.ready .any ops ((L0.setIfInBounds i0 true).setIfInBounds i3 true)=[i1])(r4:Region.ready .any ops (((L0.setIfInBounds i0 true).setIfInBounds i1 true).setIfInBounds i2 true)=[i3])(r5:Region.ready .any ops (((L0.setIfInBounds i0 true).setIfInBounds i1 true).setIfInBounds i3 true)=[i2])(r6:Region.ready .any ops (((L0.setIfInBounds i0 true).setIfInBounds i3 true).setIfInBounds i1 true)=[i2])(r7:Region.ready .any ops ((((L0.setIfInBounds i0 true).setIfInBounds i1 true).setIfInBounds i2 true).setIfInBounds i3 true)=[])(r8:Region.ready .any ops ((((L0.setIfInBounds i0 true).setIfInBounds i1 true).setIfInBounds i3 true).setIfInBounds i2 true)=[])(r9:Region.ready .any ops ((((L0.setIfInBounds i0 true).setIfInBounds i3 true).setIfInBounds i1 true).setIfInBounds i2 true)=[])(hok:gC P e=true)(hu:P.underlying t=some (.slice e))(hne:(r≠q∧r≠x∧r≠p∧r≠b)∧p≠x∧p≠b)(hlt:r<st.tmps.length∧p<st.tmps.length)(hsx:st.eval G (.tmp s)= .d (.sl xs))(htk:eZ (.t s) st.own=some (e,dZ))(hlx:∀c∈xs,c.length=P.cellsOf e)(hx:st.eval G (.tmp z)= .d (.sl [z0]))(hz0:z0.length=P.cellsOf e)(hbd:(xs.length+1)*(P.bytesOf e+1)≤140737488355328)(hq:st.eval G (.tmp q)= .d (.int .i64 (xs.length:Int)))(hxv:st.eval G (.tmp x)= .d (.agg c))(hc:c.length=P.cellsOf e)(hst:oR P G t (.tmp b) (.tmp r) (tl2 st dZ e r p xs c)=some out)(hQ:Q out.st){base:cS}{R:Nat→Nat→Prop}{μ:Nat→Nat}{a:Act}{w:World}(hr:Rel P G base R μ st a w)(hk:∀s' a' w' R' μ',Q s'→Rel P G base R' μ' s' a' w'→Step base R w R' w'→QQ .normal a' w'):wpAny P .any ops QQ 4 L0 a w:=by
 obtain ⟨⟨n1,n2,n3,n4⟩,n5,n6⟩:=hne;obtain ⟨l1,l2⟩:=hlt;have hsz:=hr.size;obtain ⟨_,_,_,_,_,hpos,_,_⟩:=uD hok;obtain ⟨g,cap,cur1,w1,e0,hg,hfit,hobj,hnews⟩:=a6S (ty:=y0) hr hok hu (x:= .tmp z) hsx htk hlx hx hz0 hbd;obtain ⟨pc,hpc,hpc1,hpc2⟩:=(hr.jA hxv).zS;have hone:∀u∈pc.toList,u.oneCell'=true:=fun u hu=>by
  obtain ⟨j,hj⟩:=d7n hu;have hjl:j<c.length:=by rw [← hpc1];simpa using (d6X.1 hj).1
  obtain ⟨k1,k2⟩:=hpc2 j c[j] (by simp [hjl]);have:pc.getD j Go.undef=u:=by
   have:pc[j]? =some u:=by simpa using hj
   simp [d6Y,this]
  rw [this] at k2;exact k2.a4e k1
 obtain ⟨R1,hr1,hV1,hA1,hs1⟩:=hnews pc.toList c (by simpa [hpc1] using hc) hc hone (fun j d hj=>by
  obtain ⟨k1,k2⟩:=hpc2 j d hj;have hjl:j<pc.size:=by rw [hpc1];exact (d6X.1 hj).1
  refine ⟨k1,pc[j],by simp [hjl],?_⟩;simpa [d6Y,hjl] using k2)
 generalize hvS:(Value.slice (some ⟨g,0,none⟩) (xs.length+1) cap)=vS at *;generalize hcur2:spl cur1 (xs.length*P.cellsOf e) pc.toList=cur2 at *;have hra:r<a.tmps.size:=by rw [hsz];exact l1
 have hpa:p<a.tmps.size:=by rw [hsz];exact l2
 have hr1':=hr1.put (dst:=some r) (.d _ _ hV1) hA1;have hr2:=hr1'.put (dst:=some p) (v:= .pointer (some ⟨g,xs.length*P.cellsOf e,none⟩)) (act:= .no) (.undef _) trivial;generalize ha1:a.put (some r) vS=a1 at *;generalize ha2:a1.put (some p) (.pointer (some ⟨g,xs.length*P.cellsOf e,none⟩))=a2 at *;have z1:a1.tmps.size=a.tmps.size:=by rw [← ha1];exact size_put _ _ _
 have v1r:a1.eval (.tmp r)=vS:=by rw [← ha1];exact dL _ _ hra
 have v1q:a1.eval (.tmp q)=a.eval (.tmp q):=by rw [← ha1];exact bR _ _ (Ne.symm n1)
 have v1x:a1.eval (.tmp x)=a.eval (.tmp x):=by rw [← ha1];exact bR _ _ (Ne.symm n2)
 have v1b:a1.eval (.tmp b)=a.eval (.tmp b):=by rw [← ha1];exact bR _ _ (Ne.symm n4)
 have v2p:a2.eval (.tmp p)= .pointer (some ⟨g,xs.length*P.cellsOf e,none⟩):=by rw [← ha2];exact dL _ _ (z1.symm▸hpa)
 have v2x:a2.eval (.tmp x)= .agg pc:=by rw [← ha2,bR _ _ (Ne.symm n5),v1x,hpc]
 have v2r:a2.eval (.tmp r)=vS:=by rw [← ha2,bR _ _ n3];exact v1r
 have v2b:a2.eval (.tmp b)=a.eval (.tmp b):=by rw [← ha2,bR _ _ (Ne.symm n6)];exact v1b
 have hstb:=hst;unfold oR at hstb;split at hstb;rotate_left
 ·cases hstb
 rename_i kb off ys hb hys;split at hstb;rotate_left
 ·cases hstb
 rename_i cs hkb;split at hstb;rotate_left
 ·cases hstb
 rename_i hcd
 clear hstb
 have hHs:(tl2 st dZ e r p xs c).H=st.H:=rfl;rw [hHs] at hkb;have hb':a2.eval (.tmp b)= .pointer (some ⟨μ kb,off,none⟩):=hr2.dJ hb;have hys1:ys.length=1:=by
  have:(tl2 st dZ e r p xs c).eval G (.tmp r)= .d (.sl (xs++[c])):=by simp [St.eval,finish,List.getD,l1,List.getElem?_set,Ne.symm n3]
  rw [this] at hys;simp only [rE,D.cells,List.map_cons,List.map_nil,d7c] at hys;rw [← hys];rfl
 obtain ⟨_,_,vs0,T0,hh0,hsz0,_⟩:=hr.gL kb _ hkb;obtain ⟨hbg,hw1b⟩:=hobj kb _ hkb;have hvc:vS.cells= #[vS]:=by rw [← hvS];rfl
 have hvo:vS.oneCell'=true:=by rw [← hvS];rfl
 have hob:w1.heap[μ kb]? =some (.cells vs0 T0 (0,0)):=hw1b.trans hh0
 generalize hX:spl vs0 off [vS]=X;have E0:(execOp a.eval ⟨some r,.call { callee:= .builtin .append,args:= #[.tmp s,.tmp z],argTypes:= #[t,t] },y0,p0,f0,none⟩).run P w= .ok (.value vS) w1:=by simp [execOp,resolve,invoke,builtin,e0]
 have E1:∀w',(execOp a1.eval ⟨some p,.indexAddr t (.tmp r) (.tmp q),y1,p1,f1,none⟩).run P w'= .ok (.value (.pointer (some ⟨g,xs.length*P.cellsOf e,none⟩))) w':=fun w'=>zF rfl hu (v1r.trans hvS.symm) (v1q.trans (hr.sB hq)) (by omega) hpos
 have E2:∀w':World,w'.heap[g]? =some (.cells cur1 e (0,0))→(execOp a2.eval ⟨none,.store e (.tmp p) (.tmp x),y2,p2,f2,none⟩).run P w'= .ok .skip (w'.setRow g cur2):=fun w' hw'=>by have:=qJ (P:=P) (a:=a2) (w:=w') (o:=⟨none,.store e (.tmp p) (.tmp x),y2,p2,f2,none⟩) rfl v2p hw' (by rw [v2x];show pc.size=_;rw [hpc1,hc]) (by omega) (by rw [v2x];exact hone) (by rw [v2x];show _+pc.size≤_;rw [hpc1,hc];exact hfit);rw [v2x] at this;have hcl:(Value.agg pc).cells=pc:=rfl;rw [hcl,hcur2] at this;exact this
 have E3:∀(ax:Act) (w':World),ax.eval (.tmp b)= .pointer (some ⟨μ kb,off,none⟩)→ax.eval (.tmp r)=vS→w'.heap[μ kb]? =some (.cells vs0 T0 (0,0))→(execOp ax.eval ⟨none,.store t (.tmp b) (.tmp r),y3,p3,f3,none⟩).run P w'= .ok .skip (w'.setRow (μ kb) X):=fun ax w' hb1 hr1 hw'=>by have:=qJ (P:=P) (a:=ax) (w:=w') (o:=⟨none,.store t (.tmp b) (.tmp r),y3,p3,f3,none⟩) rfl hb1 hw' (by rw [hr1,hvc, ← hcd.1,hys1];rfl) (by omega) (by rw [hr1,hvc];simpa using hvo) (by rw [hr1,hvc];show off+1≤_;rw [hsz0];omega);rw [hr1,hvc] at this;have:(execOp ax.eval ⟨none,.store t (.tmp b) (.tmp r),y3,p3,f3,none⟩).run P w'= .ok .skip (w'.setRow (μ kb) (spl vs0 off [vS])):=this;rw [hX] at this;exact this
 have hb1:a1.eval (.tmp b)= .pointer (some ⟨μ kb,off,none⟩):=by rw [v1b, ← v2b];exact hb'
 have hgX:(w1.setRow (μ kb) X).heap[g]? =some (.cells cur1 e (0,0)):=(setRow_other w1 (μ kb) g _ (Ne.symm hbg)).trans hg
 have hbX:(w1.setRow g cur2).heap[μ kb]? =some (.cells vs0 T0 (0,0)):=(setRow_other w1 g (μ kb) _ hbg).trans hob
 have hcomm:(w1.setRow (μ kb) X).setRow g cur2=(w1.setRow g cur2).setRow (μ kb) X:=a6R w1 hbg X cur2;have hfin:QQ .normal a2 ((w1.setRow g cur2).setRow (μ kb) X):=by
  obtain ⟨v,w',R',μ',hrun,hr3,_,_,hs3⟩:=a2h (o:=⟨none,.store t (.tmp b) (.tmp r),y3,p3,f3,none⟩) rfl hst base R1 μ a2 _ hr2;rw [E3 a2 _ hb' v2r hbX] at hrun;rcases hrun with hrun|⟨hrun,_⟩
  ·cases hrun
  ·cases hrun;exact hk out.st a2 _ R' μ' hQ hr3 (hs1.trans hs3)
 refine wpAny_all r0 (by simp) fun i hi=>?_
 simp only [d7d] at hi;subst hi;refine dE h0 rfl (.inl E0) ha1 ?_
 refine wpAny_all r1 (by simp) fun j hj=>?_
 simp only [List.mem_cons,List.not_mem_nil,or_false] at hj;rcases hj with rfl|rfl
 ·refine dE h1 rfl (.inl (E1 w1)) ha2 ?_
  refine wpAny_all r2 (by simp) fun j hj=>?_
  simp only [List.mem_cons,List.not_mem_nil,or_false] at hj;rcases hj with rfl|rfl
  ·refine dE h2 rfl (.inr ⟨E2 w1 hg,rfl⟩) rfl ?_
   refine wpAny_all r4 (by simp) fun j hj=>?_
   simp only [d7d] at hj;subst hj;exact dE h3 rfl (.inr ⟨E3 a2 _ hb' v2r hbX,rfl⟩) rfl (wpAny_done r7 hfin _)
  ·refine dE h3 rfl (.inr ⟨E3 a2 _ hb' v2r hob,rfl⟩) rfl ?_
   refine wpAny_all r5 (by simp) fun j hj=>?_
   simp only [d7d] at hj;subst hj;exact dE h2 rfl (.inr ⟨E2 _ hgX,rfl⟩) rfl (wpAny_done r8 (by rw [hcomm];exact hfin) _)
 ·refine dE h3 rfl (.inr ⟨E3 a1 _ hb1 v1r hob,rfl⟩) rfl ?_
  refine wpAny_all r3 (by simp) fun j hj=>?_
  simp only [d7d] at hj;subst hj;refine dE h1 rfl (.inl (E1 _)) ha2 ?_
  refine wpAny_all r6 (by simp) fun j hj=>?_
  simp only [d7d] at hj;subst hj;exact dE h2 rfl (.inr ⟨E2 _ hgX,rfl⟩) rfl (wpAny_done r9 (by rw [hcomm];exact hfin) _)
end
end Go.VM
end
section
namespace Go.VM
open Go Go.RowKit
section
variable {P:Program} {G:GT} {st:St} {Q:Exit→St→Prop}
theorem SW.d2U {id:Nat}{c:Code}(h:SW P G c st fun e s=>match e with
  | .exit id'=>if id'=id then Q .normal s else Q (.exit id') s
  |e=>Q e s):SW P G (.block id c) st Q:=fun base R μ a w hr=>wp_block (wp_mono (h base R μ a w hr) fun e a1 w1 ⟨s,R1,μ1,q1,q2,q3⟩=>by
   cases e with
   |exit id'=>
    simp only [Exit.inBlock];simp only at q1;by_cases hid:id'=id
    ·rw [if_pos hid] at q1 ⊢;exact ⟨s,R1,μ1,q1,q2,q3⟩
    ·rw [if_neg hid] at q1 ⊢;exact ⟨s,R1,μ1,q1,q2,q3⟩
   |_=>exact ⟨s,R1,μ1,q1,q2,q3⟩)
theorem SW.d6s {c:Code}{ι:Type}(ws:ι→List (Nat×DV))(H:ι→List (Nat×aY))(own:ι→List (TypeId×List Loc))(m:ι→Nat)(x0:ι)(h0:vM st (mE c st (ws x0) (H x0) (own x0)))(round:∀x,SW P G c (mE c st (ws x) (H x) (own x)) fun e s=>match e with
   | .normal=>bQ (fun y=>mE c st (ws y) (H y) (own y)) m x s
   |e=>Q e s):SW P G (.loop c) st Q:=by
 intro base R μ a w hr;refine wp_loop_ghost (fun n a1 w1=>∃x R1 μ1,m x=n∧Rel P G base R1 μ1 (mE c st (ws x) (H x) (own x)) a1 w1∧Step base R w R1 w1) (m x0) ⟨x0,R,μ,rfl,hr.yK h0,.refl _ _ _⟩ ?_
 rintro n a1 w1 ⟨x,R1,μ1,rfl,hr1,hs1⟩;refine wp_mono (round x base R1 μ1 a1 w1 hr1) fun e a2 w2 ⟨s,R2,μ2,q,hr2,hs2⟩=>?_
 cases e with
 |normal=>simp only at q;unfold bQ at q;obtain ⟨y,hy,hlt⟩:=q;exact ⟨m y,hlt,y,R2,μ2,rfl,hr2.yK hy,hs1.trans hs2⟩
 |_=>exact ⟨s,R2,μ2,q,hr2,hs1.trans hs2⟩
theorem b8c {all:Array Oper}{rest:List Oper}{T:St→Prop}(h:VK P G [.ops true all rest] .normal st fun _ s=>T s):qQ P G true all rest st T:=by simp only [VK] at h;exact h
def d2V (P:Program)(G:GT)(t e:TypeId)(s z r p q x b:Tmp)(Q:St→Prop)(st:St):Prop:=
 ∃(xs:List (List D)) (z0 c:List D) (dZ:List (TypeId×List Loc)) (out:Out),(r<st.tmps.length∧p<st.tmps.length)∧st.eval G (.tmp s)= .d (.sl xs)∧eZ (.t s) st.own=some (e,dZ)∧(∀c∈xs,c.length=P.cellsOf e)∧st.eval G (.tmp z)= .d (.sl [z0])∧z0.length=P.cellsOf e∧
  (xs.length+1)*(P.bytesOf e+1)≤140737488355328∧st.eval G (.tmp q)= .d (.int .i64 (xs.length:Int))∧st.eval G (.tmp x)= .d (.agg c)∧c.length=P.cellsOf e∧oR P G t (.tmp b) (.tmp r) (tl2 st dZ e r p xs c)=some out∧Q out.st
def b1O (ops:Array Oper)(m:Nat):Bool:=
 let L:=mM m ops.size
 decide (ops.size=m+4)&&(Region.ready .any ops L==[m])&&(Region.ready .any ops (L.setIfInBounds m true)==[m+1,m+3])&&(Region.ready .any ops ((L.setIfInBounds m true).setIfInBounds (m+1) true)==[m+2,m+3])&&(Region.ready .any ops ((L.setIfInBounds m true).setIfInBounds (m+3) true)==[m+1])&&
 (Region.ready .any ops (((L.setIfInBounds m true).setIfInBounds (m+1) true).setIfInBounds (m+2) true)==[m+3])&&(Region.ready .any ops (((L.setIfInBounds m true).setIfInBounds (m+1) true).setIfInBounds (m+3) true)==[m+2])&&(Region.ready .any ops (((L.setIfInBounds m true).setIfInBounds (m+3) true).setIfInBounds (m+1) true)==[m+2])&&
 (Region.ready .any ops ((((L.setIfInBounds m true).setIfInBounds (m+1) true).setIfInBounds (m+2) true).setIfInBounds (m+3) true)==[])&&(Region.ready .any ops ((((L.setIfInBounds m true).setIfInBounds (m+1) true).setIfInBounds (m+3) true).setIfInBounds (m+2) true)==[])&&(Region.ready .any ops ((((L.setIfInBounds m true).setIfInBounds (m+3) true).setIfInBounds (m+1) true).setIfInBounds (m+2) true)==[])
end
end Go.VM
end
section
namespace Go.VM
open Go Go.RowKit
section
variable {P:Program} {G:GT} {st:St}
theorem Rel.alias {base:cS}{R:Nat→Nat→Prop}{μ:Nat→Nat}{a:Act}{w:World}(hr:Rel P G base R μ st a w){t:Tmp}{k off:Nat}(hk:∃o,getKey k st.H=some o)(ht:t<a.tmps.size)(h:∀u,w.cell? ⟨μ k,off,none⟩=some u→u=a.eval (.tmp t)):
  Rel P G base R μ { st with own:=addAlias (.t t) (.c k off) st.own } a w:=by
 obtain ⟨vs,hvs⟩:=hr.own;refine ⟨hr.defers,hr.size,hr.tmps,hr.gL,hr.inj,fun c hc k' off' hl=>?_,⟨vs,by simpa [addAlias] using hvs.len,fun i c v hc hv=>?_,hvs.apart⟩,hr.rX,hr.mY,hr.base,hr.pass⟩
 ·obtain ⟨i,hi⟩:=d7n hc;obtain ⟨c',hc',_,hm⟩:=rZ hi;rcases hm _ hl with hx|⟨hx,_⟩
  ·exact hr.dR c' (d7b hc') k' off' hx
  ·cases hx;exact hk
 ·obtain ⟨c',hc',he,hm⟩:=rZ hc;have ho:=hvs.one i c' v hc' hv;refine ⟨fun l hl u hu=>?_,by rw [he];exact ho.own,ho.keys⟩;rcases hm l hl with hx|⟨rfl,hx⟩
  ·exact ho.dR l hx u hu
  ·have h1:=h u hu;have h2:cB a w μ (.t t)=some (a.eval (.tmp t)):=by simp [cB,Act.eval,ht]
   rw [h1];exact ho.dR _ hx _ h2
end
end Go.VM
end
section
namespace Go.VM
open Go Go.RowKit
section
variable {P:Program} {G:GT} {base:cS} {R:Nat→Nat→Prop} {μ:Nat→Nat} {st:St} {a:Act} {w:World}
theorem b3j {o:Oper}{e:TypeId}(ho:o.op= .alloc e){z:Value}(hz:(P.info? e).bind (·.zero)=some z):(execOp a.eval o).run P w= .ok (.value (.pointer (some ⟨w.heap.size,0,none⟩))) (w.alloc (.cells z.cells e)):=by obtain ⟨i,hi,hz⟩:=d7k.1 hz;simp [execOp,ho,Instr.alloc,zeroValue,typeInfo,hi,hz,newVar,newRow]
theorem tG {o:Oper}{t u:TypeId}{x:Operand}{i fo:Nat}(ho:o.op= .fieldAddr t x i)(hf:aK P t i=some (fo,u))(hne:P.cellsOf u≠0){b off:Nat}(hx:a.eval x= .pointer (some ⟨b,off,none⟩)):
  (execOp a.eval o).run P w= .ok (.value (.pointer (some ⟨b,off+fo,none⟩))) w:=by
 obtain ⟨fs,f,h1,h2,rfl,rfl⟩:=sC hf;obtain ⟨ti,hti⟩:∃i,P.info? f.type=some i:=by
  cases hi:P.info? f.type with
  |none=>simp [Program.cellsOf,hi] at hne
  |some i=>exact ⟨i,rfl⟩
 simp [execOp,ho,hx,Instr.fieldAt,run_underlying h1,h2,Instr.sureAddr,wJ (w:=w) b off f hti hne]
end
end Go.VM
end
section
namespace Go.VM
open Go
section
variable {G:GT}
theorem b9F {P:Program}{id:Nat}{ops:Array Oper}{st:St}{Q:Exit→St→Prop}(hm:P.follows .mixedOrders=true)(h:a8g P G ops (fun s=>Q .normal s) ops.size (Array.replicate ops.size false) st):SW P G (.region id ops true) st Q:=by intro base R μ a w hr;obtain ⟨hr',hs'⟩:=hr.drew;exact wp_region_any hm (a7J ops.size _ st h base R μ a w.drew hr' fun s a' w' R' μ' q1 q2 q3=>⟨s,R',μ',q1,q2,hs'.trans q3⟩)
abbrev lst (l:List Nat):Array Bool:=l.foldl (fun a i=>a.setIfInBounds i true) (Array.replicate 4 false)
def four (ops:Array Oper):Bool:=decide (ops.size=4)&&(Region.ready .any ops (lst [])==[0,1])&&(Region.ready .any ops (lst [0])==[1,2])&&(Region.ready .any ops (lst [1])==[0,3])&&(Region.ready .any ops (lst [0,1])==[2,3])&&(Region.ready .any ops (lst [1,0])==[2,3])
 &&(Region.ready .any ops (lst [0,2])==[1])&&(Region.ready .any ops (lst [1,3])==[0])&&(Region.ready .any ops (lst [0,1,2])==[3])&&(Region.ready .any ops (lst [0,1,3])==[2])&&(Region.ready .any ops (lst [1,0,2])==[3])&&(Region.ready .any ops (lst [1,0,3])==[2])&&(Region.ready .any ops (lst [0,2,1])==[3])&&(Region.ready .any ops (lst [1,3,0])==[2])
 &&(Region.ready .any ops (lst [0,1,2,3])==[])&&(Region.ready .any ops (lst [0,1,3,2])==[])&&(Region.ready .any ops (lst [1,0,2,3])==[])&&(Region.ready .any ops (lst [1,0,3,2])==[])&&(Region.ready .any ops (lst [0,2,1,3])==[])&&(Region.ready .any ops (lst [1,3,0,2])==[])
theorem d5N {P:Program}{id:Nat}{ops:Array Oper}{st:St}{Q:Exit→St→Prop}{o0 o1 o2 o3:Oper}(hm:P.follows .mixedOrders=true)(hB:four ops=true)(h0:ops[0]? =some o0)(h1:ops[1]? =some o1)(h2:ops[2]? =some o2)(h3:ops[3]? =some o3)(h:let V:=kH P G true ops
   let F:=fun s=>Q .normal s
   V o0 (fun s=>V o1 (fun s=>V o2 (V o3 F) s∧V o3 (V o2 F) s) s∧V o2 (V o1 (V o3 F)) s) st∧V o1 (fun s=>V o0 (fun s=>V o2 (V o3 F) s∧V o3 (V o2 F) s) s∧V o3 (V o0 (V o2 F)) s) st):SW P G (.region id ops true) st Q:=by
 simp only [four,d6W,decide_eq_true_eq,beq_iff_eq,List.foldl_cons,List.foldl_nil] at hB;obtain ⟨⟨⟨⟨⟨⟨⟨⟨⟨⟨⟨⟨⟨⟨⟨⟨⟨⟨⟨hsz,r⟩,r0⟩,r1⟩,r01⟩,r10⟩,r02⟩,r13⟩,r012⟩,r013⟩,r102⟩,r103⟩,r021⟩,r130⟩,r0123⟩,r0132⟩,r1023⟩,r1032⟩,r0213⟩,r1302⟩:=hB;refine b9F hm ?_
 rw [hsz];simp only [a8g,r,r0,r1,r01,r10,r02,r13,r012,r013,r102,r103,r021,r130,r0123,r0132,r1023,r1032,r0213,r1302,h0,h1,h2,h3,List.forall_mem_cons,List.not_mem_nil,false_imp_iff,implies_true,and_true,true_and,reduceCtorEq];exact h
def three (ops:Array Oper):Bool:=decide (ops.size=4)&&(Region.ready .any ops (lst [])==[0,1])&&(Region.ready .any ops (lst [0])==[1,2])&&(Region.ready .any ops (lst [1])==[0])&&(Region.ready .any ops (lst [0,1])==[2])&&(Region.ready .any ops (lst [1,0])==[2])
 &&(Region.ready .any ops (lst [0,2])==[1])&&(Region.ready .any ops (lst [0,1,2])==[3])&&(Region.ready .any ops (lst [1,0,2])==[3])&&(Region.ready .any ops (lst [0,2,1])==[3])
 &&(Region.ready .any ops (lst [0,1,2,3])==[])&&(Region.ready .any ops (lst [1,0,2,3])==[])&&(Region.ready .any ops (lst [0,2,1,3])==[])
theorem b5N {P:Program}{id:Nat}{ops:Array Oper}{st:St}{Q:Exit→St→Prop}{o0 o1 o2 o3:Oper}(hm:P.follows .mixedOrders=true)(hB:three ops=true)(h0:ops[0]? =some o0)(h1:ops[1]? =some o1)(h2:ops[2]? =some o2)(h3:ops[3]? =some o3)(h:VK P G [.ops true ops [o0]] .normal st (fun _ s=>VK P G [.ops true ops [o1,o2,o3]] .normal s (fun _ s=>Q .normal s)∧VK P G [.ops true ops [o2,o1,o3]] .normal s (fun _ s=>Q .normal s))∧VK P G [.ops true ops [o1,o0,o2,o3]] .normal st (fun _ s=>Q .normal s)):SW P G (.region id ops true) st Q:=by
 simp only [VK] at h;simp only [three,d6W,decide_eq_true_eq,beq_iff_eq,List.foldl_cons,List.foldl_nil] at hB;obtain ⟨⟨⟨⟨⟨⟨⟨⟨⟨⟨⟨⟨hsz,r⟩,r0⟩,r1⟩,r01⟩,r10⟩,r02⟩,r012⟩,r102⟩,r021⟩,r0123⟩,r1023⟩,r0213⟩:=hB;refine b9F hm ?_
 rw [hsz];simp only [a8g,r,r0,r1,r01,r10,r02,r012,r102,r021,r0123,r1023,r0213,h0,h1,h2,h3,List.forall_mem_cons,List.not_mem_nil,false_imp_iff,implies_true,and_true,true_and,reduceCtorEq];exact h
end
end Go.VM
end
section
namespace Go.VM
open Go
section
variable {P:Program} {G:GT} {base:cS} {R:Nat→Nat→Prop} {μ:Nat→Nat} {st:St} {a:Act} {w:World}
def zG (P:Program)(G:GT)(ops:Array Oper)(c:Nat)(Q:St→Prop):Nat→Array Bool→St→Prop
 |0,listed,st=>Region.ready .any ops listed=[]∧Q st
 |fuel+1,listed,st=>(Region.ready .any ops listed=[]→Q st)∧∀i∈Region.ready .any ops listed,match ops[i]? with
  |none=>zG P G ops c Q fuel (listed.setIfInBounds i true) st
  |some o=>kH P G (i !=c) ops o (zG P G ops c Q fuel (listed.setIfInBounds i true)) st
theorem a4I {ops:Array Oper}{c:Nat}{Q:St→Prop}{QQ:Exit→Act→World→Prop}:∀(fuel:Nat) (listed:Array Bool) (st:St),zG P G ops c Q fuel listed st→∀(base:cS) (R:Nat→Nat→Prop) (μ:Nat→Nat) (a:Act) (w:World),Rel P G base R μ st a w→
  (∀s a' w' R' μ',Q s→Rel P G base R' μ' s a' w'→Step base R w R' w'→QQ .normal a' w')→wpAny P .any ops QQ fuel listed a w
 |0,_,st,h,base,R,μ,a,w,hr,hk=>⟨h.1,hk st a w R μ h.2 hr (.refl _ _ _)⟩
 |fuel+1,listed,st,h,base,R,μ,a,w,hr,hk=>by
  refine ⟨fun h0=>hk st a w R μ (h.1 h0) hr (.refl _ _ _),fun i hi=>?_⟩;have h1:=h.2 i hi;unfold wpOp;split
  ·rename_i ho;rw [ho] at h1;exact a4I fuel _ st h1 base R μ a w hr hk
  ·rename_i o ho;rw [ho] at h1;exact pC h1 hr fun s v w' R' μ' h' hr' hs'=>a4I fuel _ s h' base R' μ' _ w' hr' fun s a' w2 R2 μ2 q1 q2 q3=>hk s a' w2 R2 μ2 q1 q2 (hs'.trans q3)
theorem c3M {id:Nat}{ops:Array Oper}{c:Nat}{Q:Exit→St→Prop}(hm:P.follows .mixedOrders=true)(h:zG P G ops c (fun s=>Q .normal s) ops.size (Array.replicate ops.size false) st):SW P G (.region id ops true) st Q:=by intro base R μ a w hr;obtain ⟨hr',hs'⟩:=hr.drew;exact wp_region_any hm (a4I ops.size _ st h base R μ a w.drew hr' fun s a' w' R' μ' q1 q2 q3=>⟨s,R',μ',q1,q2,hs'.trans q3⟩)
theorem b5O {ops:Array Oper}{c:Nat}{Q:St→Prop}{i:Nat}{oi:Oper}(hA:mI ops)(hi:ops[i]? =some oi)(hic:i≠c)(hsi:(cT oi.op=true∧jU ops oi=false)∨mC oi=true):
  ∀(fuel:Nat) (listed:Array Bool) (st s:St),eI ops listed→
   (∀j oj,ops[j]? =some oj→j≠i→listed.getD j true=false→gD ops ops.size j i=false→j≠c∧oi.apart ops oj=true∧oB ops oi oj=true)→
   i∈Region.ready .any ops listed→oD ops listed st→Eff P G ops oi st s→
   zG P G ops c Q fuel (listed.setIfInBounds i true) s→zG P G ops c Q (fuel+1) listed st:=by
 have qi:(i !=c)=true:=by simpa using hic
 intro fuel
 induction fuel with
 |zero=>
  intro listed st s _ _ hr _ hy H;refine ⟨fun h=>(by rw [h] at hr;cases hr),fun j hj=>?_⟩;by_cases hji:j=i
  ·subst hji;rw [hi,qi];exact (dP hsi).2 ⟨s,hy,H⟩
  ·have:=ready_mono hj hji;rw [H.1] at this;cases this
 |succ fuel ih=>
  intro listed st s hcl hfree hr hI hy H;refine ⟨fun h=>(by rw [h] at hr;cases hr),fun j hj=>?_⟩;by_cases hji:j=i
  ·subst hji;rw [hi,qi];exact (dP hsi).2 ⟨s,hy,H⟩
  ·have h1:=H.2 j (ready_mono hj hji);obtain ⟨hjun,oj,hoj,hall⟩:=mem_ready.1 hj;rw [hoj] at h1 ⊢;simp only at h1 ⊢;obtain ⟨hiun,oi',hoi',halli⟩:=mem_ready.1 hr;have hnot:gD ops ops.size j i=false:=cY hcl hiun _ _ fun o ho=>by rw [hoj] at ho;cases ho;exact hall
   obtain ⟨hjc,hap,hpo⟩:=hfree j oj hoj hji hjun hnot;have qj:(j !=c)=true:=by simpa using hjc
   rw [qj] at h1 ⊢;have hsj:(cT oj.op=true∧jU ops oj=false)∨mC oj=true:=by
    by_cases hs:mC oj=true
    ·exact .inr hs
    ·refine .inl ⟨?_,?_⟩
     ·unfold oB at hpo;simp only [mC,d7i,d6W,Bool.not_eq_true'] at hpo hs;rcases hpo with ((((((h|h)|h)|h)|h)|h)|h)|h
      ·exact h.1.2
      ·exact absurd (.inl (.inl h.1.2)) hs
      ·exact h.1.1.2
      ·exact absurd (.inl (.inr h.2)) hs
      ·exact h.1.2
      ·exact absurd (.inl h.1.2) hs
      ·exact absurd (.inr h.2) hs
      ·exact (kI (G:=G) (st:=st) h.1.2).1
     ·cases hx:jU ops oj with
      |false=>rfl
      |true=>
       have hlt:i<ops.size:=(d7f.1 hi).1;rcases rI hx hoj hlt (fun e=>hji e.symm) with h'|h'
       ·have:=cY hcl hjun ops.size i fun o ho=>by rw [hoi'] at ho;cases ho;exact halli
        rw [h'] at this;cases this
       ·rw [hnot] at h';cases h'
   obtain ⟨s12,hu,hk⟩:=(dP hsj).1 h1;obtain ⟨s2,e1,e2⟩:=a4p hap hpo (fun hn d hd=>hI i oi d hi hn hiun hd) (fun hn d hd=>hI j oj d hoj hn hjun hd) hy hu;refine (dP hsj).2 ⟨s2,e1,?_⟩;refine ih (listed.setIfInBounds j true) s2 s12 (hcl.set hj) (fun k ok hk' hki hun hno=>?_) (ready_mono hr (Ne.symm hji)) (hI.step hA hoj fun k hf hn=>qV e1 hf hn) e2 ?_
   ·exact hfree k ok hk' hki (qD hun).2 hno
   ·rw [Array.setIfInBounds_comm _ _ hji];exact hk
def a0S (P:Program)(G:GT)(ops:Array Oper)(c:Nat):List Nat→St→(St→Prop)→Prop
 |[],st,K=>K st
 |i::r,st,K=>match ops[i]? with
  |some o=>kH P G (i !=c) ops o (fun s=>a0S P G ops c r s K) st
  |none=>False
def a8T (ops:Array Oper)(c:Nat)(listed:Array Bool)(i:Nat):Bool:=(Region.ready .any ops listed==[i])||((Region.ready .any ops listed).contains i&&(i !=c)&&(match ops[i]? with
 |none=>false
 |some oi=>((cT oi.op&& !jU ops oi)||mC oi)&&(List.range ops.size).all fun j=>j==i||listed.getD j true||gD ops ops.size j i||(j !=c&&(match ops[j]? with
  |some oj=>oi.apart ops oj&&oB ops oi oj
  |none=>true))))
def cA (l:List Nat)(x:Array Bool):Array Bool:=l.foldl (fun x i=>x.setIfInBounds i true) x
def a4J (ops:Array Oper)(c:Nat):List Nat→Array Bool→Bool
 |[],_=>true
 |i::r,listed=>a8T ops c listed i&&a4J ops c r (listed.setIfInBounds i true)
theorem b1P {ops:Array Oper}(h:eH ops=[]){i:Nat}{o:Oper}{d:Tmp}(hi:ops[i]? =some o)(hn:eD o=true)(hd:o.dst=some d):False:=by have:d∈eH ops:=List.mem_filterMap.2 ⟨o,by rw [Array.mem_toList_iff];exact Array.mem_of_getElem? hi,by rw [if_pos hn];exact hd⟩;rw [h] at this;cases this
theorem a2o {ops:Array Oper}{c:Nat}{Q:St→Prop}(hN:eH ops=[]):∀(l:List Nat) (listed:Array Bool) (st:St) (fuel:Nat),eI ops listed→a4J ops c l listed=true→
  a0S P G ops c l st (zG P G ops c Q fuel (cA l listed))→(eI ops (cA l listed)→True)→zG P G ops c Q (l.length+fuel) listed st
 |[],listed,st,fuel,_,_,h,_=>by simpa [cA,a0S] using h
 |i::l,listed,st,fuel,hcl,hB,h,_=>by
  have hA:mI ops:=fun i j oi oj d hi _ hni _ hdi _=>(b1P hN hi hni hdi).elim
  have hI:∀listed st,oD ops listed st:=fun _ _ j oj d hj hn _ hd=>(b1P hN hj hn hd).elim
  simp only [a4J,d6W] at hB;obtain ⟨hf,hB'⟩:=hB;simp only [a0S] at h;split at h;rotate_left
  ·cases h
  rename_i o ho;have he:(i::l).length+fuel=l.length+fuel+1:=by simp only [List.length_cons];omega
  rw [he];unfold a8T at hf;rw [d7i,beq_iff_eq] at hf;have hri:i∈Region.ready .any ops listed:=by
   rcases hf with hf|hf
   ·rw [hf];exact d7d.2 rfl
   ·simp only [d6W] at hf;simpa using hf.1.1
  have hnext:∀s,a0S P G ops c l s (zG P G ops c Q fuel (cA (i::l) listed))→zG P G ops c Q (l.length+fuel) (listed.setIfInBounds i true) s:=fun s hs=>a2o hN l _ s fuel (hcl.set hri) hB' hs fun _=>trivial
  rcases hf with hf|hf
  ·refine ⟨fun h'=>(by rw [h'] at hf;cases hf),fun j hj=>?_⟩;rw [hf,d7d] at hj;subst hj;rw [ho];exact eS hnext h
  ·rw [ho] at hf;simp only [d6W,d7i,Bool.not_eq_true',bne_iff_ne,ne_eq] at hf;obtain ⟨⟨_,hic⟩,hsi,hall⟩:=hf;have qi:(i !=c)=true:=by simpa using hic
   rw [qi] at h;obtain ⟨s,hd,hk⟩:=(dP hsi).1 h;refine b5O hA ho hic hsi _ listed st s hcl (fun j oj hj hne hun hno=>?_) hri (hI _ _) hd (hnext s hk);rw [d6Z] at hall;have h1:=hall j (List.mem_range.2 (d7f.1 hj).1);simp only [hj,d7i,beq_iff_eq,hne,false_or,hun,Bool.false_eq_true,hno,d6W,bne_iff_ne,ne_eq] at h1;exact h1
theorem b8d {ops:Array Oper}{c:Nat}{Q:St→Prop}{fuel:Nat}{listed:Array Bool}(h:Region.ready .any ops listed=[])(hq:Q st):zG P G ops c Q fuel listed st:=by
 cases fuel with
 |zero=>exact ⟨h,hq⟩
 |succ n=>exact ⟨fun _=>hq,fun i hi=>by rw [h] at hi;cases hi⟩
theorem qK {ops:Array Oper}{c:Nat}{K K':St→Prop}(hk:∀s,K s→K' s):∀(l:List Nat) (st:St),a0S P G ops c l st K→a0S P G ops c l st K'
 |[],st,h=>hk st h
 |i::r,st,h=>by
  simp only [a0S] at h ⊢;split at h
  ·exact eS (fun s hs=>qK hk r s hs) h
  ·cases h
theorem eI.cA {ops:Array Oper}{c:Nat}:∀(l:List Nat) (listed:Array Bool),eI ops listed→a4J ops c l listed=true→eI ops (VM.cA l listed)
 |[],_,hc,_=>hc
 |i::r,listed,hc,hB=>by
  simp only [a4J,d6W] at hB;have hri:i∈Region.ready .any ops listed:=by
   have hf:=hB.1;unfold a8T at hf;rw [d7i,beq_iff_eq] at hf;rcases hf with hf|hf
   ·rw [hf];exact d7d.2 rfl
   ·simp only [d6W] at hf;simpa using hf.1.1
  exact eI.cA r _ (hc.set hri) hB.2
inductive Ord where
 |none
 |call (rest:List Nat) (more:Ord)
 |op (i:Nat) (next more:Ord)
def zO (ops:Array Oper):List Nat→List Oper
 |[]=>[]
 |i::r=>match ops[i]? with
  |some o=>o::zO ops r
  |none=>zO ops r
def a7m (P:Program)(G:GT)(ops:Array Oper)(c:Nat)(K:St→Prop):Ord→St→Prop
 | .none,_=>True
 | .call rest more,st=>VK P G [.ops false ops (zO ops [c]),.ops true ops (zO ops rest)] .normal st (fun _ s=>K s)∧a7m P G ops c K more st
 | .op i next more,st=>VK P G [.ops true ops (zO ops [i])] .normal st (fun _ s=>a7m P G ops c K next s)∧a7m P G ops c K more st
def a0j (c:Nat):Ord→Nat→Bool
 | .none,_=>false
 | .call _ more,j=>decide (j=c)||a0j c more j
 | .op i _ more,j=>decide (j=i)||a0j c more j
def inB (ops:Array Oper)(c:Nat)(l:List Nat):Bool:=l.all fun i=>decide (i<ops.size)&&decide (i≠c)
def a8U (ops:Array Oper)(c:Nat):Ord→Nat→Array Bool→Bool
 | .none,_,_=>true
 | .call rest more,n,listed=>decide (c<ops.size)&&inB ops c rest&&a4J ops c rest (listed.setIfInBounds c true)&&(Region.ready .any ops (cA rest (listed.setIfInBounds c true))).isEmpty&&decide (rest.length+1≤n)&&a8U ops c more n listed
 | .op i next more,n,listed=>inB ops c [i]&&decide (2≤n)&& !(Region.ready .any ops (listed.setIfInBounds i true)).isEmpty&&((Region.ready .any ops (listed.setIfInBounds i true)).all fun j=>a0j c next j)&&a8U ops c next (n-1) (listed.setIfInBounds i true)&&a8U ops c more n listed
theorem sH {ops:Array Oper}{c:Nat}{K:St→Prop}:∀(l:List Nat) (st:St),inB ops c l=true→qQ P G true ops (zO ops l) st K→a0S P G ops c l st K
 |[],st,_,h=>h
 |i::r,st,hB,h=>by
  simp only [inB,List.all_cons,d6W,decide_eq_true_eq] at hB;obtain ⟨⟨hi,hic⟩,hr⟩:=hB;have qi:(i !=c)=true:=by simpa using hic
  simp only [zO,d7o hi,qQ] at h;simp only [a0S,d7o hi,qi];exact eS (fun s hs=>sH r s hr hs) h
theorem a4K {ops:Array Oper}{c:Nat}{Q:St→Prop}(hN:eH ops=[]):∀(T:Ord) (n:Nat) (listed:Array Bool) (st:St),eI ops listed→a8U ops c T (n+1) listed=true→a7m P G ops c Q T st→∀i∈Region.ready .any ops listed,a0j c T i=true→
  match ops[i]? with
  |none=>zG P G ops c Q n (listed.setIfInBounds i true) st
  |some o=>kH P G (i !=c) ops o (zG P G ops c Q n (listed.setIfInBounds i true)) st
 | .none,_,_,_,_,_,_,_,_,ha=>by cases ha
 | .call rest more,n,listed,st,hcl,hB,h,i,hi,ha=>by
  simp only [a8U,d6W,decide_eq_true_eq,List.isEmpty_iff] at hB;obtain ⟨⟨⟨⟨⟨hc,hin⟩,hs⟩,he⟩,hlen⟩,hmore⟩:=hB;simp only [a7m] at h;simp only [a0j,d7i,decide_eq_true_eq] at ha;by_cases hic:i=c
  ·subst hic;have h1:=h.1;simp only [VK,zO,d7o hc,qQ] at h1;simp only [d7o hc,bne_self_eq_false];refine eS (fun s hs'=>?_) h1;obtain ⟨k,hk⟩:=Nat.exists_eq_add_of_le (Nat.le_of_succ_le_succ hlen);rw [hk];exact a2o hN rest _ s k (hcl.set hi) hs (qK (fun s hs=>b8d he hs) _ _ (sH rest s hin hs')) fun _=>trivial
  ·exact a4K hN more n listed st hcl hmore h.2 i hi (ha.resolve_left hic)
 | .op x next more,n,listed,st,hcl,hB,h,i,hi,ha=>by
  simp only [a8U,d6W,decide_eq_true_eq,Bool.not_eq_true',List.isEmpty_eq_false_iff,d6Z] at hB;obtain ⟨⟨⟨⟨⟨hin,hn⟩,hne⟩,hall⟩,hnext⟩,hmore⟩:=hB;simp only [a7m] at h;simp only [a0j,d7i,decide_eq_true_eq] at ha;by_cases hix:i=x
  ·subst hix;have h1:=h.1;simp only [inB,List.all_cons,List.all_nil,Bool.and_true,d6W,decide_eq_true_eq] at hin;have qi:(i !=c)=true:=by simpa using hin.2
   simp only [VK,zO,d7o hin.1,qQ] at h1;simp only [d7o hin.1,qi];refine eS (fun s hs'=>?_) h1;obtain ⟨m,rfl⟩:∃m,n=m+1:=⟨n-1,by omega⟩;exact ⟨fun h'=>(hne h').elim,fun j hj=>a4K hN next m _ s (hcl.set hi) hnext hs' j hj (hall j hj)⟩
  ·exact a4K hN more n listed st hcl hmore h.2 i hi (ha.resolve_left hix)
def c3N (ops:Array Oper)(c:Nat)(anc:List Nat)(T:Ord):Bool:=(eH ops).isEmpty&&decide (anc.length+1≤ops.size)&&inB ops c anc&&a4J ops c anc (Array.replicate ops.size false)&& !(Region.ready .any ops (cA anc (Array.replicate ops.size false))).isEmpty&&((Region.ready .any ops (cA anc (Array.replicate ops.size false))).all fun j=>a0j c T j)&&a8U ops c T (ops.size-anc.length) (cA anc (Array.replicate ops.size false))
theorem d2W {id:Nat}{ops:Array Oper}{Q:Exit→St→Prop}(c:Nat)(anc:List Nat)(T:Ord)(hm:P.follows .mixedOrders=true)(hB:c3N ops c anc T=true)(h:VK P G [.ops true ops (zO ops anc)] .normal st fun _ s=>a7m P G ops c (fun s=>Q .normal s) T s):SW P G (.region id ops true) st Q:=by
 simp only [c3N,d6W,List.isEmpty_iff,decide_eq_true_eq,Bool.not_eq_true',List.isEmpty_eq_false_iff,d6Z] at hB;obtain ⟨⟨⟨⟨⟨⟨hN,hlen⟩,hin⟩,hs⟩,hne⟩,hall⟩,ht⟩:=hB;refine c3M (c:=c) hm ?_
 obtain ⟨k,hk⟩:=Nat.exists_eq_add_of_le hlen;have hcl:eI ops (Array.replicate ops.size false):=fun k hk=>by
  rcases Nat.lt_or_ge k ops.size with h'|h'
  ·simp [h'] at hk
  ·simp [Nat.not_lt.2 h'] at hk
 have e:ops.size-anc.length=k+1:=by omega
 rw [e] at ht;simp only [VK] at h;have:=a2o (P:=P) (G:=G) (c:=c) (Q:=fun s=>Q .normal s) hN anc (Array.replicate ops.size false) st (k+1) hcl hs (qK (fun s hs'=>⟨fun h'=>(hne h').elim,fun j hj=>a4K hN T k _ s (eI.cA anc _ hcl hs) ht hs' j hj (hall j hj)⟩) _ _ (sH anc st hin h)) fun _=>trivial
 rw [show anc.length+(k+1)=ops.size by omega] at this;exact this
attribute [simp] zO a7m
theorem SW.d4M {st:St}{Q:Exit→St→Prop}{c:Code}{ι:Type}(ws:ι→List (Nat×DV))(H:ι→List (Nat×aY))(own:ι→List (TypeId×List Loc))(m:ι→Nat)(x0:ι)(h0:vM st (mE c st (ws x0) (H x0) (own x0)))(round:∀x,SW P G c (mE c st (ws x) (H x) (own x)) fun e s=>match e with
   | .normal=>bQ (fun y=>mE c st (ws y) (H y) (own y)) m x s
   |e=>Q e s):SW P G (.loop c) st Q:=by
 intro base R μ a w hr;refine wp_loop_ghost (fun n a1 w1=>∃x R1 μ1,m x=n∧Rel P G base R1 μ1 (mE c st (ws x) (H x) (own x)) a1 w1∧Step base R w R1 w1) (m x0) ⟨x0,R,μ,rfl,hr.yK h0,.refl _ _ _⟩ ?_
 rintro n a1 w1 ⟨x,R1,μ1,rfl,hr1,hs1⟩;refine wp_mono (round x base R1 μ1 a1 w1 hr1) fun e a2 w2 ⟨s,R2,μ2,q,hr2,hs2⟩=>?_
 cases e with
 |normal=>simp only at q;unfold bQ at q;obtain ⟨y,hy,hlt⟩:=q;exact ⟨m y,hlt,y,R2,μ2,rfl,hr2.yK hy,hs1.trans hs2⟩
 |_=>exact ⟨s,R2,μ2,q,hr2,hs1.trans hs2⟩
theorem SW.a3c {c:Operand}{x y:Code}{st:St}{Q:Exit→St→Prop}(hc:st.eval G c= .d (.bool true))(h:SW P G x st Q):SW P G (.cond c x y) st Q:=fun base R μ a w hr=>wp_cond (hr.yZ hc) (h base R μ a w hr)
theorem SW.a6T {c:Operand}{x y:Code}{st:St}{Q:Exit→St→Prop}(hc:st.eval G c= .d (.bool false))(h:SW P G y st Q):SW P G (.cond c x y) st Q:=fun base R μ a w hr=>wp_cond (hr.yZ hc) (h base R μ a w hr)
end
end Go.VM
end
section
namespace Go.VM
open Go Go.RowKit
section
variable {P:Program} {G:GT} {st:St} {base:cS} {R:Nat→Nat→Prop} {μ:Nat→Nat} {a:Act} {w:World}
abbrev vQ (v:Value):List PanicEntry:=[{ v:=v,recovered:=false }]
def d4N (base:cS)(R:Nat→Nat→Prop)(w:World)(v:Value)(e:Ending)(w':World):Prop:=∃R',e= .panicked (vQ v)∧Step base R w R' w'∧∀b o,R' b o→b<w'.heap.size
def CPn (P:Program)(G:GT)(f:FuncId)(s0:St)(v:Value):Prop:=
 ∀(base:cS) (R:Nat→Nat→Prop) (μ:Nat→Nat) (args:Array Value) (w:World),Rel P G base R μ s0 { tmps:=args,defers:=[] } w→Calls P f args w (d4N base R w v)
def a4L (P:Program)(G:GT)(f:FuncId)(d6U:List DV)(ls:List (Option Loc))(st:St)(v:Value):Prop:=
 ∀(base:cS) (R:Nat→Nat→Prop) (μ:Nat→Nat) (a:Act) (w:World) (args:Array Value),Rel P G base R μ st a w→args.size=d6U.length→(∀(i:Nat) (d:DV),d6U[i]? =some d→TV R μ w (args.getD i undef) d)→
  (∀(i:Nat) (l:Loc),ls[i]? =some (some l)→∀u,cB a w μ l=some u→u=args.getD i undef)→Calls P f args w (d4N base R w v)
theorem a4L.d2X {f:FuncId}{s0:St}{v:Value}(hch:CPn P G f s0 v)(K:List (Nat×Nat)){d6U:List DV}{ls:List (Option Loc)}{rest:List (TypeId×List Loc)}(hfit:aN K s0 .undef s0.H=true)(hargs:WkT d6U (aT K s0.tmps))(hH:WkH st.H (cL K s0.H))(jR:rQ st st.own (s0.own.map (mJ K ls))=some rest)(kn:uU st.tmps.length ls s0.own=true):
  a4L P G f d6U ls st v:=by
 simp only [aN,d6W,decide_eq_true_eq,d6Z] at hfit;obtain ⟨⟨⟨⟨⟨⟨⟨⟨kf,ks⟩,kp⟩,kt⟩,kh⟩,kl⟩,kr⟩,kd⟩,k1⟩:=hfit;intro base R μ a w args hr hl hv hloc;obtain ⟨vs,hvs⟩:=hr.own;obtain ⟨vsT,vsR,t1,t2,t3,t4,t5,t6,t7⟩:=a1t hr _ _ _ vs ⟨hvs.len,hvs.one,hvs.apart⟩ jR;have inK:∀k o,getKey k s0.H=some o→(K.any fun p=>p.1==k)=true∧aR K o=true∧(getKey k s0.H).isSome=true:=fun k o hk=>by
  have:=kh _ (gN hk)
  try simp only [d6W] at this
  exact ⟨this.1.1,this.1.2,this.2⟩
 have inst:∀k o,getKey k s0.H=some o→∃o',getKey (rk K k) st.H=some o'∧WkO o' (cW K o):=fun k o hk=>by
  have hm:=gN hk;have:∀ {l:List (Nat×aY)},WkH st.H (cL K l)→(k,o)∈l→∃o',getKey (rk K k) st.H=some o'∧WkO o' (cW K o):=by
   intro l
   induction l with
   |nil=>intro _ h;cases h
   |cons p l ih=>
    intro hw hp;obtain ⟨h1,h2⟩:=hw;rcases List.mem_cons.1 hp with rfl|hp
    ·exact h1
    ·exact ih h2 hp
  exact this hH hm
 have big:∀k,(K.any fun p=>p.1==k)=true→100000≤k:=fun k hk=>by obtain ⟨p,h1,h2,_⟩:=wL hk;rw [← h2];exact kp p h1
 have rinj:∀k k',(K.any fun p=>p.1==k)=true→(K.any fun p=>p.1==k')=true→rk K k=rk K k'→k=k':=fun k k' h h' he=>by
  obtain ⟨p,p1,p2,p3⟩:=wL h;obtain ⟨q,q1,q2,q3⟩:=wL h';have hpq:p.2=q.2:=by rw [← p3, ← q3,he]
  have:p=q:=kR.a6I.a2k ks p1 q1 hpq;rw [← p2, ← q2,this]
 have one:∀k,(getKey k s0.H).isSome=true→∃o,getKey k s0.H=some o:=fun k hk=>by
  obtain ⟨o,ho⟩:=Option.isSome_iff_exists.1 hk;have:=k1 _ (gN ho)
  try simp only [d6W] at this
  exact Option.isSome_iff_exists.1 this.2
 let base':cS:=⟨fun b=>w.heap.size≤b∨(∃k o,getKey k s0.H=some o∧b=μ (rk K k))∨(∃v∈vsT,bD v=some b),fun k=>μ (rk K k)⟩
 have sub:∀b,base' b→base b:=fun b hb=>by
  rcases hb with hb|⟨k,o,hk,rfl⟩|⟨v,hv,hs⟩
  ·exact hr.base b hb
  ·obtain ⟨o',ho',_⟩:=inst k o hk;exact (hr.gL _ o' ho').1
  ·obtain ⟨i,hi⟩:=d7n hv;have hil:i<(s0.own.map (mJ K ls)).length:=by rw [← t1];exact (d6X.1 hi).1
   exact (t2 i _ v (d7a hil) hi).own.xJ hs
 have hrel0:Rel P G base' R (fun k=>μ (rk K k)) s0 { tmps:=args,defers:=[] } w:=by
  obtain ⟨g1,g2⟩:=wN hargs;rw [oJ] at g1 g2;refine ⟨rfl,by show args.size=s0.tmps.length;rw [List.length_map] at g1;omega,fun i v d hiv hid=>?_,fun k o hk=>?_,fun k k' o o' hk hk' he=>?_,fun c hc k off hl'=>?_,⟨vsT,by simpa using t1,fun i c v hc hv'=>?_,t3⟩,hr.rX.up sub,hr.mY,fun b hb=> .inl hb,fun k hk=>rfl⟩
  ·obtain ⟨d0,hd0,hcase⟩:=g2 i (bC K d) (by rw [d7g,hid];rfl);have hva:=hv i d0 hd0;have hav:args.getD i undef=v:=by simp only at hiv;simp [d6Y,hiv]
   rw [hav] at hva;have hren:TV R μ w v (bC K d):=by
    rcases hcase with hc|hc|⟨hc1,hc2⟩
    ·rw [hc];exact .undef _
    ·rw [hc];exact hva
    ·rw [hc2];rw [hc1] at hva;obtain ⟨ao,rfl⟩:=hva.a4f.jE;exact .d _ _ (.emp _ _)
   exact hren.ren (μ:=μ) (fun _ _=>rfl) (kt d (d7b hid))
  ·obtain ⟨q1,q2,_⟩:=inK k o hk;obtain ⟨o',ho',hw⟩:=inst k o hk;obtain ⟨p1,p2,p3⟩:=hr.gL _ o' ho';exact ⟨.inr (.inl ⟨k,o,hk,rfl⟩),p2,(a7K hw p3).ren (fun _ _=>rfl) q2⟩
  ·obtain ⟨o1,h1,_⟩:=inst k o hk;obtain ⟨o2,h2,_⟩:=inst k' o' hk';exact rinj k k' (inK k o hk).1 (inK k' o' hk').1 (hr.inj _ _ o1 o2 h1 h2 he)
  ·have:=d6Z.1 (d6Z.1 kl c hc) _ hl';exact Option.isSome_iff_exists.1 this
  ·have ho:=t2 i (mJ K ls c) v (by rw [d7g,hc];rfl) hv';refine ⟨fun l hl' u hu=>?_,?_,fun k o hk=>?_⟩
   ·have hn:=d6Z.1 (d6Z.1 kn c (d7b hc)) l hl';cases l with
    |t j=>
     simp only at hn;split at hn
     ·rename_i t hj;simp only [decide_eq_true_eq] at hn;have ht:t<a.tmps.size:=by rw [hr.size];exact hn
      have hlv:cB a w μ (.t t)=some a.tmps[t]:=by simp [cB,ht]
      have h1:=hloc j _ hj _ hlv;have h2:=ho.dR (.t t) (List.mem_filterMap.2 ⟨.t j,hl',by simp [a8y,hj]⟩) _ hlv;simp only [cB] at hu;have h3:args.getD j undef=u:=by simp [d6Y,hu]
      rw [← h3, ← h1,h2]
     ·cases hn
    |c k off=>exact ho.dR (.c (rk K k) off) (List.mem_filterMap.2 ⟨.c k off,hl',rfl⟩) u hu
   ·rcases ho.own with h|⟨g,n,cap,cur,h0,h1,h2,h3,h4⟩
    ·exact .inl h
    ·by_cases hc0:cap=0
     ·subst hc0;have:n=0:=by omega
      subst this;exact .inl ⟨_,h0⟩
     ·exact .inr ⟨g,n,cap,cur,h0,.inr (.inr ⟨v,d7b hv',by rw [h0];simp [bD,hc0]⟩),h2,h3,h4⟩
   ·obtain ⟨o',ho',_⟩:=inst k o hk;exact ho.keys _ o' ho'
 exact (hch base' R (fun k=>μ (rk K k)) args w hrel0).mono fun e w' ⟨R',he,hs,hb⟩=>⟨R',he,⟨hs.below.mono sub,hs.mono,fun b o h1 h2=>sub b (hs.new b o h1 h2),hs.cells⟩,hb⟩
theorem a3I {o:Oper}{f:FuncId}{d6U:List DV}{v:Value}(hc:cX G o st=some (f,d6U))(hcs:Enters P f∧a4L P G f d6U (jD o) st v)(hr:Rel P G base R μ st a w){K:Act→World→Prop}{Q:Exit→Act→World→Prop}(h:∀R' w',Step base R w R' w'→(∀b o,R' b o→b<w'.heap.size)→Q (.panic (vQ v)) a w'):o.wp P a w K Q:=by
 obtain ⟨⟨fn,hf1,hf2,hf3⟩,hcs⟩:=hcs;have hf2': ¬fn.body=none:=fun he=>by simp [he] at hf2
 have hf3': ¬fn.name= "runtime.NumGoroutine" :=by simpa using hf3
 have main:∀args:Array Value,(execOp a.eval o).run P w= .ok (.enter f args) w→args.size=d6U.length→(∀(i:Nat) (d:DV),d6U[i]? =some d→TV R μ w (args.getD i undef) d)→
   (∀(i:Nat) (l:Loc),(jD o)[i]? =some (some l)→∀u,cB a w μ l=some u→u=args.getD i undef)→o.wp P a w K Q:=fun args hexec hl hv hloc=>by
  unfold Oper.wp;rw [hexec]
  show Calls P f args w _
  refine (hcs base R μ a w args hr hl hv hloc).mono fun e w' ⟨R',he,hs,hb⟩=>?_
  subst he;exact h R' w' hs hb
 have each:∀(l:List Operand) (i:Nat) (d:DV),(l.map (st.eval G))[i]? =some d→TV R μ w ((l.map a.eval).getD i undef) d:=fun l i d hi=>by
  rw [d7g] at hi;obtain ⟨x,hx,rfl⟩:=d6V.1 hi;have:(l.map a.eval).getD i undef=a.eval x:=by simp [List.getD,hx]
  rw [this];exact hr.eval x
 have dR:∀(args:Array Operand) (vs:Array Value),jD o=args.toList.map a0Y→∀(i:Nat) (l:Loc),(jD o)[i]? =some (some l)→∀u,cB a w μ l=some u→u=(args.map a.eval++vs).getD i undef:=fun args vs rY i l hi u hu=>by
  rw [rY,d7g] at hi;obtain ⟨x,hx,hxl⟩:=d6V.1 hi;cases x with
  |tmp t=>
   simp only [a0Y,d7c] at hxl;subst hxl;simp only [cB] at hu;have hlt:i<args.size:=by have:=(d6X.1 hx).1;simpa using this
   have he:args[i]? =some (.tmp t):=by simpa using hx
   rw [d6Y,Array.getElem?_append_left (by simpa using hlt),Array.getElem?_map,he];simp [Act.eval,hu]
  |_=>cases hxl
 unfold cX at hc;split at hc
 ·rename_i x args ts hop;have rY:jD o=args.toList.map a0Y:=by simp [jD,hop]
  split at hc
  ·rename_i f' hx;simp at hc;obtain ⟨rfl,rfl⟩:=hc;refine main (args.map a.eval) ?_ (by simp) (fun i d hi=>?_) (by simpa using dR args #[] rY)
   ·simp [execOp,hop,resolve,hr.a7W hx,Deferred.ofValue,invoke,callFunc,hf1,hf2',hf3']
   ·have:=each args.toList i d hi;simpa [d6Y,List.getD] using this
  ·rename_i f' cs hx;simp at hc;obtain ⟨rfl,rfl⟩:=hc;obtain ⟨vs,he,hvs,hvc⟩:=(hr.kG hx).a4h;refine main (args.map a.eval++vs) ?_ (by simp [hvs]) (fun i d hi=>?_) (dR args vs rY)
   ·simp [execOp,hop,resolve,he,Deferred.ofValue,invoke,callFunc,hf1,hf2',hf3']
   ·by_cases hlt:i<args.size
    ·rw [d7h (by simpa using hlt)] at hi;have:=each args.toList i d hi;rw [d6Y,Array.getElem?_append_left (by simpa using hlt)];simpa [d6Y,List.getD] using this
    ·rw [d7e (by simp;omega)] at hi;simp only [List.length_map,Array.length_toList] at hi;have:=hvc _ d hi;rw [d6Y,Array.getElem?_append_right (by simp;omega)];simpa [d6Y] using this
  ·cases hc
 ·cases hc
abbrev xV (st:St):St:=⟨List.replicate st.tmps.length .undef,[],[]⟩
theorem Rel.a4M (hr:Rel P G base R μ st a w){R':Nat→Nat→Prop}{w':World}(hs:Step base R w R' w')(hb:∀b o,R' b o→b<w'.heap.size):Rel P G base R' μ (xV st) a w' where
 defers:=hr.defers
 size:=by simpa using hr.size
 tmps:=fun i v d _ hd=>by
  rw [List.getElem?_replicate] at hd;split at hd
  ·simp at hd;subst hd;exact .undef _
  ·cases hd
 gL:=fun k o h=>by cases h
 inj:=fun k k' o o' h=>by cases h
 dR:=fun c hc=>by cases hc
 own:=⟨[],rfl,fun i c v h _=>by simp at h,.nil⟩
 rX:=a2F.bJ hs hr.rX
 mY:=hb
 base:=fun b h=>hr.base b (Nat.le_trans hs.below.size h)
 pass:=hr.pass
def xW (P:Program)(G:GT)(ops:Array Oper)(c:Nat)(Q:Exit→St→Prop)(st:St):Prop:=match ops[c]? with
 |some o=>dU o ops st.tmps=some true∧∃f d6U v,cX G o st=some (f,d6U)∧(Enters P f∧a4L P G f d6U (jD o) st v)∧Q (.panic (vQ v)) (xV st)
 |none=>False
theorem xW.ok {ops:Array Oper}{c:Nat}{Q:Exit→St→Prop}{o:Oper}(ho:ops[c]? =some o)(h:xW P G ops c Q st)(hr:Rel P G base R μ st a w){QQ:Exit→Act→World→Prop}{KK:Act→World→Prop}{KE:Prop}(hk:∀v s w' R',Q (.panic (vQ v)) s→Rel P G base R' μ s a w'→Step base R w R' w'→QQ (.panic (vQ v)) a w'):
  if Region.wanted o (yielded ops a.tmps) then o.wp P a w KK QQ∨(o.asks P a w∧LetsOut QQ) else KE:=by
 unfold xW at h;rw [ho] at h;obtain ⟨hw,f,d6U,v,h1,h2,h3⟩:=h;rw [zA hr hw,if_pos rfl];exact .inl (a3I h1 h2 hr fun R' w' hs hb=>hk v _ w' R' h3 (hr.a4M hs hb) hs)
def a3d (P:Program)(G:GT)(ops:Array Oper)(c:Nat)(Z:St→Prop):Nat→Array Bool→St→Prop
 |0,_,_=>False
 |fuel+1,listed,st=>Region.ready .any ops listed≠[]∧∀i∈Region.ready .any ops listed,if i=c then Z st else match ops[i]? with
  |none=>False
  |some o=>kH P G true ops o (a3d P G ops c Z fuel (listed.setIfInBounds i true)) st
theorem a4N {ops:Array Oper}{c:Nat}{Q:Exit→St→Prop}{QQ:Exit→Act→World→Prop}:∀(fuel:Nat) (listed:Array Bool) (st:St),a3d P G ops c (xW P G ops c Q) fuel listed st→∀(base:cS) (R:Nat→Nat→Prop) (μ:Nat→Nat) (a:Act) (w:World),Rel P G base R μ st a w→
  (∀v s a' w' R' μ',Q (.panic (vQ v)) s→Rel P G base R' μ' s a' w'→Step base R w R' w'→QQ (.panic (vQ v)) a' w')→wpAny P .any ops QQ fuel listed a w
 |0,_,st,h,base,R,μ,a,w,hr,hk=>h.elim
 |fuel+1,listed,st,h,base,R,μ,a,w,hr,hk=>by
  refine ⟨fun h0=>(h.1 h0).elim,fun i hi=>?_⟩;have h1:=h.2 i hi;unfold wpOp;split
  ·rename_i ho;rw [ho] at h1;split at h1
   ·rename_i hic;subst hic;unfold xW at h1;rw [ho] at h1;exact h1.elim
   ·exact h1.elim
  ·rename_i o ho;rw [ho] at h1;split at h1
   ·rename_i hic;subst hic;exact xW.ok ho h1 hr fun v s w' R' q1 q2 q3=>hk v s a w' R' μ q1 q2 q3
   ·exact pC h1 hr fun s v w' R' μ' h' hr' hs'=>a4N fuel _ s h' base R' μ' _ w' hr' fun v s a' w2 R2 μ2 q1 q2 q3=>hk v s a' w2 R2 μ2 q1 q2 (hs'.trans q3)
theorem b5P {ops:Array Oper}{c:Nat}{Z:St→Prop}{i:Nat}{oi:Oper}(hA:mI ops)(hi:ops[i]? =some oi)(hic:i≠c)(hsi:(cT oi.op=true∧jU ops oi=false)∨mC oi=true):
  ∀(fuel:Nat) (listed:Array Bool) (st s:St),eI ops listed→
   (∀j oj,ops[j]? =some oj→j≠i→listed.getD j true=false→gD ops ops.size j i=false→j≠c∧oi.apart ops oj=true∧oB ops oi oj=true)→
   i∈Region.ready .any ops listed→oD ops listed st→Eff P G ops oi st s→
   a3d P G ops c Z fuel (listed.setIfInBounds i true) s→a3d P G ops c Z (fuel+1) listed st:=by
 intro fuel
 induction fuel with
 |zero=>intro listed st s _ _ hr _ hy H;exact H.elim
 |succ fuel ih=>
  intro listed st s hcl hfree hr hI hy H;refine ⟨fun h=>(by rw [h] at hr;cases hr),fun j hj=>?_⟩;by_cases hji:j=i
  ·subst hji;rw [if_neg hic,hi];exact (dP hsi).2 ⟨s,hy,H⟩
  ·have h1:=H.2 j (ready_mono hj hji);obtain ⟨hjun,oj,hoj,hall⟩:=mem_ready.1 hj;rw [hoj] at h1 ⊢;simp only at h1 ⊢;obtain ⟨hiun,oi',hoi',halli⟩:=mem_ready.1 hr;have hnot:gD ops ops.size j i=false:=cY hcl hiun _ _ fun o ho=>by rw [hoj] at ho;cases ho;exact hall
   obtain ⟨hjc,hap,hpo⟩:=hfree j oj hoj hji hjun hnot;rw [if_neg hjc] at h1 ⊢;have hsj:(cT oj.op=true∧jU ops oj=false)∨mC oj=true:=by
    by_cases hs:mC oj=true
    ·exact .inr hs
    ·refine .inl ⟨?_,?_⟩
     ·unfold oB at hpo;simp only [mC,d7i,d6W,Bool.not_eq_true'] at hpo hs;rcases hpo with ((((((h|h)|h)|h)|h)|h)|h)|h
      ·exact h.1.2
      ·exact absurd (.inl (.inl h.1.2)) hs
      ·exact h.1.1.2
      ·exact absurd (.inl (.inr h.2)) hs
      ·exact h.1.2
      ·exact absurd (.inl h.1.2) hs
      ·exact absurd (.inr h.2) hs
      ·exact (kI (G:=G) (st:=st) h.1.2).1
     ·cases hx:jU ops oj with
      |false=>rfl
      |true=>
       have hlt:i<ops.size:=(d7f.1 hi).1;rcases rI hx hoj hlt (fun e=>hji e.symm) with h'|h'
       ·have:=cY hcl hjun ops.size i fun o ho=>by rw [hoi'] at ho;cases ho;exact halli
        rw [h'] at this;cases this
       ·rw [hnot] at h';cases h'
   obtain ⟨s12,hu,hk⟩:=(dP hsj).1 h1;obtain ⟨s2,e1,e2⟩:=a4p hap hpo (fun hn d hd=>hI i oi d hi hn hiun hd) (fun hn d hd=>hI j oj d hoj hn hjun hd) hy hu;refine (dP hsj).2 ⟨s2,e1,?_⟩;refine ih (listed.setIfInBounds j true) s2 s12 (hcl.set hj) (fun k ok hk' hki hun hno=>?_) (ready_mono hr (Ne.symm hji)) (hI.step hA hoj fun k hf hn=>qV e1 hf hn) e2 ?_
   ·exact hfree k ok hk' hki (qD hun).2 hno
   ·rw [Array.setIfInBounds_comm _ _ hji];exact hk
theorem a2p {ops:Array Oper}{c:Nat}{Z:St→Prop}(hN:eH ops=[]):∀(l:List Nat) (listed:Array Bool) (st:St) (fuel:Nat),eI ops listed→inB ops c l=true→a4J ops c l listed=true→
  a0S P G ops c l st (a3d P G ops c Z fuel (cA l listed))→a3d P G ops c Z (l.length+fuel) listed st
 |[],listed,st,fuel,_,_,_,h=>by simpa [cA,a0S] using h
 |i::l,listed,st,fuel,hcl,hin,hB,h=>by
  have hA:mI ops:=fun i j oi oj d hi _ hni _ hdi _=>(b1P hN hi hni hdi).elim
  have hI:∀listed st,oD ops listed st:=fun _ _ j oj d hj hn _ hd=>(b1P hN hj hn hd).elim
  simp only [a4J,d6W] at hB;obtain ⟨hf,hB'⟩:=hB;simp only [inB,List.all_cons,d6W,decide_eq_true_eq] at hin;obtain ⟨⟨_,hic⟩,hin'⟩:=hin;have qi:(i !=c)=true:=by simpa using hic
  simp only [a0S] at h;split at h;rotate_left
  ·cases h
  rename_i o ho;rw [qi] at h;have he:(i::l).length+fuel=l.length+fuel+1:=by simp only [List.length_cons];omega
  rw [he];unfold a8T at hf;rw [d7i,beq_iff_eq] at hf;have hri:i∈Region.ready .any ops listed:=by
   rcases hf with hf|hf
   ·rw [hf];exact d7d.2 rfl
   ·simp only [d6W] at hf;simpa using hf.1.1
  have hnext:∀s,a0S P G ops c l s (a3d P G ops c Z fuel (cA (i::l) listed))→a3d P G ops c Z (l.length+fuel) (listed.setIfInBounds i true) s:=fun s hs=>a2p hN l _ s fuel (hcl.set hri) hin' hB' hs
  rcases hf with hf|hf
  ·refine ⟨fun h'=>(by rw [h'] at hf;cases hf),fun j hj=>?_⟩;rw [hf,d7d] at hj;subst hj;rw [if_neg hic,ho];exact eS hnext h
  ·rw [ho] at hf;simp only [d6W,d7i,Bool.not_eq_true',bne_iff_ne,ne_eq] at hf;obtain ⟨⟨_,hic⟩,hsi,hall⟩:=hf;obtain ⟨s,hd,hk⟩:=(dP hsi).1 h;refine b5P hA ho hic hsi _ listed st s hcl (fun j oj hj hne hun hno=>?_) hri (hI _ _) hd (hnext s hk);rw [d6Z] at hall;have h1:=hall j (List.mem_range.2 (d7f.1 hj).1);simp only [hj,d7i,beq_iff_eq,hne,false_or,hun,Bool.false_eq_true,hno,d6W,bne_iff_ne,ne_eq] at h1;exact h1
def a0L (P:Program)(G:GT)(ops:Array Oper)(Z:St→Prop):Ord→St→Prop
 | .none,_=>True
 | .call _ more,st=>Z st∧a0L P G ops Z more st
 | .op i next more,st=>VK P G [.ops true ops (zO ops [i])] .normal st (fun _ s=>a0L P G ops Z next s)∧a0L P G ops Z more st
theorem a1B {ops:Array Oper}{c:Nat}{Z:St→Prop}:∀(T:Ord) (n:Nat) (listed:Array Bool) (st:St),a8U ops c T (n+1) listed=true→a0L P G ops Z T st→∀i∈Region.ready .any ops listed,a0j c T i=true→
  if i=c then Z st else match ops[i]? with
  |none=>False
  |some o=>kH P G true ops o (a3d P G ops c Z n (listed.setIfInBounds i true)) st
 | .none,_,_,_,_,_,_,_,ha=>by cases ha
 | .call rest more,n,listed,st,hB,h,i,hi,ha=>by
  simp only [a8U,d6W] at hB;simp only [a0L] at h;simp only [a0j,d7i,decide_eq_true_eq] at ha;by_cases hic:i=c
  ·rw [if_pos hic];exact h.1
  ·exact a1B more n listed st hB.2 h.2 i hi (ha.resolve_left hic)
 | .op x next more,n,listed,st,hB,h,i,hi,ha=>by
  simp only [a8U,d6W,decide_eq_true_eq,Bool.not_eq_true',List.isEmpty_eq_false_iff,d6Z] at hB;obtain ⟨⟨⟨⟨⟨hin,hn⟩,hne⟩,hall⟩,hnext⟩,hmore⟩:=hB;simp only [a0L] at h;simp only [a0j,d7i,decide_eq_true_eq] at ha;by_cases hix:i=x
  ·subst hix;have h1:=h.1;simp only [inB,List.all_cons,List.all_nil,Bool.and_true,d6W,decide_eq_true_eq] at hin;simp only [VK,zO,d7o hin.1,qQ] at h1;rw [if_neg hin.2];simp only [d7o hin.1];refine eS (fun s hs'=>?_) h1;obtain ⟨m,rfl⟩:∃m,n=m+1:=⟨n-1,by omega⟩;exact ⟨hne,fun j hj=>a1B next m _ s hnext hs' j hj (hall j hj)⟩
  ·exact a1B more n listed st hmore h.2 i hi (ha.resolve_left hix)
theorem c8K {id:Nat}{ops:Array Oper}{Q:Exit→St→Prop}(c:Nat)(anc:List Nat)(T:Ord)(hm:P.follows .mixedOrders=true)(hB:c3N ops c anc T=true)(h:VK P G [.ops true ops (zO ops anc)] .normal st fun _ s=>a0L P G ops (xW P G ops c Q) T s):SW P G (.region id ops true) st Q:=by
 simp only [c3N,d6W,List.isEmpty_iff,decide_eq_true_eq,Bool.not_eq_true',List.isEmpty_eq_false_iff,d6Z] at hB;obtain ⟨⟨⟨⟨⟨⟨hN,hlen⟩,hin⟩,hs⟩,hne⟩,hall⟩,ht⟩:=hB;obtain ⟨k,hk⟩:=Nat.exists_eq_add_of_le hlen;have hcl:eI ops (Array.replicate ops.size false):=fun k hk=>by
  rcases Nat.lt_or_ge k ops.size with h'|h'
  ·simp [h'] at hk
  ·simp [Nat.not_lt.2 h'] at hk
 have e:ops.size-anc.length=k+1:=by omega
 rw [e] at ht;simp only [VK] at h;have:=a2p (P:=P) (G:=G) (c:=c) (Z:=xW P G ops c Q) hN anc (Array.replicate ops.size false) st (k+1) hcl hin hs (qK (fun s hs'=>⟨hne,fun j hj=>a1B T k _ s ht hs' j hj (hall j hj)⟩) _ _ (sH anc st hin h));rw [show anc.length+(k+1)=ops.size by omega] at this;intro base R μ a w hr;obtain ⟨hr',hs'⟩:=hr.drew;exact wp_region_any hm (a4N ops.size _ st this base R μ a w.drew hr' fun v s a' w' R' μ' q1 q2 q3=>⟨s,R',μ',q1,q2,hs'.trans q3⟩)
theorem CPn.a2W {f:FuncId}{fn:Func}{c:Code}{n:Nat}{s0:St}{v:Value}(hf:P.funcs[f]? =some fn)(hb:fn.body=some c)(hn:fn.ntmps=n)(hT:(s0.own.all fun c=>c.2.all fun l=>match l with| .t i=>decide (i<s0.tmps.length)|_=>true)=true)(h:SW P G c ⟨s0.tmps++List.replicate (n-s0.tmps.length) (.cM []),s0.H,s0.own⟩ fun e _=>e= .panic (vQ v)):CPn P G f s0 v:=by
 intro base R μ args w hr;refine calls_of_wp hf hb ?_
 have hsz:args.size=s0.tmps.length:=hr.size;have hrel:Rel P G base R μ ⟨s0.tmps++List.replicate (n-s0.tmps.length) (.cM []),s0.H,s0.own⟩ { tmps:=args++Array.replicate (fn.ntmps-args.size) undef,defers:=[] } w:=by
  refine ⟨rfl,by simp [hsz,hn],fun i v d hiv hid=>?_,hr.gL,hr.inj,hr.dR,?_,hr.rX,hr.mY,hr.base,hr.pass⟩
  ·simp only at hid;by_cases hi:i<s0.tmps.length
   ·rw [d7h hi] at hid;rw [Array.getElem?_append_left (by omega)] at hiv;exact hr.tmps i v d hiv hid
   ·rw [d7e (by omega),List.getElem?_replicate] at hid;split at hid<;>simp at hid;subst hid;rw [Array.getElem?_append_right (by omega),Array.getElem?_replicate] at hiv;split at hiv<;>simp at hiv;subst hiv;exact .cM #[] [] rfl (by simp)
  ·obtain ⟨vs,hl,h1,hap⟩:=hr.own;refine ⟨vs,hl,fun i c v hc hv=>?_,hap⟩;have ho:=h1 i c v hc hv;refine ⟨fun l hl u hu=>?_,ho.own,ho.keys⟩;cases l with
   |t j=>have hj:=d6Z.1 (d6Z.1 hT c (d7b hc)) _ hl;simp only [decide_eq_true_eq] at hj;simp only [cB] at hu;rw [Array.getElem?_append_left (by omega)] at hu;exact ho.dR _ hl u hu
   |c k off=>exact ho.dR _ hl u hu
 refine wp_mono (h base R μ _ w hrel) fun e a' w' ⟨s,R',μ',he,hr',hs⟩=>?_
 subst he;exact ⟨hr'.defers,R',rfl,hs,hr'.mY⟩
attribute [simp] a0L
end
end Go.VM
end
end
section
namespace Go.VM
open Go Go.RowKit
section
variable {P:Program} {G:GT} {st:St} {base:cS} {R:Nat→Nat→Prop} {μ:Nat→Nat} {a:Act} {w:World}
abbrev Ends:=Sum (DV×List (Nat×aY)×List (TypeId×List Loc)) Value
def CX (P:Program)(G:GT)(f:FuncId)(s0:St):Ends→Prop
 | .inl s1=>CH P G f s0 ⟨[s1.1],s1.2.1,s1.2.2⟩
 | .inr v=>CPn P G f s0 v
def sR (P:Program)(G:GT)(f:FuncId)(d6U:List DV)(ls:List (Option Loc))(dst:Option Tmp)(st:St)(K:St→Prop)(Q:Exit→St→Prop)(x0:Bool):Prop:=
 Enters P f∧(x0=true→∃s',kR P G f d6U ls st dst s'∧K s')∧(x0=false→∃v,a4L P G f d6U ls st v∧Q (.panic (vQ v)) (xV st))
def wX (P:Program)(G:GT)(all:Array Oper)(l:List Oper)(K:List Oper→St→Prop)(Q:Exit→St→Prop)(x0:Bool)(st:St):Prop:=match l with
 |[]=>False
 |o::rest=>match dU o all st.tmps,gG G o st,cX G o st with
  |some true,none,some (f,d6U)=>sR P G f d6U (jD o) o.dst st (K rest) Q x0
  |_,_,_=>False
theorem a6U {all:Array Oper}{o:Oper}{rest:List Oper}{K:List Oper→St→Prop}{Q:Exit→St→Prop}{x0:Bool}(h:wX P G all (o::rest) K Q x0 st):
  ∃f d6U,dU o all st.tmps=some true∧gG G o st=none∧cX G o st=some (f,d6U)∧sR P G f d6U (jD o) o.dst st (K rest) Q x0:=by
 unfold wX at h;simp only at h;split at h
 ·rename_i f d6U h1 h2 h3;exact ⟨f,d6U,h1,h2,h3,h⟩
 ·exact h.elim
theorem wX.pan {ops:Array Oper}{c:Nat}{o:Oper}{rest:List Oper}{K:List Oper→St→Prop}{Q:Exit→St→Prop}(ho:ops[c]? =some o)(h:wX P G ops (o::rest) K Q false st):xW P G ops c Q st:=by obtain ⟨f,d6U,h2,_,h4,he,_,h5⟩:=a6U h;obtain ⟨v,h6,h7⟩:=h5 rfl;unfold xW;rw [ho];exact ⟨h2,f,d6U,v,h4,⟨he,h6⟩,h7⟩
theorem wX.ret {all:Array Oper}{o:Oper}{rest:List Oper}{K:List Oper→St→Prop}{Q:Exit→St→Prop}(h:wX P G all (o::rest) K Q true st):kH P G false all o (K rest) st:=by obtain ⟨f,d6U,h2,h3,h4,he,h5,_⟩:=a6U h;obtain ⟨s',h6,h7⟩:=h5 rfl;unfold kH;rw [h2,h3,h4];simp only [pB,Bool.false_and,xL,Bool.false_eq_true,if_false];exact ⟨s',⟨he,h6⟩,h7⟩
def LW (P:Program)(G:GT)(all:Array Oper)(l:List Oper)(st:St)(Q:Exit→St→Prop):Prop:=
 ∀(base:cS) (R:Nat→Nat→Prop) (μ:Nat→Nat) (a:Act) (w:World),Rel P G base R μ st a w→∀QQ:Exit→Act→World→Prop,(∀e s a' w' R' μ',Q e s→Rel P G base R' μ' s a' w'→Step base R w R' w'→QQ e a' w')→wpList P all QQ l a w
theorem LW.vk {all:Array Oper}{l:List Oper}{Q:Exit→St→Prop}(h:VK P G [.ops false all l] .normal st Q):LW P G all l st Q:=by intro base R μ a w hr QQ hk;simp only [VK] at h;exact b2P all _ l st (fun s=>Q .normal s) h base R μ a w hr fun s a' w' R' μ' q1 q2 q3=>hk _ s a' w' R' μ' q1 q2 q3
theorem d4O {x0:Bool}(all:Array Oper)(Q:Exit→St→Prop)(l2:List Oper)(hl:x0=false→∃(c:Nat) (o:Oper) (rest:List Oper),l2=o::rest∧all[c]? =some o):∀(l:List Oper) (st:St),qQ P G false all l st (fun s=>wX P G all l2 (fun r s=>LW P G all r s Q) Q x0 s)→∀(base:cS) (R:Nat→Nat→Prop) (μ:Nat→Nat) (a:Act) (w:World),Rel P G base R μ st a w→
  ∀QQ:Exit→Act→World→Prop,(∀e s a' w' R' μ',Q e s→Rel P G base R' μ' s a' w'→Step base R w R' w'→QQ e a' w')→wpList P all QQ (l++l2) a w
 |[],st,h,base,R,μ,a,w,hr,QQ,hk=>by
  have h:wX P G all l2 (fun r s=>LW P G all r s Q) Q x0 st:=h
  show wpList P all QQ l2 a w
  cases l2 with
  |nil=>exact h.elim
  |cons o rest=>
   unfold wpList;cases x0 with
   |false=>obtain ⟨c,o',rest',he,hc⟩:=hl rfl;cases he;exact xW.ok hc (h.pan hc) hr fun v s w' R' q1 q2 q3=>hk _ s a w' R' μ q1 q2 q3
   |true=>
    refine pC h.ret hr fun s v w' R' μ' h' hr' hs'=>?_
    exact h' base R' μ' _ w' hr' QQ fun e s2 a2 w2 R2 μ2 q1 q2 q3=>hk e s2 a2 w2 R2 μ2 q1 q2 (hs'.trans q3)
 |x::l,st,h,base,R,μ,a,w,hr,QQ,hk=>by
  show wpList P all QQ (x::(l++l2)) a w
  unfold wpList;exact pC h hr fun s v w' R' μ' h' hr' hs'=>d4O all Q l2 hl l s h' base R' μ' _ w' hr' QQ fun e s a' w2 R2 μ2 q1 q2 q3=>hk e s a' w2 R2 μ2 q1 q2 (hs'.trans q3)
theorem LW.at {all:Array Oper}{l:List Oper}{Q:Exit→St→Prop}(c k:Nat)(x0:Bool)(hk:l[c]? =all[k]?)(hk2:∃o,l[c]? =some o)(h:VK P G [.ops false all (l.take c)] .normal st fun _ s=>wX P G all (l.drop c) (fun r s=>LW P G all r s Q) Q x0 s):LW P G all l st Q:=by
 intro base R μ a w hr QQ hkk;simp only [VK] at h;rw [← List.take_append_drop c l];refine d4O all Q (l.drop c) (fun h0=>?_) _ st h base R μ a w hr QQ hkk;obtain ⟨o,ho⟩:=hk2;refine ⟨k,o,l.drop (c+1),?_,by rw [← hk,ho]⟩;have hlt:=(d6X.1 ho).1;rw [d7j hlt];rw [d7a hlt] at ho;cases ho
 rfl
theorem LW.app {all:Array Oper}{l:List Oper}{Q:Exit→St→Prop}(c:Nat)(h:VK P G [.ops false all (l.take c)] .normal st fun _ s=>LW P G all (l.drop c) s Q):LW P G all l st Q:=by
 intro base R μ a w hr QQ hk;simp only [VK] at h;have main:∀(l1:List Oper) (st:St),qQ P G false all l1 st (fun s=>LW P G all (l.drop c) s Q)→∀(R:Nat→Nat→Prop) (μ:Nat→Nat) (a:Act) (w:World),Rel P G base R μ st a w→
   (∀e s a' w' R' μ',Q e s→Rel P G base R' μ' s a' w'→Step base R w R' w'→QQ e a' w')→wpList P all QQ (l1++l.drop c) a w:=by
  intro l1
  induction l1 with
  |nil=>intro st h R μ a w hr hk;exact h base R μ a w hr QQ hk
  |cons x l1 ih=>
   intro st h R μ a w hr hk
   show wpList P all QQ (x::(l1++l.drop c)) a w
   unfold wpList;exact pC h hr fun s v w' R' μ' h' hr' hs'=>ih s h' R' μ' _ w' hr' fun e s a' w2 R2 μ2 q1 q2 q3=>hk e s a' w2 R2 μ2 q1 q2 (hs'.trans q3)
 have:=main (l.take c) st h R μ a w hr hk
 rwa [List.take_append_drop] at this
theorem SW.lw {id:Nat}{ops:Array Oper}{Q:Exit→St→Prop}(h:LW P G ops ops.toList st Q):SW P G (.region id ops false) st Q:=fun base R μ a w hr=>wp_region_list (h base R μ a w hr _ fun e s a' w' R' μ' q1 q2 q3=>⟨s,R',μ',q1,q2,q3⟩)
theorem LW.b8e {all:Array Oper}{T y1 y2:TypeId}{td:TypeDesc}{d x:Tmp}{p1 p2:String}{f1 f2:Array Edge}{n e:Int}{Q:Exit→St→Prop}(hu:P.underlying T=some td)(hn:(match td with| .interface _=>false|_=>true)=true)(hd:d<st.tmps.length)(hx:st.eval G (.tmp x)= .d (.agg [.int .i64 n,.int .i64 e]))(h:Q (.panic (vQ (.iface T (.agg #[.int .i64 n,.int .i64 e])))) (xV st)):
  LW P G all [⟨some d,.makeInterface T (.tmp x),y1,p1,f1,none⟩,⟨none,.panic (.tmp d),y2,p2,f2,none⟩] st Q:=by
 intro base R μ a w hr QQ hk;obtain ⟨pc,hpc,hpc1,hpc2⟩:=(hr.jA hx).zS;have e0:=(hpc2 0 _ rfl).2.qA;have e1:=(hpc2 1 _ rfl).2.qA;have hpcE:pc= #[.int .i64 n,.int .i64 e]:=by
  have hs:pc.size=2:=by simpa using hpc1
  apply Array.ext
  ·simpa using hs
  ·intro i h1 h2;simp only [d6Y] at e0 e1;have h3:i<2:=by omega
   match i,h1,h3 with
   |0,h1,_=>simpa [h1] using e0
   |1,h1,_=>simpa [h1] using e1
 have hda:d<a.tmps.size:=by rw [hr.size];exact hd
 have hrun:(Instr.makeInterface T (.agg pc)).run P w= .ok (.iface T (.agg pc)) w:=by
  unfold Instr.makeInterface;rw [Sem.run_bind,run_underlying hu];simp only [Result.andThen_ok];split
  ·simp at hn
  ·rfl
 have hw:∀(o:Oper) y,o.guard=none→Region.wanted o y=true:=fun o y hg=>by unfold Region.wanted;rw [hg]
 unfold wpList;rw [if_pos (hw _ _ rfl)];left;unfold Oper.wp;have e2:(execOp a.eval ⟨some d,.makeInterface T (.tmp x),y1,p1,f1,none⟩).run P w= .ok (.value (.iface T (.agg pc))) w:=by simp [execOp,hpc,hrun]
 rw [e2]
 show wpList P all QQ _ (a.put (some d) (.iface T (.agg pc))) w
 unfold wpList;rw [if_pos (hw _ _ rfl)];left;unfold Oper.wp;have e3:(execOp (a.put (some d) (.iface T (.agg pc))).eval ⟨none,.panic (.tmp d),y2,p2,f2,none⟩).run P w= .halt (.panic (.iface T (.agg pc))) w:=by simp [execOp,dL _ _ hda,Instr.panic,goPanic]
 rw [e3]
 show QQ (.panic [{ v:= .iface T (.agg pc),recovered:=false }]) _ w
 rw [hpcE];refine hk _ (xV st) _ w R μ h ?_ (.refl _ _ _)
 have h1:=hr.a4M (.refl base R w) hr.mY;have h2:=h1.put (dst:=some d) (v:= .iface T (.agg #[.int .i64 n,.int .i64 e])) (dv:= .undef) (act:= .no) (.undef _) trivial;have h3:finish (xV st) (some d) .undef .no=xV st:=by
  simp only [finish,xV,St.mk.injEq];refine ⟨?_,by simp [jK,cH],by simp [cH]⟩;apply List.ext_getElem
  ·simp
  ·intro i q1 q2;rw [List.getElem_set];split<;>simp
 rw [h3] at h2;exact h2
def dA (P:Program)(G:GT)(ops:Array Oper)(rest:List Nat)(Q:Exit→St→Prop)(s:St):Prop:=VK P G [.ops true ops (zO ops rest)] .normal s Q
theorem dA.mk {ops:Array Oper}{rest:List Nat}{Q:Exit→St→Prop}{s:St}(h:VK P G [.ops true ops (zO ops rest)] .normal s Q):dA P G ops rest Q s:=h
def mN (P:Program)(G:GT)(ops:Array Oper)(c:Nat)(Q:Exit→St→Prop)(x0:Bool):Ord→St→Prop
 | .none,_=>True
 | .call rest more,st=>wX P G ops (zO ops [c]) (fun _ s=>dA P G ops rest Q s) Q x0 st∧mN P G ops c Q x0 more st
 | .op i next more,st=>VK P G [.ops true ops (zO ops [i])] .normal st (fun _ s=>mN P G ops c Q x0 next s)∧mN P G ops c Q x0 more st
theorem rT {q:Bool}{ops:Array Oper}{K K':St→Prop}(hk:∀s,K s→K' s):∀(l:List Oper) (st:St),qQ P G q ops l st K→qQ P G q ops l st K'
 |[],st,h=>hk st h
 |o::r,st,h=>eS (fun s hs=>rT hk r s hs) h
theorem b9G {ops:Array Oper}{c:Nat}:(∃o,ops[c]? =some o∧zO ops [c]=[o])∨zO ops [c]=[]:=by
 simp only [zO];cases h:ops[c]? with
 |none=>right;rfl
 |some o=>left;exact ⟨o,rfl,rfl⟩
theorem mN.pan {ops:Array Oper}{c:Nat}{Q:Exit→St→Prop}:∀(T:Ord) (st:St),mN P G ops c Q false T st→a0L P G ops (xW P G ops c Q) T st
 | .none,_,_=>trivial
 | .call rest more,st,h=>by
  refine ⟨?_,mN.pan more st h.2⟩;have h1:=h.1;rcases b9G (ops:=ops) (c:=c) with ⟨o,ho,hs⟩|hs
  ·rw [hs] at h1;exact h1.pan ho
  ·rw [hs] at h1;exact h1.elim
 | .op i next more,st,h=>by refine ⟨?_,mN.pan more st h.2⟩;have h1:=h.1;simp only [VK] at h1 ⊢;exact rT (fun s hs=>mN.pan next s hs) _ _ h1
theorem mN.ret {ops:Array Oper}{c:Nat}{Q:Exit→St→Prop}:∀(T:Ord) (st:St),mN P G ops c Q true T st→a7m P G ops c (fun s=>Q .normal s) T st
 | .none,_,_=>trivial
 | .call rest more,st,h=>by
  refine ⟨?_,mN.ret more st h.2⟩;have h1:=h.1;rcases b9G (ops:=ops) (c:=c) with ⟨o,ho,hs⟩|hs
  ·rw [hs] at h1 ⊢;have h2:=h1.ret;simp only [dA,VK,qQ] at h2 ⊢;exact h2
  ·rw [hs] at h1;exact h1.elim
 | .op i next more,st,h=>by refine ⟨?_,mN.ret more st h.2⟩;have h1:=h.1;simp only [VK] at h1 ⊢;exact rT (fun s hs=>mN.ret next s hs) _ _ h1
theorem a6V {q:Bool}{ops:Array Oper}{l:List Oper}{K K':St→Prop}(hk:∀s,K s→K' s)(h:VK P G [.ops q ops l] .normal st fun _ s=>K s):VK P G [.ops q ops l] .normal st fun _ s=>K' s:=by simp only [VK] at h ⊢;exact rT hk _ _ h
theorem kO {id:Nat}{ops:Array Oper}{Q:Exit→St→Prop}(c:Nat)(anc:List Nat)(T:Ord)(x0:Bool)(hm:P.follows .mixedOrders=true)(hB:c3N ops c anc T=true)(h:VK P G [.ops true ops (zO ops anc)] .normal st fun _ s=>mN P G ops c Q x0 T s):SW P G (.region id ops true) st Q:=by
 cases x0 with
 |false=>exact c8K c anc T hm hB (a6V (fun s hs=>mN.pan T s hs) h)
 |true=>exact d2W c anc T hm hB (a6V (fun s hs=>mN.ret T s hs) h)
theorem sR.mk {ls:List (Option Loc)}{f:FuncId}{s0:St}{x:Ends}{d6U:List DV}{dst:Option Tmp}{KK:St→Prop}{Q:Exit→St→Prop}{rest:List (TypeId×List Loc)}(he:Enters P f)(hx:CX P G f s0 x)(K:List (Nat×Nat))(hfit:∀d H1 own1,x= .inl (d,H1,own1)→aN K s0 d H1=true)(hfit2:∀v,x= .inr v→aN K s0 .undef s0.H=true)(hargs:WkT d6U (aT K s0.tmps))(hH:WkH st.H (cL K s0.H))(jR:rQ st st.own (s0.own.map (mJ K ls))=some rest)(harg:uU st.tmps.length ls s0.own=true)(hok:∀d H1 own1,x= .inl (d,H1,own1)→KK (bB K dst st rest d H1 own1))(hbad:∀v,x= .inr v→Q (.panic (vQ v)) (xV st)):sR P G f d6U ls dst st KK Q x.isLeft:=by
 refine ⟨he,fun h0=>?_,fun h0=>?_⟩
 ·match x,hx,hfit,hok,h0 with
  | .inl (d,H1,own1),hx,hfit,hok,_=>exact ⟨_,kR.a6I hx K (hfit d H1 own1 rfl) hargs hH jR harg,hok d H1 own1 rfl⟩
 ·match x,hx,hfit2,hbad,h0 with
  | .inr v,hx,hfit2,hbad,_=>exact ⟨v,a4L.d2X hx K (hfit2 v rfl) hargs hH jR harg,hbad v rfl⟩
attribute [simp] mN
end
attribute [irreducible] sR LW dA
attribute [simp] wX dU
end Go.VM
end
section
namespace Go.VM
open Go Go.RowKit
section
variable {P:Program} {G:GT} {st:St} {base:cS} {R:Nat→Nat→Prop} {μ:Nat→Nat} {a:Act} {w:World}
def a0k (P:Program)(G:GT)(ops:Array Oper)(m c:Nat)(Q:St→Prop):Nat→Array Bool→St→Prop
 |0,listed,st=>listed=mM m ops.size∧Q st
 |fuel+1,listed,st=>Region.ready .any ops listed≠[]∧∀i∈Region.ready .any ops listed,i<m∧match ops[i]? with
  |none=>False
  |some o=>kH P G (i !=c) ops o (a0k P G ops m c Q fuel (listed.setIfInBounds i true)) st
theorem b1Q {ops:Array Oper}{m c r:Nat}{Q:St→Prop}{QQ:Exit→Act→World→Prop}:∀(fuel:Nat) (listed:Array Bool) (st:St),a0k P G ops m c Q fuel listed st→∀(base:cS) (R:Nat→Nat→Prop) (μ:Nat→Nat) (a:Act) (w:World),Rel P G base R μ st a w→
  (∀s a' w' R' μ',Q s→Rel P G base R' μ' s a' w'→Step base R w R' w'→wpAny P .any ops QQ r (mM m ops.size) a' w')→wpAny P .any ops QQ (fuel+r) listed a w
 |0,_,st,h,base,R,μ,a,w,hr,hk=>by rw [Nat.zero_add,h.1];exact hk st a w R μ h.2 hr (.refl _ _ _)
 |fuel+1,listed,st,h,base,R,μ,a,w,hr,hk=>by
  rw [show fuel+1+r=(fuel+r)+1 by omega];refine ⟨fun h0=>absurd h0 h.1,fun i hi=>?_⟩;have h1:=(h.2 i hi).2;unfold wpOp;split
  ·rename_i ho;rw [ho] at h1;exact h1.elim
  ·rename_i o ho;rw [ho] at h1;exact pC h1 hr fun s v w' R' μ' h' hr' hs'=>b1Q fuel _ s h' base R' μ' _ w' hr' fun s a' w2 R2 μ2 q1 q2 q3=>hk s a' w2 R2 μ2 q1 q2 (hs'.trans q3)
theorem a8V {ops:Array Oper}{m i:Nat}(him:i<m)(hT:tV ops m=true)(listed:Array Bool)(hcl:eI ops listed)(hr:i∈Region.ready .any ops listed):∀j∈Region.ready .any ops listed,j<m:=fun j hj=>by apply Classical.byContradiction;intro hjm;obtain ⟨_,oj,hoj,hall⟩:=mem_ready.1 hj;obtain ⟨hiun,_⟩:=mem_ready.1 hr;have h1:=a3G hT (Nat.le_of_not_lt hjm) hoj him;rw [cY hcl hiun ops.size j fun o ho=>by rw [hoj] at ho;cases ho;exact hall] at h1;cases h1
theorem b3k {ops:Array Oper}{m c:Nat}{Q:St→Prop}{i:Nat}{oi:Oper}(him:i<m)(hT:tV ops m=true)(hA:mI ops)(hi:ops[i]? =some oi)(hic:i≠c)(hsi:(cT oi.op=true∧jU ops oi=false)∨mC oi=true):
  ∀(fuel:Nat) (listed:Array Bool) (st s:St),eI ops listed→
   (∀j oj,ops[j]? =some oj→j≠i→listed.getD j true=false→gD ops ops.size j i=false→j≠c∧oi.apart ops oj=true∧oB ops oi oj=true)→
   i∈Region.ready .any ops listed→oD ops listed st→Eff P G ops oi st s→
   a0k P G ops m c Q fuel (listed.setIfInBounds i true) s→a0k P G ops m c Q (fuel+1) listed st:=by
 have qi:(i !=c)=true:=by simpa using hic
 intro fuel
 induction fuel with
 |zero=>
  intro listed st s hcl _ hr _ hy H;refine ⟨fun h=>(by rw [h] at hr;cases hr),fun j hj=>⟨a8V him hT listed hcl hr j hj,?_⟩⟩;by_cases hji:j=i
  ·subst hji;rw [hi,qi];exact (dP hsi).2 ⟨s,hy,H⟩
  ·exfalso;obtain ⟨hjun,oj,hoj,hall⟩:=mem_ready.1 hj;have h1:=a8Q hjun hji;rw [H.1] at h1;have h2:=a3b h1;have:=a8V him hT listed hcl hr j hj;omega
 |succ fuel ih=>
  intro listed st s hcl hfree hr hI hy H;refine ⟨fun h=>(by rw [h] at hr;cases hr),fun j hj=>⟨a8V him hT listed hcl hr j hj,?_⟩⟩;by_cases hji:j=i
  ·subst hji;rw [hi,qi];exact (dP hsi).2 ⟨s,hy,H⟩
  ·have h1:=(H.2 j (ready_mono hj hji)).2;obtain ⟨hjun,oj,hoj,hall⟩:=mem_ready.1 hj;rw [hoj] at h1 ⊢;simp only at h1 ⊢;obtain ⟨hiun,oi',hoi',halli⟩:=mem_ready.1 hr;have hnot:gD ops ops.size j i=false:=cY hcl hiun _ _ fun o ho=>by rw [hoj] at ho;cases ho;exact hall
   obtain ⟨hjc,hap,hpo⟩:=hfree j oj hoj hji hjun hnot;have qj:(j !=c)=true:=by simpa using hjc
   rw [qj] at h1 ⊢;have hsj:(cT oj.op=true∧jU ops oj=false)∨mC oj=true:=by
    by_cases hs:mC oj=true
    ·exact .inr hs
    ·refine .inl ⟨?_,?_⟩
     ·unfold oB at hpo;simp only [mC,d7i,d6W,Bool.not_eq_true'] at hpo hs;rcases hpo with ((((((h|h)|h)|h)|h)|h)|h)|h
      ·exact h.1.2
      ·exact absurd (.inl (.inl h.1.2)) hs
      ·exact h.1.1.2
      ·exact absurd (.inl (.inr h.2)) hs
      ·exact h.1.2
      ·exact absurd (.inl h.1.2) hs
      ·exact absurd (.inr h.2) hs
      ·exact (kI (G:=G) (st:=st) h.1.2).1
     ·cases hx:jU ops oj with
      |false=>rfl
      |true=>
       have hlt:i<ops.size:=(d7f.1 hi).1;rcases rI hx hoj hlt (fun e=>hji e.symm) with h'|h'
       ·have:=cY hcl hjun ops.size i fun o ho=>by rw [hoi'] at ho;cases ho;exact halli
        rw [h'] at this;cases this
       ·rw [hnot] at h';cases h'
   obtain ⟨s12,hu,hk⟩:=(dP hsj).1 h1;obtain ⟨s2,e1,e2⟩:=a4p hap hpo (fun hn d hd=>hI i oi d hi hn hiun hd) (fun hn d hd=>hI j oj d hoj hn hjun hd) hy hu;refine (dP hsj).2 ⟨s2,e1,?_⟩;refine ih (listed.setIfInBounds j true) s2 s12 (hcl.set hj) (fun k ok hk' hki hun hno=>?_) (ready_mono hr (Ne.symm hji)) (hI.step hA hoj fun k hf hn=>qV e1 hf hn) e2 ?_
   ·exact hfree k ok hk' hki (qD hun).2 hno
   ·rw [Array.setIfInBounds_comm _ _ hji];exact hk
def c3O (m:Nat)(l:List Nat):Bool:=l.all fun i=>decide (i<m)
theorem a3J {ops:Array Oper}{m c:Nat}{Q:St→Prop}(hTA:tV ops m=true)(hN:eH ops=[]):∀(l:List Nat) (listed:Array Bool) (st:St) (fuel:Nat),c3O m l=true→eI ops listed→a4J ops c l listed=true→
  a0S P G ops c l st (a0k P G ops m c Q fuel (cA l listed))→a0k P G ops m c Q (l.length+fuel) listed st
 |[],listed,st,fuel,_,_,_,h=>by simpa [cA,a0S] using h
 |i::l,listed,st,fuel,hlow,hcl,hB,h=>by
  have hA:mI ops:=fun i j oi oj d hi _ hni _ hdi _=>(b1P hN hi hni hdi).elim
  have hI:∀listed st,oD ops listed st:=fun _ _ j oj d hj hn _ hd=>(b1P hN hj hn hd).elim
  simp only [c3O,List.all_cons,d6W,decide_eq_true_eq] at hlow;obtain ⟨him,hlow'⟩:=hlow;simp only [a4J,d6W] at hB;obtain ⟨hf,hB'⟩:=hB;simp only [a0S] at h;split at h;rotate_left
  ·cases h
  rename_i o ho;have he:(i::l).length+fuel=l.length+fuel+1:=by simp only [List.length_cons];omega
  rw [he];unfold a8T at hf;rw [d7i,beq_iff_eq] at hf;have hri:i∈Region.ready .any ops listed:=by
   rcases hf with hf|hf
   ·rw [hf];exact d7d.2 rfl
   ·simp only [d6W] at hf;simpa using hf.1.1
  have hnext:∀s,a0S P G ops c l s (a0k P G ops m c Q fuel (cA (i::l) listed))→a0k P G ops m c Q (l.length+fuel) (listed.setIfInBounds i true) s:=fun s hs=>a3J hTA hN l _ s fuel hlow' (hcl.set hri) hB' hs
  rcases hf with hf|hf
  ·refine ⟨fun h'=>(by rw [h'] at hf;cases hf),fun j hj=>?_⟩;rw [hf,d7d] at hj;subst hj;rw [ho];exact ⟨him,eS hnext h⟩
  ·rw [ho] at hf;simp only [d6W,d7i,Bool.not_eq_true',bne_iff_ne,ne_eq] at hf;obtain ⟨⟨_,hic⟩,hsi,hall⟩:=hf;have qi:(i !=c)=true:=by simpa using hic
   rw [qi] at h;obtain ⟨s,hd,hk⟩:=(dP hsi).1 h;refine b3k him hTA hA ho hic hsi _ listed st s hcl (fun j oj hj hne hun hno=>?_) hri (hI _ _) hd (hnext s hk);rw [d6Z] at hall;have h1:=hall j (List.mem_range.2 (d7f.1 hj).1);simp only [hj,d7i,beq_iff_eq,hne,false_or,hun,Bool.false_eq_true,hno,d6W,bne_iff_ne,ne_eq] at h1;exact h1
def a3e (ops:Array Oper)(m c:Nat):Ord→Nat→Array Bool→Bool
 | .none,_,_=>true
 | .call rest more,n,listed=>decide (c<ops.size)&&decide (c<m)&&c3O m rest&&inB ops c rest&&a4J ops c rest (listed.setIfInBounds c true)&&decide (cA rest (listed.setIfInBounds c true)=mM m ops.size)&&decide (rest.length+1=n)&&a3e ops m c more n listed
 | .op i next more,n,listed=>inB ops c [i]&&decide (i<m)&&decide (2≤n)&& !(Region.ready .any ops (listed.setIfInBounds i true)).isEmpty&&((Region.ready .any ops (listed.setIfInBounds i true)).all fun j=>a0j c next j)&&a3e ops m c next (n-1) (listed.setIfInBounds i true)&&a3e ops m c more n listed
theorem a4O {ops:Array Oper}{m c:Nat}{Q:St→Prop}(hTA:tV ops m=true)(hN:eH ops=[]):∀(T:Ord) (n:Nat) (listed:Array Bool) (st:St),eI ops listed→a3e ops m c T (n+1) listed=true→a7m P G ops c Q T st→∀i∈Region.ready .any ops listed,a0j c T i=true→
  i<m∧match ops[i]? with
  |none=>False
  |some o=>kH P G (i !=c) ops o (a0k P G ops m c Q n (listed.setIfInBounds i true)) st
 | .none,_,_,_,_,_,_,_,_,ha=>by cases ha
 | .call rest more,n,listed,st,hcl,hB,h,i,hi,ha=>by
  simp only [a3e,d6W,decide_eq_true_eq] at hB;obtain ⟨⟨⟨⟨⟨⟨⟨hc,hcm⟩,hlow⟩,hin⟩,hs⟩,he⟩,hlen⟩,hmore⟩:=hB;simp only [a7m] at h;simp only [a0j,d7i,decide_eq_true_eq] at ha;by_cases hic:i=c
  ·subst hic;have h1:=h.1;simp only [VK,zO,d7o hc,qQ] at h1;simp only [d7o hc,bne_self_eq_false];refine ⟨hcm,eS (fun s hs'=>?_) h1⟩;have hn:n=rest.length+0:=by omega
   rw [hn];exact a3J hTA hN rest _ s 0 hlow (hcl.set hi) hs (qK (fun s hs=>⟨he,hs⟩) _ _ (sH rest s hin hs'))
  ·exact a4O hTA hN more n listed st hcl hmore h.2 i hi (ha.resolve_left hic)
 | .op x next more,n,listed,st,hcl,hB,h,i,hi,ha=>by
  simp only [a3e,d6W,decide_eq_true_eq,Bool.not_eq_true',List.isEmpty_eq_false_iff,d6Z] at hB;obtain ⟨⟨⟨⟨⟨⟨hin,hxm⟩,hn⟩,hne⟩,hall⟩,hnext⟩,hmore⟩:=hB;simp only [a7m] at h;simp only [a0j,d7i,decide_eq_true_eq] at ha;by_cases hix:i=x
  ·subst hix;have h1:=h.1;simp only [inB,List.all_cons,List.all_nil,Bool.and_true,d6W,decide_eq_true_eq] at hin;have qi:(i !=c)=true:=by simpa using hin.2
   simp only [VK,zO,d7o hin.1,qQ] at h1;simp only [d7o hin.1,qi];refine ⟨hxm,eS (fun s hs'=>?_) h1⟩;obtain ⟨k,rfl⟩:∃k,n=k+1:=⟨n-1,by omega⟩;exact ⟨hne,fun j hj=>a4O hTA hN next k _ s (hcl.set hi) hnext hs' j hj (hall j hj)⟩
  ·exact a4O hTA hN more n listed st hcl hmore h.2 i hi (ha.resolve_left hix)
theorem a2q {ops:Array Oper}{m c:Nat}{Z:St→Prop}:∀(T:Ord) (n n':Nat) (listed:Array Bool) (st:St),n≤n'→a3e ops m c T (n+1) listed=true→a0L P G ops Z T st→∀i∈Region.ready .any ops listed,a0j c T i=true→
  if i=c then Z st else match ops[i]? with
  |none=>False
  |some o=>kH P G true ops o (a3d P G ops c Z n' (listed.setIfInBounds i true)) st
 | .none,_,_,_,_,_,_,_,_,_,ha=>by cases ha
 | .call rest more,n,n',listed,st,hn',hB,h,i,hi,ha=>by
  simp only [a3e,d6W] at hB;simp only [a0L] at h;simp only [a0j,d7i,decide_eq_true_eq] at ha;by_cases hic:i=c
  ·rw [if_pos hic];exact h.1
  ·exact a2q more n n' listed st hn' hB.2 h.2 i hi (ha.resolve_left hic)
 | .op x next more,n,n',listed,st,hn',hB,h,i,hi,ha=>by
  simp only [a3e,d6W,decide_eq_true_eq,Bool.not_eq_true',List.isEmpty_eq_false_iff,d6Z] at hB;obtain ⟨⟨⟨⟨⟨⟨hin,hxm⟩,hn⟩,hne⟩,hall⟩,hnext⟩,hmore⟩:=hB;simp only [a0L] at h;simp only [a0j,d7i,decide_eq_true_eq] at ha;by_cases hix:i=x
  ·subst hix;have h1:=h.1;simp only [inB,List.all_cons,List.all_nil,Bool.and_true,d6W,decide_eq_true_eq] at hin;simp only [VK,zO,d7o hin.1,qQ] at h1;rw [if_neg hin.2];simp only [d7o hin.1];refine eS (fun s hs'=>?_) h1;obtain ⟨k,rfl⟩:∃k,n=k+1:=⟨n-1,by omega⟩;obtain ⟨k',rfl⟩:∃k',n'=k'+1:=⟨n'-1,by omega⟩;exact ⟨hne,fun j hj=>a2q next k k' _ s (by omega) hnext hs' j hj (hall j hj)⟩
  ·exact a2q more n n' listed st hn' hmore h.2 i hi (ha.resolve_left hix)
abbrev a8W (TT:St→Prop)(Q:Exit→St→Prop):Exit→St→Prop:=fun e s=>match e with
 | .normal=>TT s
 |e=>Q e s
end
end Go.VM
end
section
namespace Go.VM
open Go Go.RowKit
section
variable {P:Program} {G:GT} {st:St}
def a7N (ops:Array Oper)(L:Array Bool)(i0 i1 i2 i3 i4:Nat):Bool:=
 let S:=L.setIfInBounds i0 true
 let A:=S.setIfInBounds i1 true
 let B:=S.setIfInBounds i3 true
 (Region.ready .any ops L==[i0])&&(Region.ready .any ops S==[i1,i3])&&(Region.ready .any ops A==[i2,i3])&&(Region.ready .any ops B==[i1,i4])&&
 (Region.ready .any ops (A.setIfInBounds i2 true)==[i3])&&(Region.ready .any ops (A.setIfInBounds i3 true)==[i2,i4])&&(Region.ready .any ops (B.setIfInBounds i1 true)==[i2,i4])&&(Region.ready .any ops (B.setIfInBounds i4 true)==[i1])&&
 (Region.ready .any ops ((A.setIfInBounds i2 true).setIfInBounds i3 true)==[i4])&&(Region.ready .any ops ((A.setIfInBounds i3 true).setIfInBounds i2 true)==[i4])&&(Region.ready .any ops ((A.setIfInBounds i3 true).setIfInBounds i4 true)==[i2])&&
 (Region.ready .any ops ((B.setIfInBounds i1 true).setIfInBounds i2 true)==[i4])&&(Region.ready .any ops ((B.setIfInBounds i1 true).setIfInBounds i4 true)==[i2])&&(Region.ready .any ops ((B.setIfInBounds i4 true).setIfInBounds i1 true)==[i2])&&
 (Region.ready .any ops (((A.setIfInBounds i2 true).setIfInBounds i3 true).setIfInBounds i4 true)==[])&&(Region.ready .any ops (((A.setIfInBounds i3 true).setIfInBounds i2 true).setIfInBounds i4 true)==[])&&(Region.ready .any ops (((A.setIfInBounds i3 true).setIfInBounds i4 true).setIfInBounds i2 true)==[])&&
 (Region.ready .any ops (((B.setIfInBounds i1 true).setIfInBounds i2 true).setIfInBounds i4 true)==[])&&(Region.ready .any ops (((B.setIfInBounds i1 true).setIfInBounds i4 true).setIfInBounds i2 true)==[])&&(Region.ready .any ops (((B.setIfInBounds i4 true).setIfInBounds i1 true).setIfInBounds i2 true)==[])
abbrev tl3 (s:St)(dZ:List (TypeId×List Loc))(e:TypeId)(r p b:Tmp)(xs:List (List D))(c:List D)(kb off:Nat):St:=finish (tl2 s dZ e r p xs c) (some b) (.ptr kb off) .no
theorem c3P (a:Act){p b:Nat}(u v:Value)(h:p≠b):(a.put (some p) u).put (some b) v=(a.put (some b) v).put (some p) u:=by simp only [Act.put];congr 1;exact Array.setIfInBounds_comm _ _ h
theorem b5Q {ops:Array Oper}{i0 i1 i2 i3 i4:Nat}{L0:Array Bool}{t e T:TypeId}{s z r p q x b y:Tmp}{fd fo:Nat}{y0 y1 y2 y3 y4 u:TypeId}{p0 p1 p2 p3 p4:String}{f0 f1 f2 f3 f4:Array Edge}{xs:List (List D)}{z0 c:List D}{dZ:List (TypeId×List Loc)}{kb0 off0:Nat}{out:Out}{Q:St→Prop}{QQ:Exit→Act→World→Prop}(h0:ops[i0]? =some ⟨some r,.call { callee:= .builtin .append,args:= #[.tmp s,.tmp z],argTypes:= #[t,t] },y0,p0,f0,none⟩)(h1:ops[i1]? =some ⟨some p,.indexAddr t (.tmp r) (.tmp q),y1,p1,f1,none⟩)(h2:ops[i2]? =some ⟨none,.store e (.tmp p) (.tmp x),y2,p2,f2,none⟩)(h3:ops[i3]? =some ⟨some b,.fieldAddr T (.tmp y) fd,y3,p3,f3,none⟩)(h4:ops[i4]? =some ⟨none,.store t (.tmp b) (.tmp r),y4,p4,f4,none⟩)(hR:a7N ops L0 i0 i1 i2 i3 i4=true)(hok:gC P e=true)(hu:P.underlying t=some (.slice e))(hne:(r≠q∧r≠x∧r≠p∧r≠b∧r≠y)∧(p≠x∧p≠b∧p≠y)∧b≠q∧b≠x)(hlt:r<st.tmps.length∧p<st.tmps.length∧b<st.tmps.length)(hsx:st.eval G (.tmp s)= .d (.sl xs))(htk:eZ (.t s) st.own=some (e,dZ))(hlx:∀c∈xs,c.length=P.cellsOf e)(hx:st.eval G (.tmp z)= .d (.sl [z0]))(hz0:z0.length=P.cellsOf e)(hbd:(xs.length+1)*(P.bytesOf e+1)≤140737488355328)(hq:st.eval G (.tmp q)= .d (.int .i64 (xs.length:Int)))(hxv:st.eval G (.tmp x)= .d (.agg c))(hc:c.length=P.cellsOf e)(hy:st.eval G (.tmp y)= .ptr kb0 off0)(hfo:aK P T fd=some (fo,u))(hfc:P.cellsOf u≠0)(hst:oR P G t (.tmp b) (.tmp r) (tl3 st dZ e r p b xs c kb0 (off0+fo))=some out)(hQ:Q out.st){base:cS}{R:Nat→Nat→Prop}{μ:Nat→Nat}{a:Act}{w:World}(hr:Rel P G base R μ st a w)(hk:∀s' a' w' R' μ',Q s'→Rel P G base R' μ' s' a' w'→Step base R w R' w'→QQ .normal a' w'):wpAny P .any ops QQ 5 L0 a w:=by
 obtain ⟨⟨n1,n2,n3,n4,n7⟩,⟨n5,n6,n8⟩,n9,n10⟩:=hne;obtain ⟨l1,l2,l3⟩:=hlt;have hsz:=hr.size;obtain ⟨_,_,_,_,_,hpos,_,_⟩:=uD hok;obtain ⟨g,cap,cur1,w1,e0,hg,hfit,hobj,hnews⟩:=a6S (ty:=y0) hr hok hu (x:= .tmp z) hsx htk hlx hx hz0 hbd;obtain ⟨pc,hpc,hpc1,hpc2⟩:=(hr.jA hxv).zS;have hone:∀u∈pc.toList,u.oneCell'=true:=fun u hu=>by
  obtain ⟨j,hj⟩:=d7n hu;have hjl:j<c.length:=by rw [← hpc1];simpa using (d6X.1 hj).1
  obtain ⟨k1,k2⟩:=hpc2 j c[j] (by simp [hjl]);have:pc.getD j Go.undef=u:=by
   have:pc[j]? =some u:=by simpa using hj
   simp [d6Y,this]
  rw [this] at k2;exact k2.a4e k1
 obtain ⟨R1,hr1,hV1,hA1,hs1⟩:=hnews pc.toList c (by simpa [hpc1] using hc) hc hone (fun j d hj=>by
  obtain ⟨k1,k2⟩:=hpc2 j d hj;have hjl:j<pc.size:=by rw [hpc1];exact (d6X.1 hj).1
  refine ⟨k1,pc[j],by simp [hjl],?_⟩;simpa [d6Y,hjl] using k2)
 generalize hvS:(Value.slice (some ⟨g,0,none⟩) (xs.length+1) cap)=vS at *;generalize hcur2:spl cur1 (xs.length*P.cellsOf e) pc.toList=cur2 at *;have hra:r<a.tmps.size:=by rw [hsz];exact l1
 have hpa:p<a.tmps.size:=by rw [hsz];exact l2
 have hr1':=hr1.put (dst:=some r) (.d _ _ hV1) hA1;have hr2:=hr1'.put (dst:=some p) (v:= .pointer (some ⟨g,xs.length*P.cellsOf e,none⟩)) (act:= .no) (.undef _) trivial;generalize ha1:a.put (some r) vS=a1 at *;generalize ha2:a1.put (some p) (.pointer (some ⟨g,xs.length*P.cellsOf e,none⟩))=a2 at *;have z1:a1.tmps.size=a.tmps.size:=by rw [← ha1];exact size_put _ _ _
 have v1r:a1.eval (.tmp r)=vS:=by rw [← ha1];exact dL _ _ hra
 have v1q:a1.eval (.tmp q)=a.eval (.tmp q):=by rw [← ha1];exact bR _ _ (Ne.symm n1)
 have v1x:a1.eval (.tmp x)=a.eval (.tmp x):=by rw [← ha1];exact bR _ _ (Ne.symm n2)
 have v1b:a1.eval (.tmp b)=a.eval (.tmp b):=by rw [← ha1];exact bR _ _ (Ne.symm n4)
 have v2p:a2.eval (.tmp p)= .pointer (some ⟨g,xs.length*P.cellsOf e,none⟩):=by rw [← ha2];exact dL _ _ (z1.symm▸hpa)
 have v2x:a2.eval (.tmp x)= .agg pc:=by rw [← ha2,bR _ _ (Ne.symm n5),v1x,hpc]
 have v2r:a2.eval (.tmp r)=vS:=by rw [← ha2,bR _ _ n3];exact v1r
 have v2b:a2.eval (.tmp b)=a.eval (.tmp b):=by rw [← ha2,bR _ _ (Ne.symm n6)];exact v1b
 have v1y:a1.eval (.tmp y)= .pointer (some ⟨μ kb0,off0,none⟩):=by rw [← ha1,bR _ _ (Ne.symm n7)];exact hr.dJ hy
 have hb0:b<a.tmps.size:=by rw [hsz];exact l3
 have z2:a2.tmps.size=a.tmps.size:=by rw [← ha2,size_put];exact z1
 have hr3:=hr2.put (dst:=some b) (v:= .pointer (some ⟨μ kb0,off0+fo,none⟩)) (act:= .no) (.ptr kb0 (off0+fo)) trivial;generalize ha3:a2.put (some b) (.pointer (some ⟨μ kb0,off0+fo,none⟩))=a3 at *;generalize hab:a1.put (some b) (.pointer (some ⟨μ kb0,off0+fo,none⟩))=ab at *;have hab3:ab.put (some p) (.pointer (some ⟨g,xs.length*P.cellsOf e,none⟩))=a3:=by rw [← hab, ← ha3, ← ha2];exact (c3P a1 _ _ n6).symm
 have v2y:a2.eval (.tmp y)= .pointer (some ⟨μ kb0,off0,none⟩):=by rw [← ha2,bR _ _ (Ne.symm n8)];exact v1y
 have v3b:a3.eval (.tmp b)= .pointer (some ⟨μ kb0,off0+fo,none⟩):=by rw [← ha3];exact dL _ _ (z2.symm▸hb0)
 have v3r:a3.eval (.tmp r)=vS:=by rw [← ha3,bR _ _ n4];exact v2r
 have v3p:a3.eval (.tmp p)= .pointer (some ⟨g,xs.length*P.cellsOf e,none⟩):=by rw [← ha3,bR _ _ n6];exact v2p
 have v3x:a3.eval (.tmp x)= .agg pc:=by rw [← ha3,bR _ _ (Ne.symm n10)];exact v2x
 have vbb:ab.eval (.tmp b)= .pointer (some ⟨μ kb0,off0+fo,none⟩):=by rw [← hab];exact dL _ _ (z1.symm▸hb0)
 have vbr:ab.eval (.tmp r)=vS:=by rw [← hab,bR _ _ n4];exact v1r
 have vbq:ab.eval (.tmp q)=a.eval (.tmp q):=by rw [← hab,bR _ _ (Ne.symm n9)];exact v1q
 have hstb:=hst;unfold oR at hstb;split at hstb;rotate_left
 ·cases hstb
 rename_i kb off ys hb hys;split at hstb;rotate_left
 ·cases hstb
 rename_i cs hkb;split at hstb;rotate_left
 ·cases hstb
 rename_i hcd
 clear hstb
 have hHs:(tl3 st dZ e r p b xs c kb0 (off0+fo)).H=st.H:=rfl;rw [hHs] at hkb;have hbe:(tl3 st dZ e r p b xs c kb0 (off0+fo)).eval G (.tmp b)= .ptr kb0 (off0+fo):=by simp [St.eval,finish,List.getD,l3]
 rw [hbe] at hb;cases hb;have hys1:ys.length=1:=by
  have:(tl3 st dZ e r p b xs c kb0 (off0+fo)).eval G (.tmp r)= .d (.sl (xs++[c])):=by simp [St.eval,finish,List.getD,l1,List.getElem?_set,Ne.symm n3,Ne.symm n4]
  rw [this] at hys;simp only [rE,D.cells,List.map_cons,List.map_nil,d7c] at hys;rw [← hys];rfl
 obtain ⟨_,_,vs0,T0,hh0,hsz0,_⟩:=hr.gL kb0 _ hkb;obtain ⟨hbg,hw1b⟩:=hobj kb0 _ hkb;have hvc:vS.cells= #[vS]:=by rw [← hvS];rfl
 have hvo:vS.oneCell'=true:=by rw [← hvS];rfl
 have hob:w1.heap[μ kb0]? =some (.cells vs0 T0 (0,0)):=hw1b.trans hh0
 generalize hX:spl vs0 (off0+fo) [vS]=X;have E0:(execOp a.eval ⟨some r,.call { callee:= .builtin .append,args:= #[.tmp s,.tmp z],argTypes:= #[t,t] },y0,p0,f0,none⟩).run P w= .ok (.value vS) w1:=by simp [execOp,resolve,invoke,builtin,e0]
 have E1:∀(ax:Act) (w':World),ax.eval (.tmp r)=vS→ax.eval (.tmp q)=a.eval (.tmp q)→(execOp ax.eval ⟨some p,.indexAddr t (.tmp r) (.tmp q),y1,p1,f1,none⟩).run P w'= .ok (.value (.pointer (some ⟨g,xs.length*P.cellsOf e,none⟩))) w':=fun ax w' k1 k2=>zF rfl hu (k1.trans hvS.symm) (k2.trans (hr.sB hq)) (by omega) hpos
 have E2:∀(ax:Act) (w':World),ax.eval (.tmp p)= .pointer (some ⟨g,xs.length*P.cellsOf e,none⟩)→ax.eval (.tmp x)= .agg pc→w'.heap[g]? =some (.cells cur1 e (0,0))→(execOp ax.eval ⟨none,.store e (.tmp p) (.tmp x),y2,p2,f2,none⟩).run P w'= .ok .skip (w'.setRow g cur2):=fun ax w' kp kx hw'=>by have:=qJ (P:=P) (a:=ax) (w:=w') (o:=⟨none,.store e (.tmp p) (.tmp x),y2,p2,f2,none⟩) rfl kp hw' (by rw [kx];show pc.size=_;rw [hpc1,hc]) (by omega) (by rw [kx];exact hone) (by rw [kx];show _+pc.size≤_;rw [hpc1,hc];exact hfit);rw [kx] at this;have hcl:(Value.agg pc).cells=pc:=rfl;rw [hcl,hcur2] at this;exact this
 have E3:∀(ax:Act) (w':World),ax.eval (.tmp y)= .pointer (some ⟨μ kb0,off0,none⟩)→(execOp ax.eval ⟨some b,.fieldAddr T (.tmp y) fd,y3,p3,f3,none⟩).run P w'= .ok (.value (.pointer (some ⟨μ kb0,off0+fo,none⟩))) w':=fun ax w' ky=>tG (P:=P) rfl hfo hfc ky
 have E4:∀(ax:Act) (w':World),ax.eval (.tmp b)= .pointer (some ⟨μ kb0,off0+fo,none⟩)→ax.eval (.tmp r)=vS→w'.heap[μ kb0]? =some (.cells vs0 T0 (0,0))→(execOp ax.eval ⟨none,.store t (.tmp b) (.tmp r),y4,p4,f4,none⟩).run P w'= .ok .skip (w'.setRow (μ kb0) X):=fun ax w' hb1 hr1 hw'=>by have:=qJ (P:=P) (a:=ax) (w:=w') (o:=⟨none,.store t (.tmp b) (.tmp r),y4,p4,f4,none⟩) rfl hb1 hw' (by rw [hr1,hvc, ← hcd.1,hys1];rfl) (by omega) (by rw [hr1,hvc];simpa using hvo) (by rw [hr1,hvc];show off0+fo+1≤_;rw [hsz0];omega);rw [hr1,hvc] at this;have:(execOp ax.eval ⟨none,.store t (.tmp b) (.tmp r),y4,p4,f4,none⟩).run P w'= .ok .skip (w'.setRow (μ kb0) (spl vs0 (off0+fo) [vS])):=this;rw [hX] at this;exact this
 have hgX:(w1.setRow (μ kb0) X).heap[g]? =some (.cells cur1 e (0,0)):=(setRow_other w1 (μ kb0) g _ (Ne.symm hbg)).trans hg
 have hbX:(w1.setRow g cur2).heap[μ kb0]? =some (.cells vs0 T0 (0,0)):=(setRow_other w1 g (μ kb0) _ hbg).trans hob
 have hcomm:(w1.setRow (μ kb0) X).setRow g cur2=(w1.setRow g cur2).setRow (μ kb0) X:=a6R w1 hbg X cur2;have hfin:QQ .normal a3 ((w1.setRow g cur2).setRow (μ kb0) X):=by
  obtain ⟨v,w',R',μ',hrun,hr4,_,_,hs3⟩:=a2h (o:=⟨none,.store t (.tmp b) (.tmp r),y4,p4,f4,none⟩) rfl hst base R1 μ a3 _ hr3;rw [E4 a3 _ v3b v3r hbX] at hrun;rcases hrun with hrun|⟨hrun,_⟩
  ·cases hrun
  ·cases hrun;exact hk out.st a3 _ R' μ' hQ hr4 (hs1.trans hs3)
 simp only [a7N,d6W,beq_iff_eq] at hR;obtain ⟨⟨⟨⟨⟨⟨⟨⟨⟨⟨⟨⟨⟨⟨⟨⟨⟨⟨⟨r0,r1⟩,rA⟩,rB⟩,rAC⟩,rAB⟩,rBA⟩,rBD⟩,rACB⟩,rABC⟩,rABD⟩,rBAC⟩,rBAD⟩,rBDA⟩,e1⟩,e2⟩,e3⟩,e4⟩,e5⟩,e6⟩:=hR;refine wpAny_all r0 (by simp) fun i hi=>?_
 simp only [d7d] at hi;subst hi;refine dE h0 rfl (.inl E0) ha1 ?_
 refine wpAny_all r1 (by simp) fun j hj=>?_
 simp only [List.mem_cons,List.not_mem_nil,or_false] at hj;rcases hj with rfl|rfl
 ·refine dE h1 rfl (.inl (E1 a1 w1 v1r v1q)) ha2 ?_
  refine wpAny_all rA (by simp) fun j hj=>?_
  simp only [List.mem_cons,List.not_mem_nil,or_false] at hj;rcases hj with rfl|rfl
  ·refine dE h2 rfl (.inr ⟨E2 a2 w1 v2p v2x hg,rfl⟩) rfl ?_
   refine wpAny_all rAC (by simp) fun j hj=>?_
   simp only [d7d] at hj;subst hj;refine dE h3 rfl (.inl (E3 a2 _ v2y)) ha3 ?_
   refine wpAny_all rACB (by simp) fun j hj=>?_
   simp only [d7d] at hj;subst hj;exact dE h4 rfl (.inr ⟨E4 a3 _ v3b v3r hbX,rfl⟩) rfl (wpAny_done e1 hfin _)
  ·refine dE h3 rfl (.inl (E3 a2 _ v2y)) ha3 ?_
   refine wpAny_all rAB (by simp) fun j hj=>?_
   simp only [List.mem_cons,List.not_mem_nil,or_false] at hj;rcases hj with rfl|rfl
   ·refine dE h2 rfl (.inr ⟨E2 a3 w1 v3p v3x hg,rfl⟩) rfl ?_
    refine wpAny_all rABC (by simp) fun j hj=>?_
    simp only [d7d] at hj;subst hj;exact dE h4 rfl (.inr ⟨E4 a3 _ v3b v3r hbX,rfl⟩) rfl (wpAny_done e2 hfin _)
   ·refine dE h4 rfl (.inr ⟨E4 a3 _ v3b v3r hob,rfl⟩) rfl ?_
    refine wpAny_all rABD (by simp) fun j hj=>?_
    simp only [d7d] at hj;subst hj;exact dE h2 rfl (.inr ⟨E2 a3 _ v3p v3x hgX,rfl⟩) rfl (wpAny_done e3 (by rw [hcomm];exact hfin) _)
 ·refine dE h3 rfl (.inl (E3 a1 _ v1y)) hab ?_
  refine wpAny_all rB (by simp) fun j hj=>?_
  simp only [List.mem_cons,List.not_mem_nil,or_false] at hj;rcases hj with rfl|rfl
  ·refine dE h1 rfl (.inl (E1 ab _ vbr vbq)) hab3 ?_
   refine wpAny_all rBA (by simp) fun j hj=>?_
   simp only [List.mem_cons,List.not_mem_nil,or_false] at hj;rcases hj with rfl|rfl
   ·refine dE h2 rfl (.inr ⟨E2 a3 w1 v3p v3x hg,rfl⟩) rfl ?_
    refine wpAny_all rBAC (by simp) fun j hj=>?_
    simp only [d7d] at hj;subst hj;exact dE h4 rfl (.inr ⟨E4 a3 _ v3b v3r hbX,rfl⟩) rfl (wpAny_done e4 hfin _)
   ·refine dE h4 rfl (.inr ⟨E4 a3 _ v3b v3r hob,rfl⟩) rfl ?_
    refine wpAny_all rBAD (by simp) fun j hj=>?_
    simp only [d7d] at hj;subst hj;exact dE h2 rfl (.inr ⟨E2 a3 _ v3p v3x hgX,rfl⟩) rfl (wpAny_done e5 (by rw [hcomm];exact hfin) _)
  ·refine dE h4 rfl (.inr ⟨E4 ab _ vbb vbr hob,rfl⟩) rfl ?_
   refine wpAny_all rBD (by simp) fun j hj=>?_
   simp only [d7d] at hj;subst hj;refine dE h1 rfl (.inl (E1 ab _ vbr vbq)) hab3 ?_
   refine wpAny_all rBDA (by simp) fun j hj=>?_
   simp only [d7d] at hj;subst hj;exact dE h2 rfl (.inr ⟨E2 a3 _ v3p v3x hgX,rfl⟩) rfl (wpAny_done e6 (by rw [hcomm];exact hfin) _)
def b9H (P:Program)(G:GT)(t e T:TypeId)(s z r p q x b y:Tmp)(fd:Nat)(Q:St→Prop)(st:St):Prop:=
 ∃(xs:List (List D)) (z0 c:List D) (dZ:List (TypeId×List Loc)) (kb0 off0 fo:Nat) (u:TypeId) (out:Out),(r<st.tmps.length∧p<st.tmps.length∧b<st.tmps.length)∧st.eval G (.tmp s)= .d (.sl xs)∧eZ (.t s) st.own=some (e,dZ)∧(∀c∈xs,c.length=P.cellsOf e)∧st.eval G (.tmp z)= .d (.sl [z0])∧z0.length=P.cellsOf e∧
  (xs.length+1)*(P.bytesOf e+1)≤140737488355328∧st.eval G (.tmp q)= .d (.int .i64 (xs.length:Int))∧st.eval G (.tmp x)= .d (.agg c)∧c.length=P.cellsOf e∧st.eval G (.tmp y)= .ptr kb0 off0∧aK P T fd=some (fo,u)∧P.cellsOf u≠0∧oR P G t (.tmp b) (.tmp r) (tl3 st dZ e r p b xs c kb0 (off0+fo))=some out∧Q out.st
theorem xX {id:Nat}{ops:Array Oper}{Q:Exit→St→Prop}{m:Nat}{t e T:TypeId}{s z r p q x b y:Tmp}{fd:Nat}{y0 y1 y2 y3 y4:TypeId}{p0 p1 p2 p3 p4:String}{f0 f1 f2 f3 f4:Array Edge}(h0:ops[m]? =some ⟨some r,.call { callee:= .builtin .append,args:= #[.tmp s,.tmp z],argTypes:= #[t,t] },y0,p0,f0,none⟩)(h1:ops[m+1]? =some ⟨some p,.indexAddr t (.tmp r) (.tmp q),y1,p1,f1,none⟩)(h2:ops[m+2]? =some ⟨none,.store e (.tmp p) (.tmp x),y2,p2,f2,none⟩)(h3:ops[m+3]? =some ⟨some b,.fieldAddr T (.tmp y) fd,y3,p3,f3,none⟩)(h4:ops[m+4]? =some ⟨none,.store t (.tmp b) (.tmp r),y4,p4,f4,none⟩)(hB:(P.follows .mixedOrders&&c3L ops m&&decide (ops.size=m+5)&&a7N ops (mM m ops.size) m (m+1) (m+2) (m+3) (m+4))=true)(hok:(gC P e&&decide ((r≠q∧r≠x∧r≠p∧r≠b∧r≠y)∧(p≠x∧p≠b∧p≠y)∧b≠q∧b≠x))=true)(hu:P.underlying t=some (.slice e))(hF:a5E ops st=true)(h:VK P G [.ops true ops (ops.toList.take m)] .normal st fun _ s1=>b9H P G t e T s z r p q x b y fd (fun s'=>Q .normal s') s1):SW P G (.region id ops true) st Q:=by
 rw [d6W,d6W,d6W,decide_eq_true_eq] at hB;obtain ⟨⟨⟨hm,hL⟩,hsz⟩,hR⟩:=hB;rw [d6W,decide_eq_true_eq] at hok;have h5:ops.size-m=5:=by rw [hsz];exact Nat.add_sub_cancel_left ..
 refine a8R hm hL hF (b8c h) ?_
 rintro s1 base R μ a w QQ ⟨xs,z0,c,dZ,kb0,off0,fo,u,out,k0,k1,k2,k3,k4,k5,k6,k7,k8,k9,k10,k11,k12,k13,k14⟩ hr hk;rw [h5];exact b5Q (Q:=fun s'=>Q .normal s') h0 h1 h2 h3 h4 hR hok.1 hu hok.2 k0 k1 k2 k3 k4 k5 k6 k7 k8 k9 k10 k11 k12 k13 k14 hr hk
end
end Go.VM
end
section
namespace Go.VM
open Go Go.RowKit
section
variable {P:Program} {G:GT} {st:St} {base:cS} {R:Nat→Nat→Prop} {μ:Nat→Nat} {a:Act} {w:World}
def a8X (P:Program)(G:GT)(all:Array Oper):List Oper→St→(Exit→St→Prop)→Prop
 |[],st,Q=>Q .normal st
 |o::rest,st,Q=>
  match dU o all st.tmps with
  |some true=>
   match gG G o st with
   |some (f,ds)=>(∃r own,(Enters P f∧CS P G f ds r own)∧a8X P G all rest (finish st o.dst r (a1f own)) Q)∨∃s',(Enters P f∧kR P G f (ds.map .d) (jD o) st o.dst s')∧a8X P G all rest s' Q
   |none=>
    match cX G o st with
    |some (f,d6U)=>∃x0,sR P G f d6U (jD o) o.dst st (fun s=>a8X P G all rest s Q) Q x0
    |none=>
     match jJ P G o st with
     |some out=>a8X P G all rest (finish out.st o.dst out.v (a4l false all o out.v out.act)) Q
     |none=>False
  |some false=>a8X P G all rest (finish st o.dst (.cM []) .no) Q
  |none=>False
theorem b9I {all:Array Oper}:∀(l:List Oper) (st:St) (Q:Exit→St→Prop),a8X P G all l st Q→∀(base:cS) (R:Nat→Nat→Prop) (μ:Nat→Nat) (a:Act) (w:World),Rel P G base R μ st a w→
  ∀QQ:Exit→Act→World→Prop,(∀e s a' w' R' μ',Q e s→Rel P G base R' μ' s a' w'→Step base R w R' w'→QQ e a' w')→wpList P all QQ l a w
 |[],st,Q,h,base,R,μ,a,w,hr,QQ,hk=>hk _ st a w R μ h hr (.refl _ _ _)
 |o::rest,st,Q,h,base,R,μ,a,w,hr,QQ,hk=>by
  have go:kH P G false all o (fun s=>a8X P G all rest s Q) st→wpList P all QQ (o::rest) a w:=fun h1=>by unfold wpList;exact pC h1 hr fun s v w' R' μ' h' hr' hs'=>b9I rest s Q h' base R' μ' _ w' hr' QQ fun e s a' w2 R2 μ2 q1 q2 q3=>hk e s a' w2 R2 μ2 q1 q2 (hs'.trans q3)
  unfold a8X at h;split at h
  ·rename_i hw;split at h
   ·rename_i f ds hc;refine go ?_
    unfold kH;rw [hw,hc];rcases h with ⟨r,own,h1,h2⟩|⟨s',h1,h2⟩
    ·exact .inl ⟨r,own,h1,fun e=>Bool.noConfusion e,by simpa using h2⟩
    ·exact .inr ⟨by simp [pB],s',h1,h2⟩
   ·rename_i hc;split at h
    ·rename_i f d6U hH;obtain ⟨x0,h0⟩:=h;unfold sR at h0;obtain ⟨he,h1,h2⟩:=h0;cases x0 with
     |true=>
      obtain ⟨s',h3,h4⟩:=h1 rfl;refine go ?_
      unfold kH;rw [hw,hc,hH];simp only [pB,Bool.false_and,xL,Bool.false_eq_true,if_false];exact ⟨s',⟨he,h3⟩,h4⟩
     |false=>obtain ⟨v,h3,h4⟩:=h2 rfl;unfold wpList;rw [zA hr hw,if_pos rfl];exact .inl (a3I hH ⟨he,h3⟩ hr fun R' w' hs hb=>hk _ _ _ w' R' μ h4 (hr.a4M hs hb) hs)
    ·rename_i hH;split at h
     ·rename_i out hv;refine go ?_
      unfold kH;rw [hw,hc,hH,hv];exact h
     ·exact h.elim
  ·rename_i hw;refine go ?_
   unfold kH;rw [hw];exact h
  ·exact h.elim
def XW (P:Program)(G:GT):Code→St→(Exit→St→Prop)→Prop
 | .skip,st,Q=>Q .normal st
 | .region id ops draw,st,Q=>match draw with
  |true=>SW P G (.region id ops true) st Q
  |false=>a8X P G ops ops.toList st Q
 | .seq x y,st,Q=>XW P G x st fun e s=>match e with
  | .normal=>XW P G y s Q
  |e=>Q e s
 | .cond c x y,st,Q=>
  match st.eval G c with
  | .d (.bool t)=>if t then XW P G x st Q else XW P G y st Q
  | .mW=>XW P G x st Q∧XW P G y st Q
  |_=>False
 | .block id c,st,Q=>XW P G c st fun e s=>match e with
  | .exit id'=>if id'=id then Q .normal s else Q (.exit id') s
  |e=>Q e s
 | .loop c,st,Q=>SW P G (.loop c) st Q
 | .exit id,st,Q=>Q (.exit id) st
 | .ret,st,Q=>Q .ret st
 | .label _,st,Q=>Q .normal st
 | .scope c,st,Q=>XW P G c st fun e s=>match e with
  | .goto _=>False
  |e=>Q e s
 |_,_,_=>False
theorem a4P:∀(c:Code) (st:St) (Q:Exit→St→Prop),XW P G c st Q→SW P G c st Q
 | .skip,st,Q,h=>fun base R μ a w hr=>wp_skip ⟨st,R,μ,h,hr,.refl _ _ _⟩
 | .region id ops draw,st,Q,h=>by
  unfold XW at h;cases draw with
  |true=>exact h
  |false=>exact fun base R μ a w hr=>wp_region_list (b9I ops.toList st Q h base R μ a w hr _ fun e s a' w' R' μ' q1 q2 q3=>⟨s,R',μ',q1,q2,q3⟩)
 | .seq x y,st,Q,h=>fun base R μ a w hr=>wp_seq (wp_mono (a4P x st _ h base R μ a w hr) fun e a1 w1 ⟨s,R1,μ1,q1,q2,q3⟩=>by
   cases e with
   |normal=>exact wp_mono (a4P y s Q q1 base R1 μ1 a1 w1 q2) fun e2 a2 w2 ⟨s2,R2,μ2,p1,p2,p3⟩=>⟨s2,R2,μ2,p1,p2,q3.trans p3⟩
   |_=>exact ⟨s,R1,μ1,q1,q2,q3⟩)
 | .cond c x y,st,Q,h=>fun base R μ a w hr=>by
  unfold XW at h;split at h
  ·rename_i t hc;refine wp_cond (hr.yZ hc) ?_
   cases t
   ·exact a4P y st Q h base R μ a w hr
   ·exact a4P x st Q h base R μ a w hr
  ·rename_i hc;obtain ⟨t,ht⟩:=hr.b9o hc;refine wp_cond ht ?_
   cases t
   ·exact a4P y st Q h.2 base R μ a w hr
   ·exact a4P x st Q h.1 base R μ a w hr
  ·cases h
 | .block id c,st,Q,h=>fun base R μ a w hr=>wp_block (wp_mono (a4P c st _ h base R μ a w hr) fun e a1 w1 ⟨s,R1,μ1,q1,q2,q3⟩=>by
   cases e with
   |exit id'=>
    simp only [Exit.inBlock];simp only at q1;by_cases hid:id'=id
    ·rw [if_pos hid] at q1 ⊢;exact ⟨s,R1,μ1,q1,q2,q3⟩
    ·rw [if_neg hid] at q1 ⊢;exact ⟨s,R1,μ1,q1,q2,q3⟩
   |_=>exact ⟨s,R1,μ1,q1,q2,q3⟩)
 | .loop c,st,Q,h=>h
 | .exit id,st,Q,h=>fun base R μ a w hr=>wp_exit ⟨st,R,μ,h,hr,.refl _ _ _⟩
 | .ret,st,Q,h=>fun base R μ a w hr=>wp_ret ⟨st,R,μ,h,hr,.refl _ _ _⟩
 | .rangeFunc ..,_,_,h=>by simp [XW] at h
 | .scope c,st,Q,h=>fun base R μ a w hr=>wp_scope_straight (wp_mono (a4P c st _ h base R μ a w hr) fun e a1 w1 ⟨s,R1,μ1,q1,q2,q3⟩=>by
   cases e with
   |goto l=>exact q1.elim
   |_=>exact ⟨s,R1,μ1,q1,q2,q3⟩)
 | .label l,st,Q,h=>fun base R μ a w hr=>wp_label ⟨st,R,μ,h,hr,.refl _ _ _⟩
 | .goto ..,_,_,h=>by simp [XW] at h
inductive XI where
 |code (c:Code)
 |blk (id:Nat)
 |ops (all:Array Oper) (rest:List Oper)
 |scp
def XK (P:Program)(G:GT):List XI→Exit→St→(Exit→St→Prop)→Prop
 |[],e,st,Q=>Q e st
 | .code c::k,.normal,st,Q=>XW P G c st fun e s=>XK P G k e s Q
 | .code _::k,e,st,Q=>XK P G k e st Q
 | .blk id::k,.exit id',st,Q=>if id'=id then XK P G k .normal st Q else XK P G k (.exit id') st Q
 | .blk _::k,e,st,Q=>XK P G k e st Q
 | .ops all rest::k,.normal,st,Q=>a8X P G all rest st fun e s=>XK P G k e s Q
 | .ops _ _::k,e,st,Q=>XK P G k e st Q
 | .scp::_,.goto _,_,_=>False
 | .scp::k,e,st,Q=>XK P G k e st Q
def b5R (P:Program)(G:GT)(v:DV)(x y:Code)(k:List XI)(st:St)(Q:Exit→St→Prop):Prop:=
 match v with
 | .d (.bool t)=>if t then XK P G (.code x::k) .normal st Q else XK P G (.code y::k) .normal st Q
 | .mW=>XK P G (.code x::k) .normal st Q∧XK P G (.code y::k) .normal st Q
 |_=>False
end
section
variable {P:Program} {G:GT} {k:List XI} {st:St} {Q:Exit→St→Prop}
theorem d2Y (e:Exit):XK P G [] e st Q=Q e st:=rfl
theorem c8M:XK P G (.code .skip::k) .normal st Q=XK P G k .normal st Q:=rfl
theorem d2Z (x y:Code):XK P G (.code (.seq x y)::k) .normal st Q=XK P G (.code x:: .code y::k) .normal st Q:=by simp only [XK,XW];congr 1;funext e s;cases e<;>rfl
theorem c8N (c:Operand)(x y:Code):XK P G (.code (.cond c x y)::k) .normal st Q=b5R P G (st.eval G c) x y k st Q:=rfl
theorem c3Q (id:Nat)(c:Code):XK P G (.code (.block id c)::k) .normal st Q=XK P G (.code c:: .blk id::k) .normal st Q:=by simp only [XK,XW];congr 1;funext e s;cases e<;>rfl
theorem c3R (l:Nat):XK P G (.code (.label l)::k) .normal st Q=XK P G k .normal st Q:=rfl
theorem b0E:XK P G (.scp::k) .normal st Q=XK P G k .normal st Q:=rfl
theorem b8f:XK P G (.scp::k) .ret st Q=XK P G k .ret st Q:=rfl
theorem b5S (id:Nat):XK P G (.scp::k) (.exit id) st Q=XK P G k (.exit id) st Q:=rfl
theorem c1b (id:Nat)(ops:Array Oper):XK P G (.code (.region id ops false)::k) .normal st Q=XK P G (.ops ops ops.toList::k) .normal st Q:=rfl
theorem c3S (id:Nat)(ops:Array Oper):XK P G (.code (.region id ops true)::k) .normal st Q=SW P G (.region id ops true) st (fun e s=>XK P G k e s Q):=rfl
theorem c8O (id:Nat):XK P G (.code (.exit id)::k) .normal st Q=XK P G k (.exit id) st Q:=rfl
theorem d3a:XK P G (.code .ret::k) .normal st Q=XK P G k .ret st Q:=rfl
theorem c8P (c:Code):XK P G (.code (.loop c)::k) .normal st Q=SW P G (.loop c) st (fun e s=>XK P G k e s Q):=rfl
theorem b5T (c:Code):XK P G (.code c::k) .ret st Q=XK P G k .ret st Q:=rfl
theorem b3l (c:Code)(id:Nat):XK P G (.code c::k) (.exit id) st Q=XK P G k (.exit id) st Q:=rfl
theorem b0F (id:Nat):XK P G (.blk id::k) .normal st Q=XK P G k .normal st Q:=rfl
theorem b8g (id:Nat):XK P G (.blk id::k) .ret st Q=XK P G k .ret st Q:=rfl
theorem b5U (id id':Nat):XK P G (.blk id::k) (.exit id') st Q=if id'=id then XK P G k .normal st Q else XK P G k (.exit id') st Q:=rfl
theorem b8h (all:Array Oper):XK P G (.ops all []::k) .normal st Q=XK P G k .normal st Q:=rfl
theorem zH (ps:List PanicEntry):∀k:List XI,XK P G k (.panic ps) st Q=Q (.panic ps) st
 |[]=>rfl
 | .code _::k=>by simpa only [XK] using zH ps k
 | .blk _::k=>by simpa only [XK] using zH ps k
 | .ops _ _::k=>by simpa only [XK] using zH ps k
 | .scp::k=>by simpa only [XK] using zH ps k
def kP (P:Program)(G:GT)(f:FuncId)(ds:List D)(ls:List (Option Loc))(dst:Option Tmp)(all:Array Oper)(rest:List Oper)(k:List XI)(st:St)(Q:Exit→St→Prop):Prop:=
 (∃r own,(Enters P f∧CS P G f ds r own)∧XK P G (.ops all rest::k) .normal (finish st dst r (a1f own)) Q)∨
 (∃s',(Enters P f∧kR P G f (ds.map .d) ls st dst s')∧XK P G (.ops all rest::k) .normal s' Q)
theorem kP.mk {ls:List (Option Loc)}{f:FuncId}{ds:List D}{r:DV}{own:Option TypeId}{dst:Option Tmp}{all:Array Oper}{rest:List Oper}(he:Enters P f)(hc:CS P G f ds r own)(h:XK P G (.ops all rest::k) .normal (finish st dst r (a1f own)) Q):kP P G f ds ls dst all rest k st Q:= .inl ⟨r,own,⟨he,hc⟩,h⟩
def b1R (P:Program)(G:GT)(x:Option Out)(dst:Option Tmp)(all:Array Oper)(rest:List Oper)(k:List XI)(Q:Exit→St→Prop):Prop:=
 match x with
 |some out=>XK P G (.ops all rest::k) .normal (finish out.st dst out.v out.act) Q
 |none=>False
theorem b8i {st':St}{v:DV}{act:OA}{dst:Option Tmp}{all:Array Oper}{rest:List Oper}:b1R P G (some ⟨v,act,st'⟩) dst all rest k Q=XK P G (.ops all rest::k) .normal (finish st' dst v act) Q:=rfl
theorem qL {c:Prop}[Decidable c]{out:Out}{dst:Option Tmp}{all:Array Oper}{rest:List Oper}(hc:c)(h:b1R P G (some out) dst all rest k Q):b1R P G (if c then some out else none) dst all rest k Q:=by rw [if_pos hc];exact h
theorem b8j (x y:Code):b5R P G (.d (.bool true)) x y k st Q=XK P G (.code x::k) .normal st Q:=rfl
theorem c1c (x y:Code):b5R P G .mW x y k st Q=(XK P G (.code x::k) .normal st Q∧XK P G (.code y::k) .normal st Q):=rfl
theorem b5V (x y:Code):b5R P G (.d (.bool false)) x y k st Q=XK P G (.code y::k) .normal st Q:=rfl
def gW (P:Program)(G:GT)(f:FuncId)(d6U:List DV)(ls:List (Option Loc))(dst:Option Tmp)(all:Array Oper)(rest:List Oper)(k:List XI)(st:St)(Q:Exit→St→Prop):Prop:=
 ∃x0,sR P G f d6U ls dst st (fun s=>XK P G (.ops all rest::k) .normal s Q) (fun e s=>XK P G k e s Q) x0
theorem gW.mk {f:FuncId}{d6U:List DV}{ls:List (Option Loc)}{dst:Option Tmp}{all:Array Oper}{rest:List Oper}{x0:Bool}(h:sR P G f d6U ls dst st (fun s=>XK P G (.ops all rest::k) .normal s Q) Q x0):gW P G f d6U ls dst all rest k st Q:=by
 refine ⟨x0,?_⟩;unfold sR at h ⊢;refine ⟨h.1,h.2.1,fun h0=>?_⟩;obtain ⟨v,h1,h2⟩:=h.2.2 h0;refine ⟨v,h1,?_⟩
 show XK P G k (.panic (vQ v)) (xV st) Q
 rw [zH];exact h2
def a1C (P:Program)(G:GT)(o:Oper)(all:Array Oper)(rest:List Oper)(k:List XI)(st:St)(Q:Exit→St→Prop):Prop:=
 match gG G o st with
 |some (f,ds)=>kP P G f ds (jD o) o.dst all rest k st Q
 |none=>
  match cX G o st with
  |some (f,d6U)=>gW P G f d6U (jD o) o.dst all rest k st Q
  |none=>b1R P G ((jJ P G o st).map fun out=>⟨out.v,a4l false all o out.v out.act,out.st⟩) o.dst all rest k Q
def a0l (P:Program)(G:GT)(y:DV)(want:Bool)(o:Oper)(all:Array Oper)(rest:List Oper)(k:List XI)(st:St)(Q:Exit→St→Prop):Prop:=
 match y with
 | .undef=>False
 | .mW=>False
 | .d (.bool b)=>if b=want then a1C P G o all rest k st Q else XK P G (.ops all rest::k) .normal (finish st o.dst (.cM []) .no) Q
 |_=>XK P G (.ops all rest::k) .normal (finish st o.dst (.cM []) .no) Q
theorem xY (b want:Bool)(o:Oper)(all:Array Oper)(rest:List Oper):a0l P G (.d (.bool b)) want o all rest k st Q=if b=want then a1C P G o all rest k st Q else XK P G (.ops all rest::k) .normal (finish st o.dst (.cM []) .no) Q:=rfl
theorem b8k (ds:List D)(want:Bool)(o:Oper)(all:Array Oper)(rest:List Oper):a0l P G (.cM ds) want o all rest k st Q=XK P G (.ops all rest::k) .normal (finish st o.dst (.cM []) .no) Q:=rfl
theorem c1d (o:Oper)(all:Array Oper)(rest:List Oper):a0l P G (.d (.bool true)) true o all rest k st Q=a1C P G o all rest k st Q:=by rw [xY,if_pos rfl]
theorem c1e (o:Oper)(all:Array Oper)(rest:List Oper):a0l P G (.d (.bool false)) false o all rest k st Q=a1C P G o all rest k st Q:=by rw [xY,if_pos rfl]
theorem c1f (o:Oper)(all:Array Oper)(rest:List Oper):a0l P G (.d (.bool true)) false o all rest k st Q=XK P G (.ops all rest::k) .normal (finish st o.dst (.cM []) .no) Q:=by rw [xY,if_neg (by decide)]
theorem c1g (o:Oper)(all:Array Oper)(rest:List Oper):a0l P G (.d (.bool false)) true o all rest k st Q=XK P G (.ops all rest::k) .normal (finish st o.dst (.cM []) .no) Q:=by rw [xY,if_neg (by decide)]
theorem a6W (all:Array Oper)(o:Oper)(rest:List Oper):XK P G (.ops all (o::rest)::k) .normal st Q=match dU o all st.tmps with
  |some true=>a1C P G o all rest k st Q
  |some false=>XK P G (.ops all rest::k) .normal (finish st o.dst (.cM []) .no) Q
  |none=>False:=by
 simp only [XK,a8X,a1C,kP,gW,b1R];cases dU o all st.tmps with
 |none=>rfl
 |some b=>
  cases b with
  |false=>rfl
  |true=>
   simp only;cases gG G o st with
   |some p=>rfl
   |none=>
    simp only;cases cX G o st with
    |some p=>rfl
    |none=>simp only;cases jJ P G o st<;>rfl
theorem b5W (all:Array Oper)(dst:Option Tmp)(op:Op)(ty:TypeId)(pos:String)(after:Array Edge)(rest:List Oper):
  XK P G (.ops all (⟨dst,op,ty,pos,after,none⟩::rest)::k) .normal st Q=a1C P G ⟨dst,op,ty,pos,after,none⟩ all rest k st Q:=by
 rw [a6W]
 rfl
theorem b3m (all:Array Oper)(dst:Option Tmp)(op:Op)(ty:TypeId)(pos:String)(after:Array Edge)(j:Nat)(want:Bool)(rest:List Oper):
  XK P G (.ops all (⟨dst,op,ty,pos,after,some (j,want)⟩::rest)::k) .normal st Q=a0l P G (qT all st.tmps j) want ⟨dst,op,ty,pos,after,some (j,want)⟩ all rest k st Q:=by
 rw [a6W];simp only [dU,a0l];generalize qT all st.tmps j=y;cases y with
 |d x=>
  cases x with
  |bool b=>cases b<;>cases want<;>rfl
  |_=>rfl
 |_=>rfl
theorem SW.xk {c:Code}(h:XK P G [.code c] .normal st Q):SW P G c st Q:=a4P c st Q h
theorem SW.vG {c:Code}{ι:Type}(ws:ι→List (Nat×DV))(H:ι→List (Nat×aY))(own:ι→List (TypeId×List Loc))(m:ι→Nat)(x0:ι)(h0:vM st (mE c st (ws x0) (H x0) (own x0)))(round:∀x,XK P G [.code c] .normal (mE c st (ws x) (H x) (own x)) fun e s=>match e with
   | .normal=>bQ (fun y=>mE c st (ws y) (H y) (own y)) m x s
   |e=>Q e s):SW P G (.loop c) st Q:=SW.d4M ws H own m x0 h0 fun x=>SW.xk (round x)
end
attribute [irreducible] XK kP gW b1R b5R a0l
attribute [simp] c3R b0E b8f b5S d2Y c8M d2Z c8N c3Q c1b c3S c8O d3a c8P b5T b3l b0F b8g b5U b8h b5W b3m a1C b8i b8j b5V c1c b8k c1d c1e c1f c1g zH
end Go.VM
end
section
namespace Go.VM
open Go Go.RowKit
section
variable {P:Program} {G:GT} {st:St} {base:cS} {R:Nat→Nat→Prop} {μ:Nat→Nat} {a:Act} {w:World}
def a2r:Op→Bool
 | .move _=>true
 | .nilCheck _=>true
 | .fieldAddr _ _ _=>true
 |_=>false
theorem a8Y {o:Oper}{all:Array Oper}{K:St→Prop}(hg:o.guard=none)(hk:a2r o.op=true)(h:kH P G true all o K st)(hr:Rel P G base R μ st a w):∃v,∀w',(execOp a.eval o).run P w'= .ok (.value v) w':=by
 unfold kH at h;rw [show dU o all st.tmps=some true from by unfold dU;rw [hg]] at h;cases hop:o.op with
 |move x=>exact ⟨a.eval x,fun w'=>by simp [execOp,hop]⟩
 |nilCheck x=>
  simp only [gG,cX,hop,jJ] at h;unfold rP at h;split at h
  ·rename_i out ho;split at ho
   ·rename_i k off hx;exact ⟨_,fun w'=>by simp [execOp,hop,hr.dJ hx];rfl⟩
   ·rename_i cs hx;obtain ⟨b,off,he,_⟩:=(hr.kG hx).a1c;exact ⟨_,fun w'=>by simp [execOp,hop,he];rfl⟩
   ·rename_i f hx;exact ⟨_,fun w'=>by simp [execOp,hop,hr.a7W hx];rfl⟩
   ·rename_i f cs hx;obtain ⟨vs,he,_,_⟩:=(hr.kG hx).a4h;exact ⟨_,fun w'=>by simp [execOp,hop,he];rfl⟩
   ·cases ho
  ·exact h.elim
 |fieldAddr t x i=>
  simp only [gG,cX,hop,jJ] at h;unfold pN at h;split at h
  ·rename_i out ho;split at ho
   ·rename_i off u hf;split at ho
    ·cases ho
    ·rename_i hne;split at ho
     ·rename_i k o2 hx;exact ⟨_,fun w'=>tG (P:=P) hop hf hne (hr.dJ hx)⟩
     ·rename_i cs hx;obtain ⟨b,o2,he,_⟩:=(hr.kG hx).a1c;exact ⟨_,fun w'=>tG (P:=P) hop hf hne he⟩
     ·cases ho
   ·cases ho
  ·exact h.elim
 |_=>simp [a2r,hop] at hk
theorem b5X {o:Oper}{all:Array Oper}{K:St→Prop}(hg:o.guard=none)(hk:a2r o.op=true)(h:kH P G true all o K st)(hr:Rel P G base R μ st a w):
  ∃v s R' μ',(∀w',(execOp a.eval o).run P w'= .ok (.value v) w')∧K s∧Rel P G base R' μ' s (a.put o.dst v) w∧Step base R w R' w:=by
 obtain ⟨v,hv⟩:=a8Y hg hk h hr;have h1:=pC (Q:=fun _ _ _=>False) (KK:=fun a' w'=>∃s R' μ',K s∧Rel P G base R' μ' s a' w'∧Step base R w R' w') h hr (fun s v w' R' μ' q1 q2 q3=>⟨s,R',μ',q1,q2,q3⟩);rw [if_pos (by unfold Region.wanted;rw [hg])] at h1;rcases h1 with h1|⟨_,_,_,h2⟩
 ·unfold Oper.wp at h1;rw [hv w] at h1;obtain ⟨s,R',μ',q1,q2,q3⟩:=h1;exact ⟨v,s,R',μ',hv,q1,q2,q3⟩
 ·exact h2.elim
def a8Z (ops:Array Oper):List Nat→Array Bool→Bool
 |[],_=>true
 |i::r,listed=>(match ops[i]? with
  |some o=>a2r o.op&&(o.guard==none)&&o.dst.isSome
  |none=>false)&&Region.noSelect ops&&Region.free .any ops listed i&&(Region.ready .any ops listed).contains i&&a8Z ops r (listed.setIfInBounds i true)
theorem b3n {ops:Array Oper}{K:St→Prop}{QQ:Exit→Act→World→Prop}(hQ:∀c a a' w,a.defers=a'.defers→a.tmps.size=a'.tmps.size→QQ (.panic c) a w→QQ (.panic c) a' w):∀(l:List Nat) (listed:Array Bool) (fuel:Nat) (st:St),a8Z ops l listed=true→qQ P G true ops (zO ops l) st K→
  ∀(base:cS) (R:Nat→Nat→Prop) (μ:Nat→Nat) (a:Act) (w:World),Rel P G base R μ st a w→(∀s a' R' μ',K s→Rel P G base R' μ' s a' w→Step base R w R' w→wpAny P .any ops QQ fuel (cA l listed) a' w)→wpAny P .any ops QQ (l.length+fuel) listed a w
 |[],listed,fuel,st,_,h,base,R,μ,a,w,hr,hk=>by simpa [cA] using hk st a R μ h hr (.refl _ _ _)
 |i::l,listed,fuel,st,hB,h,base,R,μ,a,w,hr,hk=>by
  simp only [a8Z,d6W] at hB;obtain ⟨⟨⟨⟨ho,hsel⟩,hf⟩,hrd⟩,hB'⟩:=hB;split at ho;rotate_left
  ·cases ho
  rename_i o hoi;simp only [d6W,beq_iff_eq] at ho;obtain ⟨⟨hsk,hg⟩,hd⟩:=ho;simp only [zO,hoi,qQ] at h;obtain ⟨v,s,R',μ',hv,hK,hr',hs'⟩:=b5X hg hsk h hr;rw [show (i::l).length+fuel=(l.length+fuel)+1 by simp only [List.length_cons];omega];refine wpAny_take (v:=v) hoi hsel hf hrd (fun c a w h=>hQ c _ _ w ?_ ?_ h) (.inl ⟨by unfold Region.wanted;rw [hg],hv⟩) ?_
  ·cases o.dst<;>rfl
  ·cases o.dst<;>simp [Act.put]
  ·exact b3n hQ l _ fuel s hB' hK base R' μ' _ w hr' fun s2 a2 R2 μ2 q1 q2 q3=>hk s2 a2 R2 μ2 q1 q2 (hs'.trans q3)
def uK (Q:Exit→St→Prop):Exit→St→Prop:=fun e s=>match e with
 | .panic c=>∀s,Q (.panic c) s
 |e=>Q e s
theorem b3o {Q:Exit→St→Prop}{s:St}:uK Q .normal s=Q .normal s:=rfl
theorem a1D {Q:Exit→St→Prop}{s:St}{c:List PanicEntry}:uK Q (.panic c) s=∀s,Q (.panic c) s:=rfl
theorem a9a {Q:Exit→St→Prop}{e:Exit}{s:St}(h:uK Q e s):Q e s:=by cases e<;>first|exact h|exact h s
theorem Rel.a9b (hr:Rel P G base R μ st a w)(a':Act)(hd:a'.defers=[]):Rel P G base R μ ⟨List.replicate a'.tmps.size .undef,[],[]⟩ a' w where
 defers:=hd
 size:=by simp
 tmps:=fun i v d _ hd=>by
  rw [List.getElem?_replicate] at hd;split at hd
  ·simp at hd;subst hd;exact .undef _
  ·cases hd
 gL:=fun k o h=>by cases h
 inj:=fun k k' o o' h=>by cases h
 dR:=fun c hc=>by cases hc
 own:=⟨[],rfl,fun i c v h _=>by simp at h,.nil⟩
 rX:=hr.rX
 mY:=hr.mY
 base:=hr.base
 pass:=hr.pass
theorem a1E {ops:Array Oper}:∀(l:List Nat) (listed:Array Bool),a8Z ops l listed=true→eI ops listed→eI ops (cA l listed)
 |[],_,_,h=>h
 |i::l,listed,hB,h=>by simp only [a8Z,d6W] at hB;exact a1E l _ hB.2 (h.set (by simpa using hB.1.2))
def d0T (ops:Array Oper)(ss:List Nat)(c:Nat)(anc:List Nat)(T:Ord):Bool:=(eH ops).isEmpty&&a8Z ops ss (Array.replicate ops.size false)&&decide (ss.length+anc.length+1≤ops.size)&&inB ops c anc&&a4J ops c anc (cA ss (Array.replicate ops.size false))&& !(Region.ready .any ops (cA anc (cA ss (Array.replicate ops.size false)))).isEmpty&&((Region.ready .any ops (cA anc (cA ss (Array.replicate ops.size false)))).all fun j=>a0j c T j)&&a8U ops c T (ops.size-ss.length-anc.length) (cA anc (cA ss (Array.replicate ops.size false)))
theorem eI.zero {ops:Array Oper}:eI ops (Array.replicate ops.size false):=fun k hk=>by
 rcases Nat.lt_or_ge k ops.size with h'|h'
 ·simp [h'] at hk
 ·simp [Nat.not_lt.2 h'] at hk
theorem jY {id:Nat}{ops:Array Oper}{Q:Exit→St→Prop}(ss:List Nat)(c:Nat)(anc:List Nat)(T:Ord)(x0:Bool)(hm:P.follows .mixedOrders=true)(hB:d0T ops ss c anc T=true)(h:VK P G [.ops true ops (zO ops ss)] .normal st fun _ s=>VK P G [.ops true ops (zO ops anc)] .normal s fun _ s=>mN P G ops c (uK Q) x0 T s):SW P G (.region id ops true) st Q:=by
 simp only [d0T,d6W,List.isEmpty_iff,decide_eq_true_eq,Bool.not_eq_true',List.isEmpty_eq_false_iff,d6Z] at hB;obtain ⟨⟨⟨⟨⟨⟨⟨hN,hst⟩,hlen⟩,hin⟩,hs⟩,hne⟩,hall⟩,ht⟩:=hB;obtain ⟨k,hk⟩:=Nat.exists_eq_add_of_le hlen;have hcl:=a1E ss _ hst eI.zero;have e:ops.size-ss.length-anc.length=k+1:=by omega
 rw [e] at ht;refine SW.mono (fun e s=>a9a) ?_
 intro base R μ a w hr;obtain ⟨hr',hs'⟩:=hr.drew;refine wp_region_any hm ?_
 simp only [VK] at h;have main:=b3n (QQ:=fun e a' w'=>∃s' R' μ',uK Q e s'∧Rel P G base R' μ' s' a' w'∧Step base R w R' w') (K:=fun s=>qQ P G true ops (zO ops anc) s fun s=>mN P G ops c (uK Q) x0 T s) (fun c a a' w h1 h2 ⟨s',R',μ',q1,q2,q3⟩=>⟨⟨List.replicate a'.tmps.size .undef,[],[]⟩,R',μ',q1,q2.a9b a' (h1▸q2.defers),q3⟩) ss _ (anc.length+(k+1)) st hst h base R μ a w.drew hr' fun s a' R1 μ1 q1 q2 q3=>by
  cases x0 with
  |false=>have h2:=rT (fun s hs=>mN.pan T s hs) _ _ q1;have:=a2p (P:=P) (G:=G) (c:=c) (Z:=xW P G ops c (uK Q)) hN anc _ s (k+1) hcl hin hs (qK (fun s hs'=>⟨hne,fun j hj=>a1B T k _ s ht hs' j hj (hall j hj)⟩) _ _ (sH anc s hin h2));exact a4N _ _ s this base R1 μ1 a' w.drew q2 fun v s a' w' R' μ' p1 p2 p3=>⟨s,R',μ',p1,p2,hs'.trans (q3.trans p3)⟩
  |true=>
   have h2:=rT (fun s hs=>mN.ret T s hs) _ _ q1;have:=a2o (P:=P) (G:=G) (c:=c) (Q:=fun s=>uK Q .normal s) hN anc _ s (k+1) hcl hs (qK (fun s hs'=>⟨fun h'=>(hne h').elim,fun j hj=>a4K hN T k _ s (eI.cA anc _ hcl hs) ht hs' j hj (hall j hj)⟩) _ _ (sH anc s hin h2)) fun _=>trivial
   exact a4I _ _ s this base R1 μ1 a' w.drew q2 fun s a' w' R' μ' p1 p2 p3=>⟨s,R',μ',p1,p2,hs'.trans (q3.trans p3)⟩
 rw [show ss.length+(anc.length+(k+1))=ops.size by omega] at main;exact main
def b3p (ops:Array Oper)(m:Nat)(ss:List Nat)(c:Nat)(anc:List Nat)(T:Ord):Bool:=(eH ops).isEmpty&&a8Z ops ss (Array.replicate ops.size false)&&c3O m ss&&decide (ss.length+anc.length+1≤m)&&decide (m≤ops.size)&&tV ops m&&c3O m anc&&inB ops c anc&&a4J ops c anc (cA ss (Array.replicate ops.size false))&& !(Region.ready .any ops (cA anc (cA ss (Array.replicate ops.size false)))).isEmpty&&((Region.ready .any ops (cA anc (cA ss (Array.replicate ops.size false)))).all fun j=>a0j c T j)&&a3e ops m c T (m-ss.length-anc.length) (cA anc (cA ss (Array.replicate ops.size false)))
theorem a4Q {id:Nat}{ops:Array Oper}{m:Nat}{TT:St→Prop}{Q:Exit→St→Prop}(ss:List Nat)(c:Nat)(anc:List Nat)(T:Ord)(x0:Bool)(hm:P.follows .mixedOrders=true)(hB:b3p ops m ss c anc T=true)(h:VK P G [.ops true ops (zO ops ss)] .normal st fun _ s=>VK P G [.ops true ops (zO ops anc)] .normal s fun _ s=>mN P G ops c (a8W TT (uK Q)) x0 T s)(hT:∀s base R μ a w (QQ:Exit→Act→World→Prop),TT s→Rel P G base R μ s a w→(∀s' a' w' R' μ',Q .normal s'→Rel P G base R' μ' s' a' w'→Step base R w R' w'→QQ .normal a' w')→wpAny P .any ops QQ (ops.size-m) (mM m ops.size) a w):SW P G (.region id ops true) st Q:=by
 simp only [b3p,d6W,List.isEmpty_iff,decide_eq_true_eq,Bool.not_eq_true',List.isEmpty_eq_false_iff,d6Z] at hB;obtain ⟨⟨⟨⟨⟨⟨⟨⟨⟨⟨⟨hN,hst⟩,hlowS⟩,hlen⟩,hmle⟩,hTA⟩,hlow⟩,hin⟩,hs⟩,hne⟩,hall⟩,ht⟩:=hB;obtain ⟨k,hk⟩:=Nat.exists_eq_add_of_le hlen;have hcl:=a1E ss _ hst eI.zero;have e:m-ss.length-anc.length=k+1:=by omega
 rw [e] at ht;obtain ⟨k',hk'⟩:=Nat.exists_eq_add_of_le (Nat.le_trans hlen hmle);refine SW.mono (fun e s=>a9a) ?_
 intro base R μ a w hr;obtain ⟨hr',hs'⟩:=hr.drew;refine wp_region_any hm ?_
 simp only [VK] at h;have main:=b3n (QQ:=fun e a' w'=>∃s' R' μ',uK Q e s'∧Rel P G base R' μ' s' a' w'∧Step base R w R' w') (K:=fun s=>qQ P G true ops (zO ops anc) s fun s=>mN P G ops c (a8W TT (uK Q)) x0 T s) (fun c a a' w h1 h2 ⟨s',R',μ',q1,q2,q3⟩=>⟨⟨List.replicate a'.tmps.size .undef,[],[]⟩,R',μ',q1,q2.a9b a' (h1▸q2.defers),q3⟩) ss _ (anc.length+(k'+1)) st hst h base R μ a w.drew hr' fun s a' R1 μ1 q1 q2 q3=>by
  cases x0 with
  |false=>have h2:=rT (fun s hs=>mN.pan T s hs) _ _ q1;have:=a2p (P:=P) (G:=G) (c:=c) (Z:=xW P G ops c (a8W TT (uK Q))) hN anc _ s (k'+1) hcl hin hs (qK (fun s hs'=>⟨hne,fun j hj=>a2q T k k' _ s (by omega) ht hs' j hj (hall j hj)⟩) _ _ (sH anc s hin h2));exact a4N _ _ s this base R1 μ1 a' w.drew q2 fun v s a' w' R' μ' p1 p2 p3=>⟨s,R',μ',p1,p2,hs'.trans (q3.trans p3)⟩
  |true=>
   have h2:=rT (fun s hs=>mN.ret T s hs) _ _ q1;have h3:=a3J (P:=P) (G:=G) (m:=m) (c:=c) (Q:=TT) hTA hN anc _ s (k+1) hlow hcl hs (qK (fun s hs'=>⟨hne,fun j hj=>a4O hTA hN T k _ s (eI.cA anc _ hcl hs) ht hs' j hj (hall j hj)⟩) _ _ (sH anc s hin h2));have h4:=b1Q (r:=ops.size-m) (QQ:=fun e a' w'=>∃s' R' μ',uK Q e s'∧Rel P G base R' μ' s' a' w'∧Step base R w R' w') _ _ s h3 base R1 μ1 a' w.drew q2 fun s a' w' R' μ' p1 p2 p3=>hT s base R' μ' a' w' _ p1 p2 fun s2 a2 w2 R2 μ2 o1 o2 o3=>⟨s2,R2,μ2,o1,o2,hs'.trans (q3.trans (p3.trans o3))⟩
   rw [show anc.length+(k+1)+(ops.size-m)=anc.length+(k'+1) by omega] at h4;exact h4
 rw [show ss.length+(anc.length+(k'+1))=ops.size by omega] at main;exact main
theorem a4R {id:Nat}{ops:Array Oper}{Q:Exit→St→Prop}(m:Nat){t e:TypeId}{s z r p q x b:Tmp}{y0 y1 y2 y3:TypeId}{p0 p1 p2 p3:String}{f0 f1 f2 f3:Array Edge}(ss:List Nat)(c:Nat)(anc:List Nat)(T:Ord)(x0:Bool)(h0:ops[m]? =some ⟨some r,.call { callee:= .builtin .append,args:= #[.tmp s,.tmp z],argTypes:= #[t,t] },y0,p0,f0,none⟩)(h1:ops[m+1]? =some ⟨some p,.indexAddr t (.tmp r) (.tmp q),y1,p1,f1,none⟩)(h2:ops[m+2]? =some ⟨none,.store e (.tmp p) (.tmp x),y2,p2,f2,none⟩)(h3:ops[m+3]? =some ⟨none,.store t (.tmp b) (.tmp r),y3,p3,f3,none⟩)(hB:(P.follows .mixedOrders&&b3p ops m ss c anc T&&b1O ops m)=true)(hok:(gC P e&&decide ((r≠q∧r≠x∧r≠p∧r≠b)∧p≠x∧p≠b))=true)(hu:P.underlying t=some (.slice e))(h:VK P G [.ops true ops (zO ops ss)] .normal st fun _ s1=>VK P G [.ops true ops (zO ops anc)] .normal s1 fun _ s1=>mN P G ops c (a8W (d2V P G t e s z r p q x b (fun s'=>Q .normal s')) (uK Q)) x0 T s1):SW P G (.region id ops true) st Q:=by
 rw [d6W,d6W] at hB;obtain ⟨⟨hm,hL⟩,hR⟩:=hB;rw [d6W,decide_eq_true_eq] at hok;simp only [b1O,d6W,decide_eq_true_eq,beq_iff_eq] at hR;obtain ⟨⟨⟨⟨⟨⟨⟨⟨⟨⟨hsz,r0⟩,r1⟩,r2⟩,r3⟩,r4⟩,r5⟩,r6⟩,r7⟩,r8⟩,r9⟩:=hR;have h4:ops.size-m=4:=by rw [hsz];exact Nat.add_sub_cancel_left ..
 refine a4Q ss c anc T x0 hm hL h ?_
 rintro s1 base R μ a w QQ ⟨xs,z0,c,dZ,out,k0,k1,k2,k3,k4,k5,k6,k7,k8,k9,k10,k11⟩ hr hk;rw [h4];exact c8J (Q:=fun s'=>Q .normal s') h0 h1 h2 h3 r0 r1 r2 r3 r4 r5 r6 r7 r8 r9 hok.1 hu hok.2 k0 k1 k2 k3 k4 k5 k6 k7 k8 k9 k10 k11 hr hk
theorem dS {id:Nat}{ops:Array Oper}{Q:Exit→St→Prop}(m:Nat){t e T:TypeId}{s z r p q x b y:Tmp}{fd:Nat}{y0 y1 y2 y3 y4:TypeId}{p0 p1 p2 p3 p4:String}{f0 f1 f2 f3 f4:Array Edge}(ss:List Nat)(c:Nat)(anc:List Nat)(O:Ord)(x0:Bool)(h0:ops[m]? =some ⟨some r,.call { callee:= .builtin .append,args:= #[.tmp s,.tmp z],argTypes:= #[t,t] },y0,p0,f0,none⟩)(h1:ops[m+1]? =some ⟨some p,.indexAddr t (.tmp r) (.tmp q),y1,p1,f1,none⟩)(h2:ops[m+2]? =some ⟨none,.store e (.tmp p) (.tmp x),y2,p2,f2,none⟩)(h3:ops[m+3]? =some ⟨some b,.fieldAddr T (.tmp y) fd,y3,p3,f3,none⟩)(h4:ops[m+4]? =some ⟨none,.store t (.tmp b) (.tmp r),y4,p4,f4,none⟩)(hB:(P.follows .mixedOrders&&b3p ops m ss c anc O&&decide (ops.size=m+5)&&a7N ops (mM m ops.size) m (m+1) (m+2) (m+3) (m+4))=true)(hok:(gC P e&&decide ((r≠q∧r≠x∧r≠p∧r≠b∧r≠y)∧(p≠x∧p≠b∧p≠y)∧b≠q∧b≠x))=true)(hu:P.underlying t=some (.slice e))(h:VK P G [.ops true ops (zO ops ss)] .normal st fun _ s1=>VK P G [.ops true ops (zO ops anc)] .normal s1 fun _ s1=>mN P G ops c (a8W (b9H P G t e T s z r p q x b y fd (fun s'=>Q .normal s')) (uK Q)) x0 O s1):SW P G (.region id ops true) st Q:=by
 rw [d6W,d6W,d6W,decide_eq_true_eq] at hB;obtain ⟨⟨⟨hm,hL⟩,hsz⟩,hR⟩:=hB;rw [d6W,decide_eq_true_eq] at hok;have h5:ops.size-m=5:=by rw [hsz];exact Nat.add_sub_cancel_left ..
 refine a4Q ss c anc O x0 hm hL h ?_
 rintro s1 base R μ a w QQ ⟨xs,z0,c,dZ,kb0,off0,fo,u,out,k0,k1,k2,k3,k4,k5,k6,k7,k8,k9,k10,k11,k12,k13,k14⟩ hr hk;rw [h5];exact b5Q (Q:=fun s'=>Q .normal s') h0 h1 h2 h3 h4 hR hok.1 hu hok.2 k0 k1 k2 k3 k4 k5 k6 k7 k8 k9 k10 k11 k12 k13 k14 hr hk
def c3T:List DV→List DV→Prop
 |[],[]=>True
 |d::ds,d'::ds'=>(d'= .undef∨a5F d d')∧c3T ds ds'
 |_,_=>False
def c8Q:aY→aY→Prop
 | .cells cs,.cells cs'=>c3T cs cs'
 |o,o'=>o'=o
def c3U (H:List (Nat×aY)):List (Nat×aY)→Prop
 |[]=>True
 |(k,o')::r=>(∃o,getKey k H=some o∧c8Q o o')∧c3U H r
theorem b1S:∀ {cs cs':List DV},c3T cs cs'→cs'.length=cs.length∧∀(i:Nat) (d':DV),cs'[i]? =some d'→∃d,cs[i]? =some d∧(d'= .undef∨a5F d d')
 |[],[],_=>⟨rfl,fun i d' h=>by simp at h⟩
 |d::ds,d'::ds',h=>by
  obtain ⟨h1,h2⟩:=b1S h.2;refine ⟨by simp [h1],fun i e he=>?_⟩;cases i with
  |zero=>simp at he;subst he;exact ⟨d,rfl,h.1⟩
  |succ i=>simpa using h2 i e (by simpa using he)
theorem b1T {H:List (Nat×aY)}:∀ {H1:List (Nat×aY)},c3U H H1→∀k o',getKey k H1=some o'→∃o,getKey k H=some o∧c8Q o o'
 |[],_,k,o',h=>by simp [getKey] at h
 |(k0,o0)::r,hw,k,o',h=>by
  unfold getKey at h;split at h
  ·rename_i he;cases h;subst he;exact hw.1
  ·exact b1T hw.2 k o' h
theorem c8R {x y:D}(h:WkD x y)(hx:x.one=true):y.one=true:=by cases h<;>first|exact hx|rfl|(simp [D.one] at hx ⊢)
theorem c1h {d d':DV}(h:a5F d d')(hc:d.cell=true):d'.cell=true:=by cases d<;>cases d'<;>simp only [a5F] at h<;>first|exact c8R h hc|(cases h;exact hc)|(cases h;done)|(simp [DV.cell] at hc)
theorem c3V {b:Nat}{o o':aY}(h:c8Q o o')(hr:gH R μ w b o):gH R μ w b o':=by
 cases o with
 |cells cs=>
  cases o' with
  |cells cs'=>
   obtain ⟨q1,q2⟩:=b1S h;obtain ⟨vs,T,h1,h2,h3,h4⟩:=hr;refine ⟨vs,T,h1,by rw [h2,q1],fun i d' hd'=>?_,fun T' hm=>?_⟩
   ·obtain ⟨d,hd,hc⟩:=q2 i d' hd';obtain ⟨p1,p2⟩:=h3 i d hd;rcases hc with rfl|hc
    ·exact ⟨rfl,.undef _⟩
    ·exact ⟨c1h hc p1,p2.wk hc⟩
   ·obtain ⟨i,hi⟩:=d7n hm;obtain ⟨d,hd,hc⟩:=q2 i _ hi;rcases hc with hc|hc
    ·cases hc
    ·have:d= .tY T':=by cases d<;>simp only [a5F] at hc<;>first|exact hc|cases hc
     subst this;exact h4 T' (d7b hd)
  |map es=>cases h
  |iter s p=>cases h
  |bld T u es=>cases h
 |map es=>cases o'<;>first|(cases h;exact hr)|cases h
 |iter s p=>cases o'<;>first|(cases h;exact hr)|cases h
 |bld T u es=>cases o'<;>first|(cases h;exact hr)|cases h
structure c3W (s s':St):Prop where
 tmps:WkT s.tmps s'.tmps
 H:c3U s.H s'.H
 own:a4q s s.own s'.own=true
 keys:bA s'.H s'.own=true
theorem c1i (s s':St):c3W s s'↔WkT s.tmps s'.tmps∧c3U s.H s'.H∧a4q s s.own s'.own=true∧bA s'.H s'.own=true:=⟨fun h=>⟨h.tmps,h.H,h.own,h.keys⟩,fun h=>⟨h.1,h.2.1,h.2.2.1,h.2.2.2⟩⟩
theorem Rel.d0U {st':St}(hr:Rel P G base R μ st a w)(h:c3W st st'):Rel P G base R μ st' a w:=by
 obtain ⟨h1,h2⟩:=wN h.tmps;have h3:=b1T h.H;refine ⟨hr.defers,by rw [hr.size,h1],fun i v d' hv hd'=>?_,fun k o' hk=>?_,fun k k' o o' hk hk' he=>?_,fun c hc k off hl=>?_,?_,hr.rX,hr.mY,hr.base,hr.pass⟩
 ·obtain ⟨d,hd,hc⟩:=h2 i d' hd';have:=hr.tmps i v d hv hd;rcases hc with rfl|rfl|⟨rfl,rfl⟩
  ·exact .undef _
  ·exact this
  ·obtain ⟨ao,rfl⟩:=this.a4f.jE;exact .d _ _ (.emp _ _)
 ·obtain ⟨o,ho,hw⟩:=h3 k o' hk;obtain ⟨q1,q2,q3⟩:=hr.gL k o ho;exact ⟨q1,q2,c3V hw q3⟩
 ·obtain ⟨o1,ho1,_⟩:=h3 k o hk;obtain ⟨o2,ho2,_⟩:=h3 k' o' hk';exact hr.inj k k' o1 o2 ho1 ho2 he
 ·have:=d6Z.1 h.keys c hc;have:=d6Z.1 this _ hl;exact Option.isSome_iff_exists.1 this
 ·obtain ⟨vs,hvs⟩:=hr.own;obtain ⟨vs',hv',_⟩:=a1m hr st'.own st.own vs ⟨hvs.len,hvs.one,hvs.apart⟩ h.own;refine ⟨vs',hv'.len,fun i c v hc hv=>?_,hv'.apart⟩;have ho:=hv'.one i c v hc hv;exact ⟨ho.dR,ho.own,fun k o hk=>by obtain ⟨o1,ho1,_⟩:=h3 k o hk;exact ho.keys k o1 ho1⟩
theorem tH (a:List (List D))(x y:List D)(h:WkL x y):c7b (a++[x]) (a++[y]):=by
 refine ⟨by simp,fun i d d' h1 h2=>?_⟩;by_cases hi:i<a.length
 ·rw [d7h hi] at h1 h2;rw [h1] at h2;cases h2;simp
 ·rw [d7e (by omega)] at h1 h2;cases hk:i-a.length with
  |zero=>rw [hk] at h1 h2;simp at h1 h2;subst h1 h2;exact h
  |succ n=>rw [hk] at h1;simp at h1
def a1F (P:Program)(s:St)(rs:List ResultVar)(d:DV)(H1:List (Nat×aY))(own1:List (TypeId×List Loc)):Prop:=match xS P s rs with
 |some r=>c3W (a6G s rs r) ⟨[r],H1,own1⟩∧a5F r d
 |none=>False
theorem Rel.d4R {r d:DV}{H1:List (Nat×aY)}{own1:List (TypeId×List Loc)}{v:Value}(hr':Rel P G base R μ ⟨[r],H1,own1⟩ { tmps:= #[v],defers:=[] } w)(hw:a5F r d):Rel P G base R μ ⟨[d],H1,own1⟩ { tmps:= #[v],defers:=[] } w:=
 ⟨hr'.defers,hr'.size,fun i u d0 hu hd=>by
  cases i with
  |zero=>simp at hd;subst hd;exact (hr'.tmps 0 u r hu rfl).wk hw
  |succ i=>simp at hd,hr'.gL,hr'.inj,hr'.dR,by
  obtain ⟨vs,h1,h2,h3⟩:=hr'.own;exact ⟨vs,h1,fun i c v hc hv=>⟨(h2 i c v hc hv).dR,(h2 i c v hc hv).own,(h2 i c v hc hv).keys⟩,h3⟩,hr'.rX,hr'.mY,hr'.base,hr'.pass⟩
theorem CH.b3q {f:FuncId}{fn:Func}{c:Code}{n:Nat}{s0:St}{d:DV}{H1:List (Nat×aY)}{own1:List (TypeId×List Loc)}(hf:P.funcs[f]? =some fn)(hb:fn.body=some c)(hn:fn.ntmps=n){rs:List ResultVar}(hrs:fn.results.toList=rs)(hT:(s0.own.all fun c=>c.2.all fun l=>match l with| .t i=>decide (i<s0.tmps.length)|_=>true)=true)(h:SW P G c ⟨s0.tmps++List.replicate (n-s0.tmps.length) (.cM []),s0.H,s0.own⟩ fun e s=>(e= .normal∨e= .ret)∧a1F P s rs d H1 own1):CH P G f s0 ⟨[d],H1,own1⟩:=by
 subst hrs;intro base R μ args w hr;refine calls_of_wp hf hb ?_
 have hsz:args.size=s0.tmps.length:=hr.size;have hrel:Rel P G base R μ ⟨s0.tmps++List.replicate (n-s0.tmps.length) (.cM []),s0.H,s0.own⟩ { tmps:=args++Array.replicate (fn.ntmps-args.size) undef,defers:=[] } w:=by
  refine ⟨rfl,by simp [hsz,hn],fun i v d hiv hid=>?_,hr.gL,hr.inj,hr.dR,?_,hr.rX,hr.mY,hr.base,hr.pass⟩
  ·simp only at hid;by_cases hi:i<s0.tmps.length
   ·rw [d7h hi] at hid;rw [Array.getElem?_append_left (by omega)] at hiv;exact hr.tmps i v d hiv hid
   ·rw [d7e (by omega),List.getElem?_replicate] at hid;split at hid<;>simp at hid;subst hid;rw [Array.getElem?_append_right (by omega),Array.getElem?_replicate] at hiv;split at hiv<;>simp at hiv;subst hiv;exact .cM #[] [] rfl (by simp)
  ·obtain ⟨vs,hl,h1,hap⟩:=hr.own;refine ⟨vs,hl,fun i c v hc hv=>?_,hap⟩;have ho:=h1 i c v hc hv;refine ⟨fun l hl u hu=>?_,ho.own,ho.keys⟩;cases l with
   |t j=>have hj:=d6Z.1 (d6Z.1 hT c (d7b hc)) _ hl;simp only [decide_eq_true_eq] at hj;simp only [cB] at hu;rw [Array.getElem?_append_left (by omega)] at hu;exact ho.dR _ hl u hu
   |c k off=>exact ho.dR _ hl u hu
 refine wp_mono (h base R μ _ w hrel) fun e a' w' ⟨s,R',μ',⟨he,hend⟩,hr',hs⟩=>?_
 unfold a1F at hend;split at hend
 ·rename_i r hres;obtain ⟨v,hv1,hv2⟩:=wR hr' hres;have hpost:a'.defers=[]∧∃v,(results fn a'.tmps).run P w'= .ok v w'∧∃v' R' μ',Ending.returned v= .returned v'∧Rel P G base R' μ' ⟨[d],H1,own1⟩ { tmps:= #[v'],defers:=[] } w'∧Step base R w R' w':=
   ⟨hr'.defers,v,hv1,v,R',μ',rfl,((hr'.ret hv1 hv2).d0U hend.1).d4R hend.2,hs⟩
  rcases he with rfl|rfl
  ·exact hpost
  ·exact hpost
 ·exact hend.elim
theorem CX.b3q {f:FuncId}{fn:Func}{c:Code}{n:Nat}{s0:St}{x:Ends}(hf:P.funcs[f]? =some fn)(hb:fn.body=some c)(hn:fn.ntmps=n){rs:List ResultVar}(hrs:fn.results.toList=rs)(hT:(s0.own.all fun c=>c.2.all fun l=>match l with| .t i=>decide (i<s0.tmps.length)|_=>true)=true)(h:∀Q:Exit→St→Prop,(∀d H1 own1 e s,x= .inl (d,H1,own1)→(e= .normal∨e= .ret)→a1F P s rs d H1 own1→Q e s)→(∀v s,x= .inr v→Q (.panic (vQ v)) s)→SW P G c ⟨s0.tmps++List.replicate (n-s0.tmps.length) (.cM []),s0.H,s0.own⟩ Q):CX P G f s0 x:=by
 match x,h with
 | .inl (d,H1,own1),h=>exact CH.b3q hf hb hn hrs hT (h _ (fun d' H1' own1' e s he=>by cases he;exact fun h1 h2=>⟨h1,h2⟩) (fun v s he=>by cases he))
 | .inr v,h=>exact CPn.a2W hf hb hn hT (h _ (fun d' H1' own1' e s he=>by cases he) (fun v' s he=>by cases he;rfl))
theorem b3r {TT:St→Prop}{Q:Exit→St→Prop}{s:St}:a8W TT Q .normal s=TT s:=rfl
theorem b5Y {TT:St→Prop}{Q:Exit→St→Prop}{s:St}{c:List PanicEntry}:a8W TT Q (.panic c) s=Q (.panic c) s:=rfl
def a0T (a b d:Nat):Ord:=
 .op a (.op b (.op d (.call [] .none) (.call [d] .none)) (.op d (.op b (.call [] .none) (.call [b] .none)) (.call [b,d] .none)))
  (.op d (.op a (.op b (.call [] .none) (.call [b] .none)) (.call [a,b] .none)) (.call [a,b,d] .none))
attribute [simp] b3o a1D a1F c1i c3U c8Q c3T b3r b5Y a0T
end
end Go.VM
end
section
section
namespace Go.Proofs.YtjpodcmhcenjjaaGreatDoor
open Go Go.VM
variable {G:GT}
def smI (c:Int):Bool:=decide (97≤c)&&decide (c≤122)
def caI (c:Int):Bool:=decide (65≤c)&&decide (c≤90)
def dgI (c:Int):Bool:=decide (48≤c)&&decide (c≤57)
def inI (c:Int):Bool:=smI c||caI c||dgI c||decide (c=95)
theorem a3f:VM.Enters Tryz.prog 159:=VM.Enters.mk Tryz.func159 rfl
theorem a0M:VM.Enters Tryz.prog 162:=VM.Enters.mk Tryz.func162 rfl
theorem yN:VM.Enters Tryz.prog 163:=VM.Enters.mk Tryz.func163 rfl
theorem b0G:VM.Enters Tryz.prog 161:=VM.Enters.mk Tryz.func161 rfl
theorem a4S (c:Int):CS Tryz.prog G 159 [.int .i32 c] (.d (.bool (smI c))) none:=by
 refine CS.bI Tryz.func159 rfl Tryz.ntmps159 rfl ?_
 by_cases h:97≤c<;>simp [h,smI]
theorem a1G (c:Int):CS Tryz.prog G 162 [.int .i32 c] (.d (.bool (caI c))) none:=by
 refine CS.bI Tryz.func162 rfl Tryz.ntmps162 rfl ?_
 by_cases h:65≤c<;>simp [h,caI]
theorem a0m (c:Int):CS Tryz.prog G 163 [.int .i32 c] (.d (.bool (dgI c))) none:=by
 refine CS.bI Tryz.func163 rfl Tryz.ntmps163 rfl ?_
 by_cases h:48≤c<;>simp [h,dgI]
theorem b3s (c:Int):CS Tryz.prog G 161 [.int .i32 c] (.d (.bool (inI c))) none:=by
 refine CS.bI Tryz.func161 rfl Tryz.ntmps161 rfl ?_
 simp;refine aH.mk a3f (a4S c) ?_
 by_cases h1:smI c=true
 ·simp [h1,inI]
 ·simp [h1];refine aH.mk a0M (a1G c) ?_
  by_cases h2:caI c=true
  ·simp [h2,inI]
  ·simp [h2];refine aH.mk yN (a0m c) ?_
   by_cases h3:dgI c=true
   ·simp [h3,inI]
   ·simp [h1,h2,h3,inI]
end Go.Proofs.YtjpodcmhcenjjaaGreatDoor
end
section
namespace Go.Proofs.YtjpodcmhcenjjaaGreatDoor
open Go Go.VM Go.RowKit
variable {G:GT}
theorem b3t:VM.Enters Tryz.prog 188:=VM.Enters.mk Tryz.func188 rfl
theorem b0H:VM.Enters Tryz.prog 165:=VM.Enters.mk Tryz.func165 rfl
theorem d0V {args:Array Value}(h:args.size=2):args= #[args.getD 0 undef,args.getD 1 undef]:=by
 obtain ⟨l⟩:=args
 match l,h with
 |[a,b],_=>rfl
theorem b5Z (s:List UInt8)(c:UInt8)(hc:c.toNat<128):CS Tryz.prog G 188 [.str s,.str [c]] (.d (.str (Lib.trimLeftB s c))) none:=
 CS.b9y fun w R args hg hR hs hv=>by rw [d0V hs,(hv 0 _ rfl).kX,(hv 1 _ rfl).kX];exact (Tryz.strings_TrimLeft_one ⟨s.toArray⟩ c hc w).mono fun e w' ⟨he,hw⟩=>⟨_,he,.str _,hw▸Below.refl _ _⟩
theorem b3u (s p:List UInt8):CS Tryz.prog G 165 [.str s,.str p] (.d (.bool (p.isPrefixOf s))) none:=
 CS.b9y fun w R args hg hR hs hv=>by rw [d0V hs,(hv 0 _ rfl).kX,(hv 1 _ rfl).kX];exact (Tryz.strings_HasPrefix ⟨s.toArray⟩ ⟨p.toArray⟩ w).mono fun e w' ⟨he,hw⟩=>⟨_,he,.bool _,hw▸Below.refl _ _⟩
def kV (s:List UInt8):Int×Bool:=if jW s≤1000000000000 then ((jW s:Int),true) else (0,false)
theorem c8S (l:List UInt8):∀a,a*10 ^ l.length≤b7T a l:=by
 induction l with
 |nil=>intro a;simp [b7T]
 |cons c r ih=>
  intro a;have h:=ih (10*a+(c.toNat-48));have e:b7T a (c::r)=b7T (10*a+(c.toNat-48)) r:=rfl;rw [e];refine Nat.le_trans ?_ h
  rw [List.length_cons,Nat.pow_succ];have:a*(10 ^ r.length*10)=(10*a)*10 ^ r.length:=by rw [Nat.mul_comm (10 ^ r.length) 10, ← Nat.mul_assoc,Nat.mul_comm a 10]
  rw [this];exact Nat.mul_le_mul_right _ (by omega)
theorem b1U (s:List UInt8):jW (Lib.trimLeftB s 48)=jW s:=by
 unfold Lib.trimLeftB
 induction s with
 |nil=>rfl
 |cons c r ih=>
  by_cases h:c=48
  ·subst h;have e:jW (48::r)=jW r:=rfl;rw [e, ← ih];simp
  ·have:(c==48)=false:=by simpa using h
   rw [List.dropWhile_cons,this]
   rfl
theorem c1j {s:List UInt8}(h:Lib.trimLeftB s 48≠[]):∃c r,Lib.trimLeftB s 48=c::r∧c≠48:=by
 unfold Lib.trimLeftB at h ⊢
 induction s with
 |nil=>exact absurd rfl h
 |cons c r ih=>
  by_cases hc:c=48
  ·subst hc;simp only [List.dropWhile_cons,beq_self_eq_true,if_true] at h ⊢;exact ih h
  ·have:(c==48)=false:=by simpa using hc
   rw [List.dropWhile_cons,this];exact ⟨c,r,rfl,hc⟩
theorem c3X {s:List UInt8}:∀c∈Lib.trimLeftB s 48,c∈s:=fun c hc=>(List.dropWhile_sublist _).subset hc
theorem b3v {s:List UInt8}(hs:∀c∈s,tB c=true)(hne:Lib.trimLeftB s 48≠[]):oE (Lib.trimLeftB s 48)=kV s:=by
 obtain ⟨c,r,he,hc⟩:=c1j hne;have hall:∀x∈c::r,tB x=true:=fun x hx=>hs x (c3X x (he▸hx))
 have hv:jW s=jW (c::r):=by rw [← he,b1U]
 rw [he];have hcd:=sF.1 (hall c (.head _));have hn:a5K (c::r)=false:=by
  have:c≠45:=by rintro rfl;revert hcd;decide
  simp [a5K,this]
 have hb:mU (c::r)=c::r:=by simp [mU,hn]
 have hlow:10 ^ r.length≤jW (c::r):=by
  have h1:1≤c.toNat-48:=by
   have:c.toNat≠48:=fun e=>hc (UInt8.toNat.inj (by simpa using e))
   omega
  have e:jW (c::r)=b7T (10*0+(c.toNat-48)) r:=rfl;rw [e];refine Nat.le_trans ?_ (c8S r _)
  calc 10 ^ r.length=1*10 ^ r.length:=by rw [Nat.one_mul]
   _≤_:=Nat.mul_le_mul_right _ (by omega)
 have hform:oK (c::r)=decide (r.length≤12):=by simp only [oK,hb,hn];by_cases h:r.length≤12<;>simp [h,hc]<;>omega
 have hd:(c::r).all tB=true:=d6Z.2 hall;unfold oE kV;rw [hform,hb,hd,hn,hv];by_cases h:r.length≤12
 ·have hup:=a0d _ _ rfl hall;simp [h,sgn,chk];have hi:inB ((jW (c::r):Nat):Int)=decide (jW (c::r)≤1000000000000):=by unfold inB;by_cases h2:jW (c::r)≤1000000000000<;>simp [h2]<;>omega
  rw [hi];by_cases h2:jW (c::r)≤1000000000000<;>simp [h2]
 ·have:10 ^ 13≤jW (c::r):=Nat.le_trans (Nat.pow_le_pow_right (by omega) (by omega)) hlow;have h2: ¬jW (c::r)≤1000000000000:=by omega
  simp [h,h2]
theorem a9c:VM.Enters Tryz.prog 164:=VM.Enters.mk Tryz.func164 rfl
theorem b0I (s:List UInt8)(hs:∀c∈s,tB c=true):CS Tryz.prog G 164 [.str s] (.cM [.int .i64 (kV s).1,.bool (kV s).2]) none:=by
 refine CS.bI Tryz.func164 rfl Tryz.ntmps164 rfl ?_
 simp;refine aH.mk b3t (b5Z s 48 (by decide)) ?_
 by_cases h:Lib.trimLeftB s 48=[]
 ·have hv:jW s=0:=by rw [← b1U,h];rfl
  simp [h,kV,hv]
 ·have he:(Lib.trimLeftB s 48).isEmpty=false:=by simpa using h
  simp [he];refine aH.mk b5B (b7V (Lib.trimLeftB s 48)) ?_
  simp [b3v hs h]
end Go.Proofs.YtjpodcmhcenjjaaGreatDoor
end
section
namespace Go.Proofs.YtjpodcmhcenjjaaGreatDoor
open Go Go.VM
variable {G:GT}
theorem a1H {p:UInt8→Bool}{s:List UInt8}{i:Nat}(h:i<s.length)(ht:∀b∈s.take i,p b=true)(hn:p s[i]=false):(s.takeWhile p).length=i:=by
 have e:s=s.take i++s[i]::s.drop (i+1):=by rw [← d7j h,List.take_append_drop]
 generalize hx:s[i]=x at e hn;rw [e,List.takeWhile_append_of_pos ht,List.takeWhile_cons,hn];simp;omega
theorem yO {p:UInt8→Bool}{s:List UInt8}(ht:∀b∈s,p b=true):s.takeWhile p=s:=by have:=List.takeWhile_append_of_pos (l₂:=[]) ht;simpa using this
theorem a6X (F:FuncId)(p:Int→Bool)(pb:UInt8→Bool)(hF:VM.Enters Tryz.prog F)(hcs:∀c,CS Tryz.prog G F [.int .i32 c] (.d (.bool (p c))) none)(rY:∀b:UInt8,p b.toNat=pb b)(hhi:∀c,128≤c→p c=false)(s:List UInt8):
  CH Tryz.prog G 160 ⟨[.d (.str s),.fn F],[],[]⟩ ⟨[.d (.int .i64 (s.takeWhile pb).length)],[],[]⟩:=by
 refine CH.bI Tryz.func160 rfl Tryz.ntmps160 rfl (by simp) ?_
 simp;refine SW.kJ (ι:={ i:Nat // i≤s.length∧∀b∈s.take i,pb b=true }) (fun _=>[]) (fun i=>[(8,.iter s i.1)]) (fun _=>[]) (fun i=>s.length-i.1) ⟨0,by simp⟩ (by simp) ?_
 rintro ⟨i,hi,ht⟩
 try simp only at hi ht
 by_cases hlt:i<s.length
 ·simp [hlt];refine aH.mk hF (hcs _) ?_
  by_cases hb:s[i].toNat<128
  ·have hd:=c3D hlt hb;have hpl:=rY s[i];by_cases hpb:pb s[i]=true
   ·rw [hpb] at hpl;simp [hd,hpl];refine bQ.mk ⟨i+1,hlt,fun b hm=>?_⟩ (by simp) (by simp;omega);rw [d7l hlt] at hm;rcases List.mem_append.1 hm with hm|hm
    ·exact ht b hm
    ·simp at hm;rw [hm];exact hpb
   ·have hpf:pb s[i]=false:=by simpa using hpb
    rw [hpf] at hpl;simp [hd,hpl,a1H hlt ht hpf]
  ·obtain ⟨h1,_⟩:=c3E hlt (by omega);have hpf:pb s[i]=false:=by rw [← rY];exact hhi _ (by omega)
   have hpl:=hhi ((Utf8.decode ⟨s.toArray⟩ i).1:Int) (by omega);simp [hpl,a1H hlt ht hpf]
 ·have:i=s.length:=by omega
  subst this;rw [List.take_length] at ht;simp [yO ht]
def jM:List UInt8→Nat→Bool→List UInt8×Nat
 |[],n,_=>([],n)
 |c::r,n,cm=>if c=10 then jM r (n+1) false else if cm=true∨c=32∨c=9 then jM r n cm else if c=35 then jM r n true else (c::r,n)
theorem a4T:∀(s:List UInt8) (n:Nat) (cm:Bool),(jM s n cm).2≤n+s.length∧(jM s n cm).1.length≤s.length
 |[],n,cm=>by simp [jM]
 |c::r,n,cm=>by
  unfold jM;split
  ·have:=a4T r (n+1) false;simp only [List.length_cons];omega
  ·split
   ·have:=a4T r n cm;simp only [List.length_cons];omega
   ·split
    ·have:=a4T r n true;simp only [List.length_cons];omega
    ·simp only [List.length_cons];omega
theorem b6a (s:List UInt8)(n:Nat):∀(k i:Nat),(∀j,i≤j→j<i+k→∃h:j<s.length,128≤s[j].toNat)→jM (s.drop i) n true=jM (s.drop (i+k)) n true
 |0,i,_=>rfl
 |k+1,i,h=>by
  obtain ⟨hi,hb⟩:=h i (by omega) (by omega);have ih:=b6a s n k (i+1) fun j h1 h2=>h j (by omega) (by omega)
  have h10:s[i]≠10:=fun e=>by rw [e] at hb;simp at hb
  rw [d7j hi,jM,if_neg h10,if_pos (.inl rfl),ih];congr 2;omega
theorem a9d (c:UInt8)(k:Nat)(hk:k<256):((c.toNat:Int)=(k:Int))↔c=UInt8.ofNat k:=by
 constructor
 ·intro h;apply UInt8.toNat.inj;simp;omega
 ·rintro rfl;simp;omega
theorem b3w:VM.Enters Tryz.prog 112:=VM.Enters.mk Tryz.func112 rfl
theorem b6b (s:List UInt8)(hl:s.length≤900000000):CS Tryz.prog G 112 [.str s] (.cM [.str (jM s 0 false).1,.int .i64 (jM s 0 false).2]) none:=by
 obtain ⟨res,hres0⟩:∃x,jM s 0 false=x:=⟨_,rfl⟩;rw [hres0];refine CS.bI Tryz.func112 rfl Tryz.ntmps112 rfl ?_
 simp;refine SW.kJ (ι:={ x:Nat×Nat×Bool // x.1≤s.length∧x.2.1≤x.1∧jM (s.drop x.1) x.2.1 x.2.2=res }) (fun x=>[(4,.d (.int .i64 x.1.2.1)),(5,.d (.bool x.1.2.2))]) (fun x=>[(9,.iter s x.1.1)]) (fun _=>[]) (fun x=>s.length-x.1.1) ⟨(0,0,false),by simp [hres0]⟩ (by simp) ?_
 rintro ⟨⟨i,n,cm⟩,hi,hn,hR⟩
 try simp only at hi hn hR
 by_cases hlt:i<s.length
 ·have hw:=bO (show n<9223372036854775807 by omega);have hle:=Nat.le_of_lt hlt;have hdrop:s.drop i=s[i]::s.drop (i+1):=d7j hlt;by_cases hb:s[i].toNat<128
  ·have hd:=c3D hlt hb;have c10:=a9d s[i] 10 (by omega);have c32:=a9d s[i] 32 (by omega);have c9:=a9d s[i] 9 (by omega);have c35:=a9d s[i] 35 (by omega);simp at c10 c32 c9 c35;by_cases h10:s[i]=10
   ·have e:=c10.2 h10;simp [hlt,hd,e];refine bQ.mk ⟨(i+1,n+1,false),hlt,by simp;omega,?_⟩ (by simp [hw]) (by simp;omega);rw [← hR,hdrop,jM,if_pos h10]
   ·have e: ¬s[i].toNat=10:=fun h=>h10 (c10.1 h)
    simp [hlt,hd,e];cases cm with
    |true=>
     try simp
     refine bQ.mk ⟨(i+1,n,true),hlt,by simp;omega,?_⟩ (by simp) (by simp;omega);rw [← hR,hdrop,jM,if_neg h10,if_pos (.inl rfl)]
    |false=>
     try simp
     by_cases h32:s[i]=32
     ·have e2:=c32.2 h32;simp [e2];refine bQ.mk ⟨(i+1,n,false),hlt,by simp;omega,?_⟩ (by simp) (by simp;omega);rw [← hR,hdrop,jM,if_neg h10,if_pos (.inr (.inl h32))]
     ·have e2: ¬s[i].toNat=32:=fun h=>h32 (c32.1 h)
      simp [e2];by_cases h9:s[i]=9
      ·have e3:=c9.2 h9;simp [e3];refine bQ.mk ⟨(i+1,n,false),hlt,by simp;omega,?_⟩ (by simp) (by simp;omega);rw [← hR,hdrop,jM,if_neg h10,if_pos (.inr (.inr h9))]
      ·have e3: ¬s[i].toNat=9:=fun h=>h9 (c9.1 h)
       simp [e3];by_cases h35:s[i]=35
       ·have e4:=c35.2 h35;simp [e4];refine bQ.mk ⟨(i+1,n,true),hlt,by simp;omega,?_⟩ (by simp) (by simp;omega);rw [← hR,hdrop,jM,if_neg h10,if_neg (by simp [h32,h9]),if_pos h35]
       ·have e4: ¬s[i].toNat=35:=fun h=>h35 (c35.1 h)
        have hres:res=(s.drop i,n):=by rw [← hR,hdrop,jM,if_neg h10,if_neg (by simp [h32,h9]),if_neg h35]
        simp [e4,hres,hle]
  ·obtain ⟨h1,h2,h3,h4⟩:=c3E hlt (by omega);obtain ⟨rw,hrw⟩:∃rw,Utf8.decode ⟨s.toArray⟩ i=rw:=⟨_,rfl⟩;rw [hrw] at h1 h2 h3 h4;have e10: ¬((rw.1:Int)=10):=by omega
   have e32: ¬((rw.1:Int)=32):=by omega
   have e9: ¬((rw.1:Int)=9):=by omega
   have e35: ¬((rw.1:Int)=35):=by omega
   have hbb:∀k,k<128→s[i]≠UInt8.ofNat k:=fun k hk e=>by rw [e] at hb;simp at hb;omega
   have b10:s[i]≠10:=hbb 10 (by omega);have b32:s[i]≠32:=hbb 32 (by omega);have b9:s[i]≠9:=hbb 9 (by omega);have b35:s[i]≠35:=hbb 35 (by omega);simp [hlt,hrw,e10];cases cm with
   |true=>simp;refine bQ.mk ⟨(i+rw.2,n,true),h3,by simp;omega,?_⟩ (by simp) (by simp;omega);rw [← hR,b6a s n rw.2 i h4]
   |false=>
    have hres:res=(s.drop i,n):=by rw [← hR,hdrop,jM,if_neg b10,if_neg (by simp [b32,b9]),if_neg b35]
    simp [e32,e9,e35,hres,hle]
 ·have:i=s.length:=by omega
  subst this;rw [List.drop_length] at hR;have hres:res=([],n):=by rw [← hR,jM]
  simp [hres]
end Go.Proofs.YtjpodcmhcenjjaaGreatDoor
end
section
namespace Go.Proofs.YtjpodcmhcenjjaaGreatDoor
open Go Go.VM
variable {G:GT}
def tW:List D:=[.sl (eN.map fun t=>[D.str t])]
theorem d0W (b:UInt8):smI b.toNat=smU b:=by rw [Bool.eq_iff_iff];simp only [smI,smU,d6W,decide_eq_true_eq];omega
theorem d0X (b:UInt8):caI b.toNat=caU b:=by rw [Bool.eq_iff_iff];simp only [caI,caU,d6W,decide_eq_true_eq];omega
theorem c3Y (b:UInt8):dgI b.toNat=dgU b:=by rw [Bool.eq_iff_iff];simp only [dgI,dgU,d6W,decide_eq_true_eq];omega
theorem d4S (b:UInt8):inI b.toNat=inU b:=by unfold inI inU;rw [d0W,d0X,c3Y];congr 1;simp only [decide_eq_decide];omega
theorem d4T {c:Int}(h:128≤c):inI c=false:=by simp only [inI,smI,caI,dgI,Bool.or_eq_false_iff,Bool.and_eq_false_iff,decide_eq_false_iff_not];omega
theorem d4U {c:Int}(h:128≤c):dgI c=false:=by simp only [dgI,Bool.and_eq_false_iff,decide_eq_false_iff_not];omega
theorem b9J (p:UInt8→Bool)(s:List UInt8):s.take (s.takeWhile p).length=s.takeWhile p:=by have h:=List.takeWhile_prefix (l:=s) p;exact (List.prefix_iff_eq_take.1 h).symm
theorem d0Y (p:UInt8→Bool)(s:List UInt8):(s.takeWhile p).length≤s.length:=(List.takeWhile_prefix (l:=s) p).length_le
theorem w32 (c:UInt8):IntKind.i32.wrap (c.toNat:Int)=c.toNat:=by have:=c.toNat_lt;unfold IntKind.wrap;simp [IntKind.bits,IntKind.signed];omega
theorem c8T (c:UInt8):dgU c=tB c:=by rw [Bool.eq_iff_iff];simp only [dgU,tB,d6W,decide_eq_true_eq]
theorem c3Z {p:UInt8→Bool}:∀ {s:List UInt8} {b:UInt8},b∈s.takeWhile p→p b=true
 |[],b,h=>by simp at h
 |c::r,b,h=>by
  rw [List.takeWhile_cons] at h;split at h
  ·rename_i hc;rcases List.mem_cons.1 h with rfl|h
   ·exact hc
   ·exact c3Z h
  ·cases h
def a1I (s:List UInt8):List D:=[.int .i64 (firstT kV s).1,.str (firstT kV s).2.1,.int .i64 (firstT kV s).2.2.1,.int .i64 0]
theorem b9K (s:List UInt8):CH Tryz.prog G 160 ⟨[.d (.str s),.fn 161],[],[]⟩ ⟨[.d (.int .i64 (s.takeWhile inU).length)],[],[]⟩:=a6X 161 inI inU b0G b3s d4S (fun _=>d4T) s
theorem c8U (s:List UInt8):CH Tryz.prog G 160 ⟨[.d (.str s),.fn 163],[],[]⟩ ⟨[.d (.int .i64 (s.takeWhile dgU).length)],[],[]⟩:=a6X 163 dgI dgU yN a0m c3Y (fun _=>d4U) s
theorem c8V {s:List UInt8}{i:Nat}(h:i<eN.length)(hn:∀t∈eN.take i,t.isPrefixOf s=false)(hp:eN[i].isPrefixOf s=true):pD s=eN[i]:=by
 have e:eN=eN.take i++eN[i]::eN.drop (i+1):=by rw [← d7j h,List.take_append_drop]
 generalize eN[i]=x at e hp ⊢;unfold pD;rw [e,List.find?_append];have h0:(eN.take i).find? (fun t=>t.isPrefixOf s)=none:=List.find?_eq_none.2 fun t ht=>by rw [hn t ht];simp
 rw [h0];simp [List.find?_cons,hp]
theorem c1k {s:List UInt8}(hn:∀t∈eN,t.isPrefixOf s=false):pD s=[]:=by
 unfold pD;rw [List.find?_eq_none.2 fun t ht=>by rw [hn t ht];simp]
 rfl
theorem c8W:∀t∈eN,t≠[]:=by decide
theorem a9e:VM.Enters Tryz.prog 160:=VM.Enters.mk Tryz.func160 rfl
theorem b0J:VM.Enters Tryz.prog 113:=VM.Enters.mk Tryz.func113 rfl
theorem b3x (hS:G 0=some tW)(c:UInt8)(r:List UInt8)(hl:(c::r).length≤900000000):CS Tryz.prog G 113 [.str (c::r)] (.cM [.agg (a1I (c::r)),.bool (firstT kV (c::r)).2.2.2]) none:=by
 obtain ⟨s,hs⟩:∃s,c::r=s:=⟨_,rfl⟩;have h0:0<s.length:=by rw [← hs];simp
 have hc0:s[0]=c:=by subst hs;rfl
 have hf:firstT kV s=if smU c then (1,s.takeWhile inU,0,true) else if caU c then (2,s.takeWhile inU,0,true)
  else if dgU c then (3,s.takeWhile dgU,(kV (s.takeWhile dgU)).1,(kV (s.takeWhile dgU)).2)
  else if pD s=[] then (0,[],0,false) else (4,pD s,0,true):=by subst hs;rfl
 rw [hs] at hl ⊢
 clear hs
 have hw:=w32 c;have l1:=d0Y inU s;have l2:=d0Y dgU s;have t1:=b9J inU s;have t2:=b9J dgU s;refine CS.bI Tryz.func113 rfl Tryz.ntmps113 rfl ?_
 simp [h0,hc0,hw];refine aH.mk a3f (a4S (c.toNat:Int)) ?_
 rw [d0W];by_cases h1:smU c=true
 ·simp [h1];refine eW.ro a9e (b9K s) [] (by simp) (by simp) (by simp) (by simp) (by simp) ?_
  simp [l1,t1,a1I,hf,h1]
 simp [h1];refine aH.mk a0M (a1G (c.toNat:Int)) ?_
 rw [d0X];by_cases h2:caU c=true
 ·simp [h2];refine eW.ro a9e (b9K s) [] (by simp) (by simp) (by simp) (by simp) (by simp) ?_
  simp [l1,t1,a1I,hf,h1,h2]
 simp [h2];refine aH.mk yN (a0m (c.toNat:Int)) ?_
 rw [c3Y];by_cases h3:dgU c=true
 ·simp [h3];refine eW.ro a9e (c8U s) [] (by simp) (by simp) (by simp) (by simp) (by simp) ?_
  simp [l2,t2];refine aH.mk a9c (b0I (s.takeWhile dgU) (fun b hb=>by rw [← c8T];exact c3Z hb)) ?_
  simp [a1I,hf,h1,h2,h3]
 simp [h3,hS,tW];have hlen:(eN.map fun t=>[D.str t]).length=eN.length:=by simp
 refine SW.kJ (ι:={ i:Nat // i≤eN.length∧∀t∈eN.take i,t.isPrefixOf s=false }) (fun i=>[(47,.d (.int .i64 i.1))]) (fun _=>[(2,.cells [.d (.int .i64 0),.d (.str []),.d (.int .i64 0),.d (.int .i64 0)])]) (fun _=>[]) (fun i=>eN.length-i.1) ⟨0,by simp⟩ (by simp) ?_
 rintro ⟨i,hi,hn⟩
 try simp only at hi hn
 by_cases hlt:i<eN.length
 ·have hsl:eN.length=31:=rfl;have hw2:=bO (show i<9223372036854775807 by omega);have hg:(eN.map fun t=>[D.str t])[i]? =some [.str eN[i]]:=by simp [hlt]
  simp [hlt,hg];refine aH.mk b0H (b3u s eN[i]) ?_
  by_cases hp:eN[i].isPrefixOf s=true
  ·have hsg:=c8V hlt hn hp;have hne:=c8W _ (List.getElem_mem hlt);simp [hp,a1I,hf,h1,h2,h3,hsg,hne]
  ·have hp':eN[i].isPrefixOf s=false:=Bool.eq_false_iff.2 hp;simp [hp'];refine bQ.mk ⟨i+1,hlt,fun t ht=>?_⟩ (by simp [hw2]) (by simp;omega);rw [d7l hlt] at ht;rcases List.mem_append.1 ht with ht|ht
   ·exact hn t ht
   ·simp at ht;rw [ht];exact hp'
 ·have:i=eN.length:=by omega
  subst this;rw [List.take_length] at hn;have hsg:=c1k hn;simp [a1I,hf,h1,h2,h3,hsg]
end Go.Proofs.YtjpodcmhcenjjaaGreatDoor
end
section
namespace Go.Proofs.YtjpodcmhcenjjaaGreatDoor
open Go Go.VM
variable {G:GT}
def cJ (t:Tok):List D:=[.int .i64 t.kind,.str t.text,.int .i64 t.n,.int .i64 t.line]
def b0K (l:List Tok):List (List D):=l.map cJ
@[simp] theorem d4V (l:List Tok):(b0K l).length=l.length:=by simp [b0K]
@[simp] theorem d4W:b0K []=[]:=rfl
@[simp] theorem d4X (l:List Tok):((b0K l).all fun c=>c.length==4)=true:=by simp [b0K,cJ]
theorem b1V (l:List Tok)(t:Tok):b0K (l++[t])=b0K l++[[.int .i64 t.kind,.str t.text,.int .i64 t.n,.int .i64 t.line]]:=by simp [b0K,cJ]
theorem a2s:∀(s:List UInt8) (n:Nat) (cm:Bool) (ln:Int),gS kV s 0 (ln+n) cm=gS kV (jM s n cm).1 0 (ln+(jM s n cm).2) false
 |[],n,cm,ln=>by simp [jM,gS]
 |c::r,n,cm,ln=>by
  unfold jM;split
  ·rename_i h;rw [← a2s r (n+1) false ln,gS,if_pos h];congr 1;omega
  ·rename_i h;split
   ·rename_i h2;rw [← a2s r n cm ln]
    conv=>lhs;rw [gS]
    rw [if_neg h,if_pos h2]
   ·rename_i h2;split
    ·rename_i h3;rw [← a2s r n true ln]
     conv=>lhs;rw [gS]
     rw [if_neg h,if_neg h2,if_pos h3]
    ·simp only [not_or,Bool.not_eq_true] at h2;rw [h2.1]
theorem a2t:∀(s:List UInt8) (n:Nat) (cm:Bool),(jM s n cm).2+(jM s n cm).1.length≤n+s.length
 |[],n,cm=>by simp [jM]
 |c::r,n,cm=>by
  unfold jM;split
  ·have:=a2t r (n+1) false;simp only [List.length_cons];omega
  ·split
   ·have:=a2t r n cm;simp only [List.length_cons];omega
   ·split
    ·have:=a2t r n true;simp only [List.length_cons];omega
    ·simp only [List.length_cons];omega
theorem a2u:∀(s:List UInt8) (n:Nat) (cm:Bool) (c:UInt8) (r:List UInt8),(jM s n cm).1=c::r→c≠10∧c≠32∧c≠9∧c≠35
 |[],n,cm,c,r,h=>by simp [jM] at h
 |a::s,n,cm,c,r,h=>by
  unfold jM at h;split at h
  ·exact a2u s _ _ c r h
  ·rename_i h1;split at h
   ·exact a2u s _ _ c r h
   ·rename_i h2;split at h
    ·exact a2u s _ _ c r h
    ·rename_i h3;simp only [not_or] at h2;cases h;exact ⟨h1,h2.2.1,h2.2.2,h3⟩
def d3d (out:List Tok):Except Int (List Tok)→Except Int (List Tok)
 | .ok l=> .ok (out++l)
 | .error e=> .error e
def d3e:Except Int (List Tok)→D
 | .ok l=> .sl (b0K l)
 | .error _=> .aM
def d3f:Except Int (List Tok)→Int
 | .ok _=>0
 | .error e=>e
def d3g:Except Int (List Tok)→Int
 | .ok _=>0
 | .error _=>14
theorem sI:VM.Enters Tryz.prog 64:=VM.Enters.mk Tryz.func64 rfl
theorem b0L (hS:G 0=some tW)(s:List UInt8)(hl:s.length≤900000000):CS Tryz.prog G 64 [.str s] (.cM (if 40000<s.length then [.aM,.int .i64 0,.int .i64 7] else
  [d3e (gS kV s 0 1 false),.int .i64 (d3f (gS kV s 0 1 false)),.int .i64 (d3g (gS kV s 0 1 false))])) none:=by
 obtain ⟨res,hres⟩:∃x,gS kV s 0 1 false=x:=⟨_,rfl⟩;rw [hres];refine CS.bI Tryz.func64 rfl Tryz.ntmps64 rfl ?_
 by_cases hlong:40000<s.length
 ·have h2:(40000:Int)<s.length:=by omega
  simp [hlong,h2]
 have h2: ¬(40000:Int)<s.length:=by omega
 simp [hlong,h2];refine SW.kJ (ι:={ x:List UInt8×List Tok×Int // x.1.length≤s.length∧1≤x.2.2∧x.2.2+x.1.length≤s.length+1∧x.2.1.length+x.1.length≤s.length∧d3d x.2.1 (gS kV x.1 0 x.2.2 false)=res }) (fun x=>[(0,.d (.str x.1.1)),(5,.d (.sl (b0K x.1.2.1))),(6,.d (.int .i64 x.1.2.2))]) (fun _=>[]) (fun _=>[(96,[.t 5])]) (fun x=>x.1.1.length) ⟨(s,[],1),by refine ⟨d7m _,by simp,by simp;omega,by simp,?_⟩;simp only;rw [hres];cases res<;>rfl⟩ (by simp) ?_
 rintro ⟨⟨t,out,ln⟩,ht,hln,hb,ho,hR⟩
 try simp only at ht hln hb ho hR
 obtain ⟨q1,q2⟩:=a4T t 0 false;have q3:=a2t t 0 false;have hsk:=a2s t 0 false ln;have hhd:=a2u t 0 false;simp;refine aH.mk b3w (b6b t (by omega)) ?_
 obtain ⟨⟨rest,n⟩,hrn⟩:∃x,jM t 0 false=x:=⟨_,rfl⟩;rw [hrn] at hsk hhd q1 q2 q3;simp only [Int.natCast_zero,Int.add_zero] at hsk;simp only at hsk hhd q1 q2 q3;rw [hsk] at hR;have hw:IntKind.i64.wrap (ln+n)=ln+n:=wrap64 (by omega);have hsz:(out.length+1)*41≤140737488355328:=by omega
 simp [hrn,hw];cases rest with
 |nil=>
  have e:res= .ok (out++[⟨0,[],0,ln+n⟩]):=by rw [← hR];rfl
  simp [e,d3e,d3f,d3g,b1V,hsz]
 |cons c r=>
  obtain ⟨g1,g2,g3,g4⟩:=hhd c r rfl;rw [b7X (ln+n) g1 g2 g3 g4] at hR;simp;refine aH.mk b0J (b3x hS c r (by omega)) ?_
  obtain ⟨ff,hff⟩:∃ff,firstT kV (c::r)=ff:=⟨_,rfl⟩;have hok:= @a4y kV (c::r);rw [hff] at hR hok;obtain ⟨k,tx,m,ok⟩:=ff;simp only at hR hok;cases ok with
  |false=>
   have e:res= .error (ln+n):=by rw [← hR];rfl
   simp [hff,a1I,e,d3e,d3f,d3g]
  |true=>
   obtain ⟨p1,p2,_⟩:=hok rfl;have hle:=p2.length_le;have hpos:0<tx.length:=List.length_pos_iff.2 p1;simp only [List.length_cons] at hle q2 q3;simp [hff,a1I,hsz,hle];have hR2:d3d (out++[⟨k,tx,m,ln+n⟩]) (gS kV ((c::r).drop tx.length) 0 (ln+n) false)=res:=by
    rw [← hR,if_pos rfl];generalize gS kV ((c::r).drop tx.length) 0 (ln+n) false=y;cases y with
    |ok l=>simp [d3d]
    |error e=>rfl
   have hdl:((c::r).drop tx.length).length=r.length+1-tx.length:=by simp
   refine bQ.mk ⟨((c::r).drop tx.length,out++[⟨k,tx,m,ln+n⟩],ln+n),?_⟩ (by simp [b1V]) (by simp only [hdl];omega);refine ⟨by simp only [hdl];omega,by simp only;omega,by simp only [hdl];omega,by simp only [hdl,List.length_append,List.length_cons,List.length_nil];omega,hR2⟩
end Go.Proofs.YtjpodcmhcenjjaaGreatDoor
end
end
namespace Go.Proofs.YtjpodcmhcenjjaaGreatDoor
section
open Go Go.VM
variable {G:GT}
abbrev rdO (l:List Tok)(i:Nat):aY:= .cells [.d (.sl (l.map cJ)),.d (.int .i64 i)]
abbrev rH (l:List Tok)(i:Nat):List (Nat×aY):=[(100000,rdO l i)]
abbrev mB (n e:Int):Value:= .iface 127 (.agg #[.int .i64 n,.int .i64 e])
def gK {α:Type}:kY α→Bool
 | .ok _ _=>true
 | .bad _ _=>false
def rdE {α:Type}(l:List Tok)(enc:α→DV)(Y:α→List (Nat×aY))(own:List (TypeId×List VM.Loc)):kY α→VM.Ends
 | .ok a j=> .inl (enc a,rH l j++Y a,own)
 | .bad n e=> .inr (mB n e)
theorem b6c {α:Type}{l:List Tok}{enc:α→DV}{Y:α→List (Nat×aY)}{own:List (TypeId×List VM.Loc)}(r:kY α):(rdE l enc Y own r).isLeft=gK r:=by cases r<;>rfl
def kF (G:GT){α:Type}(f:FuncId)(av:List DV)(X:List (Nat×aY))(own:List (TypeId×List VM.Loc))(l:List Tok)(i:Nat)(r:kY α)(enc:α→DV)(Y:α→List (Nat×aY)):Prop:=CX Tryz.prog G f ⟨av,rH l i++X,own⟩ (rdE l enc Y own r)
abbrev pF (G:GT){α:Type}(f:FuncId)(ds:List D)(l:List Tok)(i:Nat)(r:kY α)(enc:α→DV):Prop:=kF G f (.ptr 100000 0::ds.map .d) [] [] l i r enc fun _=>[]
structure uL {α:Type} (Q:Exit→St→Prop) (rs:List ResultVar) (l:List Tok) (enc:α→DV) (Y:α→List (Nat×aY)) (own:List (TypeId×List VM.Loc)) (r:kY α):Prop where
 ok:∀a j e s,r= .ok a j→(e= .normal∨e= .ret)→a1F Tryz.prog s rs (enc a) (rH l j++Y a) own→Q e s
 bad:∀n e s,r= .bad n e→Q (.panic (vQ (mB n e))) s
section
variable {α β:Type} {Q:Exit→St→Prop} {rs:List ResultVar} {l:List Tok} {i j:Nat} {enc:β→DV} {Y:β→List (Nat×aY)} {own:List (TypeId×List VM.Loc)} {n e:Int} {a:α}
theorem uL.step {x:aS α}{f:α→aS β}(h:uL Q rs l enc Y own ((x >>=f) i))(hx:x i= .ok a j):uL Q rs l enc Y own (f a j):=by rwa [bF hx] at h
theorem uL.fail {x:aS α}{f:α→aS β}(h:uL Q rs l enc Y own ((x >>=f) i))(hx:x i= .bad n e)(s:St):Q (.panic (vQ (mB n e))) s:=h.bad _ _ _ (gT hx)
theorem uL.ifp {c:Prop}[Decidable c]{x y:kY β}(h:uL Q rs l enc Y own (if c then x else y))(hc:c):uL Q rs l enc Y own x:=by rwa [if_pos hc] at h
theorem uL.xF {c:Prop}[Decidable c]{x y:kY β}(h:uL Q rs l enc Y own (if c then x else y))(hc: ¬c):uL Q rs l enc Y own y:=by rwa [if_neg hc] at h
theorem kF.a2W {f:FuncId}{fn:Func}{c:Code}{k:Nat}{av:List DV}{X:List (Nat×aY)}{r:kY β}(hf:Tryz.prog.funcs[f]? =some fn)(hb:fn.body=some c)(hn:fn.ntmps=k)(hrs:fn.results.toList=rs)(hT:(own.all fun c=>c.2.all fun l=>match l with| .t i=>decide (i<av.length)|_=>true)=true)(h:∀Q:Exit→St→Prop,uL Q rs l enc Y own r→SW Tryz.prog G c ⟨av++List.replicate (k-av.length) (.cM []),rH l i++X,own⟩ Q):kF G f av X own l i r enc Y:=by
 refine CX.b3q hf hb hn hrs hT fun Q h1 h2=>h Q ⟨fun a j e s hr he hs=>?_,fun n e s hr=>?_⟩
 ·subst hr;exact h1 _ _ _ e s rfl he hs
 ·subst hr;exact h2 _ s rfl
theorem jP (K:List (Nat×Nat)):∀ds:List D,aT K (ds.map .d)=ds.map .d
 |[]=>rfl
 |d::r=>by simp only [List.map_cons,aT,bC,jP K r]
theorem gB (K:List (Nat×Nat)):∀ds:List D,(ds.map DV.d).all (aW K)=true
 |[]=>rfl
 |d::r=>by simp only [List.map_cons,List.all_cons,aW,gB K r,Bool.and_self]
theorem vR {f:FuncId}{av0 av:List DV}{X:List (Nat×aY)}{r:kY β}{st:St}{ls:List (Option VM.Loc)}{dst:Option Tmp}{KK:St→Prop}{rest:List (TypeId×List VM.Loc)}(he:VM.Enters Tryz.prog f)(hc:kF G f av0 X own l i r enc Y)(K:List (Nat×Nat))(hfit:∀a j,r= .ok a j→aN K ⟨av0,rH l i++X,own⟩ (enc a) (rH l j++Y a)=true)(hfit2:aN K ⟨av0,rH l i++X,own⟩ .undef (rH l i++X)=true)(hargs:WkT av (aT K av0))(hH:WkH st.H (cL K (rH l i++X)))(jR:rQ st st.own (own.map (mJ K ls))=some rest)(harg:uU st.tmps.length ls own=true)(hok:∀a j,r= .ok a j→KK (bB K dst st rest (enc a) (rH l j++Y a) own))(hbad:∀n e,r= .bad n e→Q (.panic (vQ (mB n e))) (xV st)):sR Tryz.prog G f av ls dst st KK Q (gK r):=by
 rw [← b6c (l:=l) (enc:=enc) (Y:=Y) (own:=own) r];refine sR.mk he hc K (fun d H1 own1 hx=>?_) (fun v hx=>hfit2) hargs hH jR harg (fun d H1 own1 hx=>?_) (fun v hx=>?_)
 ·cases r with
  |bad n e=>cases hx
  |ok a j=>cases hx;exact hfit a j rfl
 ·cases r with
  |bad n e=>cases hx
  |ok a j=>cases hx;exact hok a j rfl
 ·cases r with
  |bad n e=>cases hx;exact hbad n e rfl
  |ok a j=>cases hx
abbrev K1:List (Nat×Nat):=[(100000,100000)]
theorem sO {f:FuncId}{ds:List D}{av:List DV}{r:kY β}{st:St}{ls:List (Option VM.Loc)}{dst:Option Tmp}{KK:St→Prop}(he:VM.Enters Tryz.prog f)(hc:pF G f ds l i r enc)(hw:WkT av (.ptr 100000 0::ds.map .d))(hH:getKey 100000 st.H=some (rdO l i))(hok:∀a j,r= .ok a j→KK ⟨pS dst (enc a) st.tmps,cE 100000 (rdO l j) st.H,qG dst (dropKey 100000 st.own)⟩)(hbad:∀n e,r= .bad n e→Q (.panic (vQ (mB n e))) (xV st))(hk:∀a,aW K1 (enc a)=true∧bC K1 (enc a)=enc a:=by intro a;exact ⟨rfl,rfl⟩):sR Tryz.prog G f av ls dst st KK Q (gK r):=by
 refine vR he hc K1 (fun a j hr=>?_) ?_ ?_ ?_ rfl rfl (fun a j hr=>?_) hbad (rest:=st.own)
 ·simp [aN,aW,aR,aQ,gB,bA,getKey,(hk a).1]
 ·simp [aN,aW,aR,aQ,gB,bA,getKey]
 ·simpa [aT,bC,rk,jP] using hw
 ·simp only [cL,rdO,List.append_nil,List.map_cons,List.map_nil,rk,if_true,cW,aT,bC,WkH,and_true];exact ⟨_,hH,by simp [WkO]⟩
 ·have:=hok a j hr;simpa [bB,bN,cW,aT,bC,rk,eA,(hk a).2] using this
theorem b3y {f:FuncId}{ds:List D}{d:D}{av:List DV}{st:St}{q ro:Bool}{ls:List (Option VM.Loc)}{dst:Option Tmp}{all:Array Oper}{ops:List Oper}{k:List KI}(he:VM.Enters Tryz.prog f)(hc:CH Tryz.prog G f ⟨.ptr 100000 0::ds.map .d,rH l i,[]⟩ ⟨[.d d],rH l i,[]⟩)(hw:WkT av (.ptr 100000 0::ds.map .d))(hH:getKey 100000 st.H=some (rdO l i))(hno:jL [100000] st.own=true)(h:VK Tryz.prog G (.ops q all ops::k) .normal (finish st dst (.d d) .no) Q):eW Tryz.prog G q ro f av ls dst all ops k st Q:=by
 refine eW.ro he hc K1 ?_ ?_ ?_ hno ?_ h
 ·simp [aN,aW,aR,aQ,gB,bA,getKey]
 ·simpa [aT,bC,rk,jP] using hw
 ·simp only [cL,rdO,List.map_cons,List.map_nil,rk,if_true,cW,aT,bC,a2X,and_true];exact hH
 ·simp [hH]
theorem kF.cV {f:FuncId}{fn:Func}{c:Code}{k:Nat}{av:List DV}{X:List (Nat×aY)}{r:kY β}(hf:Tryz.prog.funcs[f]? =some fn)(hb:fn.body=some c)(hn:fn.ntmps=k)(hrs:fn.results.toList=rs)(hT:(own.all fun c=>c.2.all fun l=>match l with| .t i=>decide (i<av.length)|_=>true)=true)(h:∀Q:Exit→St→Prop,uL Q rs l enc Y own r→XK Tryz.prog G [.code c] .normal ⟨av++List.replicate (k-av.length) (.cM []),rH l i++X,own⟩ Q):kF G f av X own l i r enc Y:=kF.a2W hf hb hn hrs hT fun Q hQ=>SW.xk (h Q hQ)
theorem cF {f:FuncId}{ds:List D}{av:List DV}{r:kY β}{st:St}{ls:List (Option VM.Loc)}{dst:Option Tmp}{all:Array Oper}{ops:List Oper}{k:List XI}(he:VM.Enters Tryz.prog f)(hc:pF G f ds l i r enc)(hw:WkT av (.ptr 100000 0::ds.map .d))(hH:getKey 100000 st.H=some (rdO l i))(hok:∀a j,r= .ok a j→XK Tryz.prog G (.ops all ops::k) .normal ⟨pS dst (enc a) st.tmps,cE 100000 (rdO l j) st.H,qG dst (dropKey 100000 st.own)⟩ Q)(hbad:∀n e,r= .bad n e→Q (.panic (vQ (mB n e))) (xV st))(hk:∀a,aW K1 (enc a)=true∧bC K1 (enc a)=enc a:=by intro a;exact ⟨rfl,rfl⟩):gW Tryz.prog G f av ls dst all ops k st Q:=gW.mk (sO he hc hw hH hok hbad hk)
theorem bG {f:FuncId}{ds:List D}{d:DV}{av:List DV}{st:St}{ls:List (Option VM.Loc)}{dst:Option Tmp}{all:Array Oper}{ops:List Oper}{k:List XI}(he:VM.Enters Tryz.prog f)(hc:CH Tryz.prog G f ⟨.ptr 100000 0::ds.map .d,rH l i,[]⟩ ⟨[d],rH l j,[]⟩)(hw:WkT av (.ptr 100000 0::ds.map .d))(hH:getKey 100000 st.H=some (rdO l i))(h:XK Tryz.prog G (.ops all ops::k) .normal ⟨pS dst d st.tmps,cE 100000 (rdO l j) st.H,qG dst (dropKey 100000 st.own)⟩ Q)(hk:aW K1 d=true∧bC K1 d=d:=by exact ⟨rfl,rfl⟩):gW Tryz.prog G f av ls dst all ops k st Q:=
 cF (r:=kY.ok () j) (enc:=fun _=>d) he hc hw hH (fun a j' hr=>by cases hr;exact h) (fun n e hr=>by cases hr) fun _=>hk
end
theorem d4Y:List.range 2=[0,1]:=rfl
theorem d4Z:List.range 3=[0,1,2]:=rfl
attribute [simp] pS qG d4Y d4Z
end
section
open Go Go.VM
variable {G:GT}
theorem jQ:VM.Enters Tryz.prog 127:=VM.Enters.mk Tryz.func127 rfl
theorem jF:VM.Enters Tryz.prog 120:=VM.Enters.mk Tryz.func120 rfl
theorem bP:VM.Enters Tryz.prog 41:=VM.Enters.mk Tryz.func41 rfl
theorem eT:VM.Enters Tryz.prog 76:=VM.Enters.mk Tryz.func76 rfl
theorem aD:VM.Enters Tryz.prog 60:=VM.Enters.mk Tryz.func60 rfl
theorem rU:VM.Enters Tryz.prog 59:=VM.Enters.mk Tryz.func59 rfl
theorem aE:VM.Enters Tryz.prog 43:=VM.Enters.mk Tryz.func43 rfl
theorem xZ:VM.Enters Tryz.prog 119:=VM.Enters.mk Tryz.func119 rfl
theorem cO:VM.Enters Tryz.prog 71:=VM.Enters.mk Tryz.func71 rfl
theorem gO:VM.Enters Tryz.prog 116:=VM.Enters.mk Tryz.func116 rfl
theorem yA:VM.Enters Tryz.prog 137:=VM.Enters.mk Tryz.func137 rfl
theorem kM (t:Tok)(s:Nm):CS Tryz.prog G 127 [.agg (cJ t),.str s] (.d (.bool (cU t s))) none:=by
 obtain ⟨k,x,n,ln⟩:=t;refine CS.bI Tryz.func127 rfl Tryz.ntmps127 rfl ?_
 by_cases h1:k=1
 ·by_cases h2:x=s<;>simp [cJ,cU,h1,h2]
 ·by_cases h4:k=4
  ·by_cases h2:x=s<;>simp [cJ,cU,h4,h2]
  ·by_cases h5:k=2
   ·by_cases h2:x=s<;>simp [cJ,cU,h5,h2]
   ·simp [cJ,cU,h1,h4,h5]
theorem kD (hG:G 1=some dV)(t:Tok):CS Tryz.prog G 120 [.agg (cJ t)] (.d (.bool (gU aX t))) none:=by
 obtain ⟨k,x,n,ln⟩:=t;refine CS.bI Tryz.func120 rfl Tryz.ntmps120 rfl ?_
 by_cases h1:k=1
 ·simp [cJ,gU,h1];refine aH.mk tQ (vN hG x) ?_
  simp
 ·simp [cJ,gU,h1]
theorem cI (l:List Tok)(i m:Nat)(x:Int)(hx:(i:Int)+x=m)(hm:m≤l.length+10)(h0:l≠[])(hl:l.length≤2000000):CH Tryz.prog G 41 ⟨[.ptr 100000 0,.d (.int .i64 x)],rH l i,[]⟩ ⟨[.d (.agg (cJ (aJ l m)))],rH l i,[]⟩:=by
 have hw:IntKind.i64.wrap ((i:Int)+x)=(m:Int):=by rw [hx,wrap64 (by omega)]
 have hlen:0<l.length:=List.length_pos_iff.2 h0;have hw2:IntKind.i64.wrap ((l.length:Int)-1)=((l.length-1:Nat):Int):=by rw [wrap64 (by omega)];omega
 by_cases h:m<l.length
 ·have hg:aJ l m=l[m]:=by simp [aJ,h]
  rw [hg];obtain ⟨T,hT⟩:∃T,l[m]=T:=⟨_,rfl⟩;rw [hT];obtain ⟨k,s,n,ln⟩:=T;refine CH.bI Tryz.func41 rfl Tryz.ntmps41 rfl (by simp) ?_
  simp [hw,h,hT,cJ];exact ⟨mA.mk (by kernel_rfl),mA.mk (by kernel_rfl)⟩
 ·have hl1:l.length-1<l.length:=by omega
  have hg:aJ l m=l[l.length-1]:=by simp [aJ,h,List.getLastD_eq_getLast?,List.getLast?_eq_getElem?,hl1]
  rw [hg];obtain ⟨N,hN⟩:∃N,l.length-1=N:=⟨_,rfl⟩;rw [hN] at hl1 hw2;obtain ⟨T,hT⟩:∃T,l[N]=T:=⟨_,rfl⟩;have hT2:l[l.length-1]=T:=by simp only [hN];exact hT
  rw [hT2];obtain ⟨k,s,n,ln⟩:=T;refine CH.bI Tryz.func41 rfl Tryz.ntmps41 rfl (by simp) ?_
  simp [hw,hw2,h,h0,hT,hl1,cJ];exact ⟨mA.mk (by kernel_rfl),mA.mk (by kernel_rfl)⟩
theorem gZ (l:List Tok)(i:Nat)(s:Nm)(hi:i<l.length)(hl:l.length≤2000000):CH Tryz.prog G 76 ⟨[.ptr 100000 0,.d (.str s)],rH l i,[]⟩ ⟨[.d (.bool (aI l i s))],rH l i,[]⟩:=by
 have ht:=cI (G:=G) l i i 0 (by omega) (by omega) (by intro e;subst e;simp at hi) hl;refine CH.bI Tryz.func76 rfl Tryz.ntmps76 rfl (by simp) ?_
 simp;refine b3y (i:=i) (ds:=[.int .i64 0]) bP ht (by simp) (by simp) (by simp) ?_
 simp;refine aH.mk jQ (kM (aJ l i) s) ?_
 simp [aI]
theorem aU (l:List Tok)(i:Nat)(s:Nm)(hi:i<l.length)(hl:l.length≤2000000)(h:aI l i s=true):CH Tryz.prog G 60 ⟨[.ptr 100000 0,.d (.str s)],rH l i,[]⟩ ⟨[.d (.bool true)],rH l (i+1),[]⟩:=by
 have hc:=gZ (G:=G) l i s hi hl;rw [h] at hc;have hw:=bO (show i<9223372036854775807 by omega);refine CH.bI Tryz.func60 rfl Tryz.ntmps60 rfl (by simp) ?_
 simp;refine b3y (i:=i) (ds:=[.str s]) eT hc (by simp) (by simp) (by simp) ?_
 simp [hw]
theorem aV (l:List Tok)(i:Nat)(s:Nm)(hi:i<l.length)(hl:l.length≤2000000)(h:aI l i s=false):CH Tryz.prog G 60 ⟨[.ptr 100000 0,.d (.str s)],rH l i,[]⟩ ⟨[.d (.bool false)],rH l i,[]⟩:=by
 have hc:=gZ (G:=G) l i s hi hl;rw [h] at hc;refine CH.bI Tryz.func60 rfl Tryz.ntmps60 rfl (by simp) ?_
 simp;refine b3y (i:=i) (ds:=[.str s]) eT hc (by simp) (by simp) (by simp) ?_
 simp
theorem tI {α:Type}(l:List Tok)(i:Nat)(hi:i<l.length)(hl:l.length≤2000000)(enc:α→DV):pF G 59 [] l i (cQ l i:kY α) enc:=by
 have ht:=cI (G:=G) l i i 0 (by omega) (by omega) (by intro e;subst e;simp at hi) hl;refine kF.a2W Tryz.func59 rfl Tryz.ntmps59 rfl (by simp) ?_
 intro Q hE;refine SW.lw (LW.app 4 ?_);simp;refine b3y (i:=i) (ds:=[.int .i64 0]) bP ht (by simp) (by simp) (by simp) ?_
 generalize hT:aJ l i=T;have hb:=fun s=>hE.bad T.line 14 s (by unfold cQ;rw [hT])
 obtain ⟨k,s,n,ln⟩:=T;simp [cJ];refine LW.b8e (td:=_) (n:=ln) (e:=14) rfl rfl (by simp) (by simp) ?_
 exact hb _
end
section
open Go Go.VM
variable {G:GT}
theorem b3z {l:List Tok}{s:Nm}{r:List Nm}{i:Nat}(h:aI l i s=true):aL l (s::r) i=aL l r (i+1):=by
 show (if aI l i s=true then aL l r (i+1) else cQ l i)=_
 rw [if_pos h]
theorem c8X {l:List Tok}{s:Nm}{r:List Nm}{i:Nat}(h:aI l i s=false):aL l (s::r) i=cQ l i:=by
 show (if aI l i s=true then aL l r (i+1) else cQ l i)=_
 rw [if_neg (by rw [h];decide)]
theorem aG (l:List Tok)(ss:List Nm)(i:Nat)(hi:i<l.length)(hl:l.length≤2000000)(hE:pE l)(hss:ss.length≤1000):pF G 43 [.sl (strs ss)] l i (aL l ss i) (fun _=> .cM []):=by
 refine kF.cV Tryz.func43 rfl Tryz.ntmps43 rfl (by simp) ?_
 intro Q hQ;simp;refine SW.vG (ι:={ k:Nat // k≤ss.length∧i+k<l.length∧aL l (ss.drop k) (i+k)=aL l ss i }) (fun k=>[(8,.d (.int .i64 k.1))]) (fun k=>rH l (i+k.1)) (fun _=>[]) (fun k=>ss.length-k.1) ⟨0,by simp [hi]⟩ (by simp) ?_
 rintro ⟨k,hk,hik,hp⟩;rw [← hp] at hQ;by_cases hlt:k<ss.length
 ·have hg:=b5r hlt;have hw:=bO (show k<9223372036854775807 by omega);have hd:ss.drop k=ss[k]::ss.drop (k+1):=d7j hlt;rw [hd] at hQ hp;simp [hlt,hg];cases hs:aI l (i+k) ss[k] with
  |true=>
   have hn:=aF hE hik hs;rw [b3z hs] at hp;refine bG (ds:=[.str ss[k]]) (d:= .d (.bool true)) aD (aU l (i+k) ss[k] hik hl hs) (by simp) (by simp) ?_
   simp [hw];exact bQ.mk ⟨k+1,hlt,by omega,hp⟩ (by simp [Nat.add_assoc]) (by simp;omega)
  |false=>
   rw [c8X hs] at hQ;refine bG (ds:=[.str ss[k]]) (d:= .d (.bool false)) aD (aV l (i+k) ss[k] hik hl hs) (by simp) (by simp) ?_
   simp;refine cF (ds:=[]) rU (tI (α:=Unit) l (i+k) hik hl fun _=> .cM []) (by simp) (by simp) (fun a j hx=>by unfold cQ at hx;cases hx) (fun n e hx=>?_);simp;exact hQ.bad n e _ hx
 ·have hd:ss.drop k=[]:=List.drop_eq_nil_of_le (by omega);rw [hd] at hQ;simp [hlt];exact hQ.ok () (i+k) _ _ rfl (.inl rfl) (by simp)
theorem a3K (l:List Tok)(i:Nat)(ok:Tok→Bool)(hi:i<l.length)(hl:l.length≤2000000):pF G 119 [.bool (ok (aJ l i))] l i (mK l ok i) (fun s=> .d (.str s)):=by
 have ht:=cI (G:=G) l (i+1) i (-1) (by omega) (by omega) (by intro e;subst e;simp at hi) hl;have hw:=bO (show i<9223372036854775807 by omega);refine kF.cV Tryz.func119 rfl Tryz.ntmps119 rfl (by simp) ?_
 intro Q hQ;cases h:ok (aJ l i) with
 |true=>
  simp [hw];refine bG (i:=i+1) (ds:=[.int .i64 (-1)]) bP ht (by simp) (by simp) ?_
  generalize hT:aJ l i=T at hQ ht h ⊢;have hk:=hQ.ok T.text (i+1) .ret;obtain ⟨k,s,n,ln⟩:=T;simp [cJ];exact hk _ (by unfold mK;rw [hT,if_pos h]) (.inr rfl) (by simp)
 |false=>simp;refine cF (ds:=[]) rU (tI (α:=Nm) l i hi hl fun _=> .cM []) (by simp) (by simp) (fun a j hx=>by unfold cQ at hx;cases hx) (fun n e hx=>?_);exact hQ.bad n e _ (by unfold mK;rw [if_neg (by rw [h];decide)];exact hx)
section
variable (hG:G 1=some dV)
include hG
theorem dI (l:List Tok)(i:Nat)(hi:i<l.length)(hl:l.length≤2000000):pF G 71 [] l i (bL aX l i) (fun s=> .d (.str s)):=by
 have ht:=cI (G:=G) l i i 0 (by omega) (by omega) (by intro e;subst e;simp at hi) hl;refine kF.cV Tryz.func71 rfl Tryz.ntmps71 rfl (by simp) ?_
 intro Q hQ;simp;refine bG (ds:=[.int .i64 0]) bP ht (by simp) (by simp) ?_
 simp;refine kP.mk jF (kD hG (aJ l i)) ?_
 simp;refine cF (ds:=[.bool (gU aX (aJ l i))]) xZ (a3K l i (gU aX) hi hl) (by simp) (by simp) (fun s j hx=>?_) (fun n e hx=>hQ.bad n e _ hx);simp;exact hQ.ok s j _ _ hx (.inr rfl) (by simp)
theorem a0n (l:List Tok)(i:Nat)(hi:i<l.length)(hl:l.length≤2000000):pF G 137 [] l i (a0e aX l i) (fun s=> .d (.str s)):=by
 have ht:=cI (G:=G) l i i 0 (by omega) (by omega) (by intro e;subst e;simp at hi) hl;refine kF.cV Tryz.func137 rfl Tryz.ntmps137 rfl (by simp) ?_
 intro Q hQ;simp;refine bG (ds:=[.int .i64 0]) bP ht (by simp) (by simp) ?_
 simp;refine kP.mk jF (kD hG (aJ l i)) ?_
 have hc:=a3K (G:=G) l i (fun t=>gU aX t||kT t) hi hl;cases h:gU aX (aJ l i) with
 |true=>simp only [h,Bool.true_or] at hc;simp;refine cF (ds:=[.bool true]) xZ hc (by simp) (by simp) (fun s j hx=>?_) (fun n e hx=>hQ.bad n e _ hx);simp;exact hQ.ok s j _ _ hx (.inr rfl) (by simp)
 |false=>
  simp only [h,Bool.false_or] at hc;simp;refine bG (ds:=[.int .i64 0]) bP ht (by simp) (by simp) ?_
  generalize hT:aJ l i=T at hc ⊢;obtain ⟨k,x,n,ln⟩:=T;simp [cJ];refine cF (ds:=[.bool (kT ⟨k,x,n,ln⟩)]) xZ hc (by simp [kT]) (by simp) (fun s j hx=>?_) (fun n e hx=>hQ.bad n e _ hx);simp;exact hQ.ok s j _ _ hx (.inr rfl) (by simp)
end
theorem jG (l:List Tok)(i:Nat)(hi:i<l.length)(hl:l.length≤2000000):pF G 116 [] l i (eQ l i) (fun s=> .d (.str s)):=by
 have ht:=cI (G:=G) l i i 0 (by omega) (by omega) (by intro e;subst e;simp at hi) hl;have hc:=a3K (G:=G) l i kT hi hl;refine kF.cV Tryz.func116 rfl Tryz.ntmps116 rfl (by simp) ?_
 intro Q hQ;simp;refine bG (ds:=[.int .i64 0]) bP ht (by simp) (by simp) ?_
 generalize hT:aJ l i=T at hc ⊢;obtain ⟨k,x,n,ln⟩:=T;simp [cJ];refine cF (ds:=[.bool (kT ⟨k,x,n,ln⟩)]) xZ hc (by simp [kT]) (by simp) (fun s j hx=>?_) (fun n e hx=>hQ.bad n e _ hx);simp;exact hQ.ok s j _ _ hx (.inr rfl) (by simp)
end
section
open Go Go.VM
variable {G:GT}
abbrev d3h:Pr→DV:=fun p=> .d (.agg (prD p))
structure kQ (G:GT) (rdP:List Tok→Nat→Nat→kY Pr) (l:List Tok):Prop where
 kw:G 1=some dV
 len:l.length≤50000
 fin:pE l
 bef:∀i e,i<l.length→e≤l.length→pF G 155 [.int .i64 e] l i (rdP l i e) d3h
 pJ:uX rdP l
 nod:∀i e p j,i<l.length→rdP l i e= .ok p j→dF p+i≤j∧p.op≠0
theorem a3g:VM.Enters Tryz.prog 155:=VM.Enters.mk Tryz.func155 rfl
theorem mV:VM.Enters Tryz.prog 126:=VM.Enters.mk Tryz.func126 rfl
theorem dQ:VM.Enters Tryz.prog 114:=VM.Enters.mk Tryz.func114 rfl
theorem a0o:VM.Enters Tryz.prog 117:=VM.Enters.mk Tryz.func117 rfl
theorem a9f:VM.Enters Tryz.prog 166:=VM.Enters.mk Tryz.func166 rfl
section
variable {rdP:List Tok→Nat→Nat→kY Pr} {l:List Tok} (hV:kQ G rdP l)
include hV
theorem pV (i:Nat)(hi:i<l.length):pF G 126 [] l i (dH rdP l i) d3h:=by
 have hl:=hV.len;refine kF.cV Tryz.func126 rfl Tryz.ntmps126 rfl (by simp) ?_
 intro Q hQ;simp;refine cF (ds:=[.int .i64 l.length]) a3g (hV.bef i l.length hi (d7m _)) (by simp) (by simp) (fun p j hx=>?_) (fun n e hx=>hQ.bad n e _ hx);simp;exact hQ.ok p j _ _ hx (.inr rfl) (by simp)
omit hV in
structure wY {α:Type} (l:List Tok) (K:List (Nat×Nat)) (caps:List DV) (X:α→List (Nat×aY)) (own:List (TypeId×List VM.Loc)):Prop where
 fit:∀a b i j,aN K ⟨caps,rH l i++X a,own⟩ (.cM []) (rH l j++X b)=true
 d5a:∀a i,aN K ⟨caps,rH l i++X a,own⟩ .undef (rH l i++X a)=true
 cap:WkT caps (aT K caps)
 hh:∀a i,WkH (rH l i++X a) (cL K (rH l i++X a))
 tk:∀a i tmps,rQ ⟨tmps,rH l i++X a,own⟩ own (own.map (mJ K []))=some []
 ow:∀t,own.map (gM K (some t))=own
 arg:∀n,uU n [] own=true
 st:∀a b i j,bN K (rH l j++X b) ((100000,rdO l i)::X a)=(100000,rdO l j)::X b
 dk:dropKey 100000 own=own
 d0:∀t:Nat,cH (.t t) own=own
 dl:∀t:Nat,List.map (fun c=>(c.1,List.filter (fun x=> !decide (x=VM.Loc.t t)) c.2)) own=own
 tt:(own.all fun c=>c.2.all fun l=>match l with| .t i=>decide (i<3)|_=>true)=true
 wk:∀a i t1 t2,WkT t1 t2→vM ⟨t1,rH l i++X a,own⟩ ⟨t2,rH l i++X a,own⟩
 ed:∀a i (s:St),s.H=rH l i++X a→s.own=own→a1F Tryz.prog s [] (.cM []) (rH l i++X a) own
theorem b1W {α:Type}{c:Nm}{one:α→aS α}{g:Nat}{a b:α}{i j:Nat}(h:one a i= .ok b j):gV l c one (g+1) a i=if aI l j c then gV l c one g b (j+1) else .ok b j:=by rw [gV];simp only [h]
theorem a9g {α:Type}{c:Nm}{one:α→aS α}{g:Nat}{a:α}{i:Nat}{n e:Int}(h:one a i= .bad n e):gV l c one (g+1) a i= .bad n e:=by rw [gV];simp only [h]
theorem a3L:∀K:List (Nat×Nat),eA K []=[]
 |[]=>rfl
 |p::r=>by unfold eA;exact a3L r
theorem eO {α:Type}(c:Nm){F:FuncId}{caps:List DV}{X:α→List (Nat×aY)}{own:List (TypeId×List VM.Loc)}{K:List (Nat×Nat)}(one:α→aS α)(Inv:α→Nat→Prop)(low:Nat)(he:VM.Enters Tryz.prog F)(hX:wY l K caps X own)(hadv:∀a,aA l 0 (one a))(hone:∀a i,low≤i→i<l.length→Inv a i→kF G F caps (X a) own l i (one a i) (fun _=> .cM []) X)(hinv:∀a i b j,i<l.length→Inv a i→one a i= .ok b j→Inv b j)(hmono:∀a i,Inv a i→Inv a (i+1))(a0:α)(i0:Nat)(hlow:low≤i0)(hi0:i0<l.length)(h0:Inv a0 i0):kF G 114 [.ptr 100000 0,.d (.str c),.yV F caps] (X a0) own l i0 (dT l c one a0 i0) (fun _=> .cM []) X:=by
 have hl:=hV.len;refine kF.cV Tryz.func114 rfl Tryz.ntmps114 rfl hX.tt ?_
 intro Q hQ;unfold dT at hQ;simp [hX.dl];refine gW.mk (vR he (hone a0 i0 hlow hi0 h0) K (fun a j hx=>hX.fit _ _ _ _) (hX.d5a _ _) hX.cap (hX.hh _ _) (hX.tk _ _ _) (hX.arg _) (fun b j hx=>?_) (fun n e hx=>hQ.bad n e _ (a9g hV hx)));rw [b1W hV hx] at hQ;simp only [bB,hX.st,hX.ow,a3L hV,bC,qG,pS,cH,List.map_nil,List.append_nil];simp [aT];refine SW.vG (ι:={ x:α×Nat×Nat // low≤x.2.1∧x.2.1<l.length∧l.length<x.2.2+x.2.1∧Inv x.1 x.2.1∧(if aI l x.2.1 c=true then gV l c one x.2.2 x.1 (x.2.1+1) else .ok x.1 x.2.1)=(if aI l j c=true then gV l c one (l.length+1) b (j+1) else .ok b j) }) (fun _=>[]) (fun x=>rH l x.1.2.1++X x.1.1) (fun _=>own) (fun x=>l.length-x.1.2.1) ⟨(b,j,l.length+1),?_⟩ ?_ ?_
 ·have h1:=hadv a0 i0 b j hi0 hx;exact ⟨by simp only;omega,h1.2,by simp only;omega,hinv a0 i0 b j hi0 h0 hx,rfl⟩
 ·refine hX.wk b j _ _ ?_
  simp
 ·rintro ⟨⟨b1,j1,g1⟩,hl1,hj1,hg1,hI1,hp1⟩;simp only at hl1 hj1 hg1 hI1 hp1;rw [← hp1] at hQ;simp [hX.dl];by_cases hs:aI l j1 c=true
  ·have hn:=aF hV.fin hj1 hs;rw [hs,if_pos rfl] at hQ hp1;obtain ⟨g2,rfl⟩:∃g,g1=g+1:=⟨g1-1,by omega⟩;refine bG (ds:=[.str c]) (d:= .d (.bool true)) aD (aU l j1 c hj1 (by omega) hs) (by simp) (by simp) ?_
   simp only [qG,hX.dk,hX.d0];simp [hX.dl];refine gW.mk (vR he (hone b1 (j1+1) (by omega) hn (hmono _ _ hI1)) K (fun a j hx=>hX.fit _ _ _ _) (hX.d5a _ _) hX.cap (hX.hh _ _) (hX.tk _ _ _) (hX.arg _) (fun b2 j2 hx2=>?_) (fun n e hx2=>?_))
   ·have ha:=hadv b1 (j1+1) b2 j2 hn hx2;rw [b1W hV hx2] at hp1;simp only [bB,hX.st,hX.ow,a3L hV,bC,qG,pS,cH,List.map_nil,List.append_nil];simp [aT];refine bQ.mk ⟨(b2,j2,g2),by simp only;omega,ha.2,by simp only;omega,hinv _ _ _ _ hn (hmono _ _ hI1) hx2,hp1⟩ ?_ (by simp;omega)
    refine hX.wk b2 j2 _ _ ?_
    simp
   ·simp;exact hQ.bad n e _ (a9g hV hx2)
  ·have hs:=Bool.eq_false_iff.2 hs;rw [hs,if_neg (by decide)] at hQ;refine bG (ds:=[.str c]) (d:= .d (.bool false)) aD (aV l j1 c hj1 (by omega) hs) (by simp) (by simp) ?_
   simp only [qG,hX.dk,hX.d0];simp [hX.dl];exact hQ.ok b1 j1 _ _ rfl (.inl rfl) (hX.ed b1 j1 _ rfl rfl)
end
end
section
open Go Go.VM
variable {G:GT}
theorem zI (l:List Nm)(s:Nm):strs (l++[s])=strs l++[[.str s]]:=by simp [strs]
abbrev K3:List (Nat×Nat):=[(100000,100000),(100001,100001),(100002,100002)]
theorem yB:VM.Enters Tryz.prog 132:=VM.Enters.mk Tryz.func132 rfl
theorem b0M:VM.Enters Tryz.prog 173:=VM.Enters.mk Tryz.func173 rfl
section
variable {rdP:List Tok→Nat→Nat→kY Pr} {l:List Tok} (hV:kQ G rdP l)
include hV
def yP (out:List Nm):List (Nat×aY):=[(100001,.cells [.d (.sl (strs out))]),(100002,.cells [.ptr 100000 0])]
abbrev c4a:List (TypeId×List VM.Loc):=[(9,[.c 100001 0])]
abbrev uY (l:List Tok)(out:List Nm):aS (List Nm):=do let w ← bL aX l;pure (out++[w])
theorem b3A (out:List Nm)(i:Nat)(hi:i<l.length)(hout:out.length≤i):kF G 166 [.ptr 100001 0,.ptr 100002 0] (yP out) c4a l i (uY l out i) (fun _=> .cM []) yP:=by
 have hl:=hV.len;refine kF.cV Tryz.func166 rfl Tryz.ntmps166 rfl (by simp) ?_
 intro Q hQ;simp [yP];refine kO 2 [1] (.op 0 (.call [3,4,5] .none) (.call [0,3,4,5] .none)) (gK (bL aX l i)) (by kernel_rfl) (by kernel_rfl) ?_
 simp;refine ⟨?_,?_⟩
 all_goals
  refine sO (ds:=[]) cO (dI hV.kw l i hi (by omega)) (by simp) (by simp) (fun w j hx=>?_) (fun n e hx=>hQ.fail hx _);have hQ2:=hQ.step hx;refine dA.mk ?_
  simp;refine eL (by omega) ?_
  simp;exact hQ2.ok _ j _ _ rfl (.inl rfl) (by simp [yP,zI])
theorem b8l:wY l K3 [.ptr 100001 0,.ptr 100002 0] yP c4a:=by
 constructor
 all_goals intros
 all_goals first
  |rfl
  |simp [yP,aN,aW,aR,aQ,bA,getKey,aT,bC,cL,rk,cW,bN, *]
theorem a1J (i:Nat)(hi:i<l.length):pF G 117 [] l i (cZ aX l i) (fun ws=> .d (.sl (strs ws))):=by
 have hl:=hV.len;refine kF.cV Tryz.func117 rfl Tryz.ntmps117 rfl (by simp) ?_
 intro Q hQ;unfold cZ at hQ;simp;refine cF (ds:=[.sl (strs [[40]])]) aE (aG l [[40]] i hi (by omega) hV.fin (by simp)) (by simp [strs]) (by simp) (fun u j hx=>?_) (fun n e hx=>hQ.fail hx _);have hQ2:=hQ.step hx;have hj:=aA.exp hV.fin _ _ i u j hi hx;simp;have hone:=eO hV [44] (uY l) (fun out i=>out.length≤i) 0 a9f (b8l hV) (fun a=>((aA.word hV.fin).le (by omega)).bl fun _=>aA.aO _) (fun a i _ hi h=>b3A hV a i hi h) (fun a i b j hi h hx=>?_) (fun a i h=>by omega) [] j (by omega) hj.2 (by simp)
 ·refine gW.mk (vR dQ hone [(100000,100000),(100001,3),(100002,1)] (fun a j hx=>?_) ?_ ?_ ?_ rfl rfl (fun ws j2 hx2=>?_) (fun n e hx2=>hQ2.fail hx2 _))
  ·simp [yP,aN,aW,aR,aQ,bA,getKey]
  ·simp [yP,aN,aW,aR,aQ,bA,getKey]
  ·simp [aT,bC,rk]
  ·simp [yP,aT,bC,rk,cL,cW]
  ·have hQ3:=hQ2.step hx2;have hj2:=aA.list hV.fin (m:=0) (fun a=>((aA.word hV.fin).le (by omega)).bl fun _=>aA.aO _) [] j ws j2 hj.2 hx2;simp [bB,yP,aT,bC,rk,cL,cW,bN,gM,eX,eA];refine cF (ds:=[.sl (strs [[41]])]) aE (aG l [[41]] j2 hj2.2 (by omega) hV.fin (by simp)) (by simp [strs]) (by simp) (fun u j hx=>?_) (fun n e hx=>hQ3.fail hx _);have hQ4:=hQ3.step hx;simp;exact hQ4.ok _ j _ _ rfl (.inr rfl) (by simp)
 ·simp only [uY] at hx;rw [eF] at hx;cases hw:bL aX l i with
  |bad n e=>rw [hw] at hx;cases hx
  |ok w k=>rw [hw] at hx;have:=aA.word (kw:=aX) hV.fin i w k hi hw;cases hx;simp;omega
end
end
section
open Go Go.VM
variable {G:GT}
theorem hM {l:List Tok}{s:Nm}{i:Nat}(h:aI l i s=true):cR l s i= .ok true (i+1):=by unfold cR;rw [if_pos h]
theorem hU {l:List Tok}{s:Nm}{i:Nat}(h:aI l i s=false):cR l s i= .ok false i:=by unfold cR;rw [if_neg (by rw [h];decide)]
section
variable {rdP:List Tok→Nat→Nat→kY Pr} {l:List Tok} (hV:kQ G rdP l)
include hV
def a0N (v:Bool)(out:List psV):List (Nat×aY):=[(100001,.cells [.d (.bool v)]),(100002,.cells [.ptr 100000 0]),(100003,.cells [.d (.sl (out.map kU))])]
abbrev d0Z:List (TypeId×List VM.Loc):=[(179,[.c 100003 0])]
abbrev K4:List (Nat×Nat):=[(100000,100000),(100001,100001),(100002,100002),(100003,100003)]
abbrev b1X (l:List Tok)(v:Bool)(out:List psV):aS (List psV):=do
 let b ← (if v then cR l [118] else pure false)
 let name ← (if b then pure [118] else bL aX l)
 aL l [[58]]
 let s ← a0e aX l
 pure (out++[(name,s)])
theorem a2v (l:List psV)(x:psV):(l++[x]).map kU=l.map kU++[[.str x.1,.str x.2]]:=by simp [kU]
theorem c4b (l:List psV):∀x∈l.map kU,x.length=2:=fun x hx=>by
 obtain ⟨y,_,rfl⟩:=List.mem_map.1 hx
 rfl
theorem b6d (v:Bool)(out:List psV)(i:Nat)(hi:i<l.length)(hout:out.length≤i):kF G 173 [.ptr 100001 0,.ptr 100002 0,.ptr 100003 0] (a0N v out) d0Z l i (b1X l v out i) (fun _=> .cM []) (a0N v):=by
 have hl:=hV.len;refine kF.cV Tryz.func173 rfl Tryz.ntmps173 rfl (by simp) ?_
 intro Q Q0;obtain ⟨j0,rfl⟩:∃j0,j0=i:=⟨_,rfl⟩;have p0:j0≤j0∧j0<l.length:=⟨d7m _,hi⟩;simp [a0N];cases v with
 |false=>
  have Q1:=Q0.step (x:=pure false) rfl;rw [if_neg (by decide)] at Q1;simp;obtain ⟨j1,rfl⟩:∃j1,j1=j0:=⟨_,rfl⟩;have p1:=p0;refine cF cO (dI hV.kw l j1 p1.2 (by omega)) (by simp) (by simp) (fun s j2 x2=>?_) (fun n e hx=>by first|exact Q1.fail hx _|(simp;exact Q1.fail hx _)|(simp;exact fun s=>Q1.fail hx s));have Q2:=Q1.step x2;have p2:=aA.word hV.fin j1 s j2 p1.2 x2;simp;refine cF (ds:=[.sl (strs [[58]])]) aE (aG l [[58]] j2 p2.2 (by omega) hV.fin (by simp)) (by simp [strs]) (by simp) (fun u5 j5 x5=>?_) (fun n e hx=>by first|exact Q2.fail hx _|(simp;exact Q2.fail hx _)|(simp;exact fun s=>Q2.fail hx s));have Q5:=Q2.step x5;have p5:=aA.exp hV.fin _ _ j2 u5 j5 p2.2 x5;simp;refine jY [1] 3 [2] (.op 0 (.call [4,5,6,7] .none) (.call [0,4,5,6,7] .none)) (gK (a0e aX l j5)) (by kernel_rfl) (by kernel_rfl) ?_
  simp;refine ⟨?_,?_⟩
  all_goals
   refine sO yA (a0n hV.kw l j5 p5.2 (by omega)) (by simp) (by simp) (fun w j6 x6=>?_) (fun n e hx=>by first|exact Q5.fail hx _|(simp;exact Q5.fail hx _)|(simp;exact fun s=>Q5.fail hx s));have Q6:=Q5.step x6;have p6:=aA.sort hV.fin j5 w j6 p5.2 x6;refine dA.mk ?_
   simp;refine eL (by simp [kU];omega) ?_
   simp;exact Q6.ok _ j6 _ _ rfl (.inl rfl) (by simp [a0N,a2v hV])
 |true=>
  cases hs:aI l j0 [118] with
  |true=>
   have Q1:=Q0.step (x:=cR l [118]) (hM hs);rw [if_pos rfl] at Q1;have Q2:=Q1.step (x:=pure [118]) rfl;simp;refine bG (ds:=[.str [118]]) (d:= .d (.bool true)) aD (aU l j0 [118] p0.2 (by omega) hs) (by simp) (by simp) ?_
   have p2:j0+1≤j0+1∧j0+1<l.length:=⟨d7m _,aF hV.fin p0.2 hs⟩;obtain ⟨j2,hj2⟩:∃j2,j0+1=j2:=⟨_,rfl⟩;rw [hj2] at Q2 p2 ⊢;simp;refine cF (ds:=[.sl (strs [[58]])]) aE (aG l [[58]] j2 p2.2 (by omega) hV.fin (by simp)) (by simp [strs]) (by simp) (fun u5 j5 x5=>?_) (fun n e hx=>by first|exact Q2.fail hx _|(simp;exact Q2.fail hx _)|(simp;exact fun s=>Q2.fail hx s));have Q5:=Q2.step x5;have p5:=aA.exp hV.fin _ _ j2 u5 j5 p2.2 x5;simp;refine jY [1] 3 [2] (.op 0 (.call [4,5,6,7] .none) (.call [0,4,5,6,7] .none)) (gK (a0e aX l j5)) (by kernel_rfl) (by kernel_rfl) ?_
   simp;refine ⟨?_,?_⟩
   all_goals
    refine sO yA (a0n hV.kw l j5 p5.2 (by omega)) (by simp) (by simp) (fun w j6 x6=>?_) (fun n e hx=>by first|exact Q5.fail hx _|(simp;exact Q5.fail hx _)|(simp;exact fun s=>Q5.fail hx s));have Q6:=Q5.step x6;have p6:=aA.sort hV.fin j5 w j6 p5.2 x6;refine dA.mk ?_
    simp;refine eL (by simp [kU];omega) ?_
    simp;exact Q6.ok _ j6 _ _ rfl (.inl rfl) (by simp [a0N,a2v hV])
  |false=>
   have Q1:=Q0.step (x:=cR l [118]) (hU hs);rw [if_neg (by decide)] at Q1;simp;refine bG (ds:=[.str [118]]) (d:= .d (.bool false)) aD (aV l j0 [118] p0.2 (by omega) hs) (by simp) (by simp) ?_
   simp;obtain ⟨j1,rfl⟩:∃j1,j1=j0:=⟨_,rfl⟩;have p1:=p0;refine cF cO (dI hV.kw l j1 p1.2 (by omega)) (by simp) (by simp) (fun s j2 x2=>?_) (fun n e hx=>by first|exact Q1.fail hx _|(simp;exact Q1.fail hx _)|(simp;exact fun s=>Q1.fail hx s));have Q2:=Q1.step x2;have p2:=aA.word hV.fin j1 s j2 p1.2 x2;simp;refine cF (ds:=[.sl (strs [[58]])]) aE (aG l [[58]] j2 p2.2 (by omega) hV.fin (by simp)) (by simp [strs]) (by simp) (fun u5 j5 x5=>?_) (fun n e hx=>by first|exact Q2.fail hx _|(simp;exact Q2.fail hx _)|(simp;exact fun s=>Q2.fail hx s));have Q5:=Q2.step x5;have p5:=aA.exp hV.fin _ _ j2 u5 j5 p2.2 x5;simp;refine jY [1] 3 [2] (.op 0 (.call [4,5,6,7] .none) (.call [0,4,5,6,7] .none)) (gK (a0e aX l j5)) (by kernel_rfl) (by kernel_rfl) ?_
   simp;refine ⟨?_,?_⟩
   all_goals
    refine sO yA (a0n hV.kw l j5 p5.2 (by omega)) (by simp) (by simp) (fun w j6 x6=>?_) (fun n e hx=>by first|exact Q5.fail hx _|(simp;exact Q5.fail hx _)|(simp;exact fun s=>Q5.fail hx s));have Q6:=Q5.step x6;have p6:=aA.sort hV.fin j5 w j6 p5.2 x6;refine dA.mk ?_
    simp;refine eL (by simp [kU];omega) ?_
    simp;exact Q6.ok _ j6 _ _ rfl (.inl rfl) (by simp [a0N,a2v hV])
theorem c1l (v:Bool):wY l K4 [.ptr 100001 0,.ptr 100002 0,.ptr 100003 0] (a0N v) d0Z:=by
 constructor
 all_goals intros
 all_goals first
  |rfl
  |simp [a0N,aN,aW,aR,aQ,bA,getKey,aT,bC,cL,rk,cW,bN, *]
theorem a5O (v:Bool)(out:List psV):aA l 1 (b1X l v out):=by
 refine aA.br (aA.ite (aA.skip hV.fin _) (aA.aO _)) fun b=>?_
 refine aA.br (aA.ite (aA.aO _) ((aA.word hV.fin).le (by omega))) fun nm=>?_
 exact (aA.exp hV.fin _ _).bl fun _=>((aA.sort hV.fin).le (by omega)).bl fun _=>aA.aO _
theorem b1Y (v:Bool)(a:List psV)(i:Nat)(b:List psV)(j:Nat)(h:b1X l v a i= .ok b j):b.length=a.length+1:=by
 simp only [b1X,eF] at h
 repeat' split at h
 all_goals first|cases h|skip
 all_goals simp
theorem a0p (v:Bool)(i:Nat)(hi:i<l.length):pF G 132 [.bool v] l i (tC aX l v i) (fun ws=> .d (.sl (ws.map kU))):=by
 have hl:=hV.len;refine kF.cV Tryz.func132 rfl Tryz.ntmps132 rfl (by simp) ?_
 intro Q Q0;unfold tC at Q0;simp;have hone:=eO hV [44] (b1X l v) (fun out i=>out.length≤i) 0 b0M (c1l hV v) (fun a=>(a5O hV v a).le (by omega)) (fun a i _ hi h=>b6d hV v a i hi h) (fun a i b j hi h hx=>?_) (fun a i h=>by omega) [] i (by omega) hi (by simp)
 ·refine gW.mk (vR dQ hone [(100000,100000),(100001,3),(100002,2),(100003,5)] (fun a j hx=>?_) ?_ ?_ ?_ rfl rfl (fun ws j2 hx2=>?_) (fun n e hx2=>Q0.bad n e _ hx2))
  ·simp [a0N,aN,aW,aR,aQ,bA,getKey]
  ·simp [a0N,aN,aW,aR,aQ,bA,getKey]
  ·simp [aT,bC,rk]
  ·simp [a0N,aT,bC,rk,cL,cW]
  ·simp [bB,a0N,aT,bC,rk,cL,cW,bN,gM,eX,eA];exact Q0.ok _ j2 _ _ hx2 (.inr rfl) (by simp)
 ·have h1:=a5O hV v a i b j hi hx;have h2:=b1Y hV v a i b j hx;omega
end
end
end Go.Proofs.YtjpodcmhcenjjaaGreatDoor
section
section
namespace Go.Proofs.YtjpodcmhcenjjaaGreatDoor
open Go Go.VM
variable {G:GT}
mutual
def a2J:Pr→Pr→Bool
 |⟨o,n,k,l⟩,⟨o',n',k',l'⟩=>decide (o=o')&&(decide (n=n')&&(decide (k=k')&&(decide (l.length=l'.length)&&rV l l')))
def rV:List Pr→List Pr→Bool
 |a::r,b::s=>a2J a b&&rV r s
 |[],_=>true
 |_::_,[]=>true
end
theorem b9L (a b:Pr):a2J a b=(decide (a.op=b.op)&&(decide (a.name=b.name)&&(decide (a.n=b.n)&&(decide (a.kids.length=b.kids.length)&&rV a.kids b.kids)))):=by cases a;cases b;rfl
mutual
theorem a4V:∀a b:Pr,a2J a b=true↔a=b
 |⟨o,n,k,l⟩,⟨o',n',k',l'⟩=>by
  have:=b1Z l l';simp only [a2J,d6W,decide_eq_true_eq,Pr.mk.injEq];constructor
  ·rintro ⟨h1,h2,h3,h4,h5⟩;exact ⟨h1,h2,h3,(this h4).1 h5⟩
  ·rintro ⟨h1,h2,h3,rfl⟩;exact ⟨h1,h2,h3,rfl,(this rfl).2 rfl⟩
theorem b1Z:∀l k:List Pr,l.length=k.length→(rV l k=true↔l=k)
 |[],[],_=>by simp [rV]
 |a::r,b::s,h=>by have h1:=a4V a b;have h2:=b1Z r s (by simpa using h);simp only [rV,d6W,h1,h2,List.cons.injEq]
 |[],_::_,h=>by simp at h
 |_::_,[],h=>by simp at h
end
theorem a9h {l k:List Pr}{i:Nat}(h:i<l.length)(h':i<k.length):rV (l.drop i) (k.drop i)=(a2J l[i] k[i]&&rV (l.drop (i+1)) (k.drop (i+1))):=by
 rw [d7j h,d7j h']
 rfl
theorem b2a (l k:List Pr):rV (l.drop l.length) k=true:=by simp [rV]
end Go.Proofs.YtjpodcmhcenjjaaGreatDoor
end
section
namespace Go.Proofs.YtjpodcmhcenjjaaGreatDoor
open Go Go.VM
variable {G:GT}
theorem a1K:VM.Enters Tryz.prog 19:=VM.Enters.mk Tryz.func19 rfl
theorem a9i:∀t u:Pr,dF t≤900000000→CS Tryz.prog G 19 [.agg (prD t),.agg (prD u)] (.d (.bool (a2J t u))) none:=by
 refine Pr.ind fun t ih=>?_
 obtain ⟨op,nm,n,l⟩:=t;intro u hN;obtain ⟨op',nm',n',l'⟩:=u;simp only at ih;have hn:=qH ⟨op,nm,n,l⟩;have hq:=b9L ⟨op,nm,n,l⟩ ⟨op',nm',n',l'⟩;simp only at hn hq;have hl:=jX l;refine CS.bI Tryz.func19 rfl Tryz.ntmps19 rfl ?_
 by_cases h1:op=op'
 ·by_cases h2:nm=nm'
  ·by_cases h4:n=n'
   ·by_cases h3:l.length=l'.length
    ·simp only [h1,h2,h3,h4,decide_true,Bool.true_and] at hq;simp [h1,h2,h3,h4];refine SW.kJ (ι:={ i:Nat // i≤l.length∧rV (l.drop i) (l'.drop i)=rV l l' }) (fun i=>[(37,.d (.int .i64 i.1))]) (fun i=>[(2,.cells [.d (.int .i64 op'),.d (.str nm'),.d (.int .i64 n'),.d (.sl (l.map qR))]),(3,.cells [.d (.int .i64 op'),.d (.str nm'),.d (.int .i64 n'),.d (.sl (l'.map qR))])]) (fun _=>[]) (fun i=>l.length-i.1) ⟨0,by simp⟩ (by simp) ?_
     rintro ⟨i,hi,hR⟩
     try simp only at hi hR
     by_cases hlt:i<l.length
     ·have hlt':i<l'.length:=by omega
      have hg:=vO hlt;have hg':=vO hlt';have hw:=bO (show i<9223372036854775807 by omega);have hb2:=rJ hlt;have hb3:=kC l (i+1);rw [a9h hlt hlt'] at hR;simp [hlt',hlt,hg,hg'];refine ⟨mA.mk (by kernel_rfl),?_⟩;refine aH.mk a1K (ih l[i] (List.getElem_mem hlt) l'[i] (by omega)) ?_
      cases hs:a2J l[i] l'[i]
      ·rw [hs,Bool.false_and] at hR;simp [hs,hq, ← hR]
      ·rw [hs,Bool.true_and] at hR;simp [hs];exact bQ.mk ⟨i+1,hlt,hR⟩ (by simp [hw]) (by simp;omega)
     ·have:i=l.length:=by omega
      subst this;rw [b2a] at hR;simp [hq, ← hR, ← h3]
    ·simp only [h1,h2,h3,h4,decide_true,decide_false,Bool.true_and,Bool.false_and] at hq;have h3': ¬((l.length:Int)=(l'.length:Int)):=by omega
     simp [h1,h2,h3,h3',h4,hq]
   ·simp only [h1,h2,h4,decide_true,decide_false,Bool.true_and,Bool.false_and] at hq;simp [h1,h2,h4,hq]
  ·simp only [h1,h2,decide_true,decide_false,Bool.true_and,Bool.false_and] at hq;simp [h1,h2,hq]
 ·simp only [h1,decide_false,Bool.false_and] at hq;simp [h1,hq]
def c1m (l l':List Pr):Bool:=decide (l.length=l'.length)&&rV l l'
end Go.Proofs.YtjpodcmhcenjjaaGreatDoor
end
end
